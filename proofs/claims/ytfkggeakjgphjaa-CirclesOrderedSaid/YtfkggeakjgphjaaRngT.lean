/- A range over a function whose iterator keeps a state of its own: what the body may turn is told as a set T of blocks that lay ahead of the loop; what the caller holds hangs on blocks ahead of the loop alone. -/
import Derived.RangeFuncNested
import Derived.RangeFuncBound
import Derived.RangeFuncCalls
import Derived.RangeFuncLeaves
import Derived.Deep.Draws
namespace Go.Proofs.RngT
set_option linter.unusedVariables false
set_option linter.unusedSimpArgs false
open Go.RowKit

/-- all blocks that are not in S stay as they are; what is beside the heap, too. -/
structure Fr (S : Nat → Prop) (w w' : World) : Prop where
  os : w'.os = w.os
  tape : w'.tape = w.tape
  output : w'.output = w.output
  size : w.heap.size ≤ w'.heap.size
  block : ∀ k, k < w.heap.size → ¬ S k → w'.heap[k]? = w.heap[k]?

theorem Fr.refl (S : Nat → Prop) (w : World) : Fr S w w := ⟨rfl, rfl, rfl, Nat.le_refl _, fun _ _ _ => rfl⟩
theorem Fr.trans {S S2 : Nat → Prop} {w w1 w2 : World} (h : Fr S w w1) (k : Fr S2 w1 w2) (hs : ∀ j, S2 j → S j ∨ w.heap.size ≤ j) : Fr S w w2 :=
  ⟨k.os.trans h.os, k.tape.trans h.tape, k.output.trans h.output, Nat.le_trans h.size k.size,
    fun j hj hn => (k.block j (Nat.lt_of_lt_of_le hj h.size) (fun h2 => (hs j h2).elim hn (fun h3 => by omega))).trans (h.block j hj hn)⟩
theorem Fr.join {S : Nat → Prop} {w w1 w2 : World} (h : Fr S w w1) (k : Fr S w1 w2) : Fr S w w2 := h.trans k (fun _ h => .inl h)
theorem Fr.mono {S S2 : Nat → Prop} {w w1 : World} (h : Fr S w w1) (hs : ∀ j, S j → S2 j) : Fr S2 w w1 := ⟨h.os, h.tape, h.output, h.size, fun j hj hn => h.block j hj (fun h2 => hn (hs j h2))⟩
theorem Fr.drewN {S : Nat → Prop} {w w1 : World} (h : Fr S w w1) (n : Nat) : Fr S w (w1.drewN n) := ⟨h.os, h.tape, h.output, h.size, h.block⟩
theorem Fr.drew {S : Nat → Prop} {w w1 : World} (h : Fr S w w1) : Fr S w w1.drew := ⟨h.os, h.tape, h.output, h.size, h.block⟩
theorem Fr.alloc {S : Nat → Prop} {w w1 : World} (h : Fr S w w1) (o : Obj) : Fr S w (w1.alloc o) :=
  h.trans (S2 := fun _ => False) ⟨rfl, rfl, rfl, by simp, fun j hj _ => Below.heap_alloc w1 o j hj⟩ (fun _ h => h.elim)
theorem Fr.set {S : Nat → Prop} {w w1 : World} (h : Fr S w w1) {p : Addr} (hp : S p.block ∨ w.heap.size ≤ p.block) (u : Value) : Fr S w (w1.setCell p u) :=
  h.trans (S2 := fun j => j = p.block) ⟨rfl, rfl, rfl, by simp [World.setCell], fun j _ hn => Below.heap_setCell w1 p u j hn⟩ (fun j e => by rw [e]; exact hp)
theorem Fr.grown {S : Nat → Prop} {w w1 w2 : World} {row : Option Nat} (h : Fr S w w1) (hg : w1.grownBy w2 row) (hr : ∀ k, row = some k → S k ∨ w.heap.size ≤ k) : Fr S w w2 :=
  h.trans (S2 := fun j => row = some j) ⟨hg.os, hg.tape, hg.output, hg.size, fun j hj hn => hg.block j hj (fun e => hn e.symm)⟩ hr
theorem Fr.of_below {S : Nat → Prop} {w w1 : World} (h : Below w.heap.size w w1) : Fr S w w1 := ⟨h.os, h.tape, h.output, h.size, fun j hj _ => h.block j hj⟩
theorem Fr.put {S : Nat → Prop} {w w1 : World} (h : Fr S w w1) {l : Nat} (hl : S l ∨ w.heap.size ≤ l) (o : Obj) : Fr S w (w1.putObj l o) := h.grown (grownBy_putObj' w1 l o) (fun k e => by cases e; exact hl)
theorem below_of_fr {b : Nat} {S : Nat → Prop} {w w1 : World} (k : Fr S w w1) (hS : ∀ j, S j → b ≤ j) (hb : b ≤ w.heap.size) : Below b w w1 :=
  ⟨k.os, k.tape, k.output, k.size, fun j hj => k.block j (by omega) (fun hs => by have := hS j hs; omega)⟩
theorem below_fr {b : Nat} {S : Nat → Prop} {w w1 w2 : World} (h : Below b w w1) (k : Fr S w1 w2) (hS : ∀ j, S j → b ≤ j) (hb : b ≤ w1.heap.size) : Below b w w2 := h.trans (below_of_fr k hS hb)

/-- what holds hangs on blocks below B alone. -/
def Abd {β : Type} (B : Nat) (J : β → World → Prop) : Prop := ∀ s A C, J s A → Below B A C → J s C
theorem below_put {B : Nat} {W : World} {l : Nat} (o : Obj) (hl : B ≤ l) : Below B W (W.putObj l o) :=
  ⟨rfl, rfl, rfl, by simp, fun j hj => World.putObj_heap_other (by omega)⟩

/-- THE ITERATOR's CONTRACT. T: what a round may turn (beside the loop's own record); G pre x: x comes behind pre. -/
def SeqT {α : Type} (F : Fence) (n : Nat) (P : Program) (g : Nat) (lb : Array Value) (encs : α → Array Value) (T : Nat → Prop) (S Sp : List α → Prop) (G : List α → α → Prop) (w : World) : Prop :=
  ∀ (l : Nat) (J Jx : List α → World → Prop) (W : World), w.heap.size ≤ l → l < W.heap.size → Below w.heap.size w W → Abd W.heap.size J → Abd W.heap.size Jx →
    (∀ pre x W1, J pre W1 → G pre x → YieldAt F (n - 1) P l (encs x) W1 fun e W' =>
      (e = .returned (.bool true) ∧ J (pre ++ [x]) W' ∧ Fr (fun j => T j ∨ j = l) W1 W') ∨ (e = .returned (.bool false) ∧ Jx (pre ++ [x]) W')) →
    J [] W →
    CallsIn F n P g (#[.func (.yield l) #[] #[]] ++ lb) W fun e W' => (∃ v, e = .returned v) ∧ ((∃ xs, S xs ∧ J xs W') ∨ (∃ pre, Sp pre ∧ Jx pre W'))

/-- HOW THE BODY OF A ROUND MAY BE LEFT. -/
def ownPostT {α : Type} (T : Nat → Prop) (I : List α → World → Prop) (Ix : Code → List α → World → Prop) (xs : List α) (W : World) : Exit → Act → World → Prop
  | .normal, _, W' => Fr T W W' ∧ I xs W'
  | .ret, _, W' => Fr T W W' ∧ Ix .ret xs W'
  | .exit id, _, W' => Fr T W W' ∧ Ix (.exit id) xs W'
  | .goto t, _, W' => Fr T W W' ∧ Ix (.goto t) xs W'
  | .panic _, _, _ => False
  | .outgrown, _, _ => False

variable {F : Fence} {n : Nat} {P : Program}

theorem wpIn_rangeFunc_T {α : Type} {g : Operand} {ps : Array Tmp} {assign body : Code} {Q : Exit → Act → World → Prop} {a : Act} {w : World}
    (hro : F.round = none) (h1 : 1 ≤ n) {gf : Nat} {lb : Array Value} (hg : a.eval g = .func (.func gf) #[] lb) (hFg : F.fn gf) (eg : ∀ args w, (callFunc gf args).run P w = .ok (.enter gf args) w)
    {encs : α → Array Value} {T : Nat → Prop} {S Sp : List α → Prop} {G : List α → α → Prop} {w0 : World} (hseq : SeqT F (n - 1) P gf lb encs T S Sp G w0)
    (hT : ∀ j, T j → j < w.heap.size) (hb0 : Below w0.heap.size w0 w) (hps : ∀ x, (encs x).size = ps.size)
    (I : List α → World → Prop) (Ix : Code → List α → World → Prop) (hI : Abd w.heap.size I) (hIx : ∀ c, Abd w.heap.size (Ix c)) (h0 : I [] w)
    (Ax : α → Act → World → Prop) (hAx : ∀ x a' W l o, w.heap.size ≤ l → (∃ r, W.heap[l]? = some (.loop r)) → Ax x a' W → Ax x a' (W.putObj l o))
    (hassign : ∀ (l : Nat) (pre : List α) (x : α) (W : World) (K : Act → World → Prop), I pre W → (∀ a' W', Fr T W W' → I pre W' → Ax x a' W' → K a' W') →
      assign.wpIn (F.inRound l) (n - 1 - 1) P (Exit.then K (fun _ _ _ => False)) { tmps := (ps.zip (encs x)).foldl (fun t (p, v) => t.setIfInBounds p v) a.tmps, defers := [] } W)
    (hbody : ∀ (l : Nat) (pre : List α) (x : α) (a' : Act) (W : World), w.heap.size ≤ l → I pre W → Ax x a' W → G pre x → body.wpIn (F.inRound l) (n - 1 - 1) P (ownPostT T I Ix (pre ++ [x]) W) a' W)
    (hdone : ∀ (D : Nat) (xs : List α) (W : World), w.heap.size ≤ D → S xs → I xs W → W.heap[D]? = some (.deferred (some [])) → Q .normal { a with defers := { target := .collected D, args := #[] } :: a.defers } W)
    (hstop : ∀ (D : Nat) (c : Code) (pre : List α) (W : World), w.heap.size ≤ D → Sp pre → Ix c pre W → W.heap[D]? = some (.deferred (some [])) → c.wpIn F n P Q { a with defers := { target := .collected D, args := #[] } :: a.defers } W) :
    (Code.rangeFunc g ps assign body).wpIn F n P Q a w := by
  refine wpIn_rangeFunc ?_
  intro fn hfn
  rw [hro]
  obtain ⟨rec, hrec⟩ : ∃ rec : LoopState → Option Code → Loop, rec = fun st pe => { state := st, pending := pe, fn, tmps := a.tmps, params := ps, assign, body, defers := w.heap.size } := ⟨_, rfl⟩
  obtain ⟨W1, hW1⟩ : ∃ W1, (w.alloc (.deferred (some []))).alloc (.loop (rec .ready none)) = W1 := ⟨_, rfl⟩
  have hL1 : W1.heap[w.heap.size + 1]? = some (.loop (rec .ready none)) := by
    rw [← hW1]; have := World.alloc_heap_new (w.alloc (.deferred (some []))) (.loop (rec .ready none)); rwa [World.size_alloc] at this
  have hK1 : W1.heap[w.heap.size]? = some (.deferred (some [])) := by
    rw [← hW1]; exact (Below.heap_alloc _ _ _ (by simp)).trans (World.alloc_heap_new w _)
  have hz1 : W1.heap.size = w.heap.size + 1 + 1 := by rw [← hW1]; simp
  have hbw : Below w.heap.size w W1 := by
    rw [← hW1]; exact ((Below.refl _ w).alloc (Nat.le_refl _) _).alloc (by simp) _
  have hI1 : I [] W1 := hI _ _ _ h0 hbw
  have hb1 : Below w0.heap.size w0 W1 := hb0.trans (hbw.mono hb0.size)
  refine ⟨w.heap.size + 1, [{ target := .collected w.heap.size, args := #[] }], W1, { target := .fn (.func gf) lb, args := #[.func (.yield (w.heap.size + 1)) #[] #[]] }, W1, gf,
    #[.func (.yield (w.heap.size + 1)) #[] #[]] ++ lb, W1, ?_, ?_, ?_, ?_, fun _ => h1, ?_⟩
  · rw [← hW1, hrec]; exact run_enterLoop_outer _ _ _ _ _
  · simp only [resolve, hg]
    simp [go_sem]
  · intro f' hf'; simp [Target.leads] at hf'; subst hf'; exact hFg
  · simp [invoke, go_sem, eg]
  · have hsz0 := hb0.size
    refine (hseq (w.heap.size + 1)
      (fun pre W => I pre W ∧ W.heap[w.heap.size + 1]? = some (.loop (rec .ready none)) ∧ W.heap[w.heap.size]? = some (.deferred (some [])))
      (fun pre W => ∃ c, Ix c pre W ∧ W.heap[w.heap.size + 1]? = some (.loop (rec .done (some c))) ∧ W.heap[w.heap.size]? = some (.deferred (some [])))
      W1 (by omega) (by omega) hb1
      (fun s A C hs hg' => ⟨hI s A C hs.1 (hg'.mono (by omega)), (hg'.block _ (by omega)).trans hs.2.1, (hg'.block _ (by omega)).trans hs.2.2⟩)
      (fun s A C hs hg' => by
        obtain ⟨c, hc, hl, hk⟩ := hs
        exact ⟨c, hIx c s A C hc (hg'.mono (by omega)), (hg'.block _ (by omega)).trans hl, (hg'.block _ (by omega)).trans hk⟩)
      ?_ ⟨hI1, hL1, hK1⟩).mono ?_
    · -- ONE ROUND
      rintro pre x W ⟨hi, hl, hk⟩ hlen
      have hlt : w.heap.size + 1 < W.heap.size := (Array.getElem?_eq_some_iff.1 hl).1
      have hy := run_yield (P := P) (args := encs x) hl (by rw [hrec]; exact hps x)
      rw [hrec] at hy
      refine ⟨fn, _, assign, body, hy, roundIn_of_wpIn hfn (hassign _ pre x W _ hi ?_)⟩
      clear hy
      intro a' Wa hfa hia hax
      have hnT : ∀ j, w.heap.size ≤ j → ¬ T j := fun j hj h => by have := hT j h; omega
      have hla : Wa.heap[w.heap.size + 1]? = some (.loop (rec .ready none)) := (hfa.block _ hlt (hnT _ (by omega))).trans hl
      have hka : Wa.heap[w.heap.size]? = some (.deferred (some [])) := (hfa.block _ (by omega) (hnT _ (by omega))).trans hk
      have hlta : w.heap.size + 1 < Wa.heap.size := (Array.getElem?_eq_some_iff.1 hla).1
      refine ⟨_, run_beginRound hla (by rw [hrec]), ?_⟩
      have hl2 : (Wa.putObj (w.heap.size + 1) (.loop { rec .ready none with state := .busy })).heap[w.heap.size + 1]? = some (.loop { rec .ready none with state := .busy }) := World.putObj_heap_same hlta
      have hk2 : (Wa.putObj (w.heap.size + 1) (.loop { rec .ready none with state := .busy })).heap[w.heap.size]? = some (.deferred (some [])) := (World.putObj_heap_other (by omega)).trans hka
      have hz2 : (Wa.putObj (w.heap.size + 1) (.loop { rec .ready none with state := .busy })).heap.size = Wa.heap.size := by simp
      have hf2 : Fr (fun j => T j ∨ j = w.heap.size + 1) W (Wa.putObj (w.heap.size + 1) (.loop { rec .ready none with state := .busy })) := (hfa.mono (fun _ => .inl)).put (.inl (.inr rfl)) _
      refine wpIn_mono (hbody _ pre x a' _ (by omega) (hI _ _ _ hia (below_put _ (by omega))) (hAx x a' _ _ _ (by omega) ⟨_, hla⟩ hax) hlen) ?_
      have fin : ∀ (jump : Option Code) (W3 : World), Fr T (Wa.putObj (w.heap.size + 1) (.loop { rec .ready none with state := .busy })) W3 →
          (Instr.endRound (w.heap.size + 1) jump).run P W3 = .ok (.bool jump.isNone) (W3.putObj (w.heap.size + 1) (.loop (rec (if jump.isNone then .ready else .done) jump))) ∧
          W3.heap[w.heap.size + 1]? = some (.loop { rec .ready none with state := .busy }) ∧
          (W3.putObj (w.heap.size + 1) (.loop (rec (if jump.isNone then .ready else .done) jump))).heap[w.heap.size + 1]? = some (.loop (rec (if jump.isNone then .ready else .done) jump)) ∧
          (W3.putObj (w.heap.size + 1) (.loop (rec (if jump.isNone then .ready else .done) jump))).heap[w.heap.size]? = some (.deferred (some [])) := fun jump W3 hk3 => by
        have hl3 := (hk3.block _ (by omega) (hnT _ (by omega))).trans hl2
        have := run_endRound (P := P) jump hl3
        rw [hrec] at this ⊢
        exact ⟨this, by rw [hrec] at hl3; exact hl3, World.putObj_heap_same (Array.getElem?_eq_some_iff.1 hl3).1, (World.putObj_heap_other (by omega)).trans ((hk3.block _ (by omega) (hnT _ (by omega))).trans hk2)⟩
      rintro e a3 W3 hp
      cases e with
      | normal =>
        obtain ⟨hk3, hi3⟩ := hp
        obtain ⟨hr, hl3, hl4, hk4⟩ := fin none W3 hk3
        exact ⟨_, _, hr, .inl ⟨rfl, ⟨hI _ _ _ hi3 (below_put _ (by omega)), hl4, hk4⟩, (hf2.join (hk3.mono (fun _ => .inl))).put (.inl (.inr rfl)) _⟩⟩
      | ret =>
        obtain ⟨hk3, hi3⟩ := hp
        obtain ⟨hr, hl3, hl4, hk4⟩ := fin (some .ret) W3 hk3
        exact ⟨_, _, hr, .inr ⟨rfl, .ret, hIx _ _ _ _ hi3 (below_put _ (by omega)), hl4, hk4⟩⟩
      | exit id =>
        obtain ⟨hk3, hi3⟩ := hp
        obtain ⟨hr, hl3, hl4, hk4⟩ := fin (some (.exit id)) W3 hk3
        exact ⟨_, _, hr, .inr ⟨rfl, .exit id, hIx _ _ _ _ hi3 (below_put _ (by omega)), hl4, hk4⟩⟩
      | goto t =>
        obtain ⟨hk3, hi3⟩ := hp
        obtain ⟨hr, hl3, hl4, hk4⟩ := fin (some (.goto t)) W3 hk3
        exact ⟨_, _, hr, .inr ⟨rfl, .goto t, hIx _ _ _ _ hi3 (below_put _ (by omega)), hl4, hk4⟩⟩
      | panic ch => exact hp.elim
      | outgrown => exact hp.elim
    · -- BEHIND THE ITERATOR
      rintro e W2 ⟨⟨v, rfl⟩, (⟨xs, hS, hi, hl, hk⟩ | ⟨pre, hSp, c, hi, hl, hk⟩)⟩
      · exact ⟨none, _, by have := run_endLoop (P := P) hl (by rw [hrec]; simp); rw [hrec] at this; exact this, hdone _ xs _ (Nat.le_refl _) hS (hI _ _ _ hi (below_put _ (by omega))) ((World.putObj_heap_other (by omega)).trans hk)⟩
      · exact ⟨some c, _, by have := run_endLoop (P := P) hl (by rw [hrec]; simp); rw [hrec] at this; exact this, hstop _ c pre _ (Nat.le_refl _) hSp (hIx c _ _ _ hi (below_put _ (by omega))) ((World.putObj_heap_other (by omega)).trans hk)⟩

/-- a frame on its way out that bears marks alone. -/
def marks (Ds : List Nat) : List Deferred := Ds.map fun D => { target := .collected D, args := #[] }
def shut (Ds : List Nat) (w : World) : World := Ds.foldl (fun w D => w.putObj D (.deferred none)) w
theorem shut_size (Ds : List Nat) : ∀ (w : World), (shut Ds w).heap.size = w.heap.size := by
  induction Ds with
  | nil => exact fun _ => rfl
  | cons D Ds ih => intro w; show (shut Ds (w.putObj D _)).heap.size = _; rw [ih]; simp
theorem shut_fr (Ds : List Nat) : ∀ (w : World), Fr (fun j => j ∈ Ds) w (shut Ds w) := by
  induction Ds with
  | nil => exact fun w => Fr.refl _ w
  | cons D Ds ih =>
    intro w
    exact ((Fr.refl _ w).put (.inl List.mem_cons_self) _).join ((ih _).mono (fun j h => List.mem_cons_of_mem _ h))
theorem leaves_marks {fn : Func} {tmps : Array Value} {R : Ending → World → Prop} : ∀ (Ds : List Nat) (w : World), Ds.Nodup → (∀ D ∈ Ds, w.heap[D]? = some (.deferred (some []))) →
    LeavesIn F n P fn tmps R [] .returning (shut Ds w) → LeavesInM F n P fn tmps R (marks Ds) .returning w := by
  intro Ds
  induction Ds with
  | nil => intro w _ _ h; exact h
  | cons D Ds ih =>
    intro w hn hk h
    have hn2 := List.nodup_cons.1 hn
    refine ⟨by simp, .inl ⟨_, _, rfl, run_takeDeferred (hk D List.mem_cons_self), ih _ hn2.2 (fun D' hD' => ?_) h⟩⟩
    exact (World.putObj_heap_other (fun e => hn2.1 (by rw [← e]; exact hD'))).trans (hk D' (List.mem_cons_of_mem _ hD'))
/-- blocks laid one behind the other. -/
def al (w : World) (os : List Obj) : World := os.foldl World.alloc w
theorem al_heap : ∀ (os : List Obj) (w : World), (al w os).heap = w.heap ++ os.toArray
  | [], w => by simp [al]
  | o :: os, w => by
    show (al (w.alloc o) os).heap = _
    rw [al_heap os]
    show (w.heap.push o) ++ os.toArray = _
    apply Array.ext'
    simp
theorem al_size (w : World) (os : List Obj) : (al w os).heap.size = w.heap.size + os.length := by rw [al_heap]; simp
theorem al_get (w : World) (os : List Obj) (i : Nat) (o : Obj) (h : os[i]? = some o) : (al w os).heap[w.heap.size + i]? = some o := by
  rw [al_heap, Array.getElem?_append_right (by omega)]
  simpa using h
theorem al_below (w : World) : ∀ (os : List Obj), Below w.heap.size w (al w os) := by
  suffices h : ∀ (os : List Obj) (w1 : World), Below w.heap.size w w1 → Below w.heap.size w (al w1 os) from fun os => h os w (Below.refl _ _)
  intro os
  induction os with
  | nil => exact fun _ h => h
  | cons o os ih => exact fun w1 h => ih _ (h.alloc h.size o)
end Go.Proofs.RngT
