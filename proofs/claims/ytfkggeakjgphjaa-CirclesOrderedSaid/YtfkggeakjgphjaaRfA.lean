/- exprs.Refs. Selected by wip/sel.py (ours) out of other texts. -/
import Derived.Test.YtfkggeakjgphjaaCkA
import Derived.Test.YtfkggeakjgphjaaBkU
import Derived.Test.YtfkggeakjgphjaaMapG
import Derived.Laws.EntriesVeiled
namespace Go.Proofs.Ytfkggeakjgphjaa.C
set_option linter.unusedVariables false
set_option linter.unusedSimpArgs false
set_option linter.unusedSectionVars false
open Go.RowKit Go.Proofs.YtfkggeakjgphjaaW.PrintWords Go.Proofs.YtfkggeakjgphjaaW.PrintLast Go.Proofs.YtfkggeakjgphjaaW.PrintMore
/-- what is read: whole numbers of 64 bits. -/
inductive WfE : S49 → Prop
  | mk (o n : Int) (s : ByteArray) (xs : List S49) : 0 ≤ o → o ≤ 255 → -9223372036854775808 ≤ n → n ≤ 9223372036854775807 → s.size ≤ 140737488351232 → xs.length ≤ 140737488351232 → (∀ y ∈ xs, WfE y) → WfE ⟨o, n, s, xs⟩
open Go.Proofs.Ytfkggeakjgphjaa.B (wp_append_two own_kept)
def e4 (x : S49) (v : Value) : List Value := [.int .u8 x.f0, .int .i64 x.f1, .string x.f2, v]
def eCells : List S49 → List Value → List Value
  | x :: xs, v :: vs => e4 x v ++ eCells xs vs
  | _, _ => []
def spareE : List Value := [.int .u8 0, .int .i64 0, .string ⟨#[115, 112, 97, 114, 101]⟩, .slice none 0 0]
/-- a list, with a spare place behind, and all lists within it: bs their blocks, each once. -/
inductive TwR (w : World) (base : Nat) : List S49 → Value → List Nat → Prop
  | mk (xs : List S49) (g c : Nat) (vs : List Value) (bss : List (List Nat)) : vs.length = xs.length → bss.length = xs.length →
      w.ownsRow base 49 4 (.slice (some ⟨g, 0, none⟩) (xs.length + 1) c) (xs.length + 1) (eCells xs vs ++ spareE) →
      (∀ (i : Nat) (x : S49) (v : Value) (bs : List Nat), xs[i]? = some x → vs[i]? = some v → bss[i]? = some bs → TwR w base x.f3 v bs) →
      (g :: bss.flatten).Nodup → TwR w base xs (.slice (some ⟨g, 0, none⟩) xs.length c) (g :: bss.flatten)
theorem mem_bss {bss : List (List Nat)} {k n : Nat} {xs : List S49} {vs : List Value} (hb : bss.length = n) (hx : xs.length = n) (hv : vs.length = n) (h : k ∈ bss.flatten) :
    ∃ (i : Nat) (x : S49) (v : Value) (bs : List Nat), xs[i]? = some x ∧ vs[i]? = some v ∧ bss[i]? = some bs ∧ k ∈ bs := by
  obtain ⟨bs, h1, h2⟩ := List.mem_flatten.1 h
  obtain ⟨i, hi, rfl⟩ := List.getElem_of_mem h1
  exact ⟨i, _, _, _, List.getElem?_eq_getElem (by omega), List.getElem?_eq_getElem (by omega), List.getElem?_eq_getElem hi, h2⟩
theorem TwR.blocks {w : World} {base : Nat} {xs : List S49} {v : Value} {bs : List Nat} (h : TwR w base xs v bs) : ∀ k ∈ bs, base ≤ k ∧ k < w.heap.size := by
  induction h with
  | mk xs g c vs bss hv hb ho he hn ih =>
    intro k hk
    rcases List.mem_cons.1 hk with rfl | hk
    · exact ⟨own_base ho k rfl, own_lt ho k rfl⟩
    · obtain ⟨i, x, v, bs, h1, h2, h3, h4⟩ := mem_bss hb rfl hv hk
      exact ih i x v bs h1 h2 h3 k h4
theorem TwR.kept {w w' : World} {base : Nat} {xs : List S49} {v : Value} {bs : List Nat} (h : TwR w base xs v bs) : (∀ k ∈ bs, w'.heap[k]? = w.heap[k]?) → TwR w' base xs v bs := by
  induction h with
  | mk xs g c vs bss hv hb ho he hn ih =>
    intro hk
    refine .mk xs g c vs bss hv hb (own_kept ho (fun k hq => ?_)) (fun i x v bs h1 h2 h3 => ih i x v bs h1 h2 h3 (fun k hk2 => hk k ?_)) hn
    · have : k = g := by simpa [Value.ownBlock] using hq.symm
      subst this
      exact hk k List.mem_cons_self
    · exact List.mem_cons_of_mem _ (List.mem_flatten.2 ⟨bs, List.mem_of_getElem? h3, hk2⟩)
theorem TwR.stay {w w' : World} {base : Nat} {xs : List S49} {v : Value} {bs : List Nat} (h : TwR w base xs v bs) (hb : Below w.heap.size w w') : TwR w' base xs v bs :=
  h.kept (fun k hk => hb.block k (h.blocks k hk).2)
/-- while such a list is made. -/
structure TwS (w : World) (base : Nat) (xs : List S49) (tv : Value) (vs : List Value) (bss : List (List Nat)) : Prop where
  lv : vs.length = xs.length
  lb : bss.length = xs.length
  row : w.ownsRow base 49 4 tv xs.length (eCells xs vs)
  each : ∀ (i : Nat) (x : S49) (v : Value) (bs : List Nat), xs[i]? = some x → vs[i]? = some v → bss[i]? = some bs → TwR w base x.f3 v bs
  nd : bss.flatten.Nodup
  ne : ∀ b ∈ bss.flatten, tv.ownBlock ≠ some b
theorem TwS.lt {w : World} {base : Nat} {xs : List S49} {tv : Value} {vs : List Value} {bss : List (List Nat)} (h : TwS w base xs tv vs bss) : ∀ b ∈ bss.flatten, base ≤ b ∧ b < w.heap.size := by
  intro b hb
  obtain ⟨i, x, v, bs, h1, h2, h3, h4⟩ := mem_bss h.lb rfl h.lv hb
  exact (h.each i x v bs h1 h2 h3).blocks b h4
abbrev Rf := ByteArray × Int
def inR (r : Rf) (l : List Rf) : Bool := l.any fun y => decide (y = r)
def addR (r : Rf) (l : List Rf) : List Rf := if inR r l = true then l else l ++ [r]
mutual
def go1 : S49 → Int → List Rf → List Rf
  | ⟨o, n, s, xs⟩, ago, l => goL xs (if o = 19 then wrap64 (ago + 1) else ago) (if o = 3 then addR (s, ago) l else l)
def goL : List S49 → Int → List Rf → List Rf
  | [], _, l => l
  | x :: r, ago, l => goL r ago (go1 x ago l)
end
theorem goL_append : ∀ (a b : List S49) (ago : Int) (l : List Rf), goL (a ++ b) ago l = goL b ago (goL a ago l)
  | [], b, ago, l => by simp [goL]
  | x :: a, b, ago, l => by simp only [List.cons_append, goL]; exact goL_append a b ago _
/-- how many parts there are. -/
inductive Nodes : S49 → Nat → Prop
  | mk (o n : Int) (s : ByteArray) (xs : List S49) (ns : List Nat) : ns.length = xs.length → (∀ (i : Nat) (y : S49) (m : Nat), xs[i]? = some y → ns[i]? = some m → Nodes y m) → Nodes ⟨o, n, s, xs⟩ (1 + ns.sum)
def encR (r : Rf) : Value := .agg #[.string r.1, .int .i64 r.2]
def okR (r : Rf) : Prop := r.1.size ≤ maxLen ∧ -9223372036854775808 ≤ r.2 ∧ r.2 ≤ 9223372036854775807
theorem encR_inj (a b : Rf) (h : encR a = encR b) : a = b := by
  unfold encR at h
  injection h with h
  have h1 := congrArg (fun l : Array Value => l[0]?) h
  have h2 := congrArg (fun l : Array Value => l[1]?) h
  simp at h1 h2
  exact Prod.ext h1 h2
theorem laidOutT : laidOutB Try.prog = true := by kernel_rfl
theorem keyed74 : Go.Maps.Keyed Try.prog 74 := Go.Maps.Keyed.of_law (Go.deep_law_laid (m := 2) laidOutT (by decide) (of_decide_eq_true (by kernel_rfl)) (by kernel_rfl) (by kernel_rfl))
theorem wf64 {n : Int} (h0 : -9223372036854775808 ≤ n) (h1 : n ≤ 9223372036854775807) : (Lit.int .i64 n).wf = true := by
  simp [Lit.wf, IntKind.min, IntKind.max, IntKind.bits, IntKind.signed]
  omega
theorem lits74 (m : Nat) (r : Rf) (h : okR r) : Try.prog.keyLits (m + 2) 74 (encR r).cells.toList = some [.string r.1.data.toList, .int .i64 r.2] := by
  have c74 : Try.prog.cellsOf 74 = 2 := by kernel_rfl
  have c9 : Try.prog.cellsOf 9 = 1 := by kernel_rfl
  have c3 : Try.prog.cellsOf 3 = 1 := by kernel_rfl
  have hw := wf64 h.2.1 h.2.2
  have h1 := h.1
  simp [Program.keyLits, Try.underlying74, Try.underlying9, Try.underlying3, encR, Value.cells, c74, c9, c3, hw, h1]
theorem key74 (r : Rf) (h : okR r) : ∃ l, keyOf Try.prog 74 (encR r) = some l := by
  have hf : (Try.prog.keyType 74 && (encR r).formed Try.prog 74) = true := by kernel_rfl
  obtain ⟨m, hm⟩ : ∃ m, Try.prog.types.size + 1 = m + 2 := ⟨Try.prog.types.size - 1, by have : 2 ≤ Try.prog.types.size := of_decide_eq_true (by kernel_rfl); omega⟩
  refine ⟨.string (keyBytes [.string r.1.data.toList, .int .i64 r.2]), ?_⟩
  unfold keyOf
  rw [Try.underlying74]
  simp only []
  rw [if_pos hf, hm, lits74 m r h]
  rfl
def rfCells (l : List Rf) : List Value := l.flatMap fun r => [.string r.1, .int .i64 r.2]
/-- while it runs: l is what was found so far; k1 its variable, k2 the map, k3 the map's variable, k4 the function's own. -/
structure RfS (w0 W : World) (k1 k2 k3 k4 : Nat) (l : List Rf) : Prop where
  self : W.heap[k4]? = some (.cells #[.func (.func 51) #[] #[.pointer (some ⟨k3, 0, none⟩), .pointer (some ⟨k1, 0, none⟩), .pointer (some ⟨k4, 0, none⟩)]] 98 (0, 0))
  mp : W.heap[k3]? = some (.cells #[.map (some k2)] 97 (0, 0))
  mapE : MapG.MapE encR okR W k2 (fun r => if inR r l = true then some (.bool true) else none)
  row : ∃ v, W.heap[k1]? = some (.cells #[v] 71 (0, 0)) ∧ W.ownsRow w0.heap.size 74 2 v l.length (rfCells l) ∧ ∀ q, v.ownBlock = some q → q ≠ k1 ∧ q ≠ k2 ∧ q ≠ k3 ∧ q ≠ k4
  bel : Below w0.heap.size w0 W
  ge : w0.heap.size ≤ k1 ∧ w0.heap.size ≤ k2 ∧ w0.heap.size ≤ k3 ∧ w0.heap.size ≤ k4
  ne : k1 ≠ k2 ∧ k1 ≠ k3 ∧ k1 ≠ k4 ∧ k2 ≠ k3 ∧ k2 ≠ k4 ∧ k3 ≠ k4
theorem RfS.stay {w0 W W' : World} {k1 k2 k3 k4 : Nat} {l : List Rf} (h : RfS w0 W k1 k2 k3 k4 l) (hb : Below W.heap.size W W') : RfS w0 W' k1 k2 k3 k4 l := by
  obtain ⟨v, r1, r2, r3⟩ := h.row
  have l4 := (Array.getElem?_eq_some_iff.1 h.self).1
  have l3 := (Array.getElem?_eq_some_iff.1 h.mp).1
  have l1 := (Array.getElem?_eq_some_iff.1 r1).1
  exact ⟨(hb.block _ l4).trans h.self, (hb.block _ l3).trans h.mp, h.mapE.move (hb.block _ h.mapE.lt), ⟨v, (hb.block _ l1).trans r1, own_kept r2 (fun k hk => hb.block k (own_lt r2 k hk)), r3⟩, h.bel.trans (hb.mono h.bel.size), h.ge, h.ne⟩
/-- the inner function, of a tree of m parts. -/
def Go1Is (x : S49) : Prop := WfE x → ∀ (m : Nat), Nodes x m → ∀ (A : Option Addr) (c : Nat) (ago : Int) (l : List Rf) (k1 k2 k3 k4 : Nat) (w0 W : World), -9223372036854775808 ≤ ago → ago ≤ 9223372036854775807 → l.length + m ≤ 2000000 → x.f3.length ≤ c → Kd.C k49 w0 A x.f3.length x.f3 → RfS w0 W k1 k2 k3 k4 l →
  Calls Try.prog 51 #[.agg #[.int .u8 x.f0, .int .i64 x.f1, .string x.f2, .slice A x.f3.length c], .int .i64 ago, .pointer (some ⟨k3, 0, none⟩), .pointer (some ⟨k1, 0, none⟩), .pointer (some ⟨k4, 0, none⟩)] W fun e W' => e = .returned (.tuple #[]) ∧ RfS w0 W' k1 k2 k3 k4 (go1 x ago l) ∧ (go1 x ago l).length ≤ l.length + m ∧ W.heap.size ≤ W'.heap.size
theorem cell_one {w : World} {b : Nat} {v : Value} {t : TypeId} (h : w.heap[b]? = some (.cells #[v] t (0, 0))) : w.cell? ⟨b, 0, none⟩ = some v := by simp [World.cell?, h]
theorem Nodes.pos {x : S49} {m : Nat} (h : Nodes x m) : 1 ≤ m := by cases h; omega
theorem len_le_sum : ∀ (ns : List Nat), (∀ m ∈ ns, 1 ≤ m) → ns.length ≤ ns.sum
  | [], _ => by simp
  | m :: r, h => by
    have := len_le_sum r (fun k hk => h k (List.mem_cons_of_mem _ hk))
    have := h m (List.mem_cons_self)
    simp only [List.length_cons, List.sum_cons]
    omega
theorem WfE.kids {o n : Int} {s : ByteArray} {xs : List S49} (h : WfE ⟨o, n, s, xs⟩) : ∀ y ∈ xs, WfE y := by cases h; assumption
theorem WfE.text {o n : Int} {s : ByteArray} {xs : List S49} (h : WfE ⟨o, n, s, xs⟩) : s.size ≤ 140737488351232 := by cases h; assumption
theorem zero4 (w : World) : (zeroValue 4).run Try.prog w = .ok (.bool false) w := by kernel_rfl
theorem cell_two {w : World} {b : Nat} {v u : Value} {t : TypeId} (h : w.heap[b]? = some (.cells #[v, u] t (0, 0))) : w.cell? ⟨b, 0, none⟩ = some v ∧ w.cell? ⟨b, 1, none⟩ = some u := by simp [World.cell?, h]
theorem info74 : (Try.prog.info? 74).map (fun i => (i.zero, i.size, i.bytes)) = some (some (.agg #[(.string ⟨#[]⟩), (.int .i64 0)]), 2, 24) := by kernel_rfl
theorem rfCells_snoc (l : List Rf) (r : Rf) : rfCells (l ++ [r]) = rfCells l ++ [.string r.1, .int .i64 r.2] := by simp [rfCells]
theorem inR_snoc (l : List Rf) (r a : Rf) : inR a (l ++ [r]) = (inR a l || decide (r = a)) := by simp [inR]
theorem own_base {w : World} {base : Nat} {e : TypeId} {size n : Nat} {v : Value} {xs : List Value} (h : w.ownsRow base e size v n xs) (k : Nat) (hk : v.ownBlock = some k) : base ≤ k := by
  rcases h.2 with ⟨rfl, _⟩ | ⟨g, cap, cur, rfl, hb, hh, _⟩
  · simp [Value.ownBlock] at hk
  · have : g = k := by simpa [Value.ownBlock] using hk
    omega
/-- behind the map's update, the append and the store. -/
theorem RfS.put {w0 W w7 w8 : World} {k1 k2 k3 k4 : Nat} {l : List Rf} {r : Rf} {v v1 : Value} (h : RfS w0 W k1 k2 k3 k4 l)
    (hv : W.heap[k1]? = some (.cells #[v] 71 (0, 0))) (hr3 : ∀ q, v.ownBlock = some q → q ≠ k1 ∧ q ≠ k2 ∧ q ≠ k3 ∧ q ≠ k4) (h0 : ∀ q, v.ownBlock = some q → w0.heap.size ≤ q)
    (hm : MapG.MapE encR okR w7 k2 (fun k => if k = r then some (.bool true) else (if inR k l = true then some (.bool true) else none))) (hg7 : W.grownBy w7 (some k2))
    (ho : w8.ownsRow w0.heap.size 74 2 v1 (l.length + 1) (rfCells l ++ [.string r.1, .int .i64 r.2]))
    (hat : (v1.ownBlock = v.ownBlock ∧ w7.grownBy w8 v.ownBlock) ∨ (∃ q, v1.ownBlock = some q ∧ w7.heap.size ≤ q ∧ w7.grownBy w8 none)) :
    w8.cell? ⟨k1, 0, none⟩ = some v ∧ w8.frozen? ⟨k1, 0, none⟩ = false ∧ RfS w0 (w8.setCell ⟨k1, 0, none⟩ v1) k1 k2 k3 k4 (l ++ [r]) := by
  have hl1 := (Array.getElem?_eq_some_iff.1 hv).1
  have hl4 := (Array.getElem?_eq_some_iff.1 h.self).1
  have hl3 := (Array.getElem?_eq_some_iff.1 h.mp).1
  have e71 := (hg7.block k1 hl1 (fun e => h.ne.1 (Option.some.inj e))).trans hv
  have e73 := (hg7.block k3 hl3 (fun e => h.ne.2.2.2.1 (Option.some.inj e).symm)).trans h.mp
  have e74 := (hg7.block k4 hl4 (fun e => h.ne.2.2.2.2.1 (Option.some.inj e).symm)).trans h.self
  have hs7 := hg7.size
  have hk2 := hm.lt
  obtain ⟨row, g8, hq, hq0⟩ : ∃ row, w7.grownBy w8 row ∧ (∀ q, row = some q → q ≠ k1 ∧ q ≠ k2 ∧ q ≠ k3 ∧ q ≠ k4) ∧ (∀ q, row = some q → w0.heap.size ≤ q) := by
    rcases hat with ⟨_, hg⟩ | ⟨q, _, _, hg⟩
    · exact ⟨v.ownBlock, hg, hr3, h0⟩
    · exact ⟨none, hg, (fun q hq => by cases hq), (fun q hq => by cases hq)⟩
  have e81 := (g8.block k1 (by omega) (fun e => (hq k1 e.symm).1 rfl)).trans e71
  have e82 := g8.block k2 hk2 (fun e => (hq k2 e.symm).2.1 rfl)
  have e83 := (g8.block k3 (by omega) (fun e => (hq k3 e.symm).2.2.1 rfl)).trans e73
  have e84 := (g8.block k4 (by omega) (fun e => (hq k4 e.symm).2.2.2 rfl)).trans e74
  have hne : ∀ q, v1.ownBlock = some q → q ≠ k1 ∧ q ≠ k2 ∧ q ≠ k3 ∧ q ≠ k4 := by
    intro q h1
    rcases hat with ⟨h2, _⟩ | ⟨q', h2, h3, _⟩
    · exact hr3 q (by rw [← h2]; exact h1)
    · rw [h2] at h1; injection h1 with h1; omega
  have hset : ∀ k, k ≠ k1 → (w8.setCell ⟨k1, 0, none⟩ v1).heap[k]? = w8.heap[k]? := fun k hk => by
    simp only [World.setCell]
    rw [Array.getElem?_modify, if_neg (fun e => hk e.symm)]
  have hB7 : Below w0.heap.size w0 w7 := by
    refine ⟨hg7.os.trans h.bel.os, hg7.tape.trans h.bel.tape, hg7.output.trans h.bel.output, Nat.le_trans h.bel.size hg7.size, fun k hk => ?_⟩
    exact (hg7.block k (Nat.lt_of_lt_of_le hk h.bel.size) (fun e => by have := Option.some.inj e; have := h.ge.2.1; omega)).trans (h.bel.block k hk)
  have hB8 : Below w0.heap.size w0 w8 := by
    refine ⟨g8.os.trans hB7.os, g8.tape.trans hB7.tape, g8.output.trans hB7.output, Nat.le_trans hB7.size g8.size, fun k hk => ?_⟩
    refine (g8.block k (Nat.lt_of_lt_of_le hk hB7.size) (fun e => ?_)).trans (hB7.block k hk)
    have := hq0 k e.symm
    omega
  refine ⟨cell_one e81, by simp [World.frozen?, e81], ?_⟩
  refine ⟨(hset k4 h.ne.2.2.1.symm).trans e84, (hset k3 h.ne.2.1.symm).trans e83, ?_, ⟨v1, ?_, ?_, hne⟩, hB8.setCell (p := ⟨k1, 0, none⟩) h.ge.1 _, h.ge, h.ne⟩
  · have := hm.move ((hset k2 h.ne.1.symm).trans e82)
    have hf : (fun k => if k = r then some (Value.bool true) else (if inR k l = true then some (Value.bool true) else none)) = fun k => if inR k (l ++ [r]) = true then some (Value.bool true) else none := by
      funext k
      rw [inR_snoc]
      by_cases hk : k = r
      · subst hk; simp
      · rw [if_neg hk]
        have : decide (r = k) = false := decide_eq_false (fun e => hk e.symm)
        rw [this, Bool.or_false]
    rw [hf] at this
    exact this
  · simp [World.setCell, Array.getElem?_modify, e81]
  · rw [rfCells_snoc, List.length_append]
    exact own_kept ho (fun k hk => hset k (hne k hk).1)
theorem sum_take {ns : List Nat} {i : Nat} (h : i < ns.length) : (ns.take (i + 1)).sum = (ns.take i).sum + ns[i] := by
  rw [List.take_succ_eq_append_getElem h, List.sum_append]; simp
theorem sum_take_le (ns : List Nat) (i : Nat) : (ns.take i).sum ≤ ns.sum := by
  have := congrArg List.sum (List.take_append_drop i ns)
  rw [List.sum_append] at this
  omega
theorem goL_take {xs : List S49} {i : Nat} (h : i < xs.length) (ago : Int) (l : List Rf) : goL (xs.take (i + 1)) ago l = go1 xs[i] ago (goL (xs.take i) ago l) := by
  rw [List.take_succ_eq_append_getElem h, goL_append]
  simp [goL]
/-- a block that is none of these is kept. -/
theorem far_kept {W w7 w8 : World} {k1 k2 b : Nat} {v v1 u : Value} (hg7 : W.grownBy w7 (some k2)) (hat : (v1.ownBlock = v.ownBlock ∧ w7.grownBy w8 v.ownBlock) ∨ (∃ q, v1.ownBlock = some q ∧ w7.heap.size ≤ q ∧ w7.grownBy w8 none))
    (hb : b < W.heap.size) (h1 : b ≠ k1) (h2 : b ≠ k2) (h3 : ∀ q, v.ownBlock = some q → q ≠ b) : (w8.setCell ⟨k1, 0, none⟩ u).heap[b]? = W.heap[b]? := by
  have e7 := hg7.block b hb (fun e => h2 (Option.some.inj e))
  have hs := hg7.size
  have e8 : w8.heap[b]? = w7.heap[b]? := by
    rcases hat with ⟨_, hg⟩ | ⟨q, _, _, hg⟩
    · exact hg.block b (by omega) (fun e => h3 b e.symm rfl)
    · exact hg.block b (by omega) (fun e => by cases e)
  simp only [World.setCell]
  rw [Array.getElem?_modify, if_neg (fun e => h1 e.symm), e8, e7]
set_option maxHeartbeats 8000000 in
set_option maxRecDepth 100000 in
theorem go1_walk (x : S49) (hx : ∀ y ∈ x.f3, Go1Is y) : Go1Is x := by
  intro hwf m hm A c ago l k1 k2 k3 k4 w0 W ha0 ha1 hlm hc hC hS
  obtain ⟨o, n, s, xs⟩ := x
  dsimp only at hx hc hC ⊢
  have hkid := hwf.kids
  have hsz := hwf.text
  obtain ⟨ns, hns, hnl, rfl⟩ : ∃ ns : List Nat, (∀ (i : Nat) (y : S49) (m : Nat), xs[i]? = some y → ns[i]? = some m → Nodes y m) ∧ ns.length = xs.length ∧ m = 1 + ns.sum := by
    cases hm with
    | mk o n s xs ns h1 h2 => exact ⟨ns, h2, h1, rfl⟩
  have hlen : xs.length ≤ 2000000 := by
    have := len_le_sum ns (fun m hm => by
      obtain ⟨j, hj, rfl⟩ := List.getElem_of_mem hm
      exact (hns j xs[j] ns[j] (List.getElem?_eq_getElem (by omega)) (List.getElem?_eq_getElem hj)).pos)
    omega
  obtain ⟨N, hN⟩ : ∃ N, N = xs.length := ⟨_, rfl⟩
  have HKID := Lib.hid hkid; have HC := Lib.hid hC; have HX := Lib.hid hx; have HNS := Lib.hid hns; have HNL := Lib.hid hnl; have HN := Lib.hid hN
  have hb2 : Below W.heap.size W ((W.alloc (.cells #[.int .u8 o, .int .i64 n, .string s, .slice A xs.length c] 49)).alloc (.cells #[.string s, .int .i64 ago] 74)) := ((Below.refl _ _).alloc (Nat.le_refl _) _).alloc (by simp) _
  have HS := Lib.hid (hS.stay hb2)
  have HSZ := Lib.hid hb2.size
  have hk2 := hS.mapE.lt
  have hk1 : k1 < W.heap.size := by obtain ⟨v, r1, _, _⟩ := hS.row; exact (Array.getElem?_eq_some_iff.1 r1).1
  have hrow : ∀ v, ((W.alloc (.cells #[.int .u8 o, .int .i64 n, .string s, .slice A xs.length c] 49)).alloc (.cells #[.string s, .int .i64 ago] 74)).heap[k1]? = some (.cells #[v] 71 (0, 0)) → ∀ q, v.ownBlock = some q → q < W.heap.size := by
    intro v hv q hq
    obtain ⟨v0, s1, s2, s3⟩ := hS.row
    have h1 := (hb2.block k1 hk1).trans s1
    rw [hv] at h1
    injection h1 with h1
    injection h1 with h1 _ _
    have h2 : v = v0 := by simpa using h1
    subst h2
    exact own_lt s2 q hq
  have HROW := Lib.hid hrow
  rw [← hN] at hc HS HSZ hlen HROW ⊢
  clear hrow
  clear hC hx hm hS hb2 hns hnl hN hkid hwf
  by_cases h3 : o = 3
  · subst h3
    have HL1 : Hid (go1 ⟨3, n, s, xs⟩ ago l = goL xs ago (addR (s, ago) l)) := Lib.hid (by simp only [go1]; rfl)
    have hok : okR (s, ago) := ⟨by unfold maxLen; show s.size ≤ _; omega, ha0, ha1⟩
    have hlk := MapG.run_lookup Try.underlying97 keyed74 (zero4 _) encR_inj key74 HS.out.mapE (s, ago) hok false
    have hc3 := cell_one HS.out.mp
    cases hin : inR (s, ago) l with
    | true =>
      rw [hin] at hlk
      replace hlk : (Instr.lookup 97 (.map (some k2)) (.agg #[.string s, .int .i64 ago]) false).run Try.prog _ = .ok (.bool true) _ := hlk
      have HIN := Lib.hid hin
      have HG : Hid (go1 ⟨3, n, s, xs⟩ ago l = goL xs ago l) := Lib.hid (by rw [HL1.out]; unfold addR; rw [if_pos hin])
      clear hin
      go_enter Try.func51, Try.ntmps51
      go_wp2_with fail
      clear hlk hc3
      go_loopw [37] (fun v37 wr => ∃ (i : Nat), v37 = .int .i64 i ∧ i ≤ N ∧ Hid (RfS w0 wr k1 k2 k3 k4 (goL (xs.take i) ago l)) ∧ Hid ((goL (xs.take i) ago l).length ≤ l.length + (ns.take i).sum) ∧ Hid (W.heap.size ≤ wr.heap.size)) (fun v37 _ => N - (intOf v37).toNat)
      case atStart => exact ⟨0, rfl, Nat.zero_le _, HS, Lib.hid (by simp [goL]), HSZ⟩
      case round =>
        clear HS HSZ
        obtain ⟨i, rfl, hi, HS, HLN, HSZ⟩ := hrel
        by_cases hlt : i < N
        · have hix : i < xs.length := by rw [← HN.out]; exact hlt
          obtain ⟨ad, A3, c3, hA, p0, p1, p2, p3, hl3, hC3⟩ := at_T49 HC.out (i : Int) (by omega) (by have := HN.out; omega)
          subst hA
          rw [rdT49 xs i hix] at p0 p1 p2 p3 hl3 hC3
          simp only [Int.toNat_natCast] at p0 p1 p2 p3
          have q0 := keep_cell HS.out.bel (Nat.le_refl _) p0
          have q1 := keep_cell HS.out.bel (Nat.le_refl _) p1
          have q2 := keep_cell HS.out.bel (Nat.le_refl _) p2
          have q3 := keep_cell HS.out.bel (Nat.le_refl _) p3
          have hix2 : i < ns.length := by rw [HNL.out]; exact hix
          have hnod : Nodes xs[i] ns[i] := HNS.out i _ _ (List.getElem?_eq_getElem hix) (List.getElem?_eq_getElem hix2)
          have hst := sum_take hix2
          have hsl := sum_take_le ns (i + 1)
          have htk := goL_take hix ago l
          have HY := Lib.hid (HX.out xs[i] (List.getElem_mem hix) (HKID.out _ (List.getElem_mem hix)) ns[i] hnod)
          have HTK := Lib.hid htk
          clear p0 p1 p2 p3 htk hnod
          generalize xs[i] = y at *
          generalize ns[i] = my at *
          obtain ⟨L, hL⟩ : ∃ L, L = goL (xs.take i) ago l := ⟨_, rfl⟩
          rw [← hL] at HS HLN HTK
          have hHLN := HLN.out
          have hb3 : Below wr.heap.size wr (wr.alloc (.cells #[.int .u8 y.f0, .int .i64 y.f1, .string y.f2, .slice A3 y.f3.length c3] 49)) := (Below.refl _ _).alloc (Nat.le_refl _) _
          have hs3 := HS.out.stay hb3
          have hc4 := cell_one hs3.self
          have HB3 := Lib.hid hb3; have HS3 := Lib.hid hs3
          have HY2 := Lib.hid (HY.out A3 c3 ago L k1 k2 k3 k4 w0 _ ha0 ha1 (by omega) hl3 hC3 hs3)
          clear hb3 hs3 HY hl3 hC3 HS hL HLN
          go_wp2_with fail
          refine HY2.out.mono ?_
          rintro e w2 ⟨rfl, hs2, hl2, hz2⟩
          have HS2 := Lib.hid hs2; have HZ2 := Lib.hid hz2
          clear hs2 hz2 HY2
          go_wp2_with fail
          exact ⟨⟨i + 1, by go_num, by omega, Lib.hid (by rw [HTK.out]; exact HS2.out), Lib.hid (by rw [HTK.out]; omega), Lib.hid (by have := HSZ.out; have := HZ2.out; have := HB3.out.size; omega)⟩, by simp [intOf]; omega⟩
        · obtain rfl : i = N := by omega
          have htk : xs.take i = xs := List.take_of_length_le (by have := HN.out; omega)
          have hsl := sum_take_le ns i
          rw [htk] at HS HLN
          have hHLN := HLN.out
          go_wp2_with fail
          go_end0
          exact ⟨rfl, by rw [HG.out]; exact HS.out, by rw [HG.out]; omega, HSZ.out⟩
    | false =>
      rw [hin] at hlk
      replace hlk : (Instr.lookup 97 (.map (some k2)) (.agg #[.string s, .int .i64 ago]) false).run Try.prog _ = .ok (.bool false) _ := hlk
      have HIN := Lib.hid hin
      have HG : Hid (go1 ⟨3, n, s, xs⟩ ago l = goL xs ago (l ++ [(s, ago)])) := Lib.hid (by rw [HL1.out]; unfold addR; rw [if_neg (by rw [hin]; simp)])
      obtain ⟨v, r1, r2, r3⟩ := HS.out.row
      obtain ⟨Av, cv, rfl⟩ := own_slice r2
      have HR1 := Lib.hid r1; have HR2 := Lib.hid r2; have HR3 := Lib.hid r3
      have hbx := heap_alloc_new (W.alloc (.cells #[.int .u8 3, .int .i64 n, .string s, .slice A N c] 49)) (.cells #[.string s, .int .i64 ago] 74)
      have HBX := Lib.hid hbx
      have HB4 : Hid (((W.alloc (.cells #[.int .u8 3, .int .i64 n, .string s, .slice A N c] 49)).alloc (.cells #[.string s, .int .i64 ago] 74)).heap[W.heap.size]? = some (.cells #[.int .u8 3, .int .i64 n, .string s, .slice A N c] 49 (0, 0))) := Lib.hid (((Below.refl _ (W.alloc (.cells #[.int .u8 3, .int .i64 n, .string s, .slice A N c] 49))).alloc (Nat.le_refl _) _).block _ (by simp) |>.trans (heap_alloc_new W _))
      have fx : ∀ w7, ((W.alloc (.cells #[.int .u8 3, .int .i64 n, .string s, .slice A N c] 49)).alloc (.cells #[.string s, .int .i64 ago] 74)).grownBy w7 (some k2) → w7.cell? ⟨k1, 0, none⟩ = some (.slice Av l.length cv) ∧ w7.cell? ⟨W.heap.size + 1, 0, none⟩ = some (.string s) ∧ w7.cell? ⟨W.heap.size + 1, 1, none⟩ = some (.int .i64 ago) ∧ w7.ownsRow w0.heap.size 74 2 (.slice Av l.length cv) l.length (rfCells l) ∧ w0.heap.size ≤ w7.heap.size := by
        intro w7 hg7
        have h71 := (hg7.block k1 (Array.getElem?_eq_some_iff.1 r1).1 (fun e => HS.out.ne.1 (Option.some.inj e))).trans r1
        have hbx2 := hbx
        rw [show (W.alloc (.cells #[.int .u8 3, .int .i64 n, .string s, .slice A N c] 49)).heap.size = W.heap.size + 1 by simp] at hbx2
        have h72 := (hg7.block (W.heap.size + 1) (by simp) (fun e => by have := Option.some.inj e; omega)).trans hbx2
        obtain ⟨d2, d3⟩ := cell_two h72
        exact ⟨cell_one h71, d2, d3, own_kept r2 (fun q hq => hg7.block q (own_lt r2 q hq) (fun e => (r3 q hq).2.1 (Option.some.inj e))), Nat.le_trans HS.out.bel.size hg7.size⟩
      have fy : ∀ (w7 w8 : World) (v1 u : Value), ((W.alloc (.cells #[.int .u8 3, .int .i64 n, .string s, .slice A N c] 49)).alloc (.cells #[.string s, .int .i64 ago] 74)).grownBy w7 (some k2) → ((v1.ownBlock = (Value.slice Av l.length cv).ownBlock ∧ w7.grownBy w8 (Value.slice Av l.length cv).ownBlock) ∨ (∃ q, v1.ownBlock = some q ∧ w7.heap.size ≤ q ∧ w7.grownBy w8 none)) →
          (w8.setCell ⟨k1, 0, none⟩ u).cell? ⟨W.heap.size, 0, none⟩ = some (.int .u8 3) ∧ (w8.setCell ⟨k1, 0, none⟩ u).cell? ⟨W.heap.size, 1, none⟩ = some (.int .i64 n) ∧ (w8.setCell ⟨k1, 0, none⟩ u).cell? ⟨W.heap.size, 2, none⟩ = some (.string s) ∧ (w8.setCell ⟨k1, 0, none⟩ u).cell? ⟨W.heap.size, 3, none⟩ = some (.slice A N c) := by
        intro w7 w8 v1 u hg7 hat
        exact box_cells ((far_kept hg7 hat (by simp; omega) (by omega) (by omega) (fun q hq => by have := HROW.out _ r1 q hq; omega)).trans HB4.out)
      have FY := Lib.hid fy
      have FX := Lib.hid fx
      clear hin r1 r2 r3 hbx fx fy
      go_enter Try.func51, Try.ntmps51
      go_wp2_with (first | (at_mapUpdate; refine MapG.wpList_upd rfl _ _ _ rfl Try.underlying97 keyed74 encR_inj key74 HS.out.mapE (s, ago) hok (.bool true) rfl rfl rfl ?_; intro w7 hm7 hg7; obtain ⟨d1, d2, d3, d4, d5⟩ := FX.out w7 hg7; have HO7 := Lib.hid d4; clear d4; have HM7 := Lib.hid hm7; have HG7 := Lib.hid hg7; clear hm7 hg7) | (at_builtin; refine wp_append_two (W := w7) w0.heap.size rfl _ _ 71 74 (.agg #[(.string ⟨#[]⟩), (.int .i64 0)]) 2 24 rfl Try.underlying71 info74 rfl (by decide) (by decide) (.slice Av l.length cv) l.length (rfCells l) [.string s, .int .i64 ago] rfl rfl rfl (by simp [Value.oneCell']) HO7.out (by omega) (by omega) ?_; intro v1 w8 hown8 hat8; obtain ⟨A8, c8, hv8⟩ := own_slice hown8; subst hv8; obtain ⟨f1, f2, f3⟩ := HS.out.put (r := (s, ago)) HR1.out HR3.out (own_base HR2.out) HM7.out HG7.out hown8 hat8; obtain ⟨e0, e1, e2, e3⟩ := FY.out w7 w8 _ (.slice A8 (l.length + 1) c8) HG7.out hat8; have HF3 := Lib.hid f3; clear f3 hown8 hat8))
      have HSZ3 : Hid (W.heap.size ≤ (w8.setCell ⟨k1, 0, none⟩ (.slice A8 (l.length + 1) c8)).heap.size) := Lib.hid (Nat.le_of_lt (cell_lt e0))
      clear hlk hc3
      go_loopw [37] (fun v37 wr => ∃ (i : Nat), v37 = .int .i64 i ∧ i ≤ N ∧ Hid (RfS w0 wr k1 k2 k3 k4 (goL (xs.take i) ago (l ++ [(s, ago)]))) ∧ Hid ((goL (xs.take i) ago (l ++ [(s, ago)])).length ≤ l.length + 1 + (ns.take i).sum) ∧ Hid (W.heap.size ≤ wr.heap.size)) (fun v37 _ => N - (intOf v37).toNat)
      case atStart => exact ⟨0, rfl, Nat.zero_le _, HF3, Lib.hid (by simp [goL]), HSZ3⟩
      case round =>
        clear HS HSZ
        obtain ⟨i, rfl, hi, HS, HLN, HSZ⟩ := hrel
        by_cases hlt : i < N
        · have hix : i < xs.length := by rw [← HN.out]; exact hlt
          obtain ⟨ad, A3, c3, hA, p0, p1, p2, p3, hl3, hC3⟩ := at_T49 HC.out (i : Int) (by omega) (by have := HN.out; omega)
          subst hA
          rw [rdT49 xs i hix] at p0 p1 p2 p3 hl3 hC3
          simp only [Int.toNat_natCast] at p0 p1 p2 p3
          have q0 := keep_cell HS.out.bel (Nat.le_refl _) p0
          have q1 := keep_cell HS.out.bel (Nat.le_refl _) p1
          have q2 := keep_cell HS.out.bel (Nat.le_refl _) p2
          have q3 := keep_cell HS.out.bel (Nat.le_refl _) p3
          have hix2 : i < ns.length := by rw [HNL.out]; exact hix
          have hnod : Nodes xs[i] ns[i] := HNS.out i _ _ (List.getElem?_eq_getElem hix) (List.getElem?_eq_getElem hix2)
          have hst := sum_take hix2
          have hsl := sum_take_le ns (i + 1)
          have htk := goL_take hix ago (l ++ [(s, ago)])
          have HY := Lib.hid (HX.out xs[i] (List.getElem_mem hix) (HKID.out _ (List.getElem_mem hix)) ns[i] hnod)
          have HTK := Lib.hid htk
          clear p0 p1 p2 p3 htk hnod
          generalize xs[i] = y at *
          generalize ns[i] = my at *
          obtain ⟨L, hL⟩ : ∃ L, L = goL (xs.take i) ago (l ++ [(s, ago)]) := ⟨_, rfl⟩
          rw [← hL] at HS HLN HTK
          have hHLN := HLN.out
          have hb3 : Below wr.heap.size wr (wr.alloc (.cells #[.int .u8 y.f0, .int .i64 y.f1, .string y.f2, .slice A3 y.f3.length c3] 49)) := (Below.refl _ _).alloc (Nat.le_refl _) _
          have hs3 := HS.out.stay hb3
          have hc4 := cell_one hs3.self
          have HB3 := Lib.hid hb3; have HS3 := Lib.hid hs3
          have HY2 := Lib.hid (HY.out A3 c3 ago L k1 k2 k3 k4 w0 _ ha0 ha1 (by omega) hl3 hC3 hs3)
          clear hb3 hs3 HY hl3 hC3 HS hL HLN
          go_wp2_with fail
          refine HY2.out.mono ?_
          rintro e w2 ⟨rfl, hs2, hl2, hz2⟩
          have HS2 := Lib.hid hs2; have HZ2 := Lib.hid hz2
          clear hs2 hz2 HY2
          go_wp2_with fail
          exact ⟨⟨i + 1, by go_num, by omega, Lib.hid (by rw [HTK.out]; exact HS2.out), Lib.hid (by rw [HTK.out]; omega), Lib.hid (by have := HSZ.out; have := HZ2.out; have := HB3.out.size; omega)⟩, by simp [intOf]; omega⟩
        · obtain rfl : i = N := by omega
          have htk : xs.take i = xs := List.take_of_length_le (by have := HN.out; omega)
          have hsl := sum_take_le ns i
          rw [htk] at HS HLN
          have hHLN := HLN.out
          go_wp2_with fail
          go_end0
          exact ⟨rfl, by rw [HG.out]; exact HS.out, by rw [HG.out]; omega, HSZ.out⟩
  · have g1 : (o == 3) = false := by simpa using h3
    have g2 : decide (o = 3) = false := decide_eq_false h3
    have HL1 : Hid ((if o = 3 then addR (s, ago) l else l) = l) := Lib.hid (if_neg h3)
    by_cases h19 : o = 19
    · subst h19
      have hw0 : -9223372036854775808 ≤ wrap64 (ago + 1) := by unfold wrap64; omega
      have hw1 : wrap64 (ago + 1) ≤ 9223372036854775807 := by unfold wrap64; omega
      have HG : Hid (go1 ⟨19, n, s, xs⟩ ago l = goL xs (wrap64 (ago + 1)) l) := Lib.hid (by simp only [go1]; rw [if_neg h3]; rfl)
      go_enter Try.func51, Try.ntmps51
      go_wp2_with fail
      go_loopw [37] (fun v37 wr => ∃ (i : Nat), v37 = .int .i64 i ∧ i ≤ N ∧ Hid (RfS w0 wr k1 k2 k3 k4 (goL (xs.take i) (wrap64 (ago + 1)) l)) ∧ Hid ((goL (xs.take i) (wrap64 (ago + 1)) l).length ≤ l.length + (ns.take i).sum) ∧ Hid (W.heap.size ≤ wr.heap.size)) (fun v37 _ => N - (intOf v37).toNat)
      case atStart => exact ⟨0, rfl, Nat.zero_le _, HS, Lib.hid (by simp [goL]), HSZ⟩
      case round =>
        clear HS HSZ
        obtain ⟨i, rfl, hi, HS, HLN, HSZ⟩ := hrel
        by_cases hlt : i < N
        · have hix : i < xs.length := by rw [← HN.out]; exact hlt
          obtain ⟨ad, A3, c3, hA, p0, p1, p2, p3, hl3, hC3⟩ := at_T49 HC.out (i : Int) (by omega) (by have := HN.out; omega)
          subst hA
          rw [rdT49 xs i hix] at p0 p1 p2 p3 hl3 hC3
          simp only [Int.toNat_natCast] at p0 p1 p2 p3
          have q0 := keep_cell HS.out.bel (Nat.le_refl _) p0
          have q1 := keep_cell HS.out.bel (Nat.le_refl _) p1
          have q2 := keep_cell HS.out.bel (Nat.le_refl _) p2
          have q3 := keep_cell HS.out.bel (Nat.le_refl _) p3
          have hix2 : i < ns.length := by rw [HNL.out]; exact hix
          have hnod : Nodes xs[i] ns[i] := HNS.out i _ _ (List.getElem?_eq_getElem hix) (List.getElem?_eq_getElem hix2)
          have hst := sum_take hix2
          have hsl := sum_take_le ns (i + 1)
          have htk := goL_take hix (wrap64 (ago + 1)) l
          have HY := Lib.hid (HX.out xs[i] (List.getElem_mem hix) (HKID.out _ (List.getElem_mem hix)) ns[i] hnod)
          have HTK := Lib.hid htk
          clear p0 p1 p2 p3 htk hnod
          generalize xs[i] = y at *
          generalize ns[i] = my at *
          obtain ⟨L, hL⟩ : ∃ L, L = goL (xs.take i) (wrap64 (ago + 1)) l := ⟨_, rfl⟩
          rw [← hL] at HS HLN HTK
          have hHLN := HLN.out
          have hb3 : Below wr.heap.size wr (wr.alloc (.cells #[.int .u8 y.f0, .int .i64 y.f1, .string y.f2, .slice A3 y.f3.length c3] 49)) := (Below.refl _ _).alloc (Nat.le_refl _) _
          have hs3 := HS.out.stay hb3
          have hc4 := cell_one hs3.self
          have HB3 := Lib.hid hb3; have HS3 := Lib.hid hs3
          have HY2 := Lib.hid (HY.out A3 c3 (wrap64 (ago + 1)) L k1 k2 k3 k4 w0 _ hw0 hw1 (by omega) hl3 hC3 hs3)
          clear hb3 hs3 HY hl3 hC3 HS hL HLN
          go_wp2_with fail
          refine HY2.out.mono ?_
          rintro e w2 ⟨rfl, hs2, hl2, hz2⟩
          have HS2 := Lib.hid hs2; have HZ2 := Lib.hid hz2
          clear hs2 hz2 HY2
          go_wp2_with fail
          exact ⟨⟨i + 1, by go_num, by omega, Lib.hid (by rw [HTK.out]; exact HS2.out), Lib.hid (by rw [HTK.out]; omega), Lib.hid (by have := HSZ.out; have := HZ2.out; have := HB3.out.size; omega)⟩, by simp [intOf]; omega⟩
        · obtain rfl : i = N := by omega
          have htk : xs.take i = xs := List.take_of_length_le (by have := HN.out; omega)
          have hsl := sum_take_le ns i
          rw [htk] at HS HLN
          have hHLN := HLN.out
          go_wp2_with fail
          go_end0
          exact ⟨rfl, by rw [HG.out]; exact HS.out, by rw [HG.out]; omega, HSZ.out⟩
    · have g3 : (o == 19) = false := by simpa using h19
      have HG : Hid (go1 ⟨o, n, s, xs⟩ ago l = goL xs ago l) := Lib.hid (by simp only [go1]; rw [if_neg h19, if_neg h3])
      go_enter Try.func51, Try.ntmps51
      go_wp2_with fail
      go_loopw [37] (fun v37 wr => ∃ (i : Nat), v37 = .int .i64 i ∧ i ≤ N ∧ Hid (RfS w0 wr k1 k2 k3 k4 (goL (xs.take i) ago l)) ∧ Hid ((goL (xs.take i) ago l).length ≤ l.length + (ns.take i).sum) ∧ Hid (W.heap.size ≤ wr.heap.size)) (fun v37 _ => N - (intOf v37).toNat)
      case atStart => exact ⟨0, rfl, Nat.zero_le _, HS, Lib.hid (by simp [goL]), HSZ⟩
      case round =>
        clear HS HSZ
        obtain ⟨i, rfl, hi, HS, HLN, HSZ⟩ := hrel
        by_cases hlt : i < N
        · have hix : i < xs.length := by rw [← HN.out]; exact hlt
          obtain ⟨ad, A3, c3, hA, p0, p1, p2, p3, hl3, hC3⟩ := at_T49 HC.out (i : Int) (by omega) (by have := HN.out; omega)
          subst hA
          rw [rdT49 xs i hix] at p0 p1 p2 p3 hl3 hC3
          simp only [Int.toNat_natCast] at p0 p1 p2 p3
          have q0 := keep_cell HS.out.bel (Nat.le_refl _) p0
          have q1 := keep_cell HS.out.bel (Nat.le_refl _) p1
          have q2 := keep_cell HS.out.bel (Nat.le_refl _) p2
          have q3 := keep_cell HS.out.bel (Nat.le_refl _) p3
          have hix2 : i < ns.length := by rw [HNL.out]; exact hix
          have hnod : Nodes xs[i] ns[i] := HNS.out i _ _ (List.getElem?_eq_getElem hix) (List.getElem?_eq_getElem hix2)
          have hst := sum_take hix2
          have hsl := sum_take_le ns (i + 1)
          have htk := goL_take hix ago l
          have HY := Lib.hid (HX.out xs[i] (List.getElem_mem hix) (HKID.out _ (List.getElem_mem hix)) ns[i] hnod)
          have HTK := Lib.hid htk
          clear p0 p1 p2 p3 htk hnod
          generalize xs[i] = y at *
          generalize ns[i] = my at *
          obtain ⟨L, hL⟩ : ∃ L, L = goL (xs.take i) ago l := ⟨_, rfl⟩
          rw [← hL] at HS HLN HTK
          have hHLN := HLN.out
          have hb3 : Below wr.heap.size wr (wr.alloc (.cells #[.int .u8 y.f0, .int .i64 y.f1, .string y.f2, .slice A3 y.f3.length c3] 49)) := (Below.refl _ _).alloc (Nat.le_refl _) _
          have hs3 := HS.out.stay hb3
          have hc4 := cell_one hs3.self
          have HB3 := Lib.hid hb3; have HS3 := Lib.hid hs3
          have HY2 := Lib.hid (HY.out A3 c3 ago L k1 k2 k3 k4 w0 _ ha0 ha1 (by omega) hl3 hC3 hs3)
          clear hb3 hs3 HY hl3 hC3 HS hL HLN
          go_wp2_with fail
          refine HY2.out.mono ?_
          rintro e w2 ⟨rfl, hs2, hl2, hz2⟩
          have HS2 := Lib.hid hs2; have HZ2 := Lib.hid hz2
          clear hs2 hz2 HY2
          go_wp2_with fail
          exact ⟨⟨i + 1, by go_num, by omega, Lib.hid (by rw [HTK.out]; exact HS2.out), Lib.hid (by rw [HTK.out]; omega), Lib.hid (by have := HSZ.out; have := HZ2.out; have := HB3.out.size; omega)⟩, by simp [intOf]; omega⟩
        · obtain rfl : i = N := by omega
          have htk : xs.take i = xs := List.take_of_length_le (by have := HN.out; omega)
          have hsl := sum_take_le ns i
          rw [htk] at HS HLN
          have hHLN := HLN.out
          go_wp2_with fail
          go_end0
          exact ⟨rfl, by rw [HG.out]; exact HS.out, by rw [HG.out]; omega, HSZ.out⟩
theorem go1_all {x : S49} (h : WfE x) : Go1Is x := by
  induction h with
  | mk o n s xs h1 h2 h3 h4 h5 h6 hk ih => exact go1_walk _ ih
theorem nodes_any {x : S49} (h : WfE x) : ∃ m, Nodes x m := by
  induction h with
  | mk o n s xs h1 h2 h3 h4 h5 h6 hk ih =>
    have : ∃ f : S49 → Nat, ∀ y ∈ xs, Nodes y (f y) := by
      classical
      exact ⟨fun y => if h : y ∈ xs then (ih y h).choose else 0, fun y hy => by simp only [dif_pos hy]; exact (ih y hy).choose_spec⟩
    obtain ⟨f, hf⟩ := this
    refine ⟨_, .mk o n s xs (xs.map f) (by simp) (fun i y m hy hm => ?_)⟩
    rw [List.getElem?_map, hy] at hm
    simp only [Option.map_some, Option.some.injEq] at hm
    subst hm
    exact hf y (List.mem_of_getElem? hy)
theorem rfS_start (w : World) (o : Obj) : RfS w (((((w.alloc o).alloc (.cells #[.slice none 0 0] 71)).alloc (.map #[] 0)).alloc (.cells #[.map (some (w.heap.size + 1 + 1))] 97)).alloc (.cells #[.func (.func 51) #[] #[.pointer (some ⟨w.heap.size + 1 + 1 + 1, 0, none⟩), .pointer (some ⟨w.heap.size + 1, 0, none⟩), .pointer (some ⟨w.heap.size + 1 + 1 + 1 + 1, 0, none⟩)]] 98)) (w.heap.size + 1) (w.heap.size + 1 + 1) (w.heap.size + 1 + 1 + 1) (w.heap.size + 1 + 1 + 1 + 1) [] := by
  have hm : MapG.MapE encR okR _ ((w.alloc o).alloc (.cells #[.slice none 0 0] 71)).heap.size (fun _ => none) := MapG.MapE.made ((w.alloc o).alloc (.cells #[.slice none 0 0] 71))
  have e2 : ((w.alloc o).alloc (.cells #[.slice none 0 0] 71)).heap.size = w.heap.size + 1 + 1 := by simp
  rw [e2] at hm
  refine ⟨?_, ?_, ?_, ⟨.slice none 0 0, ?_, ?_, fun q h => by simp [Value.ownBlock] at h⟩, ?_, ⟨by omega, by omega, by omega, by omega⟩, ⟨by omega, by omega, by omega, by omega, by omega, by omega⟩⟩
  · have := heap_alloc_new ((((w.alloc o).alloc (.cells #[.slice none 0 0] 71)).alloc (.map #[] 0)).alloc (.cells #[.map (some (w.heap.size + 1 + 1))] 97)) (.cells #[.func (.func 51) #[] #[.pointer (some ⟨w.heap.size + 1 + 1 + 1, 0, none⟩), .pointer (some ⟨w.heap.size + 1, 0, none⟩), .pointer (some ⟨w.heap.size + 1 + 1 + 1 + 1, 0, none⟩)]] 98)
    rwa [show ((((w.alloc o).alloc (.cells #[.slice none 0 0] 71)).alloc (.map #[] 0)).alloc (.cells #[.map (some (w.heap.size + 1 + 1))] 97)).heap.size = w.heap.size + 1 + 1 + 1 + 1 by simp] at this
  · have := heap_alloc_new (((w.alloc o).alloc (.cells #[.slice none 0 0] 71)).alloc (.map #[] 0)) (.cells #[.map (some (w.heap.size + 1 + 1))] 97)
    rw [show (((w.alloc o).alloc (.cells #[.slice none 0 0] 71)).alloc (.map #[] 0)).heap.size = w.heap.size + 1 + 1 + 1 by simp] at this
    exact blk_alloc this _
  · have hf : (fun r : Rf => if inR r [] = true then some (Value.bool true) else none) = fun _ => none := by funext r; simp [inR]
    rw [hf]
    have h3 := heap_alloc_new ((w.alloc o).alloc (.cells #[.slice none 0 0] 71)) (.map #[] 0)
    rw [e2] at h3
    exact hm.move ((blk_alloc (blk_alloc h3 _) _).trans h3.symm)
  · have := heap_alloc_new (w.alloc o) (.cells #[.slice none 0 0] 71)
    rw [show (w.alloc o).heap.size = w.heap.size + 1 by simp] at this
    exact blk_alloc (blk_alloc (blk_alloc this _) _) _
  · exact World.ownsRow_nil _ _ _ _
  · exact (((((Below.refl _ _).alloc (Nat.le_refl _) _).alloc (by simp) _).alloc (by simp; omega) _).alloc (by simp; omega) _).alloc (by simp; omega) _
set_option maxHeartbeats 8000000 in
set_option maxRecDepth 100000 in
theorem refs_walk (x : S49) (hwf : WfE x) (m : Nat) (hm : Nodes x m) (hle : m ≤ 2000000) (A : Option Addr) (c : Nat) (w : World) (hc : x.f3.length ≤ c) (hC : Kd.C k49 w A x.f3.length x.f3) :
    Calls Try.prog 28 #[.agg #[.int .u8 x.f0, .int .i64 x.f1, .string x.f2, .slice A x.f3.length c]] w fun e w' => ∃ v, e = .returned v ∧ w'.ownsRow w.heap.size 74 2 v (go1 x 0 []).length (rfCells (go1 x 0 [])) ∧ Below w.heap.size w w' := by
  have HY := Lib.hid (go1_all hwf hwf m hm)
  have HC := Lib.hid hC
  have hmm := @run_makeMap Try.prog
  have hmf : ∀ (fn : Fn) (first cap : Array Value) (w : World), (Instr.makeFunc fn first cap).run Try.prog w = .ok (.func fn first cap) w := fun _ _ _ _ => rfl
  clear hwf hm hC
  go_enter Try.func28, Try.ntmps28
  go_wp2_with fail
  refine (HY.out A c 0 [] _ _ _ _ w _ (by omega) (by omega) (by simpa using hle) hc HC.out (rfS_start w _)).mono ?_
  rintro e w2 ⟨rfl, hs, hl, hz⟩
  obtain ⟨v, r1, r2, r3⟩ := hs.row
  have hB := Lib.hid hs.bel
  obtain ⟨Av, cv, rfl⟩ := own_slice r2
  have hR := Lib.hid r2
  have hc1 := cell_one r1
  have hf1 := blk_frozen r1 0
  have HNE := Lib.hid (fun q hq => (r3 q hq).1)
  clear hs hl hz r1 r2 r3 HY HC
  go_wp2_with fail
  refine bodyPost_ret (v := .slice Av (go1 x 0 []).length cv) (by simp [results, Try.results28, go_sem, hc1]) rfl ⟨_, rfl, ?_, hB.out.setCell (p := ⟨w.heap.size + 1, 0, none⟩) (by show w.heap.size ≤ w.heap.size + 1; omega) _⟩
  refine own_kept hR.out (fun k hk => ?_)
  simp only [World.setCell]
  rw [Array.getElem?_modify, if_neg (fun e => HNE.out k hk e.symm)]
end Go.Proofs.Ytfkggeakjgphjaa.C
