/- Twins, what is left, Refs. Selected by wip/sel.py (ours) out of other texts. -/
import Derived.Test.YtbdciibbgiphcaaGreatDoorZx0
import Derived.Test.YtbdciibbgiphcaaGreatDoorBkK
import Derived.Test.YtbdciibbgiphcaaGreatDoorMapG
import Derived.Test.YtbdciibbgiphcaaGreatDoorShelf
import Derived.Lib.Hide
import Derived.Deep.RegionHeld3
import Derived.LoopTactic
import Derived.OwnWalk
import Derived.Laws.MakeOwn
import Derived.Laws.EntriesVeiled
import Derived.KernelRfl
namespace Go.Proofs.YtbdciibbgiphcaaGreatDoor.V
set_option linter.unusedVariables false
set_option linter.unusedSimpArgs false
set_option linter.unusedSectionVars false
open Go.RowKit Go.Proofs.YtbdciibbgiphcaaGreatDoorW.PrintWords Go.Proofs.YtbdciibbgiphcaaGreatDoorW.PrintLast Go.Proofs.YtbdciibbgiphcaaGreatDoorW.PrintMore
/-- what is read: whole numbers of 64 bits. -/
inductive WfE : S25 → Prop
  | mk (o n : Int) (s : ByteArray) (xs : List S25) : 0 ≤ o → o ≤ 255 → -9223372036854775808 ≤ n → n ≤ 9223372036854775807 → s.size ≤ 140737488351232 → xs.length ≤ 140737488351232 → (∀ y ∈ xs, WfE y) → WfE ⟨o, n, s, xs⟩
/-- the counter's block. -/
def Cnt (w : World) (lb : Nat) (l : Int) : Prop := w.heap[lb]? = some (.cells #[.int .i64 l] 3 (0, 0))
theorem Cnt.cell {w : World} {lb : Nat} {l : Int} (h : Cnt w lb l) : w.cell? ⟨lb, 0, none⟩ = some (.int .i64 l) := by simp [World.cell?, show w.heap[lb]? = _ from h]
theorem Cnt.frozen {w : World} {lb : Nat} {l : Int} (h : Cnt w lb l) : w.frozen? ⟨lb, 0, none⟩ = false := by simp [World.frozen?, show w.heap[lb]? = _ from h]
theorem Cnt.lt {w : World} {lb : Nat} {l : Int} (h : Cnt w lb l) : lb < w.heap.size := (Array.getElem?_eq_some_iff.1 h).1
theorem cell_lt {w : World} {a : Addr} {u : Value} (h : w.cell? a = some u) : a.block < w.heap.size := by
  rcases Nat.lt_or_ge a.block w.heap.size with h1 | h1
  · exact h1
  · simp [World.cell?, Array.getElem?_eq_none h1] at h
theorem keep_cell {B : Nat} {W w2 : World} {a : Addr} {u : Value} (hb : Below B W w2) (hB : W.heap.size ≤ B) (h : W.cell? a = some u) : w2.cell? a = some u := by
  rw [hb.cell (Nat.lt_of_lt_of_le (cell_lt h) hB)]; exact h
theorem rdT25 (l : List S25) (i : Nat) (h : i < l.length) : rd_T25 l (i : Int) = l[i] := by
  show l.getD i z25 = _
  rw [List.getD_eq_getElem?_getD, List.getElem?_eq_getElem h]; rfl
theorem box_cells {w : World} {k : Nat} {o n : Int} {s : ByteArray} {v : Value} (h : w.heap[k]? = some (.cells #[.int .u8 o, .int .i64 n, .string s, v] 25 (0, 0))) :
    w.cell? ⟨k, 0, none⟩ = some (.int .u8 o) ∧ w.cell? ⟨k, 1, none⟩ = some (.int .i64 n) ∧ w.cell? ⟨k, 2, none⟩ = some (.string s) ∧ w.cell? ⟨k, 3, none⟩ = some v := by
  simp [World.cell?, h]
open Go.Proofs.YtbdciibbgiphcaaGreatDoor.B (wp_append_two own_kept)
theorem own_prefix {w : World} {base : Nat} {e : TypeId} {sz g n m cap : Nat} {xs : List Value} (h : w.ownsRow base e sz (.slice (some ⟨g, 0, none⟩) n cap) n xs) (hm : m ≤ n) :
    w.ownsRow base e sz (.slice (some ⟨g, 0, none⟩) m cap) m (xs.take (m * sz)) := by
  have hl := h.1
  have hms : m * sz ≤ n * sz := Nat.mul_le_mul_right _ hm
  rcases h.2 with ⟨h', _⟩ | ⟨g', cap', cur, h', hb, hh, hn, hc, hs, ht⟩
  · cases h'
  · injection h' with h1 h2 h3
    injection h1 with h1
    injection h1 with h1
    subst h1; subst h3
    refine ⟨by rw [List.length_take]; omega, .inr ⟨g, cap, cur, rfl, hb, hh, by omega, hc, hs, ?_⟩⟩
    rw [← ht, List.take_take]
    congr 1
    omega
def e4 (x : S25) (v : Value) : List Value := [.int .u8 x.f0, .int .i64 x.f1, .string x.f2, v]
def eCells : List S25 → List Value → List Value
  | x :: xs, v :: vs => e4 x v ++ eCells xs vs
  | _, _ => []
def spareE : List Value := [.int .u8 0, .int .i64 0, .string ⟨#[115, 112, 97, 114, 101]⟩, .slice none 0 0]
theorem eCells_snoc : ∀ (xs : List S25) (vs : List Value) (x : S25) (v : Value), vs.length = xs.length → eCells (xs ++ [x]) (vs ++ [v]) = eCells xs vs ++ e4 x v
  | [], [], x, v, _ => by simp [eCells]
  | y :: xs, u :: vs, x, v, h => by
    simp only [List.cons_append, eCells]
    rw [eCells_snoc xs vs x v (by simpa using h), List.append_assoc]
  | [], _ :: _, _, _, h => by simp at h
  | _ :: _, [], _, _, h => by simp at h
theorem eCells_len : ∀ (xs : List S25) (vs : List Value), vs.length = xs.length → (eCells xs vs).length = xs.length * 4
  | [], [], _ => rfl
  | y :: xs, u :: vs, h => by
    simp only [eCells, List.length_append, List.length_cons, e4, List.length_nil]
    rw [eCells_len xs vs (by simpa using h)]
    omega
  | [], _ :: _, h => by simp at h
  | _ :: _, [], h => by simp at h
theorem eCells_drop : ∀ (xs : List S25) (vs : List Value) (i : Nat) (x : S25) (v : Value), vs.length = xs.length → xs[i]? = some x → vs[i]? = some v → ((eCells xs vs).drop (i * 4)).take 4 = e4 x v
  | [], _, i, x, v, _, h, _ => by simp at h
  | y :: xs, [], i, x, v, h, _, _ => by simp at h
  | y :: xs, u :: vs, 0, x, v, h, h1, h2 => by
    simp only [List.getElem?_cons_zero, Option.some.injEq] at h1 h2
    subst h1; subst h2
    rfl
  | y :: xs, u :: vs, i + 1, x, v, h, h1, h2 => by
    simp only [List.getElem?_cons_succ] at h1 h2
    have := eCells_drop xs vs i x v (by simpa using h) h1 h2
    rw [show (i + 1) * 4 = i * 4 + 1 + 1 + 1 + 1 by omega]
    exact this
theorem eCells_get {xs : List S25} {vs : List Value} {i : Nat} {x : S25} {v : Value} (h : vs.length = xs.length) (h1 : xs[i]? = some x) (h2 : vs[i]? = some v) : ∀ j, j < 4 → (eCells xs vs)[i * 4 + j]? = (e4 x v)[j]? := by
  intro j hj
  have := eCells_drop xs vs i x v h h1 h2
  rw [← this, List.getElem?_take, if_pos hj, List.getElem?_drop]
/-- a list, with a spare place behind, and all lists within it: bs their blocks, each once. -/
inductive TwR (w : World) (base : Nat) : List S25 → Value → List Nat → Prop
  | mk (xs : List S25) (g c : Nat) (vs : List Value) (bss : List (List Nat)) : vs.length = xs.length → bss.length = xs.length →
      w.ownsRow base 25 4 (.slice (some ⟨g, 0, none⟩) (xs.length + 1) c) (xs.length + 1) (eCells xs vs ++ spareE) →
      (∀ (i : Nat) (x : S25) (v : Value) (bs : List Nat), xs[i]? = some x → vs[i]? = some v → bss[i]? = some bs → TwR w base x.f3 v bs) →
      (g :: bss.flatten).Nodup → TwR w base xs (.slice (some ⟨g, 0, none⟩) xs.length c) (g :: bss.flatten)
theorem mem_bss {bss : List (List Nat)} {k n : Nat} {xs : List S25} {vs : List Value} (hb : bss.length = n) (hx : xs.length = n) (hv : vs.length = n) (h : k ∈ bss.flatten) :
    ∃ (i : Nat) (x : S25) (v : Value) (bs : List Nat), xs[i]? = some x ∧ vs[i]? = some v ∧ bss[i]? = some bs ∧ k ∈ bs := by
  obtain ⟨bs, h1, h2⟩ := List.mem_flatten.1 h
  obtain ⟨i, hi, rfl⟩ := List.getElem_of_mem h1
  exact ⟨i, _, _, _, List.getElem?_eq_getElem (by omega), List.getElem?_eq_getElem (by omega), List.getElem?_eq_getElem hi, h2⟩
theorem TwR.nodup {w : World} {base : Nat} {xs : List S25} {v : Value} {bs : List Nat} (h : TwR w base xs v bs) : bs.Nodup := by cases h; assumption
theorem TwR.blocks {w : World} {base : Nat} {xs : List S25} {v : Value} {bs : List Nat} (h : TwR w base xs v bs) : ∀ k ∈ bs, base ≤ k ∧ k < w.heap.size := by
  induction h with
  | mk xs g c vs bss hv hb ho he hn ih =>
    intro k hk
    rcases List.mem_cons.1 hk with rfl | hk
    · exact ⟨own_base ho k rfl, own_lt ho k rfl⟩
    · obtain ⟨i, x, v, bs, h1, h2, h3, h4⟩ := mem_bss hb rfl hv hk
      exact ih i x v bs h1 h2 h3 k h4
theorem TwR.kept {w w' : World} {base : Nat} {xs : List S25} {v : Value} {bs : List Nat} (h : TwR w base xs v bs) : (∀ k ∈ bs, w'.heap[k]? = w.heap[k]?) → TwR w' base xs v bs := by
  induction h with
  | mk xs g c vs bss hv hb ho he hn ih =>
    intro hk
    refine .mk xs g c vs bss hv hb (own_kept ho (fun k hq => ?_)) (fun i x v bs h1 h2 h3 => ih i x v bs h1 h2 h3 (fun k hk2 => hk k ?_)) hn
    · have : k = g := by simpa [Value.ownBlock] using hq.symm
      subst this
      exact hk k List.mem_cons_self
    · exact List.mem_cons_of_mem _ (List.mem_flatten.2 ⟨bs, List.mem_of_getElem? h3, hk2⟩)
theorem TwR.lower {w : World} {base b : Nat} {xs : List S25} {v : Value} {bs : List Nat} (h : TwR w base xs v bs) (hb : b ≤ base) : TwR w b xs v bs := by
  induction h with
  | mk xs g c vs bss hv hbl ho he hn ih => exact .mk xs g c vs bss hv hbl (own_weaken ho hb) (fun i x v bs h1 h2 h3 => ih i x v bs h1 h2 h3) hn
theorem TwR.stay {w w' : World} {base : Nat} {xs : List S25} {v : Value} {bs : List Nat} (h : TwR w base xs v bs) (hb : Below w.heap.size w w') : TwR w' base xs v bs :=
  h.kept (fun k hk => hb.block k (h.blocks k hk).2)
theorem own_cap' {w : World} {base n c e sz : Nat} {A : Option Addr} {xs : List Value} (h : w.ownsRow base e sz (.slice A n c) n xs) : n ≤ c := by
  rcases h.2 with ⟨h', h2⟩ | ⟨g', cap', cur, h', hb, hh, hn, hc, hs, ht⟩
  · injection h' with h1 h2 h3; omega
  · injection h' with h1 h2 h3; omega
/-- such a list reads as it is told. -/
theorem TwR.reads {w : World} {base : Nat} {xs : List S25} {v : Value} {bs : List Nat} (h : TwR w base xs v bs) : ∃ A c, v = .slice A xs.length c ∧ xs.length ≤ c ∧ Kd.C k25 w A xs.length xs := by
  induction h with
  | mk xs g c vs bss hv hb ho he hn ih =>
    have hl := eCells_len xs vs hv
    have ho2 : w.ownsRow base 25 4 (.slice (some ⟨g, 0, none⟩) xs.length c) xs.length (eCells xs vs) := by
      have h9 := own_prefix ho (m := xs.length) (by omega)
      rw [← hl, List.take_left] at h9
      exact h9
    have hR : Reps (k25.K w) 4 xs (eCells xs vs) := by
      refine ⟨hl, fun j x hx => ?_⟩
      have hj : j < xs.length := (List.getElem?_eq_some_iff.1 hx).1
      obtain ⟨A, c', hv', hl', hC⟩ := ih j x (vs[j]'(by rw [hv]; exact hj)) (bss[j]'(by rw [hb]; exact hj)) hx (List.getElem?_eq_getElem _) (List.getElem?_eq_getElem _)
      rw [eCells_drop xs vs j x _ hv hx (List.getElem?_eq_getElem (by rw [hv]; exact hj))]
      unfold e4
      rw [hv']
      exact k25_mk w x hl' hC
    obtain ⟨A, c', he', hr⟩ := own_reads_row ho2 hR rfl
    exact ⟨A, c', he', by injection he' with _ _ h3; have := own_cap' ho; omega, hr⟩
/-- while such a list is made. -/
structure TwS (w : World) (base : Nat) (xs : List S25) (tv : Value) (vs : List Value) (bss : List (List Nat)) : Prop where
  lv : vs.length = xs.length
  lb : bss.length = xs.length
  row : w.ownsRow base 25 4 tv xs.length (eCells xs vs)
  each : ∀ (i : Nat) (x : S25) (v : Value) (bs : List Nat), xs[i]? = some x → vs[i]? = some v → bss[i]? = some bs → TwR w base x.f3 v bs
  nd : bss.flatten.Nodup
  ne : ∀ b ∈ bss.flatten, tv.ownBlock ≠ some b
theorem TwS.lt {w : World} {base : Nat} {xs : List S25} {tv : Value} {vs : List Value} {bss : List (List Nat)} (h : TwS w base xs tv vs bss) : ∀ b ∈ bss.flatten, base ≤ b ∧ b < w.heap.size := by
  intro b hb
  obtain ⟨i, x, v, bs, h1, h2, h3, h4⟩ := mem_bss h.lb rfl h.lv hb
  exact (h.each i x v bs h1 h2 h3).blocks b h4
theorem get_snoc {α : Type} {xs : List α} {x y : α} {j n : Nat} (hl : xs.length = n) (h : (xs ++ [x])[j]? = some y) : (j < n ∧ xs[j]? = some y) ∨ (j = n ∧ y = x) := by
  rcases Nat.lt_or_ge j xs.length with h1 | h1
  · rw [List.getElem?_append_left h1] at h; exact .inl ⟨by omega, h⟩
  · rw [List.getElem?_append_right h1] at h
    obtain ⟨h2, h3⟩ := List.getElem?_eq_some_iff.1 h
    have h4 : j - xs.length = 0 := by simp at h2; omega
    simp only [h4] at h3
    exact .inr ⟨by omega, by simpa using h3.symm⟩
theorem TwS.snoc {wr w2 w3 : World} {base : Nat} {xs : List S25} {tv tv1 v : Value} {vs : List Value} {bss : List (List Nat)} {x : S25} {bs : List Nat} (h : TwS wr base xs tv vs bss) (hbase : base ≤ wr.heap.size) (hb : Below wr.heap.size wr w2) (hx : TwR w2 wr.heap.size x.f3 v bs)
    (hown : w3.ownsRow base 25 4 tv1 (xs.length + 1) (eCells xs vs ++ e4 x v)) (hat : (tv1.ownBlock = tv.ownBlock ∧ w2.grownBy w3 tv.ownBlock) ∨ (∃ q, tv1.ownBlock = some q ∧ w2.heap.size ≤ q ∧ w2.grownBy w3 none)) : TwS w3 base (xs ++ [x]) tv1 (vs ++ [v]) (bss ++ [bs]) := by
  have hsz := hb.size
  have hg : ∀ q, q < w2.heap.size → tv.ownBlock ≠ some q → w3.heap[q]? = w2.heap[q]? := by
    intro q hq hv
    rcases hat with ⟨_, g⟩ | ⟨p, _, _, g⟩
    · exact g.block q hq (fun e => hv e.symm)
    · exact g.block q hq (by simp)
  have hvl : ∀ q, tv.ownBlock = some q → q < wr.heap.size := fun q hq => own_lt h.row q hq
  refine ⟨by simp [h.lv], by simp [h.lb], ?_, ?_, ?_, ?_⟩
  · rw [List.length_append, List.length_singleton, eCells_snoc xs vs x v h.lv]; exact hown
  · intro i y u cs hy hu hc
    rcases get_snoc rfl hy with ⟨hi, hy⟩ | ⟨hi, hy⟩
    · rcases get_snoc h.lv hu with ⟨_, hu⟩ | ⟨hi2, _⟩
      · rcases get_snoc h.lb hc with ⟨_, hc⟩ | ⟨hi3, _⟩
        · have h1 := h.each i y u cs hy hu hc
          refine h1.kept (fun k hk => ?_)
          have hkl := (h1.blocks k hk).2
          rw [hg k (by omega) (h.ne k (List.mem_flatten.2 ⟨cs, List.mem_of_getElem? hc, hk⟩)), hb.block k hkl]
        · omega
      · omega
    · subst hy
      rcases get_snoc h.lv hu with ⟨hi2, _⟩ | ⟨_, hu⟩
      · omega
      · rcases get_snoc h.lb hc with ⟨hi3, _⟩ | ⟨_, hc⟩
        · omega
        · subst hu; subst hc
          refine (hx.lower hbase).kept (fun k hk => ?_)
          have hkl := hx.blocks k hk
          exact hg k hkl.2 (fun e => by have := hvl k e; omega)
  · rw [List.flatten_append, List.flatten_singleton, List.nodup_append]
    refine ⟨h.nd, hx.nodup, fun a ha b hb2 e => ?_⟩
    have := (h.lt a ha).2
    have := (hx.blocks b hb2).1
    omega
  · intro b hb2 e
    rw [List.flatten_append, List.flatten_singleton, List.mem_append] at hb2
    rcases hb2 with hb2 | hb2
    · rcases hat with ⟨e2, _⟩ | ⟨p, e2, hp, _⟩
      · exact h.ne b hb2 (by rw [← e2, e])
      · rw [e2] at e; injection e with e; have := (h.lt b hb2).2; omega
    · have hbl := hx.blocks b hb2
      rcases hat with ⟨e2, _⟩ | ⟨p, e2, hp, _⟩
      · have := hvl b (by rw [← e2, e]); omega
      · rw [e2] at e; injection e with e; omega
theorem TwS.shut {wr w3 : World} {base g c : Nat} {xs : List S25} {tv : Value} {vs : List Value} {bss : List (List Nat)} (h : TwS wr base xs tv vs bss)
    (hown : w3.ownsRow base 25 4 (.slice (some ⟨g, 0, none⟩) (xs.length + 1) c) (xs.length + 1) (eCells xs vs ++ spareE)) (hat : (some g = tv.ownBlock ∧ wr.grownBy w3 tv.ownBlock) ∨ (wr.heap.size ≤ g ∧ wr.grownBy w3 none)) : TwR w3 base xs (.slice (some ⟨g, 0, none⟩) xs.length c) (g :: bss.flatten) := by
  refine .mk xs g c vs bss h.lv h.lb hown (fun i x v bs h1 h2 h3 => (h.each i x v bs h1 h2 h3).kept (fun k hk => ?_)) ?_
  · have hkl := ((h.each i x v bs h1 h2 h3).blocks k hk).2
    have hkf : k ∈ bss.flatten := List.mem_flatten.2 ⟨bs, List.mem_of_getElem? h3, hk⟩
    rcases hat with ⟨e, gr⟩ | ⟨e, gr⟩
    · exact gr.block k hkl (fun e2 => h.ne k hkf e2.symm)
    · exact gr.block k hkl (by simp)
  · rw [List.nodup_cons]
    refine ⟨fun hm => ?_, h.nd⟩
    rcases hat with ⟨e, gr⟩ | ⟨e, gr⟩
    · exact h.ne g hm e.symm
    · have := (h.lt g hm).2; omega
theorem tws_below {w wr w2 w3 : World} {xs : List S25} {tv tv1 : Value} {vs : List Value} {bss : List (List Nat)} (h : TwS wr w.heap.size xs tv vs bss) (hB : Below w.heap.size w wr) (hb : Below wr.heap.size wr w2)
    (hat : (tv1.ownBlock = tv.ownBlock ∧ w2.grownBy w3 tv.ownBlock) ∨ (∃ q, tv1.ownBlock = some q ∧ w2.heap.size ≤ q ∧ w2.grownBy w3 none)) : Below w.heap.size w w3 := by
  have h2 := hB.trans (hb.mono hB.size)
  rcases hat with ⟨_, g⟩ | ⟨_, _, _, g⟩
  · exact h2.grown g h2.size (fun k hk => own_base h.row k hk)
  · exact h2.grown g h2.size (fun k hk => by cases hk)
/-- no list is great. -/
inductive SmE : S25 → Prop
  | mk (o n : Int) (s : ByteArray) (xs : List S25) : xs.length ≤ 2513169434900 → (∀ y ∈ xs, SmE y) → SmE ⟨o, n, s, xs⟩
theorem below_gn {w w1 : World} (h : w.grownBy w1 none) : Below w.heap.size w w1 := ⟨h.os, h.tape, h.output, h.size, fun i hi => h.block i hi (by simp)⟩
def TwinPost (xs : List S25) (w : World) (e : Ending) (w' : World) : Prop := ∃ v bs, e = .returned v ∧ TwR w' w.heap.size xs v bs ∧ Below w.heap.size w w'
def TwinsIs (xs : List S25) : Prop := ∀ (A : Option Addr) (c : Nat) (w : World), xs.length ≤ c → Kd.C k25 w A xs.length xs → Calls Tryz.prog 14 #[.slice A xs.length c] w (TwinPost xs w)
def TwinIs (x : S25) : Prop := ∀ (A : Option Addr) (c : Nat) (w : World), x.f3.length ≤ c → Kd.C k25 w A x.f3.length x.f3 →
  Calls Tryz.prog 5 #[.agg #[.int .u8 x.f0, .int .i64 x.f1, .string x.f2, .slice A x.f3.length c]] w fun e w' => ∃ v bs, e = .returned (.agg #[.int .u8 x.f0, .int .i64 x.f1, .string x.f2, v]) ∧ TwR w' w.heap.size x.f3 v bs ∧ Below w.heap.size w w'
theorem own_head' {w : World} {base n c e sz : Nat} {A : Option Addr} {xs : List Value} (h : w.ownsRow base e sz (.slice A n c) n xs) (hn : 0 < n) : ∃ g, A = some ⟨g, 0, none⟩ := by
  rcases h.2 with ⟨h', h2⟩ | ⟨g', cap', cur, h', hb, hh, hn, hc, hs, ht⟩
  · injection h' with h1 h2 h3; omega
  · injection h' with h1 h2 h3; exact ⟨g', h1⟩
set_option maxHeartbeats 4000000 in
set_option maxRecDepth 100000 in
theorem twins_walk (xs : List S25) (hm : xs.length ≤ 2513169434900) (hi : ∀ y ∈ xs, TwinIs y) : TwinsIs xs := by
  intro A c w hc hr
  obtain ⟨n, hn⟩ : ∃ n, n = xs.length := ⟨_, rfl⟩
  have HN := Lib.hid hn
  have HR := Lib.hid hr; have HI := Lib.hid hi
  rw [← hn] at hc hm
  rw [← hn]
  clear hr hi hn
  obtain ⟨i3, hi3, hz30, hz31, hz32⟩ := info_parts info25
  go_enter Tryz.func14, Tryz.ntmps14
  go_wp2_with (at_make; go_loud (refine wpList_make_own _ rfl _ _ 23 rfl w.heap.size 25 i3 (.agg #[(.int .u8 0), (.int .i64 0), (.string ⟨#[]⟩), (.slice none 0 0)]) 4 Tryz.underlying23 hi3 hz30 hz31 .i64 .i64 _ (n + 1) rfl rfl (by omega) ?b2 ?b3 (Nat.le_refl _) ?_))
  case b2 => rw [hz32]; omega
  case b3 => unfold maxLen; omega
  intro w1 hown hgr
  have HO : Hid (TwS w1 w.heap.size (xs.take 0) (.slice (some ⟨w.heap.size, 0, none⟩) 0 (n + 1)) [] []) := Lib.hid ⟨rfl, rfl, hown, fun i x v bs hx => by simp at hx, List.nodup_nil, fun b hb => by simp at hb⟩
  have HB1 := Lib.hid (below_gn hgr)
  clear hown hgr hi3 hz30 hz31 hz32
  go_wp2_with fail
  go_loopw [3, 4] (fun tv iv wr => ∃ (i : Nat) (T : Option Addr) (cc : Nat) (vs : List Value) (bss : List (List Nat)), tv = .slice T i cc ∧ iv = .int .i64 i ∧ i ≤ n ∧ Hid (TwS wr w.heap.size (xs.take i) (.slice T i cc) vs bss) ∧ Hid (Below w.heap.size w wr)) (fun _ iv _ => n - (intOf iv).toNat)
  case atStart => exact ⟨0, _, _, _, _, rfl, rfl, Nat.zero_le _, HO, HB1⟩
  case round =>
    clear HO HB1
    obtain ⟨i, T, cc, vs, bss, rfl, rfl, hi, HO, HB1⟩ := hrel
    have hlen : (xs.take i).length = i := by rw [List.length_take]; have := HN.out; omega
    by_cases hlt : i < n
    · have hix : i < xs.length := by rw [← HN.out]; exact hlt
      obtain ⟨ad, A3, c3, hA, q0, q1, q2, q3, hl3, hC3⟩ := at_T25 (Kd.C_below HR.out HB1.out) (i : Int) (by omega) (by omega)
      subst hA
      rw [rdT25 xs i hix] at q0 q1 q2 q3 hl3 hC3
      simp only [Int.toNat_natCast] at q0 q1 q2 q3
      have htk : xs.take (i + 1) = xs.take i ++ [xs[i]] := List.take_succ_eq_append_getElem hix
      have HTK := Lib.hid htk
      have hmem : xs[i] ∈ xs := List.getElem_mem hix
      have HY := Lib.hid (HI.out xs[i] hmem)
      clear htk hmem
      generalize xs[i] = y at *
      have HC3 := Lib.hid hC3; have HL3 := Lib.hid hl3; have HLEN := Lib.hid hlen
      clear hC3 hl3 hlen
      go_wp2_with fail
      refine (HY.out A3 c3 _ HL3.out HC3.out).mono ?_
      rintro e w2 ⟨v, bs, rfl, hx, hb2⟩
      have HX := Lib.hid hx; have HB2 := Lib.hid hb2
      have hs1 := HB1.out.size
      have hs2 := HB2.out.size
      have ho2 : w2.ownsRow w.heap.size 25 4 (.slice T i cc) i (eCells (xs.take i) vs) := by
        have := own_kept HO.out.row (w' := w2) (fun k hk => HB2.out.block k (own_lt HO.out.row k hk))
        rw [HLEN.out] at this
        exact this
      have HO2 := Lib.hid ho2
      obtain ⟨Av, cv, rfl, _, _⟩ := HX.out.reads
      clear hx hb2 ho2 q0 q1 q2 q3
      go_wp2_with (at_builtin; refine wp_append_two (W := w2) w.heap.size rfl _ _ 23 25 (.agg #[(.int .u8 0), (.int .i64 0), (.string ⟨#[]⟩), (.slice none 0 0)]) 4 56 rfl Tryz.underlying23 info25 rfl (by decide) (by decide) (.slice T i cc) i (eCells (xs.take i) vs) (e4 y (.slice Av y.f3.length cv)) rfl rfl rfl (by simp [e4, Value.oneCell']) HO2.out (by omega) (by omega) ?_; intro v1 w3 hown3 hat3; obtain ⟨T3, cc3, hv3⟩ := own_slice hown3; subst hv3; have HO3 := Lib.hid (HO.out.snoc hs1 HB2.out HX.out (by rw [HLEN.out]; exact hown3) hat3); have HB3 := Lib.hid (tws_below HO.out HB1.out HB2.out hat3); clear hown3 hat3)
      exact ⟨⟨i + 1, T3, cc3, _, _, rfl, by go_num, by omega, Lib.hid (by rw [HTK.out]; exact HO3.out), HB3⟩, by simp [intOf]; omega⟩
    · obtain rfl : i = n := by omega
      have htk : xs.take i = xs := List.take_of_length_le (by have := HN.out; omega)
      rw [htk] at HO
      have hs1 := HB1.out.size
      have ho2 : wr.ownsRow w.heap.size 25 4 (.slice T i cc) i (eCells xs vs) := by
        have := HO.out.row
        rw [← HN.out] at this
        exact this
      have HO2 := Lib.hid ho2
      clear ho2 htk hlen
      go_wp2_with (at_builtin; refine wp_append_two (W := wr) w.heap.size rfl _ _ 23 25 (.agg #[(.int .u8 0), (.int .i64 0), (.string ⟨#[]⟩), (.slice none 0 0)]) 4 56 rfl Tryz.underlying23 info25 rfl (by decide) (by decide) (.slice T i cc) i (eCells xs vs) spareE rfl rfl rfl (by simp [spareE, Value.oneCell']) HO2.out hs1 (by omega) ?_; intro v1 w3 hown3 hat3; obtain ⟨T3, cc3, hv3⟩ := own_slice hown3; subst hv3; obtain ⟨g, hg⟩ := own_head' hown3 (by omega); subst hg; have hcap := own_cap' hown3; have HO3 := Lib.hid hown3; have HA3 := Lib.hid hat3; clear hown3 hat3)
      go_ret
      have hn := HN.out
      subst hn
      have hat := HA3.out
      have hfin := HO.out.shut HO3.out (by
        rcases hat with ⟨e, gr⟩ | ⟨q, e, hq, gr⟩
        · exact .inl ⟨e, gr⟩
        · have : g = q := by simpa [Value.ownBlock] using e
          subst this
          exact .inr ⟨hq, gr⟩)
      exact ⟨_, _, rfl, hfin, tws_below HO.out HB1.out (Below.refl _ _) hat⟩
set_option maxHeartbeats 4000000 in
set_option maxRecDepth 100000 in
theorem twin_walk (x : S25) (h : TwinsIs x.f3) : TwinIs x := by
  intro A c w hc hr
  obtain ⟨o, n, s, xs⟩ := x
  dsimp only at h hc hr ⊢
  have HR := Lib.hid hr; have HT := Lib.hid h
  clear hr h
  go_enter Tryz.func5, Tryz.ntmps5
  go_wp2_with fail
  obtain ⟨wb, hwb⟩ : ∃ wb, wb = (w.alloc (.cells #[.int .u8 o, .int .i64 n, .string s, .slice A xs.length c] 25)).alloc (.cells #[.int .u8 0, .int .i64 0, .string ⟨#[]⟩, .slice none 0 0] 25) := ⟨_, rfl⟩
  rw [← hwb]
  have hk0 : wb.heap[w.heap.size]? = some (.cells #[.int .u8 o, .int .i64 n, .string s, .slice A xs.length c] 25 (0, 0)) := by
    rw [hwb, Below.heap_alloc _ _ _ (by simp)]; exact heap_alloc_new w _
  have hk1 : wb.heap[w.heap.size + 1]? = some (.cells #[.int .u8 0, .int .i64 0, .string ⟨#[]⟩, .slice none 0 0] 25 (0, 0)) := by
    have := heap_alloc_new (w.alloc (.cells #[.int .u8 o, .int .i64 n, .string s, .slice A xs.length c] 25)) (.cells #[.int .u8 0, .int .i64 0, .string ⟨#[]⟩, .slice none 0 0] 25)
    have e : (w.alloc (.cells #[.int .u8 o, .int .i64 n, .string s, .slice A xs.length c] 25)).heap.size = w.heap.size + 1 := by simp
    rw [hwb]
    rw [e] at this
    exact this
  have hb0 : Below w.heap.size w wb := by rw [hwb]; exact ((Below.refl _ _).alloc (Nat.le_refl _) _).alloc (by simp) _
  have HB0 := Lib.hid hb0; have HK1 := Lib.hid hk1
  obtain ⟨e0, e1, e2, e3⟩ := box_cells hk0
  clear hwb hb0 hk0 hk1
  go_region_held3 (fun w' => w'.cell? ⟨w.heap.size, 0, none⟩ = some (.int .u8 o) ∧ w'.cell? ⟨w.heap.size, 1, none⟩ = some (.int .i64 n) ∧ w'.cell? ⟨w.heap.size, 2, none⟩ = some (.string s) ∧ w'.cell? ⟨w.heap.size, 3, none⟩ = some (.slice A xs.length c)) (first | (exact ⟨s0, s1, s2, s3⟩) | go_keep) (first | (go_at_call 14; refine (HT.out A c wb.drew hc (Kd.C_below HR.out HB0.out.drew)).mono ?_; rintro e w2 ⟨v, bs, rfl, hx, hb2⟩; have s0 := keep_cell hb2 (Nat.le_refl _) e0; have s1 := keep_cell hb2 (Nat.le_refl _) e1; have s2 := keep_cell hb2 (Nat.le_refl _) e2; have s3 := keep_cell hb2 (Nat.le_refl _) e3; have HB2 := Lib.hid (HB0.out.drew.trans (hb2.mono HB0.out.size)); have HX := Lib.hid hx; have HK2 := Lib.hid ((hb2.block _ (Array.getElem?_eq_some_iff.1 HK1.out).1).trans HK1.out); have r0 := blk_cell HK2.out 0; have r1 := blk_cell HK2.out 1; have r2 := blk_cell HK2.out 2; have r3 := blk_cell HK2.out 3; have f0 := blk_frozen HK2.out 0; have f1 := blk_frozen HK2.out 1; have f2 := blk_frozen HK2.out 2; have f3 := blk_frozen HK2.out 3; dsimp at r0 r1 r2 r3; obtain ⟨Av, cv, hv, _, _⟩ := HX.out.reads; subst hv; clear hb2 hx))
  all_goals
    have hblk : ((((w2.setCell ⟨w.heap.size + 1, 0, none⟩ (.int .u8 o)).setCell ⟨w.heap.size + 1, 1, none⟩ (.int .i64 n)).setCell ⟨w.heap.size + 1, 2, none⟩ (.string s)).setCell ⟨w.heap.size + 1, 3, none⟩ (.slice Av xs.length cv)).heap[w.heap.size + 1]? = some (.cells #[.int .u8 o, .int .i64 n, .string s, .slice Av xs.length cv] 25 (0, 0)) := by
      refine blk_put (cs := #[.int .u8 o, .int .i64 n, .string s, .slice none 0 0]) ?_ 3 _ rfl
      refine blk_put (cs := #[.int .u8 o, .int .i64 n, .string ⟨#[]⟩, .slice none 0 0]) ?_ 2 _ rfl
      refine blk_put (cs := #[.int .u8 o, .int .i64 0, .string ⟨#[]⟩, .slice none 0 0]) ?_ 1 _ rfl
      exact blk_put (cs := #[.int .u8 0, .int .i64 0, .string ⟨#[]⟩, .slice none 0 0]) HK2.out 0 _ rfl
    have hbel : Below w.heap.size w ((((w2.setCell ⟨w.heap.size + 1, 0, none⟩ (.int .u8 o)).setCell ⟨w.heap.size + 1, 1, none⟩ (.int .i64 n)).setCell ⟨w.heap.size + 1, 2, none⟩ (.string s)).setCell ⟨w.heap.size + 1, 3, none⟩ (.slice Av xs.length cv)) :=
      (((HB2.out.setCell (p := ⟨w.heap.size + 1, 0, none⟩) (by simp) _).setCell (p := ⟨w.heap.size + 1, 1, none⟩) (by simp) _).setCell (p := ⟨w.heap.size + 1, 2, none⟩) (by simp) _).setCell (p := ⟨w.heap.size + 1, 3, none⟩) (by simp) _
    have hfar : ∀ k, k ≠ w.heap.size + 1 → ((((w2.setCell ⟨w.heap.size + 1, 0, none⟩ (.int .u8 o)).setCell ⟨w.heap.size + 1, 1, none⟩ (.int .i64 n)).setCell ⟨w.heap.size + 1, 2, none⟩ (.string s)).setCell ⟨w.heap.size + 1, 3, none⟩ (.slice Av xs.length cv)).heap[k]? = w2.heap[k]? := by
      intro k hk
      rw [Below.heap_setCell _ _ _ k hk, Below.heap_setCell _ _ _ k hk, Below.heap_setCell _ _ _ k hk, Below.heap_setCell _ _ _ k hk]
    have hwbs : w.heap.size + 1 < wb.heap.size := (Array.getElem?_eq_some_iff.1 HK1.out).1
    have hx2 := (HX.out.lower (b := w.heap.size) (by show w.heap.size ≤ wb.heap.size; omega)).kept (w' := ((((w2.setCell ⟨w.heap.size + 1, 0, none⟩ (.int .u8 o)).setCell ⟨w.heap.size + 1, 1, none⟩ (.int .i64 n)).setCell ⟨w.heap.size + 1, 2, none⟩ (.string s)).setCell ⟨w.heap.size + 1, 3, none⟩ (.slice Av xs.length cv))) (fun k hk => hfar k (by
      have := (HX.out.blocks k hk).1
      have e : wb.drew.heap.size = wb.heap.size := rfl
      omega))
    have HBLK := Lib.hid hblk; have HBEL := Lib.hid hbel; have HX2 := Lib.hid hx2
    clear hblk hbel hfar hx2 hwbs
    generalize ((((w2.setCell ⟨w.heap.size + 1, 0, none⟩ (.int .u8 o)).setCell ⟨w.heap.size + 1, 1, none⟩ (.int .i64 n)).setCell ⟨w.heap.size + 1, 2, none⟩ (.string s)).setCell ⟨w.heap.size + 1, 3, none⟩ (.slice Av xs.length cv)) = w3 at *
    go_wp2_with fail
    refine bodyPost_ret (results_cell_row rfl _ _ (w.heap.size + 1) 25 #[.int .u8 o, .int .i64 n, .string s, .slice Av xs.length cv] (0, 0) _ rfl HBLK.out Tryz.underlying25 rfl (by kernel_rfl)) rfl ?_
    exact ⟨_, _, rfl, HX2.out, HBEL.out⟩
theorem twin_any {x : S25} (h : SmE x) : TwinIs x := by
  induction h with
  | mk o n s xs hl hy ih => exact twin_walk _ (twins_walk xs hl ih)
open Go.Proofs.YtbdciibbgiphcaaGreatDoor.B (Pre)
def LeftPost (w : World) (e : Ending) (w' : World) : Prop := e = .returned (.bool true) ∧ Below w.heap.size w w'
def LeftsIs (xs : List S25) : Prop := ∀ (A : Option Addr) (c base : Nat) (tv : Value) (bs : List Nat) (w : World), TwR w base xs tv bs → xs.length ≤ c → Kd.C k25 w A xs.length xs → Calls Tryz.prog 17 #[tv, .slice A xs.length c] w (LeftPost w)
def LeftIs (x : S25) : Prop := ∀ (A : Option Addr) (c base : Nat) (tv : Value) (bs : List Nat) (w : World), TwR w base x.f3 tv bs → x.f3.length ≤ c → Kd.C k25 w A x.f3.length x.f3 →
  Calls Tryz.prog 9 #[.agg #[.int .u8 x.f0, .int .i64 x.f1, .string x.f2, tv], .agg #[.int .u8 x.f0, .int .i64 x.f1, .string x.f2, .slice A x.f3.length c]] w (LeftPost w)
set_option maxHeartbeats 4000000 in
set_option maxRecDepth 100000 in
theorem left_walk (x : S25) (h : LeftsIs x.f3) : LeftIs x := by
  intro A c base tv bs w ht hc hr
  obtain ⟨o, n, s, xs⟩ := x
  dsimp only at h ht hc hr ⊢
  obtain ⟨T, tc, rfl, _, _⟩ := ht.reads
  have hb : Below w.heap.size w ((w.alloc (.cells #[.int .u8 o, .int .i64 n, .string s, .slice T xs.length tc] 25)).alloc (.cells #[.int .u8 o, .int .i64 n, .string s, .slice A xs.length c] 25)) := ((Below.refl _ _).alloc (Nat.le_refl _) _).alloc (by simp) _
  have HB := Lib.hid hb
  have H := Lib.hid (h A c base _ bs _ (ht.stay hb) hc (Kd.C_below hr hb))
  clear h ht hr hb
  go_enter Tryz.func9, Tryz.ntmps9
  go_wp2_with fail
  refine H.out.mono ?_
  intro e w2 hp
  obtain ⟨rfl, hb2⟩ := hp
  have HB2 := Lib.hid (HB.out.trans (hb2.mono HB.out.size))
  clear hb2
  go_wp2_with fail
  go_ret
  exact ⟨rfl, HB2.out⟩
set_option maxHeartbeats 4000000 in
set_option maxRecDepth 100000 in
theorem lefts_walk (xs : List S25) (hm : xs.length ≤ 2513169434900) (hi : ∀ y ∈ xs, LeftIs y) : LeftsIs xs := by
  intro A c base tv bs w ht hc hr
  have HT := Lib.hid ht; have HR := Lib.hid hr; have HI := Lib.hid hi
  cases ht with
  | mk _ g tc vs bss hv hbl ho he hn =>
  have hcap := own_cap' ho
  have HO := Lib.hid ho; have HV := Lib.hid hv; have HL := Lib.hid hbl; have HE := Lib.hid he
  obtain ⟨n, hnn⟩ : ∃ n, n = xs.length := ⟨_, rfl⟩
  have HN := Lib.hid hnn
  rw [← hnn] at hc hm hcap
  rw [← hnn]
  clear hr hi hv hbl ho he hn hnn
  have hcp : decide ((tc : Int) ≤ (n : Int)) = false := decide_eq_false (by omega)
  have hcp2 : decide (tc ≤ n) = false := decide_eq_false (by omega)
  go_enter Tryz.func17, Tryz.ntmps17
  go_wp2_with fail
  go_loopw [5] (fun iv wr => ∃ (i : Nat), iv = .int .i64 i ∧ i ≤ n ∧ Hid (Below w.heap.size w wr)) (fun iv _ => n - (intOf iv).toNat)
  case atStart => exact ⟨0, rfl, Nat.zero_le _, Lib.hid (Below.refl _ _)⟩
  case round =>
    obtain ⟨i, rfl, hi, HB⟩ := hrel
    obtain ⟨wo, hwo⟩ : ∃ wo, wo = wr := ⟨_, rfl⟩
    subst hwo
    have hp := Pre.of_own HO.out
    by_cases hlt : i < n
    · have hix : i < xs.length := by rw [← HN.out]; exact hlt
      have hiv : i < vs.length := by rw [HV.out]; exact hix
      have hib : i < bss.length := by rw [HL.out]; exact hix
      have hx : xs[i]? = some xs[i] := List.getElem?_eq_getElem hix
      have hvi : vs[i]? = some vs[i] := List.getElem?_eq_getElem hiv
      have hbi : bss[i]? = some bss[i] := List.getElem?_eq_getElem hib
      have htw := (HE.out i _ _ _ hx hvi hbi).stay HB.out
      obtain ⟨ad, A3, c3, hA, q0, q1, q2, q3, hl3, hC3⟩ := at_T25 (Kd.C_below HR.out HB.out) (i : Int) (by omega) (by omega)
      subst hA
      rw [rdT25 xs i hix] at q0 q1 q2 q3 hl3 hC3
      simp only [Int.toNat_natCast] at q0 q1 q2 q3
      have hel := eCells_len xs vs HV.out
      have hget : ∀ j u, j < 4 → (e4 xs[i] vs[i])[j]? = some u → (eCells xs vs ++ spareE)[i * 4 + j]? = some u := by
        intro j u hj hu
        rw [List.getElem?_append_left (by rw [hel]; omega), eCells_get HV.out hx hvi j hj]
        exact hu
      have t0 := keep_cell HB.out (Nat.le_refl _) (hp.cell _ _ (hget 0 _ (by omega) rfl))
      rw [Nat.add_zero] at t0
      have t1 := keep_cell HB.out (Nat.le_refl _) (hp.cell _ _ (hget 1 _ (by omega) rfl))
      have t2 := keep_cell HB.out (Nat.le_refl _) (hp.cell _ _ (hget 2 _ (by omega) rfl))
      have t3 := keep_cell HB.out (Nat.le_refl _) (hp.cell _ _ (hget 3 _ (by omega) rfl))
      have HY := Lib.hid (HI.out xs[i] (List.getElem_mem hix))
      obtain ⟨Av, cv, hav, _, _⟩ := htw.reads
      rw [hav] at t3 htw
      have HTW := Lib.hid htw
      clear hget htw hx hvi hbi hav hel hp
      generalize xs[i] = y at *
      generalize bss[i] = bsi at *
      have HC3 := Lib.hid hC3; have HL3 := Lib.hid hl3
      clear hC3 hl3
      go_wp2_with fail
      go_region_held3 (fun w' => w'.cell? ⟨g, i * 4, none⟩ = some (.int .u8 y.f0) ∧ w'.cell? ⟨g, i * 4 + 1, none⟩ = some (.int .i64 y.f1) ∧ w'.cell? ⟨g, i * 4 + 2, none⟩ = some (.string y.f2) ∧ w'.cell? ⟨g, i * 4 + 3, none⟩ = some (.slice Av y.f3.length cv) ∧ w'.cell? (ad.add (i * 4)) = some (.int .u8 y.f0) ∧ w'.cell? ⟨(ad.add (i * 4)).block, (ad.add (i * 4)).off + 1, none⟩ = some (.int .i64 y.f1) ∧ w'.cell? ⟨(ad.add (i * 4)).block, (ad.add (i * 4)).off + 2, none⟩ = some (.string y.f2) ∧ w'.cell? ⟨(ad.add (i * 4)).block, (ad.add (i * 4)).off + 3, none⟩ = some (.slice A3 y.f3.length c3)) (first | (exact ⟨xt0, xt1, xt2, xt3, xq0, xq1, xq2, xq3⟩) | go_keep) (first | (go_at_call 9; refine (HY.out A3 c3 base _ bsi wo.drew (HTW.out.kept (fun _ _ => rfl)) HL3.out (Kd.C_below HC3.out (Below.refl wo.heap.size wo).drew)).mono ?_; intro e w2 hp2; obtain ⟨rfl, hb2⟩ := hp2; have xt0 := keep_cell hb2 (Nat.le_refl _) t0; have xt1 := keep_cell hb2 (Nat.le_refl _) t1; have xt2 := keep_cell hb2 (Nat.le_refl _) t2; have xt3 := keep_cell hb2 (Nat.le_refl _) t3; have xq0 := keep_cell hb2 (Nat.le_refl _) q0; have xq1 := keep_cell hb2 (Nat.le_refl _) q1; have xq2 := keep_cell hb2 (Nat.le_refl _) q2; have xq3 := keep_cell hb2 (Nat.le_refl _) q3; have HB2 := Lib.hid (HB.out.drew.trans (hb2.mono HB.out.size)); clear hb2))
      all_goals (go_wp2_with fail; exact ⟨⟨i + 1, by go_num, by omega, HB2⟩, by simp [intOf]; omega⟩)
    · obtain rfl : i = n := by omega
      have hel := eCells_len xs vs HV.out
      rw [← HN.out] at hel hp
      have hget : ∀ j u, spareE[j]? = some u → (eCells xs vs ++ spareE)[i * 4 + j]? = some u := by
        intro j u hu
        rw [List.getElem?_append_right (by omega), hel, Nat.add_sub_cancel_left]
        exact hu
      have t0 := keep_cell HB.out (Nat.le_refl _) (hp.cell _ _ (hget 0 _ rfl))
      rw [Nat.add_zero] at t0
      have t1 := keep_cell HB.out (Nat.le_refl _) (hp.cell _ _ (hget 1 _ rfl))
      have t2 := keep_cell HB.out (Nat.le_refl _) (hp.cell _ _ (hget 2 _ rfl))
      have t3 := keep_cell HB.out (Nat.le_refl _) (hp.cell _ _ (hget 3 _ rfl))
      clear hget hp hel
      go_wp2_with fail
      go_ret
      refine ⟨rfl, ?_⟩
      exact HB.out.alloc HB.out.size _
theorem left_any {x : S25} (h : SmE x) : LeftIs x := by
  induction h with
  | mk o n s xs hl hy ih => exact left_walk _ (lefts_walk xs hl ih)
abbrev Rf := ByteArray × Int
def inR (r : Rf) (l : List Rf) : Bool := l.any fun y => decide (y = r)
def addR (r : Rf) (l : List Rf) : List Rf := if inR r l = true then l else l ++ [r]
mutual
def go1 : S25 → Int → List Rf → List Rf
  | ⟨o, n, s, xs⟩, ago, l => goL xs (if o = 19 then wrap64 (ago + 1) else ago) (if o = 3 then addR (s, ago) l else l)
def goL : List S25 → Int → List Rf → List Rf
  | [], _, l => l
  | x :: r, ago, l => goL r ago (go1 x ago l)
end
theorem goL_append : ∀ (a b : List S25) (ago : Int) (l : List Rf), goL (a ++ b) ago l = goL b ago (goL a ago l)
  | [], b, ago, l => by simp [goL]
  | x :: a, b, ago, l => by simp only [List.cons_append, goL]; exact goL_append a b ago _
/-- how many parts there are. -/
inductive Nodes : S25 → Nat → Prop
  | mk (o n : Int) (s : ByteArray) (xs : List S25) (ns : List Nat) : ns.length = xs.length → (∀ (i : Nat) (y : S25) (m : Nat), xs[i]? = some y → ns[i]? = some m → Nodes y m) → Nodes ⟨o, n, s, xs⟩ (1 + ns.sum)
def encR (r : Rf) : Value := .agg #[.string r.1, .int .i64 r.2]
def okR (r : Rf) : Prop := r.1.size ≤ maxLen ∧ -9223372036854775808 ≤ r.2 ∧ r.2 ≤ 9223372036854775807
theorem encR_inj (a b : Rf) (h : encR a = encR b) : a = b := by
  unfold encR at h
  injection h with h
  have h1 := congrArg (fun l : Array Value => l[0]?) h
  have h2 := congrArg (fun l : Array Value => l[1]?) h
  simp at h1 h2
  exact Prod.ext h1 h2
theorem laidOutT : laidOutB Tryz.prog = true := by kernel_rfl
theorem keyed60 : Go.Maps.Keyed Tryz.prog 60 := Go.Maps.Keyed.of_law (Go.deep_law_laid (m := 2) laidOutT (by decide) (of_decide_eq_true (by kernel_rfl)) (by kernel_rfl) (by kernel_rfl))
theorem wf64 {n : Int} (h0 : -9223372036854775808 ≤ n) (h1 : n ≤ 9223372036854775807) : (Lit.int .i64 n).wf = true := by
  simp [Lit.wf, IntKind.min, IntKind.max, IntKind.bits, IntKind.signed]
  omega
theorem lits60 (m : Nat) (r : Rf) (h : okR r) : Tryz.prog.keyLits (m + 2) 60 (encR r).cells.toList = some [.string r.1.data.toList, .int .i64 r.2] := by
  have c51 : Tryz.prog.cellsOf 60 = 2 := by kernel_rfl
  have c9 : Tryz.prog.cellsOf 9 = 1 := by kernel_rfl
  have c3 : Tryz.prog.cellsOf 3 = 1 := by kernel_rfl
  have hw := wf64 h.2.1 h.2.2
  have h1 := h.1
  simp [Program.keyLits, Tryz.underlying60, Tryz.underlying9, Tryz.underlying3, encR, Value.cells, c51, c9, c3, hw, h1]
theorem key60 (r : Rf) (h : okR r) : ∃ l, keyOf Tryz.prog 60 (encR r) = some l := by
  have hf : (Tryz.prog.keyType 60 && (encR r).formed Tryz.prog 60) = true := by kernel_rfl
  obtain ⟨m, hm⟩ : ∃ m, Tryz.prog.types.size + 1 = m + 2 := ⟨Tryz.prog.types.size - 1, by have : 2 ≤ Tryz.prog.types.size := of_decide_eq_true (by kernel_rfl); omega⟩
  refine ⟨.string (keyBytes [.string r.1.data.toList, .int .i64 r.2]), ?_⟩
  unfold keyOf
  rw [Tryz.underlying60]
  simp only []
  rw [if_pos hf, hm, lits60 m r h]
  rfl
def rfCells (l : List Rf) : List Value := l.flatMap fun r => [.string r.1, .int .i64 r.2]
/-- while it runs: l is what was found so far; k1 its variable, k2 the map, k3 the map's variable, k4 the function's own. -/
structure RfS (w0 W : World) (k1 k2 k3 k4 : Nat) (l : List Rf) : Prop where
  self : W.heap[k4]? = some (.cells #[.func (.func 15) #[] #[.pointer (some ⟨k3, 0, none⟩), .pointer (some ⟨k1, 0, none⟩), .pointer (some ⟨k4, 0, none⟩)]] 58 (0, 0))
  mp : W.heap[k3]? = some (.cells #[.map (some k2)] 57 (0, 0))
  mapE : MapG.MapE encR okR W k2 (fun r => if inR r l = true then some (.bool true) else none)
  row : ∃ v, W.heap[k1]? = some (.cells #[v] 28 (0, 0)) ∧ W.ownsRow w0.heap.size 60 2 v l.length (rfCells l) ∧ ∀ q, v.ownBlock = some q → q ≠ k1 ∧ q ≠ k2 ∧ q ≠ k3 ∧ q ≠ k4
  bel : Below w0.heap.size w0 W
  ge : w0.heap.size ≤ k1 ∧ w0.heap.size ≤ k2 ∧ w0.heap.size ≤ k3 ∧ w0.heap.size ≤ k4
  ne : k1 ≠ k2 ∧ k1 ≠ k3 ∧ k1 ≠ k4 ∧ k2 ≠ k3 ∧ k2 ≠ k4 ∧ k3 ≠ k4
theorem RfS.stay {w0 W W' : World} {k1 k2 k3 k4 : Nat} {l : List Rf} (h : RfS w0 W k1 k2 k3 k4 l) (hb : Below W.heap.size W W') : RfS w0 W' k1 k2 k3 k4 l := by
  obtain ⟨v, r1, r2, r3⟩ := h.row
  have l4 := (Array.getElem?_eq_some_iff.1 h.self).1
  have l3 := (Array.getElem?_eq_some_iff.1 h.mp).1
  have l1 := (Array.getElem?_eq_some_iff.1 r1).1
  exact ⟨(hb.block _ l4).trans h.self, (hb.block _ l3).trans h.mp, h.mapE.move (hb.block _ h.mapE.lt), ⟨v, (hb.block _ l1).trans r1, own_kept r2 (fun k hk => hb.block k (own_lt r2 k hk)), r3⟩, h.bel.trans (hb.mono h.bel.size), h.ge, h.ne⟩
/-- the inner function, of a tree of m parts. -/
def Go1Is (x : S25) : Prop := WfE x → ∀ (m : Nat), Nodes x m → ∀ (A : Option Addr) (c : Nat) (ago : Int) (l : List Rf) (k1 k2 k3 k4 : Nat) (w0 W : World), -9223372036854775808 ≤ ago → ago ≤ 9223372036854775807 → l.length + m ≤ 2000000 → x.f3.length ≤ c → Kd.C k25 w0 A x.f3.length x.f3 → RfS w0 W k1 k2 k3 k4 l →
  Calls Tryz.prog 15 #[.agg #[.int .u8 x.f0, .int .i64 x.f1, .string x.f2, .slice A x.f3.length c], .int .i64 ago, .pointer (some ⟨k3, 0, none⟩), .pointer (some ⟨k1, 0, none⟩), .pointer (some ⟨k4, 0, none⟩)] W fun e W' => e = .returned (.tuple #[]) ∧ RfS w0 W' k1 k2 k3 k4 (go1 x ago l) ∧ (go1 x ago l).length ≤ l.length + m ∧ W.heap.size ≤ W'.heap.size
theorem cell_one {w : World} {b : Nat} {v : Value} {t : TypeId} (h : w.heap[b]? = some (.cells #[v] t (0, 0))) : w.cell? ⟨b, 0, none⟩ = some v := by simp [World.cell?, h]
theorem Nodes.pos {x : S25} {m : Nat} (h : Nodes x m) : 1 ≤ m := by cases h; omega
theorem len_le_sum : ∀ (ns : List Nat), (∀ m ∈ ns, 1 ≤ m) → ns.length ≤ ns.sum
  | [], _ => by simp
  | m :: r, h => by
    have := len_le_sum r (fun k hk => h k (List.mem_cons_of_mem _ hk))
    have := h m (List.mem_cons_self)
    simp only [List.length_cons, List.sum_cons]
    omega
theorem WfE.kids {o n : Int} {s : ByteArray} {xs : List S25} (h : WfE ⟨o, n, s, xs⟩) : ∀ y ∈ xs, WfE y := by cases h; assumption
theorem WfE.text {o n : Int} {s : ByteArray} {xs : List S25} (h : WfE ⟨o, n, s, xs⟩) : s.size ≤ 140737488351232 := by cases h; assumption
theorem zero4 (w : World) : (zeroValue 4).run Tryz.prog w = .ok (.bool false) w := by kernel_rfl
theorem cell_two {w : World} {b : Nat} {v u : Value} {t : TypeId} (h : w.heap[b]? = some (.cells #[v, u] t (0, 0))) : w.cell? ⟨b, 0, none⟩ = some v ∧ w.cell? ⟨b, 1, none⟩ = some u := by simp [World.cell?, h]
theorem info60 : (Tryz.prog.info? 60).map (fun i => (i.zero, i.size, i.bytes)) = some (some (.agg #[(.string ⟨#[]⟩), (.int .i64 0)]), 2, 24) := by kernel_rfl
theorem rfCells_snoc (l : List Rf) (r : Rf) : rfCells (l ++ [r]) = rfCells l ++ [.string r.1, .int .i64 r.2] := by simp [rfCells]
theorem inR_snoc (l : List Rf) (r a : Rf) : inR a (l ++ [r]) = (inR a l || decide (r = a)) := by simp [inR]
theorem own_base {w : World} {base : Nat} {e : TypeId} {size n : Nat} {v : Value} {xs : List Value} (h : w.ownsRow base e size v n xs) (k : Nat) (hk : v.ownBlock = some k) : base ≤ k := by
  rcases h.2 with ⟨rfl, _⟩ | ⟨g, cap, cur, rfl, hb, hh, _⟩
  · simp [Value.ownBlock] at hk
  · have : g = k := by simpa [Value.ownBlock] using hk
    omega
/-- behind the map's update, the append and the store. -/
theorem RfS.put {w0 W w7 w8 : World} {k1 k2 k3 k4 : Nat} {l : List Rf} {r : Rf} {v v1 : Value} (h : RfS w0 W k1 k2 k3 k4 l)
    (hv : W.heap[k1]? = some (.cells #[v] 28 (0, 0))) (hr3 : ∀ q, v.ownBlock = some q → q ≠ k1 ∧ q ≠ k2 ∧ q ≠ k3 ∧ q ≠ k4) (h0 : ∀ q, v.ownBlock = some q → w0.heap.size ≤ q)
    (hm : MapG.MapE encR okR w7 k2 (fun k => if k = r then some (.bool true) else (if inR k l = true then some (.bool true) else none))) (hg7 : W.grownBy w7 (some k2))
    (ho : w8.ownsRow w0.heap.size 60 2 v1 (l.length + 1) (rfCells l ++ [.string r.1, .int .i64 r.2]))
    (hat : (v1.ownBlock = v.ownBlock ∧ w7.grownBy w8 v.ownBlock) ∨ (∃ q, v1.ownBlock = some q ∧ w7.heap.size ≤ q ∧ w7.grownBy w8 none)) :
    w8.cell? ⟨k1, 0, none⟩ = some v ∧ w8.frozen? ⟨k1, 0, none⟩ = false ∧ RfS w0 (w8.setCell ⟨k1, 0, none⟩ v1) k1 k2 k3 k4 (l ++ [r]) := by
  have hl1 := (Array.getElem?_eq_some_iff.1 hv).1
  have hl4 := (Array.getElem?_eq_some_iff.1 h.self).1
  have hl3 := (Array.getElem?_eq_some_iff.1 h.mp).1
  have e71 := (hg7.block k1 hl1 (fun e => h.ne.1 (Option.some.inj e))).trans hv
  have e73 := (hg7.block k3 hl3 (fun e => h.ne.2.2.2.1 (Option.some.inj e).symm)).trans h.mp
  have e74 := (hg7.block k4 hl4 (fun e => h.ne.2.2.2.2.1 (Option.some.inj e).symm)).trans h.self
  have hs7 := hg7.size
  have hk2 := hm.lt
  obtain ⟨row, g8, hq, hq0⟩ : ∃ row, w7.grownBy w8 row ∧ (∀ q, row = some q → q ≠ k1 ∧ q ≠ k2 ∧ q ≠ k3 ∧ q ≠ k4) ∧ (∀ q, row = some q → w0.heap.size ≤ q) := by
    rcases hat with ⟨_, hg⟩ | ⟨q, _, _, hg⟩
    · exact ⟨v.ownBlock, hg, hr3, h0⟩
    · exact ⟨none, hg, (fun q hq => by cases hq), (fun q hq => by cases hq)⟩
  have e81 := (g8.block k1 (by omega) (fun e => (hq k1 e.symm).1 rfl)).trans e71
  have e82 := g8.block k2 hk2 (fun e => (hq k2 e.symm).2.1 rfl)
  have e83 := (g8.block k3 (by omega) (fun e => (hq k3 e.symm).2.2.1 rfl)).trans e73
  have e84 := (g8.block k4 (by omega) (fun e => (hq k4 e.symm).2.2.2 rfl)).trans e74
  have hne : ∀ q, v1.ownBlock = some q → q ≠ k1 ∧ q ≠ k2 ∧ q ≠ k3 ∧ q ≠ k4 := by
    intro q h1
    rcases hat with ⟨h2, _⟩ | ⟨q', h2, h3, _⟩
    · exact hr3 q (by rw [← h2]; exact h1)
    · rw [h2] at h1; injection h1 with h1; omega
  have hset : ∀ k, k ≠ k1 → (w8.setCell ⟨k1, 0, none⟩ v1).heap[k]? = w8.heap[k]? := fun k hk => by
    simp only [World.setCell]
    rw [Array.getElem?_modify, if_neg (fun e => hk e.symm)]
  have hB7 : Below w0.heap.size w0 w7 := by
    refine ⟨hg7.os.trans h.bel.os, hg7.tape.trans h.bel.tape, hg7.output.trans h.bel.output, Nat.le_trans h.bel.size hg7.size, fun k hk => ?_⟩
    exact (hg7.block k (Nat.lt_of_lt_of_le hk h.bel.size) (fun e => by have := Option.some.inj e; have := h.ge.2.1; omega)).trans (h.bel.block k hk)
  have hB8 : Below w0.heap.size w0 w8 := by
    refine ⟨g8.os.trans hB7.os, g8.tape.trans hB7.tape, g8.output.trans hB7.output, Nat.le_trans hB7.size g8.size, fun k hk => ?_⟩
    refine (g8.block k (Nat.lt_of_lt_of_le hk hB7.size) (fun e => ?_)).trans (hB7.block k hk)
    have := hq0 k e.symm
    omega
  refine ⟨cell_one e81, by simp [World.frozen?, e81], ?_⟩
  refine ⟨(hset k4 h.ne.2.2.1.symm).trans e84, (hset k3 h.ne.2.1.symm).trans e83, ?_, ⟨v1, ?_, ?_, hne⟩, hB8.setCell (p := ⟨k1, 0, none⟩) h.ge.1 _, h.ge, h.ne⟩
  · have := hm.move ((hset k2 h.ne.1.symm).trans e82)
    have hf : (fun k => if k = r then some (Value.bool true) else (if inR k l = true then some (Value.bool true) else none)) = fun k => if inR k (l ++ [r]) = true then some (Value.bool true) else none := by
      funext k
      rw [inR_snoc]
      by_cases hk : k = r
      · subst hk; simp
      · rw [if_neg hk]
        have : decide (r = k) = false := decide_eq_false (fun e => hk e.symm)
        rw [this, Bool.or_false]
    rw [hf] at this
    exact this
  · simp [World.setCell, Array.getElem?_modify, e81]
  · rw [rfCells_snoc, List.length_append]
    exact own_kept ho (fun k hk => hset k (hne k hk).1)
theorem sum_take {ns : List Nat} {i : Nat} (h : i < ns.length) : (ns.take (i + 1)).sum = (ns.take i).sum + ns[i] := by
  rw [List.take_succ_eq_append_getElem h, List.sum_append]; simp
theorem sum_take_le (ns : List Nat) (i : Nat) : (ns.take i).sum ≤ ns.sum := by
  have := congrArg List.sum (List.take_append_drop i ns)
  rw [List.sum_append] at this
  omega
theorem goL_take {xs : List S25} {i : Nat} (h : i < xs.length) (ago : Int) (l : List Rf) : goL (xs.take (i + 1)) ago l = go1 xs[i] ago (goL (xs.take i) ago l) := by
  rw [List.take_succ_eq_append_getElem h, goL_append]
  simp [goL]
/-- a block that is none of these is kept. -/
theorem far_kept {W w7 w8 : World} {k1 k2 b : Nat} {v v1 u : Value} (hg7 : W.grownBy w7 (some k2)) (hat : (v1.ownBlock = v.ownBlock ∧ w7.grownBy w8 v.ownBlock) ∨ (∃ q, v1.ownBlock = some q ∧ w7.heap.size ≤ q ∧ w7.grownBy w8 none))
    (hb : b < W.heap.size) (h1 : b ≠ k1) (h2 : b ≠ k2) (h3 : ∀ q, v.ownBlock = some q → q ≠ b) : (w8.setCell ⟨k1, 0, none⟩ u).heap[b]? = W.heap[b]? := by
  have e7 := hg7.block b hb (fun e => h2 (Option.some.inj e))
  have hs := hg7.size
  have e8 : w8.heap[b]? = w7.heap[b]? := by
    rcases hat with ⟨_, hg⟩ | ⟨q, _, _, hg⟩
    · exact hg.block b (by omega) (fun e => h3 b e.symm rfl)
    · exact hg.block b (by omega) (fun e => by cases e)
  simp only [World.setCell]
  rw [Array.getElem?_modify, if_neg (fun e => h1 e.symm), e8, e7]
set_option maxHeartbeats 8000000 in
set_option maxRecDepth 100000 in
theorem go1_walk (x : S25) (hx : ∀ y ∈ x.f3, Go1Is y) : Go1Is x := by
  intro hwf m hm A c ago l k1 k2 k3 k4 w0 W ha0 ha1 hlm hc hC hS
  obtain ⟨o, n, s, xs⟩ := x
  dsimp only at hx hc hC ⊢
  have hkid := hwf.kids
  have hsz := hwf.text
  obtain ⟨ns, hns, hnl, rfl⟩ : ∃ ns : List Nat, (∀ (i : Nat) (y : S25) (m : Nat), xs[i]? = some y → ns[i]? = some m → Nodes y m) ∧ ns.length = xs.length ∧ m = 1 + ns.sum := by
    cases hm with
    | mk o n s xs ns h1 h2 => exact ⟨ns, h2, h1, rfl⟩
  have hlen : xs.length ≤ 2000000 := by
    have := len_le_sum ns (fun m hm => by
      obtain ⟨j, hj, rfl⟩ := List.getElem_of_mem hm
      exact (hns j xs[j] ns[j] (List.getElem?_eq_getElem (by omega)) (List.getElem?_eq_getElem hj)).pos)
    omega
  obtain ⟨N, hN⟩ : ∃ N, N = xs.length := ⟨_, rfl⟩
  have HKID := Lib.hid hkid; have HC := Lib.hid hC; have HX := Lib.hid hx; have HNS := Lib.hid hns; have HNL := Lib.hid hnl; have HN := Lib.hid hN
  have hb2 : Below W.heap.size W ((W.alloc (.cells #[.int .u8 o, .int .i64 n, .string s, .slice A xs.length c] 25)).alloc (.cells #[.string s, .int .i64 ago] 60)) := ((Below.refl _ _).alloc (Nat.le_refl _) _).alloc (by simp) _
  have HS := Lib.hid (hS.stay hb2)
  have HSZ := Lib.hid hb2.size
  have hk2 := hS.mapE.lt
  have hk1 : k1 < W.heap.size := by obtain ⟨v, r1, _, _⟩ := hS.row; exact (Array.getElem?_eq_some_iff.1 r1).1
  have hrow : ∀ v, ((W.alloc (.cells #[.int .u8 o, .int .i64 n, .string s, .slice A xs.length c] 25)).alloc (.cells #[.string s, .int .i64 ago] 60)).heap[k1]? = some (.cells #[v] 28 (0, 0)) → ∀ q, v.ownBlock = some q → q < W.heap.size := by
    intro v hv q hq
    obtain ⟨v0, s1, s2, s3⟩ := hS.row
    have h1 := (hb2.block k1 hk1).trans s1
    rw [hv] at h1
    injection h1 with h1
    injection h1 with h1 _ _
    have h2 : v = v0 := by simpa using h1
    subst h2
    exact own_lt s2 q hq
  have HROW := Lib.hid hrow
  rw [← hN] at hc HS HSZ hlen HROW ⊢
  clear hrow
  clear hC hx hm hS hb2 hns hnl hN hkid hwf
  by_cases h3 : o = 3
  · subst h3
    have HL1 : Hid (go1 ⟨3, n, s, xs⟩ ago l = goL xs ago (addR (s, ago) l)) := Lib.hid (by simp only [go1]; rfl)
    have hok : okR (s, ago) := ⟨by unfold maxLen; show s.size ≤ _; omega, ha0, ha1⟩
    have hlk := MapG.run_lookup Tryz.underlying57 keyed60 (zero4 _) encR_inj key60 HS.out.mapE (s, ago) hok false
    have hc3 := cell_one HS.out.mp
    cases hin : inR (s, ago) l with
    | true =>
      rw [hin] at hlk
      replace hlk : (Instr.lookup 57 (.map (some k2)) (.agg #[.string s, .int .i64 ago]) false).run Tryz.prog _ = .ok (.bool true) _ := hlk
      have HIN := Lib.hid hin
      have HG : Hid (go1 ⟨3, n, s, xs⟩ ago l = goL xs ago l) := Lib.hid (by rw [HL1.out]; unfold addR; rw [if_pos hin])
      clear hin
      go_enter Tryz.func15, Tryz.ntmps15
      go_wp2_with fail
      clear hlk hc3
      go_loopw [37] (fun v37 wr => ∃ (i : Nat), v37 = .int .i64 i ∧ i ≤ N ∧ Hid (RfS w0 wr k1 k2 k3 k4 (goL (xs.take i) ago l)) ∧ Hid ((goL (xs.take i) ago l).length ≤ l.length + (ns.take i).sum) ∧ Hid (W.heap.size ≤ wr.heap.size)) (fun v37 _ => N - (intOf v37).toNat)
      case atStart => exact ⟨0, rfl, Nat.zero_le _, HS, Lib.hid (by simp [goL]), HSZ⟩
      case round =>
        clear HS HSZ
        obtain ⟨i, rfl, hi, HS, HLN, HSZ⟩ := hrel
        by_cases hlt : i < N
        · have hix : i < xs.length := by rw [← HN.out]; exact hlt
          obtain ⟨ad, A3, c3, hA, p0, p1, p2, p3, hl3, hC3⟩ := at_T25 HC.out (i : Int) (by omega) (by have := HN.out; omega)
          subst hA
          rw [rdT25 xs i hix] at p0 p1 p2 p3 hl3 hC3
          simp only [Int.toNat_natCast] at p0 p1 p2 p3
          have q0 := keep_cell HS.out.bel (Nat.le_refl _) p0
          have q1 := keep_cell HS.out.bel (Nat.le_refl _) p1
          have q2 := keep_cell HS.out.bel (Nat.le_refl _) p2
          have q3 := keep_cell HS.out.bel (Nat.le_refl _) p3
          have hix2 : i < ns.length := by rw [HNL.out]; exact hix
          have hnod : Nodes xs[i] ns[i] := HNS.out i _ _ (List.getElem?_eq_getElem hix) (List.getElem?_eq_getElem hix2)
          have hst := sum_take hix2
          have hsl := sum_take_le ns (i + 1)
          have htk := goL_take hix ago l
          have HY := Lib.hid (HX.out xs[i] (List.getElem_mem hix) (HKID.out _ (List.getElem_mem hix)) ns[i] hnod)
          have HTK := Lib.hid htk
          clear p0 p1 p2 p3 htk hnod
          generalize xs[i] = y at *
          generalize ns[i] = my at *
          obtain ⟨L, hL⟩ : ∃ L, L = goL (xs.take i) ago l := ⟨_, rfl⟩
          rw [← hL] at HS HLN HTK
          have hHLN := HLN.out
          have hb3 : Below wr.heap.size wr (wr.alloc (.cells #[.int .u8 y.f0, .int .i64 y.f1, .string y.f2, .slice A3 y.f3.length c3] 25)) := (Below.refl _ _).alloc (Nat.le_refl _) _
          have hs3 := HS.out.stay hb3
          have hc4 := cell_one hs3.self
          have HB3 := Lib.hid hb3; have HS3 := Lib.hid hs3
          have HY2 := Lib.hid (HY.out A3 c3 ago L k1 k2 k3 k4 w0 _ ha0 ha1 (by omega) hl3 hC3 hs3)
          clear hb3 hs3 HY hl3 hC3 HS hL HLN
          go_wp2_with fail
          refine HY2.out.mono ?_
          rintro e w2 ⟨rfl, hs2, hl2, hz2⟩
          have HS2 := Lib.hid hs2; have HZ2 := Lib.hid hz2
          clear hs2 hz2 HY2
          go_wp2_with fail
          exact ⟨⟨i + 1, by go_num, by omega, Lib.hid (by rw [HTK.out]; exact HS2.out), Lib.hid (by rw [HTK.out]; omega), Lib.hid (by have := HSZ.out; have := HZ2.out; have := HB3.out.size; omega)⟩, by simp [intOf]; omega⟩
        · obtain rfl : i = N := by omega
          have htk : xs.take i = xs := List.take_of_length_le (by have := HN.out; omega)
          have hsl := sum_take_le ns i
          rw [htk] at HS HLN
          have hHLN := HLN.out
          go_wp2_with fail
          go_end0
          exact ⟨rfl, by rw [HG.out]; exact HS.out, by rw [HG.out]; omega, HSZ.out⟩
    | false =>
      rw [hin] at hlk
      replace hlk : (Instr.lookup 57 (.map (some k2)) (.agg #[.string s, .int .i64 ago]) false).run Tryz.prog _ = .ok (.bool false) _ := hlk
      have HIN := Lib.hid hin
      have HG : Hid (go1 ⟨3, n, s, xs⟩ ago l = goL xs ago (l ++ [(s, ago)])) := Lib.hid (by rw [HL1.out]; unfold addR; rw [if_neg (by rw [hin]; simp)])
      obtain ⟨v, r1, r2, r3⟩ := HS.out.row
      obtain ⟨Av, cv, rfl⟩ := own_slice r2
      have HR1 := Lib.hid r1; have HR2 := Lib.hid r2; have HR3 := Lib.hid r3
      have hbx := heap_alloc_new (W.alloc (.cells #[.int .u8 3, .int .i64 n, .string s, .slice A N c] 25)) (.cells #[.string s, .int .i64 ago] 60)
      have HBX := Lib.hid hbx
      have HB4 : Hid (((W.alloc (.cells #[.int .u8 3, .int .i64 n, .string s, .slice A N c] 25)).alloc (.cells #[.string s, .int .i64 ago] 60)).heap[W.heap.size]? = some (.cells #[.int .u8 3, .int .i64 n, .string s, .slice A N c] 25 (0, 0))) := Lib.hid (((Below.refl _ (W.alloc (.cells #[.int .u8 3, .int .i64 n, .string s, .slice A N c] 25))).alloc (Nat.le_refl _) _).block _ (by simp) |>.trans (heap_alloc_new W _))
      have fx : ∀ w7, ((W.alloc (.cells #[.int .u8 3, .int .i64 n, .string s, .slice A N c] 25)).alloc (.cells #[.string s, .int .i64 ago] 60)).grownBy w7 (some k2) → w7.cell? ⟨k1, 0, none⟩ = some (.slice Av l.length cv) ∧ w7.cell? ⟨W.heap.size + 1, 0, none⟩ = some (.string s) ∧ w7.cell? ⟨W.heap.size + 1, 1, none⟩ = some (.int .i64 ago) ∧ w7.ownsRow w0.heap.size 60 2 (.slice Av l.length cv) l.length (rfCells l) ∧ w0.heap.size ≤ w7.heap.size := by
        intro w7 hg7
        have h71 := (hg7.block k1 (Array.getElem?_eq_some_iff.1 r1).1 (fun e => HS.out.ne.1 (Option.some.inj e))).trans r1
        have hbx2 := hbx
        rw [show (W.alloc (.cells #[.int .u8 3, .int .i64 n, .string s, .slice A N c] 25)).heap.size = W.heap.size + 1 by simp] at hbx2
        have h72 := (hg7.block (W.heap.size + 1) (by simp) (fun e => by have := Option.some.inj e; omega)).trans hbx2
        obtain ⟨d2, d3⟩ := cell_two h72
        exact ⟨cell_one h71, d2, d3, own_kept r2 (fun q hq => hg7.block q (own_lt r2 q hq) (fun e => (r3 q hq).2.1 (Option.some.inj e))), Nat.le_trans HS.out.bel.size hg7.size⟩
      have fy : ∀ (w7 w8 : World) (v1 u : Value), ((W.alloc (.cells #[.int .u8 3, .int .i64 n, .string s, .slice A N c] 25)).alloc (.cells #[.string s, .int .i64 ago] 60)).grownBy w7 (some k2) → ((v1.ownBlock = (Value.slice Av l.length cv).ownBlock ∧ w7.grownBy w8 (Value.slice Av l.length cv).ownBlock) ∨ (∃ q, v1.ownBlock = some q ∧ w7.heap.size ≤ q ∧ w7.grownBy w8 none)) →
          (w8.setCell ⟨k1, 0, none⟩ u).cell? ⟨W.heap.size, 0, none⟩ = some (.int .u8 3) ∧ (w8.setCell ⟨k1, 0, none⟩ u).cell? ⟨W.heap.size, 1, none⟩ = some (.int .i64 n) ∧ (w8.setCell ⟨k1, 0, none⟩ u).cell? ⟨W.heap.size, 2, none⟩ = some (.string s) ∧ (w8.setCell ⟨k1, 0, none⟩ u).cell? ⟨W.heap.size, 3, none⟩ = some (.slice A N c) := by
        intro w7 w8 v1 u hg7 hat
        exact box_cells ((far_kept hg7 hat (by simp; omega) (by omega) (by omega) (fun q hq => by have := HROW.out _ r1 q hq; omega)).trans HB4.out)
      have FY := Lib.hid fy
      have FX := Lib.hid fx
      clear hin r1 r2 r3 hbx fx fy
      go_enter Tryz.func15, Tryz.ntmps15
      go_wp2_with (first | (at_mapUpdate; refine MapG.wpList_upd rfl _ _ _ rfl Tryz.underlying57 keyed60 encR_inj key60 HS.out.mapE (s, ago) hok (.bool true) rfl rfl rfl ?_; intro w7 hm7 hg7; obtain ⟨d1, d2, d3, d4, d5⟩ := FX.out w7 hg7; have HO7 := Lib.hid d4; clear d4; have HM7 := Lib.hid hm7; have HG7 := Lib.hid hg7; clear hm7 hg7) | (at_builtin; refine wp_append_two (W := w7) w0.heap.size rfl _ _ 28 60 (.agg #[(.string ⟨#[]⟩), (.int .i64 0)]) 2 24 rfl Tryz.underlying28 info60 rfl (by decide) (by decide) (.slice Av l.length cv) l.length (rfCells l) [.string s, .int .i64 ago] rfl rfl rfl (by simp [Value.oneCell']) HO7.out (by omega) (by omega) ?_; intro v1 w8 hown8 hat8; obtain ⟨A8, c8, hv8⟩ := own_slice hown8; subst hv8; obtain ⟨f1, f2, f3⟩ := HS.out.put (r := (s, ago)) HR1.out HR3.out (own_base HR2.out) HM7.out HG7.out hown8 hat8; obtain ⟨e0, e1, e2, e3⟩ := FY.out w7 w8 _ (.slice A8 (l.length + 1) c8) HG7.out hat8; have HF3 := Lib.hid f3; clear f3 hown8 hat8))
      have HSZ3 : Hid (W.heap.size ≤ (w8.setCell ⟨k1, 0, none⟩ (.slice A8 (l.length + 1) c8)).heap.size) := Lib.hid (Nat.le_of_lt (cell_lt e0))
      clear hlk hc3
      go_loopw [37] (fun v37 wr => ∃ (i : Nat), v37 = .int .i64 i ∧ i ≤ N ∧ Hid (RfS w0 wr k1 k2 k3 k4 (goL (xs.take i) ago (l ++ [(s, ago)]))) ∧ Hid ((goL (xs.take i) ago (l ++ [(s, ago)])).length ≤ l.length + 1 + (ns.take i).sum) ∧ Hid (W.heap.size ≤ wr.heap.size)) (fun v37 _ => N - (intOf v37).toNat)
      case atStart => exact ⟨0, rfl, Nat.zero_le _, HF3, Lib.hid (by simp [goL]), HSZ3⟩
      case round =>
        clear HS HSZ
        obtain ⟨i, rfl, hi, HS, HLN, HSZ⟩ := hrel
        by_cases hlt : i < N
        · have hix : i < xs.length := by rw [← HN.out]; exact hlt
          obtain ⟨ad, A3, c3, hA, p0, p1, p2, p3, hl3, hC3⟩ := at_T25 HC.out (i : Int) (by omega) (by have := HN.out; omega)
          subst hA
          rw [rdT25 xs i hix] at p0 p1 p2 p3 hl3 hC3
          simp only [Int.toNat_natCast] at p0 p1 p2 p3
          have q0 := keep_cell HS.out.bel (Nat.le_refl _) p0
          have q1 := keep_cell HS.out.bel (Nat.le_refl _) p1
          have q2 := keep_cell HS.out.bel (Nat.le_refl _) p2
          have q3 := keep_cell HS.out.bel (Nat.le_refl _) p3
          have hix2 : i < ns.length := by rw [HNL.out]; exact hix
          have hnod : Nodes xs[i] ns[i] := HNS.out i _ _ (List.getElem?_eq_getElem hix) (List.getElem?_eq_getElem hix2)
          have hst := sum_take hix2
          have hsl := sum_take_le ns (i + 1)
          have htk := goL_take hix ago (l ++ [(s, ago)])
          have HY := Lib.hid (HX.out xs[i] (List.getElem_mem hix) (HKID.out _ (List.getElem_mem hix)) ns[i] hnod)
          have HTK := Lib.hid htk
          clear p0 p1 p2 p3 htk hnod
          generalize xs[i] = y at *
          generalize ns[i] = my at *
          obtain ⟨L, hL⟩ : ∃ L, L = goL (xs.take i) ago (l ++ [(s, ago)]) := ⟨_, rfl⟩
          rw [← hL] at HS HLN HTK
          have hHLN := HLN.out
          have hb3 : Below wr.heap.size wr (wr.alloc (.cells #[.int .u8 y.f0, .int .i64 y.f1, .string y.f2, .slice A3 y.f3.length c3] 25)) := (Below.refl _ _).alloc (Nat.le_refl _) _
          have hs3 := HS.out.stay hb3
          have hc4 := cell_one hs3.self
          have HB3 := Lib.hid hb3; have HS3 := Lib.hid hs3
          have HY2 := Lib.hid (HY.out A3 c3 ago L k1 k2 k3 k4 w0 _ ha0 ha1 (by omega) hl3 hC3 hs3)
          clear hb3 hs3 HY hl3 hC3 HS hL HLN
          go_wp2_with fail
          refine HY2.out.mono ?_
          rintro e w2 ⟨rfl, hs2, hl2, hz2⟩
          have HS2 := Lib.hid hs2; have HZ2 := Lib.hid hz2
          clear hs2 hz2 HY2
          go_wp2_with fail
          exact ⟨⟨i + 1, by go_num, by omega, Lib.hid (by rw [HTK.out]; exact HS2.out), Lib.hid (by rw [HTK.out]; omega), Lib.hid (by have := HSZ.out; have := HZ2.out; have := HB3.out.size; omega)⟩, by simp [intOf]; omega⟩
        · obtain rfl : i = N := by omega
          have htk : xs.take i = xs := List.take_of_length_le (by have := HN.out; omega)
          have hsl := sum_take_le ns i
          rw [htk] at HS HLN
          have hHLN := HLN.out
          go_wp2_with fail
          go_end0
          exact ⟨rfl, by rw [HG.out]; exact HS.out, by rw [HG.out]; omega, HSZ.out⟩
  · have g1 : (o == 3) = false := by simpa using h3
    have g2 : decide (o = 3) = false := decide_eq_false h3
    have HL1 : Hid ((if o = 3 then addR (s, ago) l else l) = l) := Lib.hid (if_neg h3)
    by_cases h19 : o = 19
    · subst h19
      have hw0 : -9223372036854775808 ≤ wrap64 (ago + 1) := by unfold wrap64; omega
      have hw1 : wrap64 (ago + 1) ≤ 9223372036854775807 := by unfold wrap64; omega
      have HG : Hid (go1 ⟨19, n, s, xs⟩ ago l = goL xs (wrap64 (ago + 1)) l) := Lib.hid (by simp only [go1]; rw [if_neg h3]; rfl)
      go_enter Tryz.func15, Tryz.ntmps15
      go_wp2_with fail
      go_loopw [37] (fun v37 wr => ∃ (i : Nat), v37 = .int .i64 i ∧ i ≤ N ∧ Hid (RfS w0 wr k1 k2 k3 k4 (goL (xs.take i) (wrap64 (ago + 1)) l)) ∧ Hid ((goL (xs.take i) (wrap64 (ago + 1)) l).length ≤ l.length + (ns.take i).sum) ∧ Hid (W.heap.size ≤ wr.heap.size)) (fun v37 _ => N - (intOf v37).toNat)
      case atStart => exact ⟨0, rfl, Nat.zero_le _, HS, Lib.hid (by simp [goL]), HSZ⟩
      case round =>
        clear HS HSZ
        obtain ⟨i, rfl, hi, HS, HLN, HSZ⟩ := hrel
        by_cases hlt : i < N
        · have hix : i < xs.length := by rw [← HN.out]; exact hlt
          obtain ⟨ad, A3, c3, hA, p0, p1, p2, p3, hl3, hC3⟩ := at_T25 HC.out (i : Int) (by omega) (by have := HN.out; omega)
          subst hA
          rw [rdT25 xs i hix] at p0 p1 p2 p3 hl3 hC3
          simp only [Int.toNat_natCast] at p0 p1 p2 p3
          have q0 := keep_cell HS.out.bel (Nat.le_refl _) p0
          have q1 := keep_cell HS.out.bel (Nat.le_refl _) p1
          have q2 := keep_cell HS.out.bel (Nat.le_refl _) p2
          have q3 := keep_cell HS.out.bel (Nat.le_refl _) p3
          have hix2 : i < ns.length := by rw [HNL.out]; exact hix
          have hnod : Nodes xs[i] ns[i] := HNS.out i _ _ (List.getElem?_eq_getElem hix) (List.getElem?_eq_getElem hix2)
          have hst := sum_take hix2
          have hsl := sum_take_le ns (i + 1)
          have htk := goL_take hix (wrap64 (ago + 1)) l
          have HY := Lib.hid (HX.out xs[i] (List.getElem_mem hix) (HKID.out _ (List.getElem_mem hix)) ns[i] hnod)
          have HTK := Lib.hid htk
          clear p0 p1 p2 p3 htk hnod
          generalize xs[i] = y at *
          generalize ns[i] = my at *
          obtain ⟨L, hL⟩ : ∃ L, L = goL (xs.take i) (wrap64 (ago + 1)) l := ⟨_, rfl⟩
          rw [← hL] at HS HLN HTK
          have hHLN := HLN.out
          have hb3 : Below wr.heap.size wr (wr.alloc (.cells #[.int .u8 y.f0, .int .i64 y.f1, .string y.f2, .slice A3 y.f3.length c3] 25)) := (Below.refl _ _).alloc (Nat.le_refl _) _
          have hs3 := HS.out.stay hb3
          have hc4 := cell_one hs3.self
          have HB3 := Lib.hid hb3; have HS3 := Lib.hid hs3
          have HY2 := Lib.hid (HY.out A3 c3 (wrap64 (ago + 1)) L k1 k2 k3 k4 w0 _ hw0 hw1 (by omega) hl3 hC3 hs3)
          clear hb3 hs3 HY hl3 hC3 HS hL HLN
          go_wp2_with fail
          refine HY2.out.mono ?_
          rintro e w2 ⟨rfl, hs2, hl2, hz2⟩
          have HS2 := Lib.hid hs2; have HZ2 := Lib.hid hz2
          clear hs2 hz2 HY2
          go_wp2_with fail
          exact ⟨⟨i + 1, by go_num, by omega, Lib.hid (by rw [HTK.out]; exact HS2.out), Lib.hid (by rw [HTK.out]; omega), Lib.hid (by have := HSZ.out; have := HZ2.out; have := HB3.out.size; omega)⟩, by simp [intOf]; omega⟩
        · obtain rfl : i = N := by omega
          have htk : xs.take i = xs := List.take_of_length_le (by have := HN.out; omega)
          have hsl := sum_take_le ns i
          rw [htk] at HS HLN
          have hHLN := HLN.out
          go_wp2_with fail
          go_end0
          exact ⟨rfl, by rw [HG.out]; exact HS.out, by rw [HG.out]; omega, HSZ.out⟩
    · have g3 : (o == 19) = false := by simpa using h19
      have HG : Hid (go1 ⟨o, n, s, xs⟩ ago l = goL xs ago l) := Lib.hid (by simp only [go1]; rw [if_neg h19, if_neg h3])
      go_enter Tryz.func15, Tryz.ntmps15
      go_wp2_with fail
      go_loopw [37] (fun v37 wr => ∃ (i : Nat), v37 = .int .i64 i ∧ i ≤ N ∧ Hid (RfS w0 wr k1 k2 k3 k4 (goL (xs.take i) ago l)) ∧ Hid ((goL (xs.take i) ago l).length ≤ l.length + (ns.take i).sum) ∧ Hid (W.heap.size ≤ wr.heap.size)) (fun v37 _ => N - (intOf v37).toNat)
      case atStart => exact ⟨0, rfl, Nat.zero_le _, HS, Lib.hid (by simp [goL]), HSZ⟩
      case round =>
        clear HS HSZ
        obtain ⟨i, rfl, hi, HS, HLN, HSZ⟩ := hrel
        by_cases hlt : i < N
        · have hix : i < xs.length := by rw [← HN.out]; exact hlt
          obtain ⟨ad, A3, c3, hA, p0, p1, p2, p3, hl3, hC3⟩ := at_T25 HC.out (i : Int) (by omega) (by have := HN.out; omega)
          subst hA
          rw [rdT25 xs i hix] at p0 p1 p2 p3 hl3 hC3
          simp only [Int.toNat_natCast] at p0 p1 p2 p3
          have q0 := keep_cell HS.out.bel (Nat.le_refl _) p0
          have q1 := keep_cell HS.out.bel (Nat.le_refl _) p1
          have q2 := keep_cell HS.out.bel (Nat.le_refl _) p2
          have q3 := keep_cell HS.out.bel (Nat.le_refl _) p3
          have hix2 : i < ns.length := by rw [HNL.out]; exact hix
          have hnod : Nodes xs[i] ns[i] := HNS.out i _ _ (List.getElem?_eq_getElem hix) (List.getElem?_eq_getElem hix2)
          have hst := sum_take hix2
          have hsl := sum_take_le ns (i + 1)
          have htk := goL_take hix ago l
          have HY := Lib.hid (HX.out xs[i] (List.getElem_mem hix) (HKID.out _ (List.getElem_mem hix)) ns[i] hnod)
          have HTK := Lib.hid htk
          clear p0 p1 p2 p3 htk hnod
          generalize xs[i] = y at *
          generalize ns[i] = my at *
          obtain ⟨L, hL⟩ : ∃ L, L = goL (xs.take i) ago l := ⟨_, rfl⟩
          rw [← hL] at HS HLN HTK
          have hHLN := HLN.out
          have hb3 : Below wr.heap.size wr (wr.alloc (.cells #[.int .u8 y.f0, .int .i64 y.f1, .string y.f2, .slice A3 y.f3.length c3] 25)) := (Below.refl _ _).alloc (Nat.le_refl _) _
          have hs3 := HS.out.stay hb3
          have hc4 := cell_one hs3.self
          have HB3 := Lib.hid hb3; have HS3 := Lib.hid hs3
          have HY2 := Lib.hid (HY.out A3 c3 ago L k1 k2 k3 k4 w0 _ ha0 ha1 (by omega) hl3 hC3 hs3)
          clear hb3 hs3 HY hl3 hC3 HS hL HLN
          go_wp2_with fail
          refine HY2.out.mono ?_
          rintro e w2 ⟨rfl, hs2, hl2, hz2⟩
          have HS2 := Lib.hid hs2; have HZ2 := Lib.hid hz2
          clear hs2 hz2 HY2
          go_wp2_with fail
          exact ⟨⟨i + 1, by go_num, by omega, Lib.hid (by rw [HTK.out]; exact HS2.out), Lib.hid (by rw [HTK.out]; omega), Lib.hid (by have := HSZ.out; have := HZ2.out; have := HB3.out.size; omega)⟩, by simp [intOf]; omega⟩
        · obtain rfl : i = N := by omega
          have htk : xs.take i = xs := List.take_of_length_le (by have := HN.out; omega)
          have hsl := sum_take_le ns i
          rw [htk] at HS HLN
          have hHLN := HLN.out
          go_wp2_with fail
          go_end0
          exact ⟨rfl, by rw [HG.out]; exact HS.out, by rw [HG.out]; omega, HSZ.out⟩
theorem go1_all {x : S25} (h : WfE x) : Go1Is x := by
  induction h with
  | mk o n s xs h1 h2 h3 h4 h5 h6 hk ih => exact go1_walk _ ih
theorem rfS_start (w : World) (o : Obj) : RfS w (((((w.alloc o).alloc (.cells #[.slice none 0 0] 28)).alloc (.map #[] 0)).alloc (.cells #[.map (some (w.heap.size + 1 + 1))] 57)).alloc (.cells #[.func (.func 15) #[] #[.pointer (some ⟨w.heap.size + 1 + 1 + 1, 0, none⟩), .pointer (some ⟨w.heap.size + 1, 0, none⟩), .pointer (some ⟨w.heap.size + 1 + 1 + 1 + 1, 0, none⟩)]] 58)) (w.heap.size + 1) (w.heap.size + 1 + 1) (w.heap.size + 1 + 1 + 1) (w.heap.size + 1 + 1 + 1 + 1) [] := by
  have hm : MapG.MapE encR okR _ ((w.alloc o).alloc (.cells #[.slice none 0 0] 28)).heap.size (fun _ => none) := MapG.MapE.made ((w.alloc o).alloc (.cells #[.slice none 0 0] 28))
  have e2 : ((w.alloc o).alloc (.cells #[.slice none 0 0] 28)).heap.size = w.heap.size + 1 + 1 := by simp
  rw [e2] at hm
  refine ⟨?_, ?_, ?_, ⟨.slice none 0 0, ?_, ?_, fun q h => by simp [Value.ownBlock] at h⟩, ?_, ⟨by omega, by omega, by omega, by omega⟩, ⟨by omega, by omega, by omega, by omega, by omega, by omega⟩⟩
  · have := heap_alloc_new ((((w.alloc o).alloc (.cells #[.slice none 0 0] 28)).alloc (.map #[] 0)).alloc (.cells #[.map (some (w.heap.size + 1 + 1))] 57)) (.cells #[.func (.func 15) #[] #[.pointer (some ⟨w.heap.size + 1 + 1 + 1, 0, none⟩), .pointer (some ⟨w.heap.size + 1, 0, none⟩), .pointer (some ⟨w.heap.size + 1 + 1 + 1 + 1, 0, none⟩)]] 58)
    rwa [show ((((w.alloc o).alloc (.cells #[.slice none 0 0] 28)).alloc (.map #[] 0)).alloc (.cells #[.map (some (w.heap.size + 1 + 1))] 57)).heap.size = w.heap.size + 1 + 1 + 1 + 1 by simp] at this
  · have := heap_alloc_new (((w.alloc o).alloc (.cells #[.slice none 0 0] 28)).alloc (.map #[] 0)) (.cells #[.map (some (w.heap.size + 1 + 1))] 57)
    rw [show (((w.alloc o).alloc (.cells #[.slice none 0 0] 28)).alloc (.map #[] 0)).heap.size = w.heap.size + 1 + 1 + 1 by simp] at this
    exact blk_alloc this _
  · have hf : (fun r : Rf => if inR r [] = true then some (Value.bool true) else none) = fun _ => none := by funext r; simp [inR]
    rw [hf]
    have h3 := heap_alloc_new ((w.alloc o).alloc (.cells #[.slice none 0 0] 28)) (.map #[] 0)
    rw [e2] at h3
    exact hm.move ((blk_alloc (blk_alloc h3 _) _).trans h3.symm)
  · have := heap_alloc_new (w.alloc o) (.cells #[.slice none 0 0] 28)
    rw [show (w.alloc o).heap.size = w.heap.size + 1 by simp] at this
    exact blk_alloc (blk_alloc (blk_alloc this _) _) _
  · exact World.ownsRow_nil _ _ _ _
  · exact (((((Below.refl _ _).alloc (Nat.le_refl _) _).alloc (by simp) _).alloc (by simp; omega) _).alloc (by simp; omega) _).alloc (by simp; omega) _
set_option maxHeartbeats 8000000 in
set_option maxRecDepth 100000 in
theorem refs_walk (x : S25) (hwf : WfE x) (m : Nat) (hm : Nodes x m) (hle : m ≤ 2000000) (A : Option Addr) (c : Nat) (w : World) (hc : x.f3.length ≤ c) (hC : Kd.C k25 w A x.f3.length x.f3) :
    Calls Tryz.prog 6 #[.agg #[.int .u8 x.f0, .int .i64 x.f1, .string x.f2, .slice A x.f3.length c]] w fun e w' => ∃ v, e = .returned v ∧ w'.ownsRow w.heap.size 60 2 v (go1 x 0 []).length (rfCells (go1 x 0 [])) ∧ Below w.heap.size w w' := by
  have HY := Lib.hid (go1_all hwf hwf m hm)
  have HC := Lib.hid hC
  have hmm := @run_makeMap Tryz.prog
  have hmf : ∀ (fn : Fn) (first cap : Array Value) (w : World), (Instr.makeFunc fn first cap).run Tryz.prog w = .ok (.func fn first cap) w := fun _ _ _ _ => rfl
  clear hwf hm hC
  go_enter Tryz.func6, Tryz.ntmps6
  go_wp2_with fail
  refine (HY.out A c 0 [] _ _ _ _ w _ (by omega) (by omega) (by simpa using hle) hc HC.out (rfS_start w _)).mono ?_
  rintro e w2 ⟨rfl, hs, hl, hz⟩
  obtain ⟨v, r1, r2, r3⟩ := hs.row
  have hB := Lib.hid hs.bel
  obtain ⟨Av, cv, rfl⟩ := own_slice r2
  have hR := Lib.hid r2
  have hc1 := cell_one r1
  have hf1 := blk_frozen r1 0
  have HNE := Lib.hid (fun q hq => (r3 q hq).1)
  clear hs hl hz r1 r2 r3 HY HC
  go_wp2_with fail
  refine bodyPost_ret (v := .slice Av (go1 x 0 []).length cv) (by simp [results, Tryz.results23, go_sem, hc1]) rfl ⟨_, rfl, ?_, hB.out.setCell (p := ⟨w.heap.size + 1, 0, none⟩) (by show w.heap.size ≤ w.heap.size + 1; omega) _⟩
  refine own_kept hR.out (fun k hk => ?_)
  simp only [World.setCell]
  rw [Array.getElem?_modify, if_neg (fun e => HNE.out k hk e.symm)]
end Go.Proofs.YtbdciibbgiphcaaGreatDoor.V
