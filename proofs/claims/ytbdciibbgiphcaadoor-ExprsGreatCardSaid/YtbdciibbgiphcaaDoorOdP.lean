/- odd: what it computes; rows of trees in memory of their own. -/
import Derived.Test.YtbdciibbgiphcaaDoorND
namespace Go.Proofs.YtbdciibbgiphcaaDoor.V
set_option linter.unusedVariables false
set_option linter.unusedSimpArgs false
set_option linter.unusedSectionVars false
open Go.RowKit Go.Proofs.YtbdciibbgiphcaaDoorW.PrintWords Go.Proofs.YtbdciibbgiphcaaDoorW.PrintLast Go.Proofs.YtbdciibbgiphcaaDoorW.PrintMore
theorem below_gn0 {w w1 : World} (h : w.grownBy w1 none) : Below w.heap.size w w1 := ⟨h.os, h.tape, h.output, h.size, fun i hi => h.block i hi (by simp)⟩
theorem ow_set {w : World} {base : Nat} {e : TypeId} {size n : Nat} {g cap : Nat} {xs : List Value} (h : w.ownsRow base e size (.slice (some ⟨g, 0, none⟩) n cap) n xs) (j : Nat) (u : Value) :
    (w.setCell ⟨g, j, none⟩ u).ownsRow base e size (.slice (some ⟨g, 0, none⟩) n cap) n (xs.set j u) := by
  refine ⟨by rw [List.length_set]; exact h.1, ?_⟩
  rcases h.2 with ⟨hv, _⟩ | ⟨g', cap', cur, hv, hb, hg, hn, hc, hs, ht⟩
  · cases hv
  · injection hv with h1 h2 h3
    injection h1 with h1
    injection h1 with h1
    subst h1; subst h3
    refine .inr ⟨g, cap, cur.setIfInBounds j u, rfl, hb, ?_, hn, hc, by simpa using hs, ?_⟩
    · simp [World.setCell, hg, Array.getElem?_modify]
    · rw [Array.toList_setIfInBounds, List.take_set, ht]
theorem ow_cell {w : World} {base : Nat} {e : TypeId} {size n : Nat} {g cap : Nat} {xs : List Value} (h : w.ownsRow base e size (.slice (some ⟨g, 0, none⟩) n cap) n xs) (j : Nat) (u : Value) (hu : xs[j]? = some u) : w.cell? ⟨g, j, none⟩ = some u := by
  rcases h.2 with ⟨h, _⟩ | ⟨g', cap', cur, hv, _, hg, _, _, _, ht⟩
  · cases h
  · injection hv with h1 h2 h3
    injection h1 with h1
    injection h1 with h1
    subst h1
    rw [← ht] at hu
    have : cur.toList[j]? = some u := by
      rw [List.getElem?_take] at hu
      split at hu
      · exact hu
      · cases hu
    simpa [World.cell?, hg] using this
def trV (x : S25) (A : Option Addr) (c : Nat) : Value := .agg #[.int .u8 x.f0, .int .i64 x.f1, .string x.f2, .slice A x.f3.length c]
theorem info25o : (Tryd.prog.info? 25).map (fun i => (i.zero, i.size, i.bytes)) = some (some (.agg #[(.int .u8 0), (.int .i64 0), (.string ⟨#[]⟩), (.slice none 0 0)]), 4, 56) := by kernel_rfl
theorem ow_frozen {w : World} {base : Nat} {e : TypeId} {size n : Nat} {g cap : Nat} {xs : List Value} (h : w.ownsRow base e size (.slice (some ⟨g, 0, none⟩) n cap) n xs) (i : Nat) : w.frozen? ⟨g, i, none⟩ = false := by
  rcases h.2 with ⟨h, _⟩ | ⟨g', cap', cur, hv, _, hg, _, _, _, ht⟩
  · cases h
  · injection hv with h1 h2 h3
    injection h1 with h1
    injection h1 with h1
    subst h1
    exact blk_frozen hg i
mutual
theorem heapK25 : ∀ (x : S25) {w w1 : World} {cs : List Value}, (∀ k, k < w.heap.size → w1.heap[k]? = w.heap[k]?) → k25.K w x cs → k25.K w1 x cs
  | ⟨o, n, s, xs⟩, w, w1, cs, hb, h => by
    obtain ⟨A3, c3, rfl, l3, g3⟩ := k25_open h
    exact k25_mk w1 ⟨o, n, s, xs⟩ l3 ⟨g3.1, g3.2.1, fun hn => by
      obtain ⟨ad, e, hc⟩ := g3.2.2 hn
      refine ⟨ad, e, fun j p hj => ?_⟩
      obtain ⟨c, hs, hr, hcell⟩ := hc j p hj
      exact ⟨c, hs, heapL25 xs p (List.mem_of_getElem? hj) hb hr, fun i u hu => Kd.cell_heap hb (hcell i u hu)⟩⟩
theorem heapL25 : ∀ (xs : List S25) (y : S25), y ∈ xs → ∀ {w w1 : World} {cs : List Value}, (∀ k, k < w.heap.size → w1.heap[k]? = w.heap[k]?) → k25.K w y cs → k25.K w1 y cs
  | [], y, h, w, w1, cs, hb, hk => by simp at h
  | x :: r, y, h, w, w1, cs, hb, hk => by
    rcases List.mem_cons.1 h with h | h
    · rw [h] at hk ⊢
      exact heapK25 x hb hk
    · exact heapL25 r y h hb hk
end
theorem heap25 : Kd.Heap k25 := ⟨fun {w w1 x cs} hb h => heapK25 x hb h⟩
theorem alloc2_new (w : World) (o o2 : Obj) : ((w.alloc o).alloc o2).heap[w.heap.size + 1]? = some o2 := by
  have := heap_alloc_new (w.alloc o) o2
  rwa [show (w.alloc o).heap.size = w.heap.size + 1 by simp] at this
/-- no part has more than three parts. -/
inductive S3 : S25 → Prop
  | mk (o n : Int) (s : ByteArray) (xs : List S25) : xs.length ≤ 3 → (∀ y ∈ xs, S3 y) → S3 ⟨o, n, s, xs⟩
theorem kp2 {w w' : World} {k : Nat} {o : Obj} (hb : Below w.heap.size w w') (h : w.heap[k]? = some o) : Hid (w'.heap[k]? = some o) := Lib.hid ((hb.block _ (blk_lt h)).trans h)
/-- a part that has a field which it may not have. -/
def oddL (r : Int) (x : S25) : S25 :=
  if r = 0 then { x with f3 := x.f3 ++ [⟨2, 0, ⟨#[]⟩, []⟩] } else if r = 1 then { x with f1 := -1 } else if r = 2 then { x with f2 := ⟨#[116, 104, 101, 110]⟩ } else if r = 3 then { x with f0 := 0 } else { x with f0 := 20 }
def oddP (r : Int) : Nat → S25 → Nat → S25
  | 0, x, _ => oddL r x
  | k + 1, x, way => if 0 < x.f3.length ∧ 0 < way then { x with f3 := x.f3.set (way % x.f3.length) (oddP r k (x.f3.getD (way % x.f3.length) z25) (way / 2)) } else oddL r x
theorem list_ex {α β : Type} : ∀ (xs : List α) (P : Nat → α → β → Prop), (∀ j x, xs[j]? = some x → ∃ b, P j x b) → ∃ bs : List (α × β), bs.map Prod.fst = xs ∧ ∀ (j : Nat) (p : α × β), bs[j]? = some p → P j p.1 p.2
  | [], P, h => ⟨[], rfl, fun j p hp => by simp at hp⟩
  | x :: xs, P, h => by
    obtain ⟨b, hb⟩ := h 0 x rfl
    obtain ⟨bs, h1, h2⟩ := list_ex xs (fun j => P (j + 1)) (fun j y hy => h (j + 1) y hy)
    refine ⟨(x, b) :: bs, by simp [h1], fun j p hp => ?_⟩
    cases j with
    | zero => simp only [List.getElem?_cons_zero, Option.some.injEq] at hp; subst hp; exact hb
    | succ j => exact h2 j p (by simpa using hp)
theorem tv_get {ps : List (S25 × Option Addr × Nat)} {j : Nat} {p : S25 × Option Addr × Nat} (h : ps[j]? = some p) (i : Nat) (hi : i < 4) : (ps.flatMap tv)[j * 4 + i]? = (tv p)[i]? := by
  have := tv_drop ps j p h
  rw [← this, List.getElem?_take, if_pos hi, List.getElem?_drop]
theorem tv_of {ps : List (S25 × Option Addr × Nat)} {j : Nat} {u : Value} (h : (ps.flatMap tv)[j]? = some u) : ∃ p, ps[j / 4]? = some p ∧ (tv p)[j % 4]? = some u := by
  have hl : j < ps.length * 4 := by rw [← tv_len]; exact (List.getElem?_eq_some_iff.1 h).1
  have hq : j / 4 < ps.length := by omega
  refine ⟨ps[j / 4], List.getElem?_eq_getElem hq, ?_⟩
  rw [← tv_get (List.getElem?_eq_getElem hq) (j % 4) (by omega), ← h]
  congr 1; omega
def PR3 (w : World) (p : S25 × Option Addr × Nat) : Prop := p.1.f3.length ≤ p.2.2 ∧ Kd.C k25 w p.2.1 p.1.f3.length p.1.f3
theorem rows_of {w : World} {A : Option Addr} {xs : List S25} (h : Kd.C k25 w A xs.length xs) (hn : 0 < xs.length) :
    ∃ (ad : Addr) (ps : List (S25 × Option Addr × Nat)), A = some ad ∧ ps.map Prod.fst = xs ∧ (∀ (j : Nat) (u : Value), (ps.flatMap tv)[j]? = some u → w.cell? (ad.add j) = some u) ∧ ∀ (j : Nat) p, ps[j]? = some p → PR3 w p := by
  obtain ⟨_, _, h3⟩ := h
  obtain ⟨ad, rfl, hc⟩ := h3 hn
  obtain ⟨ps, h1, h2⟩ := list_ex xs (fun j x (b : Option Addr × Nat) => (x.f3.length ≤ b.2 ∧ Kd.C k25 w b.1 x.f3.length x.f3) ∧ ∀ i u, (tv (x, b))[i]? = some u → w.cell? (ad.add (j * 4 + i)) = some u) (fun j x hx => by
    obtain ⟨c, hl, hK, hcell⟩ := hc j x hx
    obtain ⟨A3, c3, rfl, hl3, hC3⟩ := k25_open hK
    exact ⟨(A3, c3), ⟨hl3, hC3⟩, hcell⟩)
  refine ⟨ad, ps, rfl, h1, fun j u hu => ?_, fun j p hp => (h2 j p hp).1⟩
  obtain ⟨p, hp, hu2⟩ := tv_of hu
  have := (h2 _ p hp).2 _ u hu2
  rw [show j / 4 * 4 + j % 4 = j by omega] at this
  exact this
theorem row_reads {w : World} {base : Nat} {v : Value} {ps : List (S25 × Option Addr × Nat)} (ho : w.ownsRow base 25 4 v ps.length (ps.flatMap tv)) (h : ∀ (j : Nat) p, ps[j]? = some p → PR3 w p) :
    ∃ A c, v = .slice A ps.length c ∧ ps.length ≤ c ∧ Kd.C k25 w A ps.length (ps.map Prod.fst) := by
  have hR : Reps (k25.K w) 4 (ps.map Prod.fst) (ps.flatMap tv) := by
    refine ⟨by rw [tv_len, List.length_map], fun j x hx => ?_⟩
    obtain ⟨p, hp, rfl⟩ : ∃ p, ps[j]? = some p ∧ p.1 = x := by simpa [List.getElem?_map] using hx
    rw [tv_drop ps j p hp]
    have := h j p hp
    exact k25_mk w p.1 this.1 this.2
  obtain ⟨A, c', he', hr⟩ := own_reads_row ho hR (by simp)
  refine ⟨A, c', he', ?_, hr⟩
  subst he'
  exact own_cap' ho
theorem tv_set (ps : List (S25 × Option Addr × Nat)) (k : Nat) (hk : k < ps.length) (q : S25 × Option Addr × Nat) :
    (((((ps.flatMap tv).set (k * 4) (.int .u8 q.1.f0)).set (k * 4 + 1) (.int .i64 q.1.f1)).set (k * 4 + 2) (.string q.1.f2)).set (k * 4 + 3) (.slice q.2.1 q.1.f3.length q.2.2)) = (ps.set k q).flatMap tv := by
  apply List.ext_getElem?
  intro j
  have hl := tv_len ps
  by_cases hj : j < ps.length * 4
  · obtain ⟨i, r, hr, rfl⟩ : ∃ i r, r < 4 ∧ j = i * 4 + r := ⟨j / 4, j % 4, by omega, by omega⟩
    have hi : i < ps.length := by omega
    by_cases hik : i = k
    · subst hik
      rw [tv_get (p := q) (by rw [List.getElem?_set_self hi]) r hr]
      have : r = 0 ∨ r = 1 ∨ r = 2 ∨ r = 3 := by omega
      rcases this with rfl | rfl | rfl | rfl <;> simp only [List.getElem?_set, List.length_set, Nat.add_zero]
      · rw [if_neg (by omega), if_neg (by omega), if_neg (by omega), if_pos trivial, if_pos (by omega)]; rfl
      · rw [if_neg (by omega), if_neg (by omega), if_pos trivial, if_pos (by omega)]; rfl
      · rw [if_neg (by omega), if_pos trivial, if_pos (by omega)]; rfl
      · rw [if_pos trivial, if_pos (by omega)]; rfl
    · obtain ⟨p, hp⟩ : ∃ p, ps[i]? = some p := ⟨_, List.getElem?_eq_getElem hi⟩
      rw [tv_get (p := p) (by rw [List.getElem?_set_ne (by omega)]; exact hp) r hr, ← tv_get hp r hr]
      simp only [List.getElem?_set]
      rw [if_neg (by omega), if_neg (by omega), if_neg (by omega), if_neg (by omega)]
  · rw [List.getElem?_eq_none (by simp only [List.length_set]; omega), List.getElem?_eq_none (by rw [tv_len, List.length_set]; omega)]
theorem own_tvset {w : World} {base g cap : Nat} {ps : List (S25 × Option Addr × Nat)} (h : w.ownsRow base 25 4 (.slice (some ⟨g, 0, none⟩) ps.length cap) ps.length (ps.flatMap tv)) (k : Nat) (hk : k < ps.length) (q : S25 × Option Addr × Nat) :
    ((((w.setCell ⟨g, k * 4, none⟩ (.int .u8 q.1.f0)).setCell ⟨g, k * 4 + 1, none⟩ (.int .i64 q.1.f1)).setCell ⟨g, k * 4 + 2, none⟩ (.string q.1.f2)).setCell ⟨g, k * 4 + 3, none⟩ (.slice q.2.1 q.1.f3.length q.2.2)).ownsRow base 25 4 (.slice (some ⟨g, 0, none⟩) ps.length cap) (ps.set k q).length ((ps.set k q).flatMap tv) := by
  rw [← tv_set ps k hk q, List.length_set]
  exact ow_set (ow_set (ow_set (ow_set h _ _) _ _) _ _) _ _
end Go.Proofs.YtbdciibbgiphcaaDoor.V
