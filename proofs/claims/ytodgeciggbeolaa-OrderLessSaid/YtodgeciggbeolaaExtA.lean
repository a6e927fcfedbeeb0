/- The law's own first test: order.Of at four literals. -/
import Derived.Test.YtodgeciggbeolaaExt
import Derived.Test.YtodgeciggbeolaaSx3
import Derived.Test.YtodgeciggbeolaaPuA
import Derived.Lib.Hide
namespace Go.Proofs.Ytodgeciggbeolaa.S
set_option linter.unusedVariables false
set_option linter.unusedSimpArgs false
set_option linter.unusedSectionVars false
open Go.RowKit Go.Proofs.YtodgeciggbeolaaW.PrintWords Go.Proofs.YtodgeciggbeolaaW.PrintLast Go.Proofs.YtodgeciggbeolaaW.PrintMore
open Go.Proofs.Ord

theorem C_lists {w : World} {b : Nat} {vs : List Value} {l : List (List Int)} {tag : TypeId} (hb : w.heap[b]? = some (.cells vs.toArray tag (0, 0))) (hl : vs.length = l.length) (hm : l.length ≤ 9223372036854775807)
    (h : ∀ k v, vs[k]? = some v → ∃ A c, v = .slice A (at_ l k).length c ∧ (at_ l k).length ≤ c ∧ Kd.C (Kd.int .i64) w A (at_ l k).length (at_ l k)) : Kd.C (Kd.slice 3 (Kd.int .i64)) w (some ⟨b, 0, none⟩) l.length l := by
  refine ⟨rfl, hm, fun _ => ⟨_, rfl, fun j p hj => ?_⟩⟩
  have hjl : j < l.length := (List.getElem?_eq_some_iff.1 hj).1
  have hat : at_ l j = p := by unfold at_; rw [List.getD_eq_getElem?_getD, hj]; rfl
  have hv : vs[j]? = some (vs[j]'(by omega)) := List.getElem?_eq_getElem _
  obtain ⟨A, c, e, h1, h2⟩ := h j _ hv
  rw [hat] at e h1 h2
  refine ⟨[.slice A p.length c], rfl, ⟨A, c, rfl, h1, h2⟩, fun i u hu => ?_⟩
  cases i with
  | succ i => simp at hu
  | zero =>
    simp at hu
    have e1 : (Kd.slice 3 (Kd.int .i64)).sz = 1 := rfl
    rw [e1, Nat.mul_one, Nat.add_zero, add_plain]
    simp only [World.cell?, hb]
    simp [hv, e, hu]

theorem C_block {w : World} {b : Nat} {xs : List Int} (hb : w.heap[b]? = some (.cells (nums .i64 xs).toArray 3 (0, 0))) (hm : xs.length ≤ 9223372036854775807) : Kd.C (Kd.int .i64) w (some ⟨b, 0, none⟩) xs.length xs := by
  refine ⟨rfl, hm, fun _ => ⟨_, rfl, fun j p hj => ⟨[.int .i64 p], rfl, rfl, fun i u hu => ?_⟩⟩⟩
  cases i with
  | succ i => simp at hu
  | zero =>
    simp at hu
    have e1 : (Kd.int .i64).sz = 1 := rfl
    rw [e1, Nat.mul_one, Nat.add_zero, add_plain]
    simp only [World.cell?, hb]
    simp [nums, hj, hu]

/-- a call of Of at a literal. -/
theorem of_lit (A0 : Option Addr) (c0 n : Nat) (l : List (List Int)) (w : World) (r1 : List Int) (r2 : Int) (hl : l.length = n) (hr : Kd.C (Kd.slice 3 (Kd.int .i64)) w A0 l.length l) (hn : l.length ≤ 300) (hs : ∀ k, (at_ l k).length ≤ 20000) (h : Ord.of l = (r1, r2)) :
    Calls Try.prog 10 #[.slice A0 n c0] w fun e w' => ∃ v, e = .returned (.tuple #[v, .int .i64 r2]) ∧ w'.ownsRow w.heap.size 3 1 v r1.length (nums .i64 r1) ∧ Below w.heap.size w w' := by
  subst hl
  refine (of_walk A0 c0 l w hr hn hs).mono ?_
  rintro e w' ⟨v, rfl, ho, hb⟩
  rw [h] at ho ⊢
  exact ⟨v, rfl, ho, hb⟩

def belfrylaw13_alive.f : Option Bool := some true

theorem C_blk1 {w : World} {b : Nat} {x : Int} (hb : w.heap[b]? = some (.cells #[.int .i64 x] 3 (0, 0))) : Kd.C (Kd.int .i64) w (some ⟨b, 0, none⟩) 1 [x] := C_block (xs := [x]) hb (by simp)
theorem C_blk0 {w : World} (A : Option Addr) : Kd.C (Kd.int .i64) w A 0 [] := ⟨rfl, by simp, fun h => absurd h (by simp)⟩
theorem blk3 {w : World} {a b c d : Nat} {u1 u2 u3 : Value} {l1 l2 l3 : List Int} {tag : TypeId} (hd : w.heap[d]? = some (.cells #[u1, u2, u3] tag (0, 0)))
    (h1 : ∃ A c, u1 = .slice A l1.length c ∧ l1.length ≤ c ∧ Kd.C (Kd.int .i64) w A l1.length l1) (h2 : ∃ A c, u2 = .slice A l2.length c ∧ l2.length ≤ c ∧ Kd.C (Kd.int .i64) w A l2.length l2) (h3 : ∃ A c, u3 = .slice A l3.length c ∧ l3.length ≤ c ∧ Kd.C (Kd.int .i64) w A l3.length l3) :
    Kd.C (Kd.slice 3 (Kd.int .i64)) w (some ⟨d, 0, none⟩) 3 [l1, l2, l3] := by
  refine C_lists (vs := [u1, u2, u3]) (l := [l1, l2, l3]) hd rfl (by simp) (fun k v hv => ?_)
  match k, hv with
  | 0, hv => simp at hv; subst hv; exact h1
  | 1, hv => simp at hv; subst hv; exact h2
  | 2, hv => simp at hv; subst hv; exact h3
  | n + 3, hv => simp at hv
theorem blk4 {w : World} {d : Nat} {u1 u2 u3 u4 : Value} {l1 l2 l3 l4 : List Int} {tag : TypeId} (hd : w.heap[d]? = some (.cells #[u1, u2, u3, u4] tag (0, 0)))
    (h1 : ∃ A c, u1 = .slice A l1.length c ∧ l1.length ≤ c ∧ Kd.C (Kd.int .i64) w A l1.length l1) (h2 : ∃ A c, u2 = .slice A l2.length c ∧ l2.length ≤ c ∧ Kd.C (Kd.int .i64) w A l2.length l2) (h3 : ∃ A c, u3 = .slice A l3.length c ∧ l3.length ≤ c ∧ Kd.C (Kd.int .i64) w A l3.length l3) (h4 : ∃ A c, u4 = .slice A l4.length c ∧ l4.length ≤ c ∧ Kd.C (Kd.int .i64) w A l4.length l4) :
    Kd.C (Kd.slice 3 (Kd.int .i64)) w (some ⟨d, 0, none⟩) 4 [l1, l2, l3, l4] := by
  refine C_lists (vs := [u1, u2, u3, u4]) (l := [l1, l2, l3, l4]) hd rfl (by simp) (fun k v hv => ?_)
  match k, hv with
  | 0, hv => simp at hv; subst hv; exact h1
  | 1, hv => simp at hv; subst hv; exact h2
  | 2, hv => simp at hv; subst hv; exact h3
  | 3, hv => simp at hv; subst hv; exact h4
  | n + 4, hv => simp at hv
theorem blk2 {w : World} {d : Nat} {u1 u2 : Value} {l1 l2 : List Int} {tag : TypeId} (hd : w.heap[d]? = some (.cells #[u1, u2] tag (0, 0)))
    (h1 : ∃ A c, u1 = .slice A l1.length c ∧ l1.length ≤ c ∧ Kd.C (Kd.int .i64) w A l1.length l1) (h2 : ∃ A c, u2 = .slice A l2.length c ∧ l2.length ≤ c ∧ Kd.C (Kd.int .i64) w A l2.length l2) :
    Kd.C (Kd.slice 3 (Kd.int .i64)) w (some ⟨d, 0, none⟩) 2 [l1, l2] := by
  refine C_lists (vs := [u1, u2]) (l := [l1, l2]) hd rfl (by simp) (fun k v hv => ?_)
  match k, hv with
  | 0, hv => simp at hv; subst hv; exact h1
  | 1, hv => simp at hv; subst hv; exact h2
  | n + 2, hv => simp at hv
theorem blk1 {w : World} {d : Nat} {u1 : Value} {l1 : List Int} {tag : TypeId} (hd : w.heap[d]? = some (.cells #[u1] tag (0, 0)))
    (h1 : ∃ A c, u1 = .slice A l1.length c ∧ l1.length ≤ c ∧ Kd.C (Kd.int .i64) w A l1.length l1) :
    Kd.C (Kd.slice 3 (Kd.int .i64)) w (some ⟨d, 0, none⟩) 1 [l1] := by
  refine C_lists (vs := [u1]) (l := [l1]) hd rfl (by simp) (fun k v hv => ?_)
  match k, hv with
  | 0, hv => simp at hv; subst hv; exact h1
  | n + 1, hv => simp at hv
theorem one_ {w : World} {b : Nat} {x : Int} (hb : w.heap[b]? = some (.cells #[.int .i64 x] 3 (0, 0))) : ∃ A c, Value.slice (some ⟨b, 0, none⟩) 1 1 = .slice A [x].length c ∧ [x].length ≤ c ∧ Kd.C (Kd.int .i64) w A [x].length [x] := ⟨_, _, rfl, Nat.le_refl _, C_blk1 hb⟩
theorem none_ {w : World} {A : Option Addr} : ∃ A' c, Value.slice A 0 0 = .slice A' ([] : List Int).length c ∧ ([] : List Int).length ≤ c ∧ Kd.C (Kd.int .i64) w A' ([] : List Int).length [] := ⟨_, _, rfl, Nat.le_refl _, C_blk0 _⟩

theorem of1 : Ord.of [[2], [], [1]] = ([1, 2, 0], 0) := of_of_steps (by decide) (by intro i hi; match i, hi with | 0, _ => exact ⟨1, rfl, by decide⟩ | 1, _ => exact ⟨2, rfl, by decide⟩ | 2, _ => exact ⟨0, rfl, by decide⟩) rfl
theorem of2 : Ord.of [[3], [], [], []] = ([1, 2, 3, 0], 0) := of_of_steps (by decide) (by intro i hi; match i, hi with | 0, _ => exact ⟨1, rfl, by decide⟩ | 1, _ => exact ⟨2, rfl, by decide⟩ | 2, _ => exact ⟨3, rfl, by decide⟩ | 3, _ => exact ⟨0, rfl, by decide⟩) rfl
theorem of3 : Ord.of [[1], [0]] = ([], 8) := of_ring (by decide) (by intro k hk; match k, hk with | 0, _ => exact ⟨1, rfl, by decide⟩ | 1, _ => exact ⟨0, rfl, by decide⟩)
theorem of4 : Ord.of [[1]] = ([], 1) := by decide

theorem push_ (w : World) (o : Obj) : (w.alloc o).heap = w.heap.push o := rfl
theorem nw_ (w : World) (o : Obj) {k : Nat} (hk : k = w.heap.size) : (w.alloc o).heap[k]? = some o := by subst hk; rw [push_]; simp
theorem od_ {w : World} {o o' : Obj} {k : Nat} (h : w.heap[k]? = some o') : (w.alloc o).heap[k]? = some o' := by
  have hk : k < w.heap.size := (Array.getElem?_eq_some_iff.1 h).1
  rw [push_, Array.getElem?_push_lt hk, ← Array.getElem?_eq_getElem hk]; exact h
theorem sz_ (w : World) (o : Obj) : (w.alloc o).heap.size = w.heap.size + 1 := by rw [push_]; simp
theorem al2 (w : World) (o1 o2 : Obj) : ((w.alloc o1).alloc o2).heap[w.heap.size]? = some o1 ∧ ((w.alloc o1).alloc o2).heap[w.heap.size + 1]? = some o2 := by
  exact ⟨od_ (nw_ _ _ rfl), nw_ _ _ (by simp only [sz_])⟩
theorem al3 (w : World) (o1 o2 o3 : Obj) : (((w.alloc o1).alloc o2).alloc o3).heap[w.heap.size]? = some o1 ∧ (((w.alloc o1).alloc o2).alloc o3).heap[w.heap.size + 1]? = some o2 ∧ (((w.alloc o1).alloc o2).alloc o3).heap[w.heap.size + 1 + 1]? = some o3 := by
  exact ⟨od_ (od_ (nw_ _ _ rfl)), od_ (nw_ _ _ (by simp only [sz_])), nw_ _ _ (by simp only [sz_])⟩
theorem al4 (w : World) (o1 o2 o3 o4 : Obj) : ((((w.alloc o1).alloc o2).alloc o3).alloc o4).heap[w.heap.size]? = some o1 ∧ ((((w.alloc o1).alloc o2).alloc o3).alloc o4).heap[w.heap.size + 1]? = some o2 ∧ ((((w.alloc o1).alloc o2).alloc o3).alloc o4).heap[w.heap.size + 1 + 1]? = some o3 ∧ ((((w.alloc o1).alloc o2).alloc o3).alloc o4).heap[w.heap.size + 1 + 1 + 1]? = some o4 := by
  exact ⟨od_ (od_ (od_ (nw_ _ _ rfl))), od_ (od_ (nw_ _ _ (by simp only [sz_]))), od_ (nw_ _ _ (by simp only [sz_])), nw_ _ _ (by simp only [sz_])⟩
theorem al5 (w : World) (o1 o2 o3 o4 o5 : Obj) : (((((w.alloc o1).alloc o2).alloc o3).alloc o4).alloc o5).heap[w.heap.size]? = some o1 ∧ (((((w.alloc o1).alloc o2).alloc o3).alloc o4).alloc o5).heap[w.heap.size + 1]? = some o2 ∧ (((((w.alloc o1).alloc o2).alloc o3).alloc o4).alloc o5).heap[w.heap.size + 1 + 1]? = some o3 ∧ (((((w.alloc o1).alloc o2).alloc o3).alloc o4).alloc o5).heap[w.heap.size + 1 + 1 + 1]? = some o4 ∧ (((((w.alloc o1).alloc o2).alloc o3).alloc o4).alloc o5).heap[w.heap.size + 1 + 1 + 1 + 1]? = some o5 := by
  exact ⟨od_ (od_ (od_ (od_ (nw_ _ _ rfl)))), od_ (od_ (od_ (nw_ _ _ (by simp only [sz_])))), od_ (od_ (nw_ _ _ (by simp only [sz_]))), od_ (nw_ _ _ (by simp only [sz_])), nw_ _ _ (by simp only [sz_])⟩
theorem B_al (w : World) (o : Obj) : Below w.heap.size w (w.alloc o) := below_alloc (Below.refl _ _) o
theorem cut_ (w W : World) (h : Below w.heap.size w W) {w' : World} (h2 : Below W.heap.size W w') : Below w.heap.size w w' := h.trans (h2.mono h.size)

def LitPost (r1 : List Int) (r2 : Int) (w : World) (e : Ending) (w' : World) : Prop := ∃ v, e = .returned (.tuple #[v, .int .i64 r2]) ∧ Kd.R (Kd.int .i64) 3 w' w.heap.size (fun _ => True) v r1 ∧ Below w.heap.size w w'
theorem lit_post {A0 : Option Addr} {c0 n : Nat} {l : List (List Int)} {w W : World} {r1 : List Int} {r2 : Int} (hB : Below w.heap.size w W) (hl : l.length = n) (hr : Kd.C (Kd.slice 3 (Kd.int .i64)) W A0 l.length l) (hn : l.length ≤ 300) (hs : ∀ k, (at_ l k).length ≤ 20000) (h : Ord.of l = (r1, r2)) :
    Calls Try.prog 10 #[.slice A0 n c0] W (LitPost r1 r2 w) := by
  refine (of_lit A0 c0 n l W r1 r2 hl hr hn hs h).mono ?_
  rintro e w' ⟨v, rfl, ho, hb⟩
  exact ⟨v, rfl, Kd.R_lower (Kd.R_of_own ho (fun _ _ => trivial)) hB.size, cut_ w W hB hb⟩
theorem small_ {l : List (List Int)} (h : l.all (fun x => decide (x.length ≤ 20000)) = true) : ∀ k, (at_ l k).length ≤ 20000 := by
  intro k
  by_cases hk : k < l.length
  · have := List.all_eq_true.1 h _ (List.getElem_mem hk)
    unfold at_
    rw [List.getD_eq_getElem?_getD, List.getElem?_eq_getElem hk]
    simpa using this
  · unfold at_; rw [List.getD_eq_getElem?_getD, List.getElem?_eq_none (by omega)]; simp

theorem call1 (w : World) : Calls Try.prog 10 #[Value.slice (some { block := w.heap.size + 1 + 1 + 1, off := 0 }) 3 3]
    ((((w.alloc (Obj.cells #[Value.int IntKind.i64 2] 3)).alloc (Obj.cells #[] 3)).alloc (Obj.cells #[Value.int IntKind.i64 1] 3)).alloc
      (Obj.cells #[Value.slice (some { block := w.heap.size, off := 0 }) 1 1, Value.slice (some { block := w.heap.size + 1, off := 0 }) 0 0, Value.slice (some { block := w.heap.size + 1 + 1, off := 0 }) 1 1] 25)) (LitPost [1, 2, 0] 0 w) := by
  obtain ⟨h1, h2, h3, h4⟩ := al4 w (Obj.cells #[Value.int IntKind.i64 2] 3) (Obj.cells #[] 3) (Obj.cells #[Value.int IntKind.i64 1] 3) (Obj.cells #[Value.slice (some { block := w.heap.size, off := 0 }) 1 1, Value.slice (some { block := w.heap.size + 1, off := 0 }) 0 0, Value.slice (some { block := w.heap.size + 1 + 1, off := 0 }) 1 1] 25)
  exact lit_post (l := [[2], [], [1]]) (below_alloc (below_alloc (below_alloc (below_alloc (Below.refl _ _) _) _) _) _) rfl (blk3 (a := 0) (b := 0) (c := 0) h4 (one_ h1) none_ (one_ h3)) (by decide) (small_ (by decide)) of1
theorem call2 (w : World) : Calls Try.prog 10 #[Value.slice (some { block := w.heap.size + 1 + 1 + 1 + 1, off := 0 }) 4 4]
    (((((w.alloc (Obj.cells #[Value.int IntKind.i64 3] 3)).alloc (Obj.cells #[] 3)).alloc (Obj.cells #[] 3)).alloc (Obj.cells #[] 3)).alloc
      (Obj.cells #[Value.slice (some { block := w.heap.size, off := 0 }) 1 1, Value.slice (some { block := w.heap.size + 1, off := 0 }) 0 0, Value.slice (some { block := w.heap.size + 1 + 1, off := 0 }) 0 0, Value.slice (some { block := w.heap.size + 1 + 1 + 1, off := 0 }) 0 0] 25)) (LitPost [1, 2, 3, 0] 0 w) := by
  obtain ⟨h1, h2, h3, h4, h5⟩ := al5 w (Obj.cells #[Value.int IntKind.i64 3] 3) (Obj.cells #[] 3) (Obj.cells #[] 3) (Obj.cells #[] 3) (Obj.cells #[Value.slice (some { block := w.heap.size, off := 0 }) 1 1, Value.slice (some { block := w.heap.size + 1, off := 0 }) 0 0, Value.slice (some { block := w.heap.size + 1 + 1, off := 0 }) 0 0, Value.slice (some { block := w.heap.size + 1 + 1 + 1, off := 0 }) 0 0] 25)
  exact lit_post (l := [[3], [], [], []]) (below_alloc (below_alloc (below_alloc (below_alloc (below_alloc (Below.refl _ _) _) _) _) _) _) rfl (blk4 h5 (one_ h1) none_ none_ none_) (by decide) (small_ (by decide)) of2
theorem call3 (w : World) : Calls Try.prog 10 #[Value.slice (some { block := w.heap.size + 1 + 1, off := 0 }) 2 2]
    (((w.alloc (Obj.cells #[Value.int IntKind.i64 1] 3)).alloc (Obj.cells #[Value.int IntKind.i64 0] 3)).alloc
      (Obj.cells #[Value.slice (some { block := w.heap.size, off := 0 }) 1 1, Value.slice (some { block := w.heap.size + 1, off := 0 }) 1 1] 25)) (LitPost [] 8 w) := by
  obtain ⟨h1, h2, h3⟩ := al3 w (Obj.cells #[Value.int IntKind.i64 1] 3) (Obj.cells #[Value.int IntKind.i64 0] 3) (Obj.cells #[Value.slice (some { block := w.heap.size, off := 0 }) 1 1, Value.slice (some { block := w.heap.size + 1, off := 0 }) 1 1] 25)
  exact lit_post (l := [[1], [0]]) (below_alloc (below_alloc (below_alloc (Below.refl _ _) _) _) _) rfl (blk2 h3 (one_ h1) (one_ h2)) (by decide) (small_ (by decide)) of3
theorem call4 (w : World) : Calls Try.prog 10 #[Value.slice (some { block := w.heap.size + 1, off := 0 }) 1 1]
    ((w.alloc (Obj.cells #[Value.int IntKind.i64 1] 3)).alloc (Obj.cells #[Value.slice (some { block := w.heap.size, off := 0 }) 1 1] 25)) (LitPost [] 1 w) := by
  obtain ⟨h1, h2⟩ := al2 w (Obj.cells #[Value.int IntKind.i64 1] 3) (Obj.cells #[Value.slice (some { block := w.heap.size, off := 0 }) 1 1] 25)
  exact lit_post (l := [[1]]) (below_alloc (below_alloc (Below.refl _ _) _) _) rfl (blk1 h2 (one_ h1)) (by decide) (small_ (by decide)) of4

theorem C_below {w w' : World} {A : Option Addr} {n : Nat} {xs : List Int} (h : Kd.C (Kd.int .i64) w A n xs) (hb : Below w.heap.size w w') : Kd.C (Kd.int .i64) w' A n xs := (Kd.heap_int .i64).C (fun k hlt => hb.block k hlt) h
theorem same_lit (A : Option Addr) (c : Nat) (xs : List Int) (w : World) (hm : xs.length ≤ 100) (h : Kd.C (Kd.int .i64) w A xs.length xs) (hc : xs.length ≤ c) :
    Calls Try.prog 12 #[.slice A xs.length c, .slice (some { block := w.heap.size, off := 0 }) xs.length xs.length] (w.alloc (Obj.cells (nums .i64 xs).toArray 3)) fun e w' => e = .returned (.bool true) ∧ Below w.heap.size w w' := by
  have hb : (w.alloc (Obj.cells (nums .i64 xs).toArray 3)).heap[w.heap.size]? = some (Obj.cells (nums .i64 xs).toArray 3) := by simp only [push_]; simp
  obtain ⟨k, hf⟩ := (same_ev xs xs (by omega)).rounds
  rw [decide_eq_true rfl] at hf
  refine (belfrylaw01_SameInts.calls k A c xs (some ⟨w.heap.size, 0, none⟩) xs.length xs true _ (C_below h (B_al _ _)) hc (C_block hb (by omega)) (Nat.le_refl _) hf).mono ?_
  rintro e w' ⟨rfl, hd⟩
  exact ⟨rfl, cut_ _ _ (B_al _ _) hd.below⟩

def AlivePost (w : World) (e : Ending) (w' : World) : Prop := e = .returned (.bool true) ∧ Below w.heap.size w w'

set_option maxHeartbeats 4000000 in
set_option maxRecDepth 100000 in
theorem alive_walk (w : World) : Calls Try.prog 8 #[] w (AlivePost w) := by
  go_enter Try.func8, Try.ntmps8
  go_wp2_with fail
  go_goals
  refine (call1 w).mono ?_
  rintro _ w1 ⟨v1, rfl, o1, b1⟩
  have O1 := Lib.hid o1
  have G1 := Lib.hid b1
  clear o1 b1
  go_wp2_with fail
  go_goals
  refine (call2 w1).mono ?_
  rintro _ w2 ⟨v2, rfl, o2, b2⟩
  have O2 := Lib.hid o2
  have O12 := Lib.hid (Kd.R_below O1.out b2)
  have G2 := Lib.hid (cut_ _ _ G1.out b2)
  clear o2 b2 O1 G1
  go_wp2_with fail
  go_goals
  refine (call3 w2).mono ?_
  rintro _ w3 ⟨v3, rfl, o3, b3⟩
  have O22 := Lib.hid (Kd.R_below O2.out b3)
  have O13 := Lib.hid (Kd.R_below O12.out b3)
  have G3 := Lib.hid (cut_ _ _ G2.out b3)
  clear o3 b3 O2 O12 G2
  go_wp2_with fail
  go_goals
  refine (call4 w3).mono ?_
  rintro _ w4 ⟨v4, rfl, o4, b4⟩
  have O23 := Lib.hid (Kd.R_below O22.out b4)
  have O14 := Lib.hid (Kd.R_below O13.out b4)
  have G4 := Lib.hid (cut_ _ _ G3.out b4)
  clear o4 b4 O22 O13 G3
  obtain ⟨A1, c1, rfl, hc1, hr1⟩ := Kd.R_reads O14.out
  obtain ⟨A2, c2, rfl, hc2, hr2⟩ := Kd.R_reads O23.out
  have R1 := Lib.hid hr1
  have R2 := Lib.hid hr2
  clear hr1 hr2
  go_wp2_with fail
  go_goals
  refine (same_lit A1 c1 [1, 2, 0] w4 (by decide) R1.out hc1).mono ?_
  rintro _ w5 ⟨rfl, b5⟩
  have R25 := Lib.hid (C_below R2.out b5)
  have G5 := Lib.hid (cut_ _ _ G4.out b5)
  clear b5 R2 G4 R1 O14 O23
  go_wp2_with fail
  go_goals
  refine (same_lit A2 c2 [1, 2, 3, 0] w5 (by decide) R25.out hc2).mono ?_
  rintro _ w6 ⟨rfl, b6⟩
  have G6 := Lib.hid (cut_ _ _ G5.out b6)
  clear b6 R25 G5
  go_wp2_with fail
  go_goals
  go_ret
  exact ⟨rfl, G6.out⟩

theorem belfrylaw13_alive.calls (r : Bool) (w : World) (h : belfrylaw13_alive.f = some r) : Calls Try.prog 8 #[] w fun e w' => e = .returned (.bool r) ∧ Below w.heap.size w w' := by
  obtain rfl : true = r := by injection h
  exact alive_walk w
end Go.Proofs.Ytodgeciggbeolaa.S
