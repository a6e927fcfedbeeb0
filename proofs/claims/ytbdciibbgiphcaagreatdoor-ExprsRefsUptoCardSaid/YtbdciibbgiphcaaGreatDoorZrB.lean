/- Refs as rows. Selected by wip/sel.py (ours) out of other texts. -/
import Derived.Test.YtbdciibbgiphcaaGreatDoorZrA
namespace Go.Proofs.YtbdciibbgiphcaaGreatDoor.V
set_option linter.unusedVariables false
set_option linter.unusedSimpArgs false
set_option linter.unusedSectionVars false
open Go.RowKit Go.Proofs.YtbdciibbgiphcaaGreatDoorW.PrintWords Go.Proofs.YtbdciibbgiphcaaGreatDoorW.PrintLast Go.Proofs.YtbdciibbgiphcaaGreatDoorW.PrintMore
theorem kp2 {w w' : World} {k : Nat} {o : Obj} (hb : Below w.heap.size w w') (h : w.heap[k]? = some o) : Hid (w'.heap[k]? = some o) := Lib.hid ((hb.block _ (blk_lt h)).trans h)
def toR (r : Rf) : S60 := ⟨r.1, r.2⟩
theorem reps_rf (w : World) : ∀ L : List Rf, Reps (k60.K w) 2 (L.map toR) (rfCells L) := by
  intro L
  refine ⟨?_, fun j p hp => ?_⟩
  · induction L with
    | nil => rfl
    | cons r t ih => simp only [rfCells, List.flatMap_cons, List.length_append, List.length_map] at ih ⊢; simp at ih ⊢; omega
  · induction L generalizing j with
    | nil => simp at hp
    | cons r t ih =>
      cases j with
      | zero =>
        simp only [List.map_cons, List.getElem?_cons_zero, Option.some.injEq] at hp
        subst hp
        exact k60_mk w (toR r)
      | succ j =>
        simp only [List.map_cons, List.getElem?_cons_succ] at hp
        have := ih j hp
        have e : (rfCells (r :: t)).drop ((j + 1) * 2) = (rfCells t).drop (j * 2) := by
          rw [show (j + 1) * 2 = j * 2 + 1 + 1 by omega]
          rfl
        rw [e]
        exact this
/-- what was found, as it lies. -/
theorem refs_read {w : World} {base : Nat} {v : Value} {L : List Rf} (h : w.ownsRow base 60 2 v L.length (rfCells L)) : ∃ A c, v = .slice A (L.map toR).length c ∧ (L.map toR).length ≤ c ∧ Kd.C k60 w A (L.map toR).length (L.map toR) := by
  obtain ⟨A, c, he, hr⟩ := own_reads_row h (reps_rf w L) (by simp)
  refine ⟨A, c, by rw [List.length_map]; exact he, ?_, by rw [List.length_map]; exact hr⟩
  subst he
  have := own_cap' h
  rw [List.length_map]
  exact this
theorem cell_al2 {w : World} {p : Addr} {v : Value} (h : w.cell? p = some v) (o : Obj) : (w.alloc o).cell? p = some v := by
  rw [World.cell?_alloc_some _ _ _ (by rw [h]; rfl)]; exact h
theorem rd_R {l : List Rf} {i : Nat} {r : Rf} (h : l[i]? = some r) : rd_T60 (l.map toR) (i : Int) = toR r := by
  unfold rd_T60
  rw [Int.toNat_natCast, List.getD_eq_getElem?_getD, List.getElem?_map, h]
  rfl
theorem cell_al {w : World} {p : Addr} {v : Value} (h : w.cell? p = some v) (o : Obj) : (w.alloc o).cell? p = some v := by
  rw [World.cell?_alloc_some _ _ _ (by rw [h]; rfl)]; exact h
theorem dec_rf (a b : Rf) : decide (a = b) = (a.1.toList == b.1.toList && (a.2 == b.2)) := by
  rw [Bool.eq_iff_iff, decide_eq_true_iff, Bool.and_eq_true, beq_iff_eq, beq_iff_eq]
  constructor
  · rintro rfl; exact ⟨rfl, rfl⟩
  · rintro ⟨h1, h2⟩
    rw [ByteArray.toList_eq, ByteArray.toList_eq] at h1
    exact Prod.ext (ByteArray.ext (Array.toList_inj.1 h1)) h2
attribute [local go_sem high] eqA60
end Go.Proofs.YtbdciibbgiphcaaGreatDoor.V
