/- OrderOf: from what the row reads to the law's walk: great lists, and others. -/
import Derived.Test.YtodgeciggbeolaaGreatDoorLwO
import Derived.Test.YtodgeciggbeolaaGreatDoorTr
namespace Go.Proofs.YtodgeciggbeolaaGreatDoor
set_option linter.unusedVariables false
set_option linter.unusedSimpArgs false
set_option linter.unusedSectionVars false
open Go.RowKit Go.Proofs.YtodgeciggbeolaaGreatDoorW.PrintWords
open Go.Proofs.Ord
theorem bytes25 : Tryz.prog.bytesOf 25 = 24 := by kernel_rfl
theorem bytes3 : Tryz.prog.bytesOf 3 = 8 := by kernel_rfl
theorem of_length (l : List (List Int)) : (Ord.of l).1.length ≤ l.length := by
  unfold Ord.of
  split
  · simp
  · split
    · simp
    · have := (run_length l l.length []).2
      simpa using this
theorem lawOrderOf (W : World) (A : Option Addr) (c : Nat) (l : List (List Int)) (hr : Kd.C (Kd.slice 3 (Kd.int .i64)) W A l.length l) (hc : l.length ≤ c)
    (hw : l.length * Tryz.prog.bytesOf 25 ≤ 140737488351232 ∧ l.length ≤ 9223372036854775807 ∧ ∀ a ∈ l, a.length * Tryz.prog.bytesOf 3 ≤ 140737488351232 ∧ a.length ≤ 9223372036854775807 ∧ ∀ n ∈ a, (Lit.int .i64 n).wf = true) :
    Calls Tryz.prog 3 #[.slice A l.length c] W fun e W' => e = .returned (.bool true) ∧ Below W.heap.size W W' := by
  rw [bytes25, bytes3] at hw
  have hx : V.WfL l := by
    refine ⟨by omega, fun k => ?_⟩
    by_cases hk : k < l.length
    · have := (hw.2.2 _ (List.getElem_mem hk)).1
      unfold at_
      rw [List.getD_eq_getElem?_getD, List.getElem?_eq_getElem hk]
      show (l[k]).length ≤ _
      omega
    · rw [V.at_beyond (by omega)]; simp
  obtain ⟨b, hg, hb⟩ := V.great_ev l hx
  cases b with
  | true =>
    obtain ⟨k, hf⟩ := hg.rounds
    exact (B.law_great k A c l W hr hc hf).mono fun e w' h => h
  | false =>
    obtain ⟨h1, h2⟩ := hb rfl
    have hlen := of_length l
    obtain ⟨K1, g1⟩ := hg
    have href := V.ref_of l (by omega) (fun k => by have := h2 k; omega)
    have hsm := V.same_ev (Ord.of l).1 (Ord.of l).1 (by omega)
    rw [decide_eq_true rfl] at hsm
    obtain ⟨K2, g2⟩ := href
    obtain ⟨K3, g3⟩ := hsm
    exact (B.law_small (max K1 (max K2 K3)) A c l W hr hc (g1 _ (by omega)) h1 (fun k => by have := h2 k; omega) (g2 _ (by omega)) (g3 _ (by omega)) (by omega)).mono fun e w' h => h
end Go.Proofs.YtodgeciggbeolaaGreatDoor
