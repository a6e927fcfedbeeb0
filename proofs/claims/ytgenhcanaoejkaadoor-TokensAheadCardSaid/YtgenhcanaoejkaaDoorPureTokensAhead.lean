/- TokensAhead: what its printed function answers, in plain words. -/
import Derived.Test.YtgenhcanaoejkaaDoorSx7
import Derived.Test.YtgenhcanaoejkaaDoorPuT
import Derived.Test.YtgenhcanaoejkaaDoorTokR
namespace Go.Proofs.YtgenhcanaoejkaaDoor.Pure
set_option linter.unusedVariables false
set_option linter.unusedSimpArgs false
open Go.RowKit Go.Proofs.YtgenhcanaoejkaaDoor.S Go.Proofs.YtgenhcanaoejkaaDoorW.PrintWords Go.Proofs.YtgenhcanaoejkaaDoorW.PrintLast
theorem alive_eqA : belfrylaw04_alive.f = some true := rfl
theorem TokensAhead : belfrylaw04_TokensAhead.Pure := by
  intro s a hs hwf
  have hwf2 : 0 ≤ a ∧ a ≤ 65535 := by
    have := hwf
    simp [Lit.wf, IntKind.min, IntKind.max, IntKind.bits, IntKind.signed] at this
    omega
  refine ⟨s.size + 4, ?_⟩
  unfold belfrylaw04_TokensAhead.f
  rw [alive_eqA, Option.bind_some, if_pos rfl]
  simp only [belfrylaw04_TokensAhead.j0]
  by_cases hg : (s.size : Int) > 20000
  · rw [decide_eq_true hg, if_pos rfl]; rfl
  · rw [decide_eq_false hg, if_neg (by simp)]
    rcases hx : Tok.R (bytesOf s) 0 with ⟨_ | ts, q⟩
    · rw [read_none (by omega) hx, Option.bind_some, if_neg (show ¬ ((5 : Int) = 0) by decide)]
      rfl
    · rw [read_some (by omega) hx, Option.bind_some, if_pos rfl]
      obtain ⟨u1, u2, u3⟩ := Tok.R_upto _ _ _ _ hx
      rw [bytesOf_length] at u1 u2
      simp only [belfrylaw04_TokensAhead.j1, List.length_map]
      by_cases h0 : ts.length = 0
      · rw [if_pos (by rw [h0]; rfl)]
      · rw [if_neg (by rw [beq_iff_eq]; omega), if_neg (by omega)]
        have hw : wrap64 a = a := by unfold wrap64; omega
        obtain ⟨n, rfl⟩ : ∃ n : Nat, a = n := ⟨a.toNat, by omega⟩
        have hm : Int.tmod (wrap64 (n : Int)) (ts.length : Int) = ((n % ts.length : Nat) : Int) := by
          rw [hw]; rfl
        rw [hm]
        have hlt : n % ts.length < ts.length := Nat.mod_lt _ (by omega)
        generalize n % ts.length = k at hlt hm
        obtain ⟨t, ht⟩ : ∃ t, ts[k]? = some t := ⟨ts[k], List.getElem?_eq_getElem hlt⟩
        have hrd : rd_T32 (ts.map toS) (k : Int) = toS t := by
          unfold rd_T32
          rw [List.getD_eq_getElem?_getD, Int.toNat_natCast, List.getElem?_map, ht]
          rfl
        have hmem := List.mem_of_getElem? ht
        have hp0 := Tok.R_from _ _ _ _ hx t hmem
        have hp1 := u2 t hmem
        have hf2 : (toS t).f2 = t.pos := rfl
        rw [if_pos (by omega), if_pos (by omega), hrd, hf2, if_neg (by omega), decide_eq_false (by omega)]
        simp only [belfrylaw04_TokensAhead.j2]
        rw [if_neg (by simp), if_pos (by omega), if_pos (by rw [List.length_map]; omega), hrd, hf2, if_pos (by omega), if_pos (by omega)]
        obtain ⟨q', hc⟩ := Tok.R_cut _ _ _ _ hx k t ht
        have hb : bytesOf (s.extract 0 t.pos.toNat) = (bytesOf s).take (t.pos.toNat - 0) := by
          show ((s.extract 0 t.pos.toNat).data.toList).map toI = (s.data.toList.map toI).take _
          rw [Lib.extract_data, List.drop_zero, List.map_take]
        have hz : (s.extract 0 t.pos.toNat).size ≤ 65536 := by
          rw [← bytesOf_length, hb, List.length_take, bytesOf_length]; omega
        rw [read_some hz (by rw [hb]; exact hc), Option.bind_some, if_pos rfl, if_pos (by rw [List.length_map]; omega)]
        have he : (ts.map toS).take ((k : Int)).toNat = (ts.take k).map toS := by rw [Int.toNat_natCast, List.map_take]
        rw [he, same_f _ (by rw [List.length_map, List.length_take]; omega) _ (by rw [List.length_map, List.length_take]; omega)]
        rfl
end Go.Proofs.YtgenhcanaoejkaaDoor.Pure
