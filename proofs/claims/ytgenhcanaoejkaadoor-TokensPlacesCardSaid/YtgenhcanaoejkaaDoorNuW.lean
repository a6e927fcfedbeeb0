/- tokens.Number: walk, and its contract for the printed texts. -/
import Derived.Test.YtgenhcanaoejkaaDoorExtD
import Derived.Test.YtgenhcanaoejkaaDoorTkW
import Derived.WalkSmall
namespace Go.Proofs.YtgenhcanaoejkaaDoor.S
set_option linter.unusedVariables false
set_option linter.unusedSimpArgs false
set_option linter.unusedSectionVars false
open Go.RowKit
open Go.Proofs.YtgenhcanaoejkaaDoorW.PrintWords
theorem errRange_named : Tryd.prog.globalNamed "strconv.ErrRange" = some 1 := by kernel_rfl
theorem VarOk.step {w0 w : World} (h : VarOk w0) (hb : Below w0.heap.size w0 w) : VarOk w := by
  obtain ⟨tp, p, hv⟩ := h
  refine ⟨tp, p, ?_⟩
  have hlt : 1 < w0.heap.size := by
    unfold World.var? at hv
    simp only [errRange_named, Option.bind_some] at hv
    rcases hx : w0.heap[1]? with _ | o
    · rw [hx] at hv; simp at hv
    · exact (Array.getElem?_eq_some_iff.1 hx).1
  exact var?_below hb errRange_named hlt hv
def NumPost (s : ByteArray) (r : Option (Int × Int)) (w : World) (e : Ending) (w' : World) : Prop := ∃ x y, r = some (x, y) ∧ e = .returned (.tuple #[.int .i64 x, .int .i64 y]) ∧ Below w.heap.size w w'
set_option maxHeartbeats 4000000 in
set_option maxRecDepth 100000 in
theorem number_walk (s : ByteArray) (w : World) (hs : s.size ≤ 281474976710656) (hv : VarOk w) (hsy : numberOf s ≠ none) : Calls Tryd.prog 11 #[.string s] w (NumPost s (numberOf s) w) := by
  have hne1 := hsy
  by_cases h0 : s.size = 0
  · have he : s.toList = [] := by rw [ByteArray.toList_eq]; exact List.eq_nil_of_length_eq_zero (by rw [data_length]; exact h0)
    have hn : numberOf s = some (0, 5) := by unfold numberOf; rw [if_neg (fun q => by omega)]
    rw [hn]
    have he2 : (s.toList == ([] : List UInt8)) = true := by rw [he]; rfl
    go_enter Tryd.func11, Tryd.ntmps11
    go_wp2_with fail
    go_ret2
    exact ⟨0, 5, rfl, rfl, Below.refl _ _⟩
  · have he : ¬ s.toList = [] := fun q => h0 (by rw [ByteArray.toList_eq] at q; rw [← data_length, q]; rfl)
    have he2 : (s.toList == ([] : List UInt8)) = false := beq_eq_false_iff_ne.mpr he
    have he3 : s.toList.isEmpty = false := by cases hx : s.toList with | nil => exact absurd hx he | cons _ _ => rfl
    by_cases hl : Tok.numLen (bytesOf s) = s.size
    · have hl2 : (((Tok.numLen (bytesOf s) : Nat) : Int) != (s.size : Int)) = false := by rw [hl]; simp
      rcases hp : Lib.parseIntB 64 s.data.toList with v | _ | _
      · have hn : numberOf s = some (v, 0) := by unfold numberOf; rw [if_pos ⟨by omega, hl⟩, hp]
        rw [hn]
        clear hsy hne1 hn
        go_enter Tryd.func11, Tryd.ntmps11
        go_wp2_with fail
        refine (ofNumber_walk s _ (by omega)).mono ?_
        rintro _ w1 ⟨rfl, hb1⟩
        go_wp2_with fail
        refine (Tryd.strconv_ParseInt_10_at64_ok s (by omega) v hp _).mono ?_
        rintro _ w2 ⟨rfl, hb2⟩
        have hb3 : Below w.heap.size w w2 := by
          rcases hb2 with rfl | ⟨t, rfl⟩
          · exact hb1
          · exact below_step hb1 (Lib.bytesWorld_below _ _ _)
        clear hb2
        go_wp2_with fail
        go_ret2
        exact ⟨v, 0, rfl, rfl, hb3⟩
      · have hn : numberOf s = none := by unfold numberOf; rw [if_pos ⟨by omega, hl⟩, hp]
        exact absurd hn hsy
      · have hn : numberOf s = some (0, 3) := by unfold numberOf; rw [if_pos ⟨by omega, hl⟩, hp]
        rw [hn]
        clear hsy hne1 hn
        go_enter Tryd.func11, Tryd.ntmps11
        go_wp2_with fail
        refine (ofNumber_walk s _ (by omega)).mono ?_
        rintro _ w1 ⟨rfl, hb1⟩
        obtain ⟨tp, pv, hv1⟩ := hv.step hb1
        go_wp2_with fail
        refine (Tryd.strconv_ParseInt_10_at64_range_var s hs hp tp pv w1 hv1).mono ?_
        rintro _ w2 ⟨N, rfl, -, -, hb2⟩
        have hb3 : Below w.heap.size w w2 := below_step hb1 hb2
        clear hb2
        go_wp2_with fail
        go_ret2
        exact ⟨0, 3, rfl, rfl, hb3⟩
    · have hl2 : (((Tok.numLen (bytesOf s) : Nat) : Int) != (s.size : Int)) = true := by rw [bne_iff_ne]; omega
      have hn : numberOf s = some (0, 5) := by unfold numberOf; rw [if_neg (fun q => hl q.2)]
      rw [hn]
      clear hsy hne1 hn
      go_enter Tryd.func11, Tryd.ntmps11
      go_wp2_with fail
      refine (ofNumber_walk s _ (by omega)).mono ?_
      rintro _ w1 ⟨rfl, hb1⟩
      go_wp2_with fail
      go_ret2
      exact ⟨0, 5, rfl, rfl, hb1⟩
theorem tokens_Number.callsB (a0 : ByteArray) (r1 : Int) (r2 : Int) (w : World) {w0 : World} (hv : VarOk w0) (hb : Below w0.heap.size w0 w) (h : tokens_Number.f a0 = some (r1, r2)) :
    Calls Tryd.prog 11 #[.string a0] w fun e w' => e = .returned (.tuple #[.int .i64 r1, .int .i64 r2]) ∧ Below w.heap.size w w' := by
  unfold tokens_Number.f at h
  split at h
  · rename_i hs
    refine (number_walk a0 w hs (hv.step hb) (by rw [h]; simp)).mono ?_
    rintro e w' ⟨x, y, hxy, rfl, hb2⟩
    rw [h] at hxy
    injection hxy with hxy
    injection hxy with h1 h2
    exact ⟨by rw [h1, h2], hb2⟩
  · cases h
end Go.Proofs.YtgenhcanaoejkaaDoor.S
