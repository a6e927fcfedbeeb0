/- JP: joined by wip/mkclaim.py (ours) from the texts OrW, LwO, LvO, Tr of this seat. -/
import Derived.Test.YtfkggeakjgphjaaJO
import Derived.Test.YtfkggeakjgphjaaJG
import Derived.Test.YtfkggeakjgphjaaWWords
import Derived.ChangeArms
import Derived.SizedLaws
import Derived.DataReads
/- CirclesOrdered: walked. -/
namespace Go.Proofs.Ytfkggeakjgphjaa.C
set_option linter.unusedVariables false
set_option linter.unusedSimpArgs false
set_option linter.unusedSectionVars false
open Go.RowKit Go.Shelf Go.Proofs.YtfkggeakjgphjaaW.PrintWords Go.Proofs.YtfkggeakjgphjaaW.PrintLast Go.Proofs.YtfkggeakjgphjaaW.PrintMore
open Go.Proofs.RngT Go.Proofs.Circ
attribute [local go_sem] Oper.semAt_some
/-- rows of bytes. -/
def ByteRows (l : List (List Int)) : Prop := ∀ r ∈ l, ∀ x ∈ r, 0 ≤ x ∧ x ≤ 255
theorem rdB_byte {l : List (List Int)} (h : ByteRows l) (i k : Nat) : 0 ≤ (rdB l i).getD k 0 ∧ (rdB l i).getD k 0 ≤ 255 := by
  unfold rdB
  by_cases hi : i < l.length
  · rw [List.getD_eq_getElem?_getD (l := l), List.getElem?_eq_getElem hi]
    dsimp only [Option.getD_some]
    by_cases hk : k < (l[i]).length
    · rw [List.getD_eq_getElem?_getD, List.getElem?_eq_getElem hk]
      exact h _ (List.getElem_mem hi) _ (List.getElem_mem hk)
    · rw [List.getD_eq_getElem?_getD, List.getElem?_eq_none (by omega)]; simp
  · rw [List.getD_eq_getElem?_getD (l := l), List.getElem?_eq_none (by omega)]; simp
set_option maxHeartbeats 8000000 in
set_option maxRecDepth 100000 in
theorem ord_in (w : World) (now ago : List (List Int)) (A0 A1 : Option Addr) (c0 c1 n m : Nat) (hn : n = now.length) (hm : m = ago.length) (hb0 : ByteRows now) (hb1 : ByteRows ago)
    (hC0 : Kd.C kB w A0 n now) (hC1 : Kd.C kB w A1 m ago)
    (cm : Bool) (hcm : n ≤ 60 → 1 ≤ n → Ev (fun k => belfrylaw09_come.f k (rowsO now n) ((n - 1 : Nat) : Int)) cm)
    (q1 : n ≤ 60 → 1 ≤ n → m ≤ 60 → circN [] (ofF (rowsO now n) (oldsO now ago n)) = [])
    (q2 : n ≤ 60 → 1 ≤ n → m ≤ 60 → ∀ a, a = (rowsO now n).set 0 [((n - 1 : Nat) : Int)] → (circN [] (ofF a (oldsO now ago n)) ≠ [] ↔ cm = true))
    (i1 : n ≤ 60 → 1 ≤ n → RowsIn n (rowsO now n)) (i2 : n ≤ 60 → 1 ≤ n → RowsIn n (oldsO now ago n)) (i3 : n ≤ 60 → 1 ≤ n → RowsIn n ((rowsO now n).set 0 [((n - 1 : Nat) : Int)])) :
    CallsIn Fence.wide 9 Try.prog 4 #[.slice A0 n c0, .slice A1 m c1] w fun e w' => e = .returned (.bool true) ∧ Below w.heap.size w w' := by
  have HN := Lib.hid hn; have HM := Lib.hid hm; have HB0 := Lib.hid hb0; have HB1 := Lib.hid hb1; have HC0 := Lib.hid hC0; have HC1 := Lib.hid hC1
  have HCM := Lib.hid hcm; have Q1 := Lib.hid q1; have Q2 := Lib.hid q2; have I1 := Lib.hid i1; have I2 := Lib.hid i2; have I3 := Lib.hid i3
  clear hn hm hb0 hb1 hC0 hC1 hcm q1 q2 i1 i2 i3
  refine callsIn_of_wp Try.func4 rfl trivial ?_ rfl
  simp only [Try.ntmps4, List.size_toArray, List.length_cons, List.length_nil, Nat.reduceAdd, Nat.reduceSub, Array.replicate_succ, Array.replicate_zero, List.push_toArray, List.append_toArray, List.nil_append, List.cons_append]
  gi_wp2_with fail
  refine ⟨trivial, ?_⟩
  refine (callsIn_wide.2 (alive_any w)).mono ?_
  rintro e w1 ⟨rfl, hb1⟩
  have HBL := Lib.hid hb1
  clear hb1
  have hend : ∀ w2, Below w.heap.size w w2 → Below w2.heap.size w2 w2 → True := fun _ _ _ => trivial
  clear hend
  by_cases h1 : 60 < n
  · have d1 : decide (60 < (n : Int)) = true := decide_eq_true (by omega)
    gi_wp2_with fail
    refine ⟨trivial, ?_⟩
    refine (callsIn_wide.2 (alive_any w1)).mono ?_
    rintro e w2 ⟨rfl, hb2⟩
    have HE := Lib.hid (HBL.out.trans (hb2.mono HBL.out.size))
    clear hb2
    gi_wp2_with fail
    go_ret
    exact ⟨rfl, HE.out⟩
  have d1 : decide (60 < (n : Int)) = false := decide_eq_false (by omega)
  by_cases h0 : n = 0
  · subst h0
    gi_wp2_with fail
    refine ⟨trivial, ?_⟩
    refine (callsIn_wide.2 (alive_any w1)).mono ?_
    rintro e w2 ⟨rfl, hb2⟩
    have HE := Lib.hid (HBL.out.trans (hb2.mono HBL.out.size))
    clear hb2
    gi_wp2_with fail
    go_ret
    exact ⟨rfl, HE.out⟩
  have d0 : ((n : Int) == 0) = false := by simpa using h0
  by_cases h2 : 60 < m
  · have d2 : decide (60 < (m : Int)) = true := decide_eq_true (by omega)
    gi_wp2_with fail
    refine ⟨trivial, ?_⟩
    refine (callsIn_wide.2 (alive_any w1)).mono ?_
    rintro e w2 ⟨rfl, hb2⟩
    have HE := Lib.hid (HBL.out.trans (hb2.mono HBL.out.size))
    clear hb2
    gi_wp2_with fail
    go_ret
    exact ⟨rfl, HE.out⟩
  have d2 : decide (60 < (m : Int)) = false := decide_eq_false (by omega)
  obtain ⟨b, hb⟩ : ∃ b, b = w1.heap.size := ⟨_, rfl⟩
  have HB := Lib.hid hb
  have HR0 : Hid (OrS b w1 w1 (.slice none 0 0) (.slice none 0 0) [] []) := Lib.hid ⟨Below.refl _ _, by omega, RG.nil _ _, RG.nil _ _, fun k hk => by simp [Value.ownBlock] at hk⟩
  have HC0' := Lib.hid (Kd.C_below HC0.out HBL.out)
  have HC1' := Lib.hid (Kd.C_below HC1.out HBL.out)
  clear hb HC0 HC1
  gi_wp2_with fail
  gi_loopw [5, 6, 7] (fun v5 v6 v7 wr => ∃ i : Nat, v7 = .int .i64 i ∧ i ≤ n ∧ Hid (OrS b w1 wr v5 v6 (rowsO now i) (oldsO now ago i))) (fun _ _ v7 _ => n - (intOf v7).toNat)
  case atStart => exact ⟨0, rfl, Nat.zero_le _, HR0⟩
  case round =>
    clear HR0
    obtain ⟨i, rfl, hi, HS⟩ := hrel
    by_cases hlt : i < n
    · gi_wp2_with fail
      obtain ⟨wo, rfl⟩ : ∃ wo : World, wo = wr := ⟨_, rfl⟩
      obtain ⟨L, hL⟩ : ∃ L, L = wo.heap.size := ⟨_, rfl⟩
      have HL := Lib.hid hL
      have hbw : Below w1.heap.size w1 wo := by rw [← HB.out]; exact HS.out.bel
      have HBW := Lib.hid hbw
      have hLb : b ≤ L := by rw [hL]; exact HS.out.sz
      clear hbw hL
      refine wpIn_mono (Q := fun e a w' => e = .exit 2 ∧ ∃ (e10 e40 e41 e42 e43 e44 e45 e46 e47 e48 e49 e50 e51 e52 e53 e54 e55 e56 e57 e58 e59 e60 e61 e62 e63 e64 e65 e66 e67 e68 e69 : Value) (v8 : Value), a = { tmps := #[.slice A0 n c0, .slice A1 m c1, undef, undef, .bool false, u5, u6, .int .i64 i, v8, .slice none 0 0, e10, u11, undef, undef, undef, undef, .bool true, .bool false, .bool false, .slice A0 n c0, .int .i64 n, .bool false, .bool false, .bool false, .slice A0 n c0, .int .i64 n, .bool false, .bool false, .bool false, .slice A1 m c1, .int .i64 m, .bool false, .bool false, undef, .int .i64 i, .slice A0 n c0, .int .i64 n, .bool true, u38, u39, e40, e41, e42, e43, e44, e45, e46, e47, e48, e49, e50, e51, e52, e53, e54, e55, e56, e57, e58, e59, e60, e61, e62, e63, e64, e65, e66, e67, e68, e69, u70, u71, u72, u73, u74, u75, u76, u77, u78, u79, u80, u81, u82, u83, u84, u85, u86, u87, u88, u89, u90, u91, u92, u93, u94, u95, u96, u97, u98, u99, u100, u101, u102, u103, u104, u105, u106, u107, u108, u109, u110, undef, undef, undef, undef, undef, undef, undef, undef, undef, undef, undef, undef, undef, undef, undef, undef, undef, undef, undef, undef, undef, undef, undef, undef, undef, undef, undef, undef, undef, undef, undef, undef, undef, undef, undef, undef, undef, undef, undef, undef, undef, undef], defers := [] } ∧ Hid (Below L wo w') ∧ Hid (w'.ownsRow L 3 1 v8 (rowO now i).length (nums .i64 (rowO now i))) ∧ Hid (rowO now i = [] → v8 = .slice none 0 0)) ?_ ?_
      · gi_loopw [8, 10] (fun v8 v10 w' => ∃ k : Nat, v10 = .int .i64 k ∧ k ≤ 10 ∧ (i = 0 → k = 0) ∧ k ≤ (rdB now i).length ∧ Hid (k = 0 → v8 = .slice none 0 0) ∧ Hid (Below L wo w') ∧ Hid (w'.ownsRow L 3 1 v8 (((rdB now i).take k).map fun x => Int.tmod x i).length (nums .i64 (((rdB now i).take k).map fun x => Int.tmod x i)))) (fun _ v10 _ => 10 - (intOf v10).toNat)
        case atStart => exact ⟨0, rfl, by omega, fun _ => rfl, Nat.zero_le _, Lib.hid (fun _ => rfl), Lib.hid (by rw [HL.out]; exact Below.refl _ _), Lib.hid (World.ownsRow_nil _ _ _ _)⟩
        case round =>
          obtain ⟨k, rfl, hk10, hk0, hkl, HZ8, HBe, HOw⟩ := hrel
          have HKL := Lib.hid hkl
          have hC := Kd.C_below HC0'.out (HBW.out.trans (HBe.out.mono (by have := HBW.out.size; have := HL.out; omega)))
          obtain ⟨ad, Ar, cr, hA, p0, hCr⟩ := at_B hC i hlt
          subst hA
          have hadl := cell_lt p0
          obtain ⟨ln, hln⟩ : ∃ ln, ln = (rdB now i).length := ⟨_, rfl⟩
          rw [← hln] at p0 hCr hkl
          have HLN := Lib.hid hln
          have HCR := Lib.hid hCr
          clear hC hCr hln
          by_cases hk : k < ln
          · have d1 : decide ((k : Int) < (ln : Int)) = true := decide_eq_true (by omega)
            by_cases hi0 : i = 0
            · have d2 : decide (0 < (i : Int)) = false := decide_eq_false (by omega)
              have d2' : decide (0 < i) = false := decide_eq_false (by omega)
              have hk00 := hk0 hi0
              have hrow : rowO now i = ((rdB now i).take k).map fun x => Int.tmod x i := by rw [hk00]; unfold rowO; rw [if_pos hi0]; rfl
              have HROW := Lib.hid hrow
              clear hrow hi0 hk00 hk0
              gi_wp2_with fail
              (have HOF := Lib.hid (show wr.ownsRow L 3 1 u8 (rowO now i).length (nums .i64 (rowO now i)) from by rw [HROW.out]; exact HOw.out)); (have HZF : Hid (rowO now i = [] → u8 = .slice none 0 0) := Lib.hid (fun h => HZ8.out (take_nil HKL.out (by rw [← HROW.out]; exact h)))); first | exact ⟨trivial, _, _, _, _, _, _, _, _, _, _, _, _, _, _, _, _, _, _, _, _, _, _, _, _, _, _, _, _, _, _, _, _, rfl, HBe, HOF, HZF⟩ | exact ⟨_, _, _, _, _, _, _, _, _, _, _, _, _, _, _, _, _, _, _, _, _, _, _, _, _, _, _, _, _, _, _, _, rfl, HBe, HOF, HZF⟩
            · have d2 : decide (0 < (i : Int)) = true := decide_eq_true (by omega)
              by_cases h10 : k < 10
              · have d3 : decide ((k : Int) < 10) = true := decide_eq_true (by omega)
                obtain ⟨ar, hAr, pr⟩ := at_b HCR.out k hk
                subst hAr
                have harl := cell_lt pr
                have hX := rdB_byte HB0.out i k
                obtain ⟨X, hXe⟩ : ∃ X, X = (rdB now i).getD k 0 := ⟨_, rfl⟩
                rw [← hXe] at pr hX
                have HX := Lib.hid hX
                have hnext : ((rdB now i).take (k + 1)).map (fun x => Int.tmod x i) = (((rdB now i).take k).map fun x => Int.tmod x i) ++ [Int.tmod (wrap64 X) i] := by
                  rw [List.take_succ_eq_append_getElem (by rw [← HLN.out]; exact hk), List.map_append, List.map_cons, List.map_nil, w64 (by omega) (by omega), hXe, List.getD_eq_getElem?_getD, List.getElem?_eq_getElem (by rw [← HLN.out]; exact hk)]
                  rfl
                have HNX := Lib.hid hnext
                have hLw : L ≤ wr.heap.size := by have h1 := HBe.out.size; have h2 := HL.out; omega
                obtain ⟨ys, hys⟩ : ∃ ys, ys = ((rdB now i).take k).map fun x => Int.tmod x i := ⟨_, rfl⟩
                have hyl : ys.length ≤ 10 := by rw [hys]; simp; omega
                rw [← hys] at HOw
                have HYS := Lib.hid hys
                clear hX hXe hnext hys
                gi_wp2_with (gi_at_builtin; refine printIn_append_num (w0 := wr) (W := wr) L rfl _ _ 35 3 .i64 8 rfl Try.underlying35 info3 (by decide) u8 ys (Int.tmod (wrap64 X) i) rfl rfl HOw.out (Below.refl _ _) hLw (by omega) ?_; intro v1 w9 hown9 hB9 hg9 hat9; have HOW9 := Lib.hid hown9; have HBE9 := Lib.hid (HBe.out.trans hB9); clear hown9 hB9 hg9 hat9)
                refine ⟨⟨k + 1, by go_num, by omega, by omega, by rw [← HLN.out]; omega, Lib.hid (fun h => absurd h (by omega)), HBE9, ?_⟩, by simp [intOf]; omega⟩
                rw [HNX.out, ← HYS.out]
                exact HOW9
              · have d3 : decide ((k : Int) < 10) = false := decide_eq_false (by omega)
                have hrow : rowO now i = ((rdB now i).take k).map fun x => Int.tmod x i := by rw [show k = 10 by omega]; unfold rowO; rw [if_neg hi0]
                have HROW := Lib.hid hrow
                clear hrow
                gi_wp2_with fail
                (have HOF := Lib.hid (show wr.ownsRow L 3 1 u8 (rowO now i).length (nums .i64 (rowO now i)) from by rw [HROW.out]; exact HOw.out)); (have HZF : Hid (rowO now i = [] → u8 = .slice none 0 0) := Lib.hid (fun h => HZ8.out (take_nil HKL.out (by rw [← HROW.out]; exact h)))); first | exact ⟨trivial, _, _, _, _, _, _, _, _, _, _, _, _, _, _, _, _, _, _, _, _, _, _, _, _, _, _, _, _, _, _, _, _, rfl, HBe, HOF, HZF⟩ | exact ⟨_, _, _, _, _, _, _, _, _, _, _, _, _, _, _, _, _, _, _, _, _, _, _, _, _, _, _, _, _, _, _, _, rfl, HBe, HOF, HZF⟩
          · have d1 : decide ((k : Int) < (ln : Int)) = false := decide_eq_false (by omega)
            have hrow : rowO now i = ((rdB now i).take k).map fun x => Int.tmod x i := by
              have e1 : k = (rdB now i).length := by rw [← HLN.out]; omega
              unfold rowO
              split
              · rename_i h0'; rw [hk0 h0']; rfl
              · rw [e1, List.take_length, List.take_of_length_le (by omega)]
            have HROW := Lib.hid hrow
            clear hrow
            gi_wp2_with fail
            (have HOF := Lib.hid (show wr.ownsRow L 3 1 u8 (rowO now i).length (nums .i64 (rowO now i)) from by rw [HROW.out]; exact HOw.out)); (have HZF : Hid (rowO now i = [] → u8 = .slice none 0 0) := Lib.hid (fun h => HZ8.out (take_nil HKL.out (by rw [← HROW.out]; exact h)))); first | exact ⟨trivial, _, _, _, _, _, _, _, _, _, _, _, _, _, _, _, _, _, _, _, _, _, _, _, _, _, _, _, _, _, _, _, _, rfl, HBe, HOF, HZF⟩ | exact ⟨_, _, _, _, _, _, _, _, _, _, _, _, _, _, _, _, _, _, _, _, _, _, _, _, _, _, _, _, _, _, _, _, rfl, HBe, HOF, HZF⟩
      · rintro e a w' ⟨rfl, e10, e40, e41, e42, e43, e44, e45, e46, e47, e48, e49, e50, e51, e52, e53, e54, e55, e56, e57, e58, e59, e60, e61, e62, e63, e64, e65, e66, e67, e68, e69, v8, rfl, HBe, HO8, HZ8⟩
        gi_wp2_with fail
        obtain ⟨wm, rfl⟩ : ∃ wm : World, wm = w' := ⟨_, rfl⟩
        obtain ⟨L2, hL2⟩ : ∃ L2, L2 = wm.heap.size := ⟨_, rfl⟩
        have HL2 := Lib.hid hL2
        have hLm : L ≤ L2 := by have h1 := HBe.out.size; have h2 := HL.out; omega
        have hbw2 : Below w1.heap.size w1 wm := HBW.out.trans (HBe.out.mono (by have := HBW.out.size; have := HL.out; omega))
        have HBW2 := Lib.hid hbw2
        clear hL2 hbw2
        refine wpIn_mono (Q := fun e a w' => e = .exit 4 ∧ ∃ (e11 e70 e71 e72 e73 e74 e75 e76 e77 e78 e79 e80 e81 e82 e83 e84 e85 e86 e87 e88 e89 e90 e91 e92 e93 e94 e95 e96 e97 e98 e99 e100 e101 e102 : Value) (v9 : Value), a = { tmps := #[.slice A0 n c0, .slice A1 m c1, undef, undef, .bool false, u5, u6, .int .i64 i, v8, v9, e10, e11, undef, undef, undef, undef, .bool true, .bool false, .bool false, .slice A0 n c0, .int .i64 n, .bool false, .bool false, .bool false, .slice A0 n c0, .int .i64 n, .bool false, .bool false, .bool false, .slice A1 m c1, .int .i64 m, .bool false, .bool false, undef, .int .i64 i, .slice A0 n c0, .int .i64 n, .bool true, u38, u39, e40, e41, e42, e43, e44, e45, e46, e47, e48, e49, e50, e51, e52, e53, e54, e55, e56, e57, e58, e59, e60, e61, e62, e63, e64, e65, e66, e67, e68, e69, e70, e71, e72, e73, e74, e75, e76, e77, e78, e79, e80, e81, e82, e83, e84, e85, e86, e87, e88, e89, e90, e91, e92, e93, e94, e95, e96, e97, e98, e99, e100, e101, e102, u103, u104, u105, u106, u107, u108, u109, u110, undef, undef, undef, undef, undef, undef, undef, undef, undef, undef, undef, undef, undef, undef, undef, undef, undef, undef, undef, undef, undef, undef, undef, undef, undef, undef, undef, undef, undef, undef, undef, undef, undef, undef, undef, undef, undef, undef, undef, undef, undef, undef], defers := [] } ∧ Hid (Below L2 wm w') ∧ Hid (w'.ownsRow L2 3 1 v9 (oldO now ago i).length (nums .i64 (oldO now ago i))) ∧ Hid (oldO now ago i = [] → v9 = .slice none 0 0)) ?_ ?_
        · gi_loopw [9, 11] (fun v9 v11 w' => ∃ k : Nat, v11 = .int .i64 k ∧ k ≤ 10 ∧ k ≤ (rdB ago i).length ∧ Hid (k = 0 → v9 = .slice none 0 0) ∧ Hid (Below L2 wm w') ∧ Hid (w'.ownsRow L2 3 1 v9 (((rdB ago i).take k).map fun x => Int.tmod x now.length).length (nums .i64 (((rdB ago i).take k).map fun x => Int.tmod x now.length)))) (fun _ v11 _ => 10 - (intOf v11).toNat)
          case atStart => exact ⟨0, rfl, by omega, Nat.zero_le _, Lib.hid (fun _ => rfl), Lib.hid (by rw [HL2.out]; exact Below.refl _ _), Lib.hid (World.ownsRow_nil _ _ _ _)⟩
          case round =>
            obtain ⟨k, rfl, hk10, hkl, HZ9, HBe2, HOw⟩ := hrel
            have HKL := Lib.hid hkl
            by_cases him : i < m
            · have d0 : decide ((i : Int) < (m : Int)) = true := decide_eq_true (by omega)
              have hC := Kd.C_below HC1'.out (HBW2.out.trans (HBe2.out.mono (by have := HBW2.out.size; have := HL2.out; omega)))
              obtain ⟨ad, Ar, cr, hA, p0, hCr⟩ := at_B hC i him
              subst hA
              have hadl := cell_lt p0
              obtain ⟨ln, hln⟩ : ∃ ln, ln = (rdB ago i).length := ⟨_, rfl⟩
              rw [← hln] at p0 hCr hkl
              have HLN := Lib.hid hln
              have HCR := Lib.hid hCr
              clear hC hCr hln
              by_cases hk : k < ln
              · have d1 : decide ((k : Int) < (ln : Int)) = true := decide_eq_true (by omega)
                by_cases h10 : k < 10
                · have d3 : decide ((k : Int) < 10) = true := decide_eq_true (by omega)
                  obtain ⟨ar, hAr, pr⟩ := at_b HCR.out k hk
                  subst hAr
                  have harl := cell_lt pr
                  have hX := rdB_byte HB1.out i k
                  obtain ⟨X, hXe⟩ : ∃ X, X = (rdB ago i).getD k 0 := ⟨_, rfl⟩
                  rw [← hXe] at pr hX
                  have hnext : ((rdB ago i).take (k + 1)).map (fun x => Int.tmod x now.length) = (((rdB ago i).take k).map fun x => Int.tmod x now.length) ++ [Int.tmod (wrap64 X) n] := by
                    rw [List.take_succ_eq_append_getElem (by rw [← HLN.out]; exact hk), List.map_append, List.map_cons, List.map_nil, w64 (by omega) (by omega), hXe, List.getD_eq_getElem?_getD, List.getElem?_eq_getElem (by rw [← HLN.out]; exact hk), HN.out]
                    rfl
                  have HNX := Lib.hid hnext
                  have hLw : L2 ≤ wr.heap.size := by have h1 := HBe2.out.size; have h2 := HL2.out; omega
                  obtain ⟨ys, hys⟩ : ∃ ys, ys = ((rdB ago i).take k).map fun x => Int.tmod x now.length := ⟨_, rfl⟩
                  have hyl : ys.length ≤ 10 := by rw [hys]; simp; omega
                  rw [← hys] at HOw
                  have HYS := Lib.hid hys
                  clear hX hXe hnext hys
                  gi_wp2_with (gi_at_builtin; refine printIn_append_num (w0 := wr) (W := wr) L2 rfl _ _ 35 3 .i64 8 rfl Try.underlying35 info3 (by decide) u9 ys (Int.tmod (wrap64 X) n) rfl rfl HOw.out (Below.refl _ _) hLw (by omega) ?_; intro v1 w9 hown9 hB9 hg9 hat9; have HOW9 := Lib.hid hown9; have HBE9 := Lib.hid (HBe2.out.trans hB9); clear hown9 hB9 hg9 hat9)
                  refine ⟨⟨k + 1, by go_num, by omega, by rw [← HLN.out]; omega, Lib.hid (fun h => absurd h (by omega)), HBE9, ?_⟩, by simp [intOf]; omega⟩
                  rw [HNX.out, ← HYS.out]
                  exact HOW9
                · have d3 : decide ((k : Int) < 10) = false := decide_eq_false (by omega)
                  have hrow : oldO now ago i = ((rdB ago i).take k).map fun x => Int.tmod x now.length := by rw [show k = 10 by omega]; rfl
                  have HROW := Lib.hid hrow
                  clear hrow
                  gi_wp2_with fail
                  (have HOF := Lib.hid (show wr.ownsRow L2 3 1 u9 (oldO now ago i).length (nums .i64 (oldO now ago i)) from by rw [HROW.out]; exact HOw.out)); (have HZF : Hid (oldO now ago i = [] → u9 = .slice none 0 0) := Lib.hid (fun h => HZ9.out (take_nil HKL.out (by rw [← HROW.out]; exact h)))); first | exact ⟨trivial, _, _, _, _, _, _, _, _, _, _, _, _, _, _, _, _, _, _, _, _, _, _, _, _, _, _, _, _, _, _, _, _, _, _, _, rfl, HBe2, HOF, HZF⟩ | exact ⟨_, _, _, _, _, _, _, _, _, _, _, _, _, _, _, _, _, _, _, _, _, _, _, _, _, _, _, _, _, _, _, _, _, _, _, rfl, HBe2, HOF, HZF⟩
              · have d1 : decide ((k : Int) < (ln : Int)) = false := decide_eq_false (by omega)
                have hrow : oldO now ago i = ((rdB ago i).take k).map fun x => Int.tmod x now.length := by
                  have e1 : k = (rdB ago i).length := by rw [← HLN.out]; omega
                  unfold oldO
                  rw [e1, List.take_length, List.take_of_length_le (by omega)]
                have HROW := Lib.hid hrow
                clear hrow
                gi_wp2_with fail
                (have HOF := Lib.hid (show wr.ownsRow L2 3 1 u9 (oldO now ago i).length (nums .i64 (oldO now ago i)) from by rw [HROW.out]; exact HOw.out)); (have HZF : Hid (oldO now ago i = [] → u9 = .slice none 0 0) := Lib.hid (fun h => HZ9.out (take_nil HKL.out (by rw [← HROW.out]; exact h)))); first | exact ⟨trivial, _, _, _, _, _, _, _, _, _, _, _, _, _, _, _, _, _, _, _, _, _, _, _, _, _, _, _, _, _, _, _, _, _, _, _, rfl, HBe2, HOF, HZF⟩ | exact ⟨_, _, _, _, _, _, _, _, _, _, _, _, _, _, _, _, _, _, _, _, _, _, _, _, _, _, _, _, _, _, _, _, _, _, _, rfl, HBe2, HOF, HZF⟩
            · have d0 : decide ((i : Int) < (m : Int)) = false := decide_eq_false (by omega)
              have hrow : oldO now ago i = ((rdB ago i).take k).map fun x => Int.tmod x now.length := by
                have e0 : rdB ago i = [] := by unfold rdB; rw [List.getD_eq_getElem?_getD, List.getElem?_eq_none (by rw [← HM.out]; omega)]; rfl
                unfold oldO
                rw [e0]; simp
              have HROW := Lib.hid hrow
              clear hrow
              gi_wp2_with fail
              (have HOF := Lib.hid (show wr.ownsRow L2 3 1 u9 (oldO now ago i).length (nums .i64 (oldO now ago i)) from by rw [HROW.out]; exact HOw.out)); (have HZF : Hid (oldO now ago i = [] → u9 = .slice none 0 0) := Lib.hid (fun h => HZ9.out (take_nil HKL.out (by rw [← HROW.out]; exact h)))); first | exact ⟨trivial, _, _, _, _, _, _, _, _, _, _, _, _, _, _, _, _, _, _, _, _, _, _, _, _, _, _, _, _, _, _, _, _, _, _, _, rfl, HBe2, HOF, HZF⟩ | exact ⟨_, _, _, _, _, _, _, _, _, _, _, _, _, _, _, _, _, _, _, _, _, _, _, _, _, _, _, _, _, _, _, _, _, _, _, rfl, HBe2, HOF, HZF⟩
        · rintro e a w' ⟨rfl, e11, e70, e71, e72, e73, e74, e75, e76, e77, e78, e79, e80, e81, e82, e83, e84, e85, e86, e87, e88, e89, e90, e91, e92, e93, e94, e95, e96, e97, e98, e99, e100, e101, e102, v9, rfl, HBe2, HO9, HZ9⟩
          obtain ⟨A8, c8, rfl⟩ := own_slice HO8.out
          obtain ⟨A9, c9, rfl⟩ := own_slice HO9.out
          have hbe : Below wo.heap.size wo w' := by rw [← HL.out]; exact HBe.out.trans (HBe2.out.mono hLm)
          have hS2 := HS.out.below hbe
          have ho8 : w'.ownsRow L 3 1 (.slice A8 (rowO now i).length c8) (rowO now i).length (nums .i64 (rowO now i)) := own_move HO8.out (fun k hk => HBe2.out.block k (by have := own_lt HO8.out k hk; have := HL2.out; omega))
          have hin8 : InG b w' (rowO now i) [.slice A8 (rowO now i).length c8] := ⟨_, rfl, own_weaken ho8 hLb, HZ8.out⟩
          have hin9 : InG b w' (oldO now ago i) [.slice A9 (oldO now ago i).length c9] := ⟨_, rfl, own_weaken HO9.out (by omega), HZ9.out⟩
          obtain ⟨vals5, ho5, hr5⟩ := hS2.r5
          have hl5 : vals5.length = i := by have := ho5.1; simp [rowsO] at this; exact this
          have ho5' : w'.ownsRow b 35 1 u5 vals5.length vals5 := by rw [show vals5.length = (rowsO now i).length by rw [hl5]; simp [rowsO]]; exact ho5
          have hsz5 := hS2.sz
          have HS2 := Lib.hid hS2; have HIN8 := Lib.hid hin8; have HIN9 := Lib.hid hin9; have HO5 := Lib.hid ho5; have HR5 := Lib.hid hr5; have HO5' := Lib.hid ho5'
          clear hbe hS2 ho8 hin8 hin9 ho5 hr5 ho5'
          gi_wp2_with (first | (gi_at_builtin; refine printIn_append (w0 := w') (W := w') b rfl _ _ 34 35 (.slice none 0 0) 24 rfl Try.underlying34 info35 rfl (by decide) u5 vals5 (.slice A8 (rowO now i).length c8) rfl rfl rfl HO5'.out (Below.refl _ _) hsz5 (by omega) ?_; intro p5 w9 hown9 hB9 hg9 hat9; have hS9 := HS2.out.app5 HO5.out HR5.out HIN8.out hown9 hg9 hat9 hB9; have hin99 := HIN9.out.move (FrN.grown HO5.out (by decide) hg9); obtain ⟨vals6, ho6, hr6⟩ := hS9.r6; have hl6 : vals6.length = i := (by have := ho6.1; simp [oldsO] at this; exact this); have ho6' : w9.ownsRow b 35 1 u6 vals6.length vals6 := (by rw [show vals6.length = (oldsO now ago i).length by rw [hl6]; simp [oldsO]]; exact ho6); have hsz9 := hS9.sz; have HS9 := Lib.hid hS9; have HIN99 := Lib.hid hin99; have HO6 := Lib.hid ho6; have HR6 := Lib.hid hr6; have HO6' := Lib.hid ho6'; clear hown9 hB9 hg9 hat9 hS9 hin99 ho6 hr6 ho6') | (gi_at_builtin; refine printIn_append (w0 := w9) (W := w9) b rfl _ _ 34 35 (.slice none 0 0) 24 rfl Try.underlying34 info35 rfl (by decide) u6 vals6 (.slice A9 (oldO now ago i).length c9) rfl rfl rfl HO6'.out (Below.refl _ _) hsz9 (by omega) ?_; intro p6 w10 hown10 hB10 hg10 hat10; have hS10 := HS9.out.app6 HO6.out HR6.out HIN99.out hown10 hg10 hat10 hB10; have HS10 := Lib.hid hS10; clear hown10 hB10 hg10 hat10 hS10))
          refine ⟨⟨i + 1, by go_num, by omega, ?_⟩, by simp [intOf]; omega⟩
          rw [rowsO_snoc, oldsO_snoc]
          exact HS10
    · obtain rfl : i = n := by omega
      have hS := HS.out
      have hi1 : 1 ≤ i := by omega
      have hi60 : i ≤ 60 := by omega
      have hm60 : m ≤ 60 := by omega
      have l5 : (rowsO now i).length = i := by simp [rowsO]
      have l6 : (oldsO now ago i).length = i := by simp [oldsO]
      obtain ⟨A5, c5, e5, hc5, hC5⟩ := hS.r5.C
      obtain ⟨A6, c6, e6, hc6, hC6⟩ := hS.r6.C
      rw [l5] at e5 hc5 hC5
      rw [l6] at e6 hc6 hC6
      subst e5; subst e6
      have O1 := Lib.hid (of_any (n := i) (m := i) l5.symm l6.symm (I1.out hi60 hi1).ok (I2.out hi60 hi1).ok A5 c5 A6 c6 wr hC5 hc5 hC6 hc6)
      have HS2 := Lib.hid hS
      have HL5 := Lib.hid l5; have HL6 := Lib.hid l6
      have J1 := Lib.hid (I1.out hi60 hi1); have J2 := Lib.hid (I2.out hi60 hi1); have J3 := Lib.hid (I3.out hi60 hi1)
      have R1 := Lib.hid (Q1.out hi60 hi1 hm60); have R2 := Lib.hid (Q2.out hi60 hi1 hm60 _ rfl)
      have hbl : Below w.heap.size w wr := HBL.out.trans (hS.bel.mono (by rw [HB.out]; exact HBL.out.size))
      have HBLr := Lib.hid hbl
      clear hS hC5 hC6 HS l5 l6 hbl
      gi_wp2_with fail
      refine ⟨trivial, ?_⟩
      refine (callsIn_wide.2 O1.out).mono ?_
      rintro e w2 ⟨B1, d1', B2, d2', B3, d3', rfl, hx, h5⟩
      obtain ⟨v1, hv1⟩ : ∃ v1, v1 = w2.alloc (.cells #[.int .i64 1, .slice B1 0 d1', .slice B2 i d2', .slice B3 0 d3'] 26) := ⟨_, rfl⟩
      rw [← hv1] at hx
      have HV1 := Lib.hid hv1
      have X1 := Lib.hid hx
      have Y1 : Hid (Below wr.heap.size wr v1) := Lib.hid (by rw [hv1]; exact h5.alloc h5.size _)
      have hck := check_of J1.out J2.out HL5.out.symm hx
      rw [show ckOf (rowsO now i) (oldsO now ago i) = 0 by unfold ckOf; rw [R1.out]; simp] at hck
      have HCK := Lib.hid hck
      clear hx h5 O1 hv1 hck
      gi_wp2_with fail
      rw [← HV1.out]
      refine ⟨trivial, ?_⟩
      refine (callsIn_wide.2 HCK.out).mono ?_
      rintro e w3 ⟨rfl, hb3⟩
      have hX := X1.out.stay hb3
      obtain ⟨t0, t1, t2, t3⟩ := box4 hX.box
      have hlt1 := hX.lt
      have hfd := find_of J1.out J2.out HL5.out.symm hX
      rw [show circT [] (ofF (rowsO now i) (oldsO now ago i)) = [] by unfold circT; rw [R1.out]; rfl] at hfd
      have HFD := Lib.hid hfd
      have Y3 : Hid (Below wr.heap.size wr w3) := Lib.hid (Y1.out.trans (hb3.mono Y1.out.size))
      clear hX hb3 hfd HCK
      gi_wp2_with fail
      refine ⟨trivial, ?_⟩
      refine (callsIn_wide.2 HFD.out).mono ?_
      rintro e w4 ⟨A, c', rfl, hlc, hcc, hb4⟩
      have Y4 : Hid (Below wr.heap.size wr w4) := Lib.hid (Y3.out.trans (hb4.mono Y3.out.size))
      have hS4 := HS2.out.below Y4.out
      obtain ⟨A5', c5', e5', hc5', hC5'⟩ := hS4.r5.C
      rw [HL5.out] at e5' hc5' hC5'
      injection e5' with f1 f2 f3
      subst f1; subst f3
      obtain ⟨kc, hkc⟩ := (HCM.out hi60 hi1).rounds
      have hcome := belfrylaw09_come.calls kc A5 c5 (rowsO now i) ((i - 1 : Nat) : Int) cm w4 (by rw [HL5.out]; exact hC5') (by rw [HL5.out]; exact hc5') hkc
      rw [HL5.out] at hcome
      have HCO := Lib.hid hcome
      have HS4 := Lib.hid hS4
      have hsub : ((i : Int) - 1) = ((i - 1 : Nat) : Int) := by omega
      have HSUB := Lib.hid hsub
      rw [← hsub] at HCO
      clear hlc hcc hb4 hS4 hC5' hcome hkc t0 t1 t2 t3 hlt1 hsub
      gi_wp2_with fail
      refine ⟨trivial, ?_⟩
      refine (callsIn_wide.2 HCO.out).mono ?_
      rintro e w5 ⟨rfl, hb5⟩
      have hS5 := HS4.out.below hb5
      obtain ⟨tl, htl⟩ : ∃ tl, rowsO now i = [] :: tl := by
        obtain ⟨q, rfl⟩ : ∃ q, i = q + 1 := ⟨i - 1, by omega⟩
        refine ⟨(List.range q).map fun j => rowO now (j + 1), ?_⟩
        unfold rowsO
        rw [List.range_succ_eq_map, List.map_cons, List.map_map]
        rfl
      have h5r := hS5.r5
      rw [htl] at h5r
      obtain ⟨g, rfl, hbg, hgl, hc0, hf0⟩ := RG.first h5r
      have hsz5 := hS5.sz
      have HS5 := Lib.hid hS5; have HTL := Lib.hid htl
      obtain ⟨la, hla⟩ : ∃ la : Int, la = (i : Int) - 1 := ⟨_, rfl⟩
      have HLA := Lib.hid hla
      clear hb5 hS5 h5r htl hla HCO
      gi_wp2_with (gi_at_builtin; refine printIn_append_num (w0 := w5) (W := w5) b rfl _ _ 35 3 .i64 8 rfl Try.underlying35 info3 (by decide) (.slice none 0 0) [] ((i : Int) - 1) rfl rfl (World.ownsRow_nil _ _ _ _) (Below.refl _ _) hsz5 (by simp) ?_; intro v1' w9 hown9 hB9 hg9 hat9; obtain ⟨A1', c1', rfl⟩ := own_slice hown9; have hbe9 : Below w5.heap.size w5 w9 := ⟨hg9.os, hg9.tape, hg9.output, hg9.size, fun j hj => hg9.block j hj (by simp [Value.ownBlock])⟩; have hS9 := HS5.out.below hbe9; have hc9 := (World.cell?_of_block (a := ⟨g, 0, none⟩) (hbe9.block g hgl)).trans hc0; have hf9 := (World.frozen?_of_block (a := ⟨g, 0, none⟩) (hbe9.block g hgl)).trans hf0; have hgl9 : g < w9.heap.size := Nat.lt_of_lt_of_le hgl hbe9.size; have HS9 := Lib.hid hS9; have HOWN9 := Lib.hid hown9; clear hown9 hB9 hg9 hat9 hbe9 hS9)
      have hr9 : RG b w9 (.slice (some ⟨g, 0, none⟩) i c5) ([] :: tl) := by have h := HS9.out.r5; rw [HTL.out] at h; exact h
      have hin : InG b w9 [(i : Int) - 1] [.slice A1' 1 c1'] := ⟨_, rfl, HOWN9.out, fun h => by cases h⟩
      obtain ⟨g', eg, _, _, _, hr10⟩ := RG.set0 hr9 hin HS9.out.sz
      injection eg with eg
      injection eg with eg _ _
      subst eg
      obtain ⟨vals, ho5, _⟩ := hr9
      have hr6 := HS9.out.r6.move (w' := w9.setCell ⟨g, 0, none⟩ (.slice A1' 1 c1')) (fun k hk => Below.heap_setCell w9 ⟨g, 0, none⟩ _ k (fun e => HS9.out.s56 g rfl (by rw [← show k = g from e]; exact hk))) (FrN.set ho5)
      obtain ⟨w10, hw10⟩ : ∃ w10, w10 = w9.setCell ⟨g, 0, none⟩ (.slice A1' 1 c1') := ⟨_, rfl⟩
      have hbl10 : Below w1.heap.size w1 w10 := by rw [hw10, ← HB.out]; exact HS9.out.bel.setCell (p := ⟨g, 0, none⟩) hbg _
      rw [← hw10] at hr10 hr6 ⊢
      obtain ⟨a', ha'⟩ : ∃ a', a' = [(i : Int) - 1] :: tl := ⟨_, rfl⟩
      have hset : (rowsO now i).set 0 [((i - 1 : Nat) : Int)] = a' := by rw [ha', HTL.out, HSUB.out]; rfl
      have l5 : a'.length = i := by rw [← hset, List.length_set]; exact HL5.out
      have j3 := J3.out
      have r2 := R2.out
      rw [hset] at j3 r2
      rw [← ha'] at hr10
      obtain ⟨A5', c5', e5', hc5', hC5'⟩ := hr10.C
      obtain ⟨A6', c6', e6', hc6', hC6'⟩ := hr6.C
      rw [l5] at e5' hc5' hC5'
      rw [HL6.out] at e6' hc6' hC6'
      injection e5' with f1 f2 f3
      injection e6' with f4 f5 f6
      subst f1; subst f3; subst f4; subst f6
      have O2 := Lib.hid (of_any (n := i) (m := i) l5.symm HL6.out.symm j3.ok J2.out.ok (some ⟨g, 0, none⟩) c5 A6 c6 w10 hC5' hc5' hC6' hc6')
      have HBL10 := Lib.hid (HBL.out.trans (hbl10.mono HBL.out.size))
      have R3 := Lib.hid r2; have L5 := Lib.hid l5; have J4 := Lib.hid j3
      clear hr10 hr6 hbl10 hC5' hC6' hin ho5 hw10 ha' hset l5 j3 r2 hc9 hf9 hgl9 hc0 hf0
      refine ⟨trivial, ?_⟩
      refine (callsIn_wide.2 O2.out).mono ?_
      rintro e w11 ⟨E1, k1, E2, k2, E3, k3, rfl, hx, h5⟩
      obtain ⟨v2, hv2⟩ : ∃ v2, v2 = w11.alloc (.cells #[.int .i64 1, .slice E1 0 k1, .slice E2 i k2, .slice E3 0 k3] 26) := ⟨_, rfl⟩
      rw [← hv2] at hx
      have HV2 := Lib.hid hv2
      have X2 := Lib.hid hx
      have Y5 : Hid (Below w.heap.size w v2) := Lib.hid (by rw [hv2]; exact (HBL10.out.trans (h5.mono HBL10.out.size)).alloc (Nat.le_trans HBL10.out.size h5.size) _)
      have hck := check_of J4.out J2.out L5.out.symm hx
      have HCK := Lib.hid hck
      clear hx h5 O2 hv2 hck
      gi_wp2_with fail
      rw [← HV2.out]
      refine ⟨trivial, ?_⟩
      refine (callsIn_wide.2 HCK.out).mono ?_
      rintro e w12 ⟨rfl, hb12⟩
      have hX := X2.out.stay hb12
      obtain ⟨t0, t1, t2, t3⟩ := box4 hX.box
      have hlt1 := hX.lt
      have hfd := find_of J4.out J2.out L5.out.symm hX
      have HFD := Lib.hid hfd
      have Y6 : Hid (Below w.heap.size w w12) := Lib.hid (Y5.out.trans (hb12.mono Y5.out.size))
      clear hX hb12 hfd HCK
      cases cm with
      | true =>
        have hne := R3.out.2 rfl
        have hck : ckOf a' (oldsO now ago i) = 8 := by unfold ckOf; rw [if_pos hne]
        have hpos : 0 < (circT [] (ofF a' (oldsO now ago i))).length := by rw [circT_nil]; exact List.length_pos_iff.2 hne
        obtain ⟨nn, hnn⟩ : ∃ nn, nn = (circT [] (ofF a' (oldsO now ago i))).length := ⟨_, rfl⟩
        rw [hck]
        have HNNN := Lib.hid hnn
        rw [← hnn] at hpos
        clear hne hck hnn
        gi_wp2_with fail
        refine ⟨trivial, ?_⟩
        refine (callsIn_wide.2 HFD.out).mono ?_
        rintro e w13 ⟨A, c', rfl, hlc, hcc, hb13⟩
        have Y7 : Hid (Below w.heap.size w w13) := Lib.hid (Y6.out.trans (hb13.mono Y6.out.size))
        rw [← HNNN.out]
        clear hlc hcc hb13 t0 t1 t2 t3 hlt1
        gi_wp2_with fail
        go_ret
        exact ⟨by first | rfl | (simp; done) | (simp [hpos]; done) | (simp; omega), Y7.out⟩
      | false =>
        have hnil : circN [] (ofF a' (oldsO now ago i)) = [] := Classical.byContradiction (fun h => by have := R3.out.1 h; cases this)
        have hck : ckOf a' (oldsO now ago i) = 0 := by unfold ckOf; rw [hnil]; simp
        have hT : circT [] (ofF a' (oldsO now ago i)) = [] := by unfold circT; rw [hnil]; rfl
        rw [hck]
        rw [hT] at HFD
        clear hnil hck hT
        gi_wp2_with fail
        refine ⟨trivial, ?_⟩
        refine (callsIn_wide.2 HFD.out).mono ?_
        rintro e w13 ⟨A, c', rfl, hlc, hcc, hb13⟩
        have Y7 : Hid (Below w.heap.size w w13) := Lib.hid (Y6.out.trans (hb13.mono Y6.out.size))
        clear hlc hcc hb13 t0 t1 t2 t3 hlt1
        gi_wp2_with fail
        go_ret
        exact ⟨by first | rfl | (simp; done), Y7.out⟩
end Go.Proofs.Ytfkggeakjgphjaa.C

/- CirclesOrdered: the law. -/
namespace Go.Proofs.Ytfkggeakjgphjaa.C
set_option linter.unusedVariables false
set_option linter.unusedSimpArgs false
set_option linter.unusedSectionVars false
open Go.RowKit Go.Shelf Go.Proofs.YtfkggeakjgphjaaW.PrintWords Go.Proofs.YtfkggeakjgphjaaW.PrintLast Go.Proofs.YtfkggeakjgphjaaW.PrintMore
open Go.Proofs.RngT Go.Proofs.Circ
open Classical in
theorem ord_any (w : World) (now ago : List (List Int)) (A0 A1 : Option Addr) (c0 c1 : Nat) (hb0 : ByteRows now) (hb1 : ByteRows ago) (hC0 : Kd.C kB w A0 now.length now) (hC1 : Kd.C kB w A1 ago.length ago) :
    Calls Try.prog 4 #[.slice A0 now.length c0, .slice A1 ago.length c1] w fun e w' => e = .returned (.bool true) ∧ Below w.heap.size w w' := by
  refine callsIn_wide.1 (ord_in w now ago A0 A1 c0 c1 now.length ago.length rfl rfl hb0 hb1 hC0 hC1 (decide (∃ m, Wk (allO now ago) 0 m (now.length - 1))) (fun h60 h1 => ?_) (fun h60 h1 _ => ordNil hb0 hb1 h60 h1) (fun h60 h1 _ a ha => ?_) (fun h60 _ => rowsO_in hb0 h60) (fun h60 h1 => oldsO_in hb1 h60 h1) (fun h60 h1 => moreO_in hb0 h60 h1))
  · refine come_ev (n := now.length) (by simp [rowsO]) (by omega) (by omega) (fun i hi => ?_) (allO_iff hb0 hb1 h60 h1)
    rw [rowsO_at]
    split
    · have := rowO_mem hb0 i
      exact ⟨by omega, fun e he => (this.2 e he).2⟩
    · simp
  · subst ha
    rw [decide_eq_true_iff]
    exact ordMore hb0 hb1 h60 h1
end Go.Proofs.Ytfkggeakjgphjaa.C

/- CirclesOrdered: the law, as the row asks it. -/
namespace Go.Proofs.Ytfkggeakjgphjaa
set_option linter.unusedVariables false
open Go.RowKit Go.Shelf Go.Proofs.YtfkggeakjgphjaaW.PrintWords Go.Proofs.YtfkggeakjgphjaaW.PrintLast Go.Proofs.YtfkggeakjgphjaaW.PrintMore
theorem lawCirclesOrdered (W : World) (A0 : Option Addr) (c0 : Nat) (l0 : List (List Int)) (hr0 : Kd.C (Kd.slice 5 (Kd.int .u8)) W A0 l0.length l0) (hc0 : l0.length ≤ c0)
    (hw0 : l0.length * Try.prog.bytesOf 36 ≤ 140737488351232 ∧ l0.length ≤ 9223372036854775807 ∧ ∀ a ∈ l0, a.length * Try.prog.bytesOf 5 ≤ 140737488351232 ∧ a.length ≤ 9223372036854775807 ∧ ∀ n ∈ a, (Lit.int .u8 n).wf = true)
    (A1 : Option Addr) (c1 : Nat) (l1 : List (List Int)) (hr1 : Kd.C (Kd.slice 5 (Kd.int .u8)) W A1 l1.length l1) (hc1 : l1.length ≤ c1)
    (hw1 : l1.length * Try.prog.bytesOf 36 ≤ 140737488351232 ∧ l1.length ≤ 9223372036854775807 ∧ ∀ a ∈ l1, a.length * Try.prog.bytesOf 5 ≤ 140737488351232 ∧ a.length ≤ 9223372036854775807 ∧ ∀ n ∈ a, (Lit.int .u8 n).wf = true) :
    Calls Try.prog 4 #[.slice A0 l0.length c0, .slice A1 l1.length c1] W fun e W' => e = .returned (.bool true) ∧ Below W.heap.size W W' := by
  have key : ∀ {x : Int}, (Lit.int .u8 x).wf = true → 0 ≤ x ∧ x ≤ 255 := fun h => by
    simp [Lit.wf, IntKind.min, IntKind.max, IntKind.signed, IntKind.bits] at h
    omega
  exact C.ord_any W l0 l1 A0 A1 c0 c1 (fun r hr x hx => key ((hw0.2.2 r hr).2.2 x hx)) (fun r hr x hx => key ((hw1.2.2 r hr).2.2 x hx)) hr0 hr1
end Go.Proofs.Ytfkggeakjgphjaa

/- From a datum as the row reads it to a value of Lean's own: for whole numbers, bools, strings, slices of such. -/
namespace Go.Proofs.Tr
set_option linter.unusedVariables false
set_option linter.unusedSimpArgs false
set_option linter.unusedSectionVars false
open Go.RowKit Go.Proofs.YtfkggeakjgphjaaW.PrintWords

/-- whatever reads as a datum of type t, with so much fuel, is a value of d that is wf. -/
def TrAt (P : Program) {α : Type} (d : Kd α) (wf : α → Prop) (t : TypeId) : Prop :=
  ∀ (H : Type) (enc : TypeId × Value → H) (W : World) (fuel : Nat) (cs : List Value) (x : DataW H × List MemPlace), DataW.trod enc P W 0 (fun _ => true) true fuel t cs = some x →
    ((x.1.weights P t).all (· ≤ reachBytes) = true) → ∃ a, d.K W a cs ∧ wf a

section
variable {P : Program} {t e : TypeId} {fuel n : Nat}

theorem TrAt.int {k : IntKind} (ht : P.underlying t = some (.int k)) : TrAt P (Kd.int k) (fun n => (Lit.int k n).wf = true) t := by
  intro H enc W fuel cs x h _
  cases fuel with
  | zero => simp [DataW.trod] at h
  | succ m =>
    unfold DataW.trod at h
    rw [ht] at h
    split at h <;> simp_all
    obtain ⟨⟨h1, h2⟩, _⟩ := h
    subst h1
    exact ⟨_, rfl, h2⟩

theorem TrAt.bool (ht : P.underlying t = some .bool) : TrAt P Kd.bool (fun _ => True) t := by
  intro H enc W fuel cs x h _
  cases fuel with
  | zero => simp [DataW.trod] at h
  | succ m =>
    unfold DataW.trod at h
    rw [ht] at h
    split at h <;> simp_all [-Bool.exists_bool]
    exact ⟨_, rfl⟩

theorem TrAt.string (ht : P.underlying t = some .string) : TrAt P Kd.string (fun s => s.size ≤ maxLen ∧ s.size ≤ 140737488351232) t := by
  intro H enc W fuel cs x h hw
  cases fuel with
  | zero => simp [DataW.trod] at h
  | succ m =>
    unfold DataW.trod at h
    rw [ht] at h
    split at h <;> simp_all
    rename_i s
    obtain ⟨h1, rfl⟩ := h
    refine ⟨s, rfl, h1, ?_⟩
    simp [DataW.weights, reachBytes] at hw
    exact hw

theorem weightsAll_mem {H : Type} {e : TypeId} : ∀ {l : List (DataW H)} {i : Nat} {d : DataW H}, l[i]? = some d → ∀ n ∈ d.weights P e, n ∈ DataW.weightsAll P e l
  | d0 :: r, 0, d, h, n, hn => by
    simp only [List.getElem?_cons_zero, Option.some.injEq] at h
    subst h
    simp only [DataW.weightsAll, List.mem_append]
    exact .inl hn
  | d0 :: r, i + 1, d, h, n, hn => by
    simp only [List.getElem?_cons_succ] at h
    simp only [DataW.weightsAll, List.mem_append]
    exact .inr (weightsAll_mem h n hn)
  | [], _, _, h, _, _ => by simp at h

theorem TrAt.slice {α : Type} {d : Kd α} {wf : α → Prop} (e' : Nat) (ht : P.underlying t = some (.slice e)) (hc : P.cellsOf e = d.sz) (hd : TrAt P d wf e) :
    TrAt P (Kd.slice e' d) (fun l => l.length * P.bytesOf e ≤ 140737488351232 ∧ l.length ≤ 9223372036854775807 ∧ ∀ a ∈ l, wf a) t := by
  intro H enc W fuel cs x h hw
  cases fuel with
  | zero => simp [DataW.trod] at h
  | succ fuel =>
  rcases DataW.trod_slice ht h with ⟨rfl, rfl⟩ | ⟨a, len, cap, elems, rest, m, hm, rfl, rfl, hb, hl, hcap, hlen, hel, hspare⟩
  · exact ⟨[], ⟨none, 0, rfl, Nat.le_refl _, rfl, by simp, fun h => absurd h (by simp)⟩, by simp, by simp, by simp⟩
  · obtain rfl : m = fuel := by omega
    have hw2 : ∀ n ∈ (elems.length + rest.length) * P.bytesOf e :: (DataW.weightsAll P e (elems.map (·.1)) ++ DataW.weightsAll P e (rest.map (·.1))), n ≤ reachBytes := by
      have := List.all_eq_true.1 hw
      intro n hn
      have h1 := this n (by simpa [DataW.weights, ht] using hn)
      simpa using h1
    have hex : ∀ i, i < len → ∃ cs', W.cells? 0 (a.add (i * P.cellsOf e)) (P.cellsOf e) = some cs' ∧ ∃ y, d.K W y cs' ∧ wf y := by
      intro i hi
      have h1 := hel i hi
      rw [List.getElem?_eq_getElem (by omega), Option.bind_eq_some_iff] at h1
      obtain ⟨cs', h2, h3⟩ := h1
      refine ⟨cs', h2, ?_⟩
      refine hd H enc W m cs' _ h3 ?_
      rw [List.all_eq_true]
      intro n hn
      have h4 : ((elems.map (·.1))[i]?) = some (elems[i]'(by omega)).1 := by simp [show i < elems.length by omega]
      have := hw2 n (List.mem_cons_of_mem _ (List.mem_append_left _ (weightsAll_mem h4 n hn)))
      simpa using this
    have hch : ∃ l : List α, l.length = len ∧ ∀ i, i < len → ∃ y cs', l[i]? = some y ∧ W.cells? 0 (a.add (i * P.cellsOf e)) (P.cellsOf e) = some cs' ∧ d.K W y cs' ∧ wf y := by
      clear hel hw hw2 h hlen hl hspare
      induction len with
      | zero => exact ⟨[], rfl, fun i hi => absurd hi (by omega)⟩
      | succ len ih =>
        obtain ⟨l, h1, h2⟩ := ih (fun i hi => hex i (by omega))
        obtain ⟨cs', h3, y, h4, h5⟩ := hex len (by omega)
        refine ⟨l ++ [y], by simp [h1], fun i hi => ?_⟩
        by_cases e1 : i = len
        · subst e1
          exact ⟨y, cs', by simp [← h1], h3, h4, h5⟩
        · obtain ⟨y', cs2, q1, q2⟩ := h2 i (by omega)
          exact ⟨y', cs2, by rw [List.getElem?_append_left (by omega)]; exact q1, q2⟩
    obtain ⟨l, hll, hle⟩ := hch
    refine ⟨l, ⟨some a, cap, by rw [hll], by omega, rfl, by unfold maxLen at hcap; omega, fun _ => ⟨a, rfl, fun j p hj => ?_⟩⟩, ?_, ?_, ?_⟩
    · have hjl : j < len := by rw [← hll]; exact (List.getElem?_eq_some_iff.1 hj).1
      obtain ⟨y, cs', q1, q2, q3, _⟩ := hle j hjl
      rw [hj] at q1
      injection q1 with q1
      subst q1
      have hlen' := d.K_len q3
      refine ⟨cs', hlen', q3, fun i u hu => ?_⟩
      obtain ⟨_, _, hcell⟩ := World.cells?_some q2
      rw [← hc, ← add_add, hcell i (by rw [hc, ← hlen']; exact (List.getElem?_eq_some_iff.1 hu).1)]
      exact hu
    · have := hw2 _ List.mem_cons_self
      have h3 : len * P.bytesOf e ≤ (elems.length + rest.length) * P.bytesOf e := Nat.mul_le_mul_right _ (by omega)
      rw [hll]
      unfold reachBytes at this
      omega
    · unfold maxLen at hcap; omega
    · intro y hy
      obtain ⟨i, hi, rfl⟩ := List.getElem_of_mem hy
      obtain ⟨y', cs', q1, _, _, q4⟩ := hle i (by omega)
      rw [List.getElem?_eq_getElem hi] at q1
      injection q1 with q1
      rw [q1]; exact q4

theorem wsplit {H : Type} {d : DataW H} {ts : List TypeId} {ds : List (DataW H)} {q : Nat → Bool} (h : (DataW.weightsEach P (t :: ts) (d :: ds)).all q = true) :
    (d.weights P t).all q = true ∧ (DataW.weightsEach P ts ds).all q = true := by
  simp only [DataW.weightsEach, List.all_append, Bool.and_eq_true] at h
  exact h

theorem TrAt.arg {H : Type} {enc : TypeId × Value → H} {W : World} {v : Value} {x : DataW H} {q : List MemPlace} {α : Type} {d : Kd α} {wf : α → Prop} (ht : TrAt P d wf t)
    (h : DataW.Trod enc P W 0 (fun _ => true) true t v x q) (hw : (x.weights P t).all (· ≤ reachBytes) = true) : ∃ a, d.K W a v.cells.toList ∧ wf a := by
  obtain ⟨fuel, hf⟩ := h
  exact ht H enc W fuel _ (x, q) hf hw

theorem lt_of_trod {H : Type} {enc : TypeId × Value → H} {W : World} {v : Value} {x : DataW H} {q : List MemPlace} (h : DataW.Trod enc P W 0 (fun _ => true) true t v x q) : ∀ y ∈ q, y.block < W.heap.size := by
  obtain ⟨m, hm⟩ := h
  exact DataW.trod_lt m _ _ _ hm
end
end Go.Proofs.Tr
