/- LeftInts, LeftLists: are numbers, lists of numbers, as they were: walks; Book.Lists. -/
import Derived.Test.YtodgeciggbeolaaGreatDoorTwL
import Derived.Test.YtodgeciggbeolaaGreatDoorBkIntP
import Derived.Deep.RegionHeld3
namespace Go.Proofs.YtodgeciggbeolaaGreatDoor.B
set_option linter.unusedVariables false
set_option linter.unusedSimpArgs false
set_option linter.unusedSectionVars false
open Go.RowKit Go.Proofs.YtodgeciggbeolaaGreatDoorW.PrintWords Go.Proofs.YtodgeciggbeolaaGreatDoorW.PrintLast Go.Proofs.YtodgeciggbeolaaGreatDoorW.PrintMore
open Go.Proofs.YtodgeciggbeolaaGreatDoor.S Go.Proofs.YtodgeciggbeolaaGreatDoor
open Go.Proofs.Ord hiding W
theorem nums_get {xs : List Int} {j : Nat} {n : Int} (h : xs[j]? = some n) : (nums .i64 xs)[j]? = some (.int .i64 n) := by simp [nums, h]
set_option maxHeartbeats 4000000 in
set_option maxRecDepth 100000 in
theorem left_ints (g c : Nat) (A : Option Addr) (c2 : Nat) (l : List Int) (base : Nat) (w : World) (ht : w.ownsRow base 3 1 (.slice (some ⟨g, 0, none⟩) (l.length + 1) c) (l.length + 1) (nums .i64 (l ++ [77]))) (hr : Kd.C (Kd.int .i64) w A l.length l) (hm : l.length ≤ 20000) :
    Calls Tryz.prog 22 #[.slice (some ⟨g, 0, none⟩) l.length c, .slice A l.length c2] w (fun e w' => e = .returned (.bool true) ∧ Below w.heap.size w w') := by
  have hcap := own_cap ht
  have HT := Lib.hid ht; have HR := Lib.hid hr
  clear ht hr
  go_enter Tryz.func22, Tryz.ntmps22
  go_wp2_with fail
  go_loopw [5] (fun iv wr => ∃ (i : Nat), iv = .int .i64 i ∧ i ≤ l.length ∧ Hid (Below w.heap.size w wr)) (fun iv _ => l.length - (intOf iv).toNat)
  case atStart => exact ⟨0, rfl, Nat.zero_le _, Lib.hid (Below.refl _ _)⟩
  case round =>
    obtain ⟨i, rfl, hi, HB⟩ := hrel
    by_cases hlt : i < l.length
    · obtain ⟨ad, hA, hcell⟩ := Kd.at_int (C_belowI HR.out HB.out) (i : Int) (by omega) (by omega)
      subst hA
      simp only [Int.toNat_natCast] at hcell
      rw [rd_lt' hlt] at hcell
      have hx : (l ++ [(77 : Int)])[i]? = some (l[i]'hlt) := by rw [List.getElem?_append_left hlt]; exact List.getElem?_eq_getElem hlt
      have tcell := keep_cell HB.out (Nat.le_refl _) ((Pre.of_own HT.out).cell i _ (nums_get hx))
      generalize l[i] = n at *
      go_wp2_with fail
      repeat (go_quiet (fail); try go_wp2)
      all_goals exact ⟨⟨i + 1, by go_num, by omega, Lib.hid (pw_below_drewN HB.out _)⟩, by simp [intOf]; omega⟩
    · obtain rfl : i = l.length := by omega
      have hx : (l ++ [(77 : Int)])[l.length]? = some 77 := by rw [List.getElem?_append_right (Nat.le_refl _), Nat.sub_self]; rfl
      have tcell := keep_cell HB.out (Nat.le_refl _) ((Pre.of_own HT.out).cell l.length _ (nums_get hx))
      go_wp2_with fail
      go_ret
      exact ⟨rfl, HB.out⟩
set_option maxHeartbeats 4000000 in
set_option maxRecDepth 100000 in
theorem left_lists (T : Option Addr) (cc : Nat) (A : Option Addr) (c2 : Nat) (l : List (List Int)) (vs : List Value) (base : Nat) (w : World) (ht : TwL w base (.slice T l.length cc) vs l) (hr : Kd.C (Kd.slice 3 (Kd.int .i64)) w A l.length l) (hm : l.length ≤ 300) (hs : ∀ k, (at_ l k).length ≤ 20000) :
    Calls Tryz.prog 9 #[.slice T l.length cc, .slice A l.length c2] w (fun e w' => e = .returned (.bool true) ∧ Below w.heap.size w w') := by
  have HT := Lib.hid ht; have HR := Lib.hid hr; have HSZ := Lib.hid hs
  clear ht hr hs
  go_enter Tryz.func9, Tryz.ntmps9
  go_wp2_with fail
  go_loopw [5] (fun iv wr => ∃ (i : Nat), iv = .int .i64 i ∧ i ≤ l.length ∧ Hid (Below w.heap.size w wr)) (fun iv _ => l.length - (intOf iv).toNat)
  case atStart => exact ⟨0, rfl, Nat.zero_le _, Lib.hid (Below.refl _ _)⟩
  case round =>
    obtain ⟨i, rfl, hi, HB⟩ := hrel
    obtain ⟨wo, hwo⟩ : ∃ wo, wo = wr := ⟨_, rfl⟩
    subst hwo
    by_cases hlt : i < l.length
    · have hlen := HT.out.len
      have hx : vs[i]? = some (vs[i]'(by omega)) := List.getElem?_eq_getElem (by omega)
      generalize vs[i]'(by omega) = x at hx
      have htw := HT.out.each i x hx
      have hpre := Pre.of_own HT.out.row
      rw [hlen] at hpre
      obtain ⟨tb, hA⟩ : ∃ tb, T = some ⟨tb, 0, none⟩ := by
        rcases hpre with ⟨_, h0⟩ | ⟨g, cap, cur, hv, _⟩
        · omega
        · injection hv with h1 h2 h3; exact ⟨g, h1⟩
      subst hA
      have t0 := keep_cell HB.out (Nat.le_refl _) (hpre.cell _ _ hx)
      obtain ⟨gx, cx, rfl, hown⟩ := htw.kept (w' := wo) (fun k hk => HB.out.block k (by obtain ⟨q, e, hq, _⟩ := htw.some; rw [e] at hk; injection hk with hk; omega))
      have hC := Kd.C_below HR.out HB.out
      obtain ⟨ad, A1, c1, hA, hcell, hle, hC1⟩ := S.at_L1 hC i (by omega) (by omega)
      subst hA
      have hA1 : S.rd_L1 l ↑i = at_ l i := by simp [S.rd_L1, at_]
      rw [hA1] at hcell hle hC1
      simp only [Int.toNat_natCast] at hcell
      have HC1 := Lib.hid hC1; have HW := Lib.hid hown
      have hsz := HSZ.out i
      clear hA1 hC hC1 hown htw hpre hx hlen hle
      go_wp2_with fail
      go_region_held3 (fun w' => w'.cell? ⟨tb, i, none⟩ = some (.slice (some ⟨gx, 0, none⟩) (at_ l i).length cx) ∧ w'.cell? (ad.add i) = some (.slice A1 (at_ l i).length c1)) (first | (exact ⟨s0, s1⟩) | go_keep) (first | (go_at_call 22; refine (left_ints gx cx A1 c1 (at_ l i) base wo.drew (own_kept HW.out (fun _ _ => rfl)) (Kd.C_below HC1.out (Below.refl wo.heap.size wo).drew) hsz).mono ?_; rintro e w2 ⟨rfl, hb2⟩; have s0 := keep_cell hb2 (Nat.le_refl _) t0; have s1 := keep_cell hb2 (Nat.le_refl _) hcell; have HB2 := Lib.hid (HB.out.drew.trans (hb2.mono HB.out.size)); clear hb2))
      all_goals (go_wp2_with fail; exact ⟨⟨i + 1, by go_num, by omega, HB2⟩, by simp [intOf]; omega⟩)
    · obtain rfl : i = l.length := by omega
      go_wp2_with fail
      go_ret
      exact ⟨rfl, HB.out⟩
end Go.Proofs.YtodgeciggbeolaaGreatDoor.B
