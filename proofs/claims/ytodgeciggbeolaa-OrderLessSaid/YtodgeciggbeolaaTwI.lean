/- TwinInts: numbers, in memory of their own. -/
import Derived.Test.YtodgeciggbeolaaExtA
namespace Go.Proofs.Ytodgeciggbeolaa.S
set_option linter.unusedVariables false
set_option linter.unusedSimpArgs false
set_option linter.unusedSectionVars false
open Go.RowKit Go.Proofs.YtodgeciggbeolaaW.PrintWords Go.Proofs.YtodgeciggbeolaaW.PrintLast Go.Proofs.YtodgeciggbeolaaW.PrintMore
open Go.Proofs.Ord hiding W

theorem below_gn {w w1 : World} (h : w.grownBy w1 none) : Below w.heap.size w w1 := ⟨h.os, h.tape, h.output, h.size, fun i hi => h.block i hi (by simp)⟩
theorem own_cap {w : World} {base n c e sz : Nat} {A : Option Addr} {xs : List Value} (h : w.ownsRow base e sz (.slice A n c) n xs) : n ≤ c := by
  rcases h.2 with ⟨h', h2⟩ | ⟨g', cap', cur, h', hb, hh, hn, hc, hs, ht⟩
  · injection h' with h1 h2 h3; omega
  · injection h' with h1 h2 h3; omega
theorem own_head {w : World} {base n c e sz : Nat} {A : Option Addr} {xs : List Value} (h : w.ownsRow base e sz (.slice A n c) n xs) (hn : 0 < n) : ∃ g, A = some ⟨g, 0, none⟩ := by
  rcases h.2 with ⟨h', h2⟩ | ⟨g', cap', cur, h', hb, hh, hn, hc, hs, ht⟩
  · injection h' with h1 h2 h3; omega
  · injection h' with h1 h2 h3; exact ⟨g', h1⟩
def TwinPost (l : List Int) (w : World) (e : Ending) (w' : World) : Prop := ∃ v, e = .returned v ∧ Kd.R (Kd.int .i64) 3 w' w.heap.size (fun _ => True) v l ∧ Below w.heap.size w w'

set_option maxHeartbeats 2000000 in
set_option maxRecDepth 100000 in
theorem twin_ints (A : Option Addr) (c n : Nat) (l : List Int) (w : World) (hn : n = l.length) (hr : Kd.C (Kd.int .i64) w A n l) (hm : n ≤ 17592186044000) :
    Calls Try.prog 20 #[.slice A n c] w (TwinPost l w) := by
  have HN := Lib.hid hn
  have HR := Lib.hid hr
  clear hr hn
  obtain ⟨B, hB⟩ : ∃ B, B = w.heap.size := ⟨_, rfl⟩
  have HB := Lib.hid hB
  clear hB
  obtain ⟨i3, hi3, hz30, hz31, hz32⟩ := info_parts info3
  go_enter Try.func20, Try.ntmps20
  go_wp2_with (at_make; go_loud (refine wpList_make_own _ rfl _ _ 25 rfl w.heap.size 3 i3 (.int .i64 0) 1 Try.underlying25 hi3 hz30 hz31 .i64 .i64 _ (n + 1) rfl rfl (by omega) ?b2 ?b3 (Nat.le_refl _) ?_))
  case b2 => rw [hz32]; omega
  case b3 => unfold maxLen; omega
  intro w1 hown hgr
  have HO := Lib.hid hown
  have HB1 := Lib.hid ((below_gn hgr))
  clear hown hgr hi3 hz30 hz31 hz32
  obtain ⟨r, hrr⟩ : ∃ r, r = w.heap.size := ⟨_, rfl⟩
  go_wp2_with fail
  go_loopw [3, 4] (fun tv iv wr => ∃ (i : Nat) (T : Option Addr) (cc : Nat), tv = .slice T i cc ∧ iv = .int .i64 i ∧ i ≤ n ∧ Hid (wr.ownsRow w.heap.size 3 1 (.slice T i cc) i (nums .i64 (l.take i))) ∧ Hid (Below w.heap.size w wr)) (fun _ iv _ => n - (intOf iv).toNat)
  case atStart => exact ⟨0, _, _, rfl, rfl, Nat.zero_le _, HO, HB1⟩
  case round =>
    clear HO HB1
    obtain ⟨i, T, cc, rfl, rfl, hi, HO, HB1⟩ := hrel
    by_cases hlt : i < n
    · obtain ⟨ad, hA, hcell⟩ := Kd.at_int (C_below HR.out HB1.out) (i : Int) (by omega) (by omega)
      subst hA
      simp only [Int.toNat_natCast] at hcell
      have hs1 := HB1.out.size
      have hlen : (l.take i).length = i := by rw [List.length_take]; have := HN.out; omega
      have hO := HO.out
      have hO' : wr.ownsRow w.heap.size 3 1 (.slice T i cc) (l.take i).length (nums .i64 (l.take i)) := by rw [hlen]; exact hO
      have HO' := Lib.hid hO'
      have hb9 : ((l.take i).length + 1) * 8 ≤ 140737488355328 := by rw [hlen]; omega
      clear hO hO'
      go_wp2_with (at_builtin; go_loud (refine print_append_num (w0 := w) (W := wr) w.heap.size rfl _ _ 25 3 .i64 8 rfl Try.underlying25 info3 (by decide) (.slice T i cc) (l.take i) (rd l i) rfl rfl HO'.out HB1.out hs1 hb9 ?_; intro v1 w2 hown hB2 hg hat))
      obtain ⟨T2, cc2, rfl⟩ := own_slice hown
      have htk : l.take i ++ [rd l (i : Int)] = l.take (i + 1) := by
        rw [rd_lt (by have := HN.out; omega), List.take_succ_eq_append_getElem (by have := HN.out; omega)]
      rw [htk] at hown
      have hl2 : (l.take (i + 1)).length = i + 1 := by rw [List.length_take]; have := HN.out; omega
      have hl3 : (l.take i ++ [rd l (i : Int)]).length = i + 1 := by simp [hlen]
      rw [hl2] at hown
      rw [hl3]
      exact ⟨⟨i + 1, T2, cc2, rfl, by go_num, by omega, Lib.hid hown, Lib.hid hB2⟩, by simp [intOf]; omega⟩
    · obtain rfl : i = n := by omega
      have hlen : (l.take i).length = i := by rw [List.length_take]; have := HN.out; omega
      have hO := HO.out
      have hO' : wr.ownsRow w.heap.size 3 1 (.slice T i cc) (l.take i).length (nums .i64 (l.take i)) := by rw [hlen]; exact hO
      have HO' := Lib.hid hO'
      have hb9 : ((l.take i).length + 1) * 8 ≤ 140737488355328 := by rw [hlen]; omega
      have hs1 := HB1.out.size
      clear hO hO'
      have hl4 : (l.take i ++ [(77 : Int)]).length = i + 1 := by simp [hlen]
      go_wp2_with (at_builtin; go_loud (refine print_append_num (w0 := w) (W := wr) w.heap.size rfl _ _ 25 3 .i64 8 rfl Try.underlying25 info3 (by decide) (.slice T i cc) (l.take i) 77 rfl rfl HO'.out HB1.out hs1 hb9 ?_; intro v1 w2 hown hB2 hg hat; obtain ⟨T2, cc2, rfl⟩ := own_slice hown; have hcap := own_cap hown; rw [hl4] at hcap))
      go_ret
      have hl5 : (l.take i ++ [(77 : Int)]).take i = l := by
        rw [List.take_append_of_le_length (by omega), List.take_take, Nat.min_self, List.take_of_length_le (by have := HN.out; omega)]
      rw [hl4] at hown
      obtain ⟨g, rfl⟩ := own_head hown (by omega)
      have h9 := own_shorter hown (m := i) (by omega)
      rw [hl5] at h9
      refine ⟨_, rfl, ?_, hB2⟩
      have hN := HN.out
      subst hN
      exact Kd.R_of_own h9 (fun _ _ => trivial)
end Go.Proofs.Ytodgeciggbeolaa.S
