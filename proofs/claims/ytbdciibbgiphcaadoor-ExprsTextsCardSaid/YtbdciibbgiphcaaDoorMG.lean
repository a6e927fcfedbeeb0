/- What the reference's functions compute, plainly. Joined by wip/merge.py (ours) from several texts of this seat. -/
import Derived.Test.YtbdciibbgiphcaaDoorMB
import Derived.Test.YtbdciibbgiphcaaDoorMC
import Derived.Test.YtbdciibbgiphcaaDoorME
import Derived.Test.YtbdciibbgiphcaaDoorMF
import Derived.Test.YtbdciibbgiphcaaDoorMD
/- The reference: how many parts, rank, sign, may it be: what the printed functions compute. -/
namespace Go.Proofs.YtbdciibbgiphcaaDoor.V
set_option linter.unusedVariables false
set_option linter.unusedSimpArgs false
set_option linter.unusedSectionVars false
open Go.RowKit Go.Proofs.YtbdciibbgiphcaaDoorW.PrintWords Go.Proofs.YtbdciibbgiphcaaDoorW.PrintLast Go.Proofs.YtbdciibbgiphcaaDoorW.PrintMore
theorem name_ev (s : ByteArray) : Ev (fun k => belfryref04_Name.f k s) (nameOk s) := ⟨s.size + 31, fun k hk => ref_Name s k (by omega)⟩
/-- operators that are known, and all others. -/
theorem op_split (o : Int) : (o = 1 ∨ o = 2 ∨ o = 3 ∨ o = 4 ∨ o = 5 ∨ o = 6 ∨ o = 7 ∨ o = 8 ∨ o = 9 ∨ o = 10 ∨ o = 11 ∨ o = 12 ∨ o = 13 ∨ o = 14 ∨ o = 15 ∨ o = 16 ∨ o = 17 ∨ o = 18 ∨ o = 19) ∨
  (o ≠ 1 ∧ o ≠ 2 ∧ o ≠ 3 ∧ o ≠ 4 ∧ o ≠ 5 ∧ o ≠ 6 ∧ o ≠ 7 ∧ o ≠ 8 ∧ o ≠ 9 ∧ o ≠ 10 ∧ o ≠ 11 ∧ o ≠ 12 ∧ o ≠ 13 ∧ o ≠ 14 ∧ o ≠ 15 ∧ o ≠ 16 ∧ o ≠ 17 ∧ o ≠ 18 ∧ o ≠ 19) := by omega
theorem pairs_out {o : Int} (h : o ≠ 6 ∧ o ≠ 7 ∧ o ≠ 8 ∧ o ≠ 9 ∧ o ≠ 10 ∧ o ≠ 11 ∧ o ≠ 12 ∧ o ≠ 13 ∧ o ≠ 14 ∧ o ≠ 15 ∧ o ≠ 16 ∧ o ≠ 18) : findL pairsL o = none := by
 cases hf : findL pairsL o with
 | none => rfl
 | some f =>
  obtain ⟨rfl, hm⟩ := findL_op hf
  simp only [pairsL, List.mem_cons, List.not_mem_nil, or_false] at hm
  rcases hm with rfl | rfl | rfl | rfl | rfl | rfl | rfl | rfl | rfl | rfl | rfl | rfl <;> simp at h
theorem pref_out {o : Int} (h : o ≠ 4 ∧ o ≠ 5 ∧ o ≠ 19) : findL prefL o = none := by
 cases hf : findL prefL o with
 | none => rfl
 | some f =>
  obtain ⟨rfl, hm⟩ := findL_op hf
  simp only [prefL, List.mem_cons, List.not_mem_nil, or_false] at hm
  rcases hm with rfl | rfl | rfl <;> simp at h
theorem many_ev (o : Int) : Ev (fun k => belfryref05_many.f k o) (parts o) := by
 refine ⟨10, fun k hk => ?_⟩
 obtain ⟨k, rfl⟩ : ∃ m, k = m + 10 := ⟨k - 10, by omega⟩
 rcases op_split o with h | h
 ·rcases h with rfl | rfl | rfl | rfl | rfl | rfl | rfl | rfl | rfl | rfl | rfl | rfl | rfl | rfl | rfl | rfl | rfl | rfl | rfl <;> rfl
 ·have hp : parts o = -1 := by
   unfold parts
   rw [pairs_out (by omega), pref_out (by omega), if_neg (by omega), if_neg (by omega)]
   simp
  rw [hp]
  obtain ⟨h1, h2, h3, h4, h5, h6, h7, h8, h9, h10, h11, h12, h13, h14, h15, h16, h17, h18, h19⟩ := h
  simp [belfryref05_many.f, belfryref05_many.j0, belfryref05_many.j1, belfryref05_many.j2, *]
theorem rank_ev (o : Int) : Ev (fun k => belfryref05_rank.f k o) (rankOf o) := by
 refine ⟨10, fun k hk => ?_⟩
 obtain ⟨k, rfl⟩ : ∃ m, k = m + 10 := ⟨k - 10, by omega⟩
 rcases op_split o with h | h
 ·rcases h with rfl | rfl | rfl | rfl | rfl | rfl | rfl | rfl | rfl | rfl | rfl | rfl | rfl | rfl | rfl | rfl | rfl | rfl | rfl <;> rfl
 ·have hp : rankOf o = 7 := by
   unfold rankOf
   rw [pairs_out (by omega), pref_out (by omega), if_neg (by omega)]
  rw [hp]
  obtain ⟨h1, h2, h3, h4, h5, h6, h7, h8, h9, h10, h11, h12, h13, h14, h15, h16, h17, h18, h19⟩ := h
  simp [belfryref05_rank.f, belfryref05_rank.j0, belfryref05_rank.j1, belfryref05_rank.j2, belfryref05_rank.j3, *]
theorem sign_ev {o : Int} {f : S83} (h : findL pairsL o = some f) : Ev (fun k => belfryref05_sign.f k o) f.f3 := by
 obtain ⟨rfl, hm⟩ := findL_op h
 refine ⟨20, fun k hk => ?_⟩
 obtain ⟨k, rfl⟩ : ∃ m, k = m + 20 := ⟨k - 20, by omega⟩
 simp only [pairsL, List.mem_cons, List.not_mem_nil, or_false] at hm
 rcases hm with rfl | rfl | rfl | rfl | rfl | rfl | rfl | rfl | rfl | rfl | rfl | rfl <;> first | rfl | simp [belfryref05_sign.f, belfryref05_sign.l0, rd, rdOf, wrap64]
end Go.Proofs.YtbdciibbgiphcaaDoor.V

/- The reference's size and Check: what they compute. -/
namespace Go.Proofs.YtbdciibbgiphcaaDoor.V
set_option linter.unusedVariables false
set_option linter.unusedSimpArgs false
set_option linter.unusedSectionVars false
open Go.RowKit Go.Proofs.YtbdciibbgiphcaaDoorW.PrintWords Go.Proofs.YtbdciibbgiphcaaDoorW.PrintLast Go.Proofs.YtbdciibbgiphcaaDoorW.PrintMore
def resR (p : Bool × Int) (l : Int) : Int := if p.1 = true then l - p.2 else -1
theorem emp_iff (s : ByteArray) : s.toList = ([] : List UInt8) ↔ emp s = true := by unfold emp; exact List.isEmpty_iff.symm
def SizeIs (d : Nat) : Prop := ∀ (x : S25) (l : Int), 0 ≤ l → l ≤ 200 → Ev (fun k => belfryref05_size.f k x.f0 x.f1 x.f2 x.f3 (d : Int) l) (resR (chk nameOk d x l) l)
theorem size_l0 (d : Nat) (hd : d ≤ 32) (hs : SizeIs d) (o nn : Int) (s : ByteArray) (xs : List S25) (hx : xs.length ≤ 3) (l : Int) (hl : 1 ≤ l) (hl2 : l ≤ 200) :
  ∀ (m i : Nat) (n : Int), i + m = xs.length → 1 ≤ n → n ≤ l → chks (chk nameOk d) (xs.take i) (l - 1) = (true, l - n) →
   Ev (fun k => belfryref05_size.l0 k ((d : Int) + 1) l n (i : Int) o nn s xs) (resR (chks (chk nameOk d) xs (l - 1)) l)
 | 0, i, n, hi, h1, h2, hc => by
  rw [List.take_of_length_le (by omega)] at hc
  rw [hc]
  refine Ev.step (fun k => ?_) (Ev.now _)
  simp only [belfryref05_size.l0]
  rw [if_neg (by omega)]
  simp only [resR, if_true]
  congr 1; omega
 | m + 1, i, n, hi, h1, h2, hc => by
  have hlt : i < xs.length := by omega
  have hk := chks_take (chk nameOk d) xs (l - 1) i hlt (by rw [hc])
  rw [hc] at hk
  have hle := chk_le nameOk d xs[i] (l - n) (by omega)
  have hz := hs xs[i] (l - n) (by omega) (by omega)
  have hw1 : wrap64 ((d : Int) + 1 - 1) = d := by rw [w64 (by omega) (by omega)]; omega
  have hw2 : wrap64 (l - n) = l - n := w64 (by omega) (by omega)
  cases hb : (chk nameOk d xs[i] (l - n)).1 with
  | true =>
   have h0 := hle.2.2 hb
   have hr : resR (chk nameOk d xs[i] (l - n)) (l - n) = (l - n) - (chk nameOk d xs[i] (l - n)).2 := by simp [resR, hb]
   rw [hr] at hz
   obtain ⟨l2, hl2'⟩ : ∃ l2, l2 = (chk nameOk d xs[i] (l - n)).2 := ⟨_, rfl⟩
   rw [← hl2'] at hz h0 hle
   refine Ev.step (f := fun k => (belfryref05_size.f k xs[i].f0 xs[i].f1 xs[i].f2 xs[i].f3 (d : Int) (l - n)).bind fun t177 => (if t177 < 0 then (some (-1)) else (belfryref05_size.l0 k ((d : Int) + 1) l (wrap64 (n + t177)) (wrap64 ((i : Int) + 1)) o nn s xs))) (fun k => ?_) ?_
   ·simp only [belfryref05_size.l0]
    rw [if_pos (by omega), if_pos (by omega), rdT25 xs i hlt, hw1, hw2]
   ·refine Ev.bind (f := fun k t177 => (if t177 < 0 then (some (-1)) else (belfryref05_size.l0 k ((d : Int) + 1) l (wrap64 (n + t177)) (wrap64 ((i : Int) + 1)) o nn s xs))) hz ?_
    have hn : wrap64 (n + (l - n - l2)) = l - l2 := by rw [w64 (by omega) (by omega)]; omega
    have hi1 : wrap64 ((i : Int) + 1) = ((i + 1 : Nat) : Int) := by rw [w64 (by omega) (by omega)]; omega
    refine Ev.congr (fun k => ?_) (size_l0 d hd hs o nn s xs hx l hl hl2 m (i + 1) (l - l2) (by omega) (by omega) (by omega) ?_)
    ·rw [if_neg (by omega), hn, hi1]
    ·rw [hk]
     refine Prod.ext hb ?_
     show (chk nameOk d xs[i] (l - n)).2 = l - (l - l2)
     rw [← hl2']; omega
  | false =>
   have hr : resR (chk nameOk d xs[i] (l - n)) (l - n) = -1 := by simp [resR, hb]
   rw [hr] at hz
   have hall : (chks (chk nameOk d) xs (l - 1)).1 = false := by
    rw [chks_stop (chk nameOk d) xs (l - 1) (i + 1) (by rw [hk, hb]), hk, hb]
   rw [show resR (chks (chk nameOk d) xs (l - 1)) l = -1 by simp [resR, hall]]
   refine Ev.step (f := fun k => (belfryref05_size.f k xs[i].f0 xs[i].f1 xs[i].f2 xs[i].f3 (d : Int) (l - n)).bind fun t177 => (if t177 < 0 then (some (-1)) else (belfryref05_size.l0 k ((d : Int) + 1) l (wrap64 (n + t177)) (wrap64 ((i : Int) + 1)) o nn s xs))) (fun k => ?_) ?_
   ·simp only [belfryref05_size.l0]
    rw [if_pos (by omega), if_pos (by omega), rdT25 xs i hlt, hw1, hw2]
   ·refine Ev.bind (f := fun k t177 => (if t177 < 0 then (some (-1)) else (belfryref05_size.l0 k ((d : Int) + 1) l (wrap64 (n + t177)) (wrap64 ((i : Int) + 1)) o nn s xs))) hz ?_
    exact Ev.congr (fun k => by simp) (Ev.now _)
theorem size_j1 (d : Nat) (hd : d ≤ 32) (hs : SizeIs d) (o nn : Int) (s : ByteArray) (xs : List S25) (hx : xs.length ≤ 3) (l : Int) (hl : 1 ≤ l) (hl2 : l ≤ 200) :
  Ev (fun k => belfryref05_size.j1 k ((d : Int) + 1) l o nn s xs) (resR (chks (chk nameOk d) xs (l - 1)) l) := by
 refine Ev.step (fun k => ?_) (size_l0 d hd hs o nn s xs hx l hl hl2 xs.length 0 1 (by omega) (by omega) (by omega) (by simp [chks]))
 simp only [belfryref05_size.j1]
 rfl
theorem parts_le (o : Int) : parts o ≤ 3 := by
 unfold parts
 split
 ·omega
 ·split
  ·omega
  ·split
   ·omega
   ·split <;> omega
theorem size_all : ∀ d, d ≤ 32 → SizeIs d
 | 0, hd => by
  intro x l h0 h1
  have : resR (chk nameOk 0 x l) l = -1 := rfl
  rw [this]
  refine Ev.step (f := fun k => belfryref05_size.j0 k 0 l true x.f0 x.f1 x.f2 x.f3) (fun k => by simp only [belfryref05_size.f]; rfl) ?_
  exact Ev.step (fun k => by simp [belfryref05_size.j0]) (Ev.now _)
 | d + 1, hd => by
  have ih := size_all d (by omega)
  intro x l h0 h1
  obtain ⟨o, n, s, xs⟩ := x
  have hd0 : ¬ ((d + 1 : Nat) : Int) = 0 := by omega
  have hdc : ((d + 1 : Nat) : Int) = (d : Int) + 1 := by omega
  by_cases hl : l = 0
  ·subst hl
   have : resR (chk nameOk (d + 1) ⟨o, n, s, xs⟩ 0) 0 = -1 := by rw [chk]; rfl
   rw [this]
   refine Ev.step (f := fun k => belfryref05_size.j0 k ((d + 1 : Nat) : Int) 0 true o n s xs) (fun k => by simp only [belfryref05_size.f]; rw [if_neg hd0, if_pos trivial]) ?_
   exact Ev.step (fun k => by simp [belfryref05_size.j0]) (Ev.now _)
  refine Ev.step (f := fun k => (belfryref05_many.f k o).bind fun t174 => (belfryref05_size.j0 k ((d + 1 : Nat) : Int) l (t174 != (xs.length : Int)) o n s xs)) (fun k => by simp only [belfryref05_size.f]; rw [if_neg hd0, if_neg hl]) ?_
  refine Ev.bind (f := fun k t174 => (belfryref05_size.j0 k ((d + 1 : Nat) : Int) l (t174 != (xs.length : Int)) o n s xs)) (many_ev o) ?_
  rw [hdc]
  by_cases hp : parts o = (xs.length : Int)
  ·have hb : (parts o != (xs.length : Int)) = false := by simp [hp]
   simp only [hb]
   have hx : xs.length ≤ 3 := by have := parts_le o; omega
   rw [chkC (by omega) hp]
   have J := size_j1 d (by omega) ih o n s xs hx l (by omega) h1
   have J0 : (o = 1 ∨ o = 2 ∨ o = 3) → resR (chks (chk nameOk d) xs (l - 1)) l = resR (true, l - 1) l := by
    intro ho
    rw [parts_zero ho] at hp
    obtain rfl : xs = [] := List.eq_nil_of_length_eq_zero (by omega)
    rfl
   by_cases o1 : o = 1
   ·subst o1
    rw [if_pos rfl]
    rw [J0 (.inl rfl)] at J
    by_cases hn : n < 0
    ·rw [show resR (decide (0 ≤ n) && emp s, l - 1) l = -1 by simp [resR]; omega]
     exact Ev.step (fun k => by simp only [belfryref05_size.j0]; rw [if_neg (by simp), if_pos trivial, if_pos hn]) (Ev.now _)
    ·by_cases he : emp s = true
     ·rw [show (decide (0 ≤ n) && emp s) = true by simp [he]; omega]
      exact Ev.step (fun k => by simp only [belfryref05_size.j0]; rw [if_neg (by simp), if_pos trivial, if_neg hn, if_pos ((emp_iff s).2 he)]) J
     ·rw [show resR (decide (0 ≤ n) && emp s, l - 1) l = -1 by simp [resR, he]]
      exact Ev.step (fun k => by simp only [belfryref05_size.j0]; rw [if_neg (by simp), if_pos trivial, if_neg hn, if_neg (fun h => he ((emp_iff s).1 h))]) (Ev.now _)
   rw [if_neg o1]
   by_cases o2 : o = 2
   ·subst o2
    rw [if_pos rfl]
    rw [J0 (.inr (.inl rfl))] at J
    by_cases he : emp s = true
    ·by_cases hn0 : n = 0
     ·rw [show ((decide (n = 0) || decide (n = 1)) && emp s) = true by simp [he, hn0]]
      exact Ev.step (fun k => by simp only [belfryref05_size.j0]; rw [if_neg (by simp), if_neg o1, if_pos trivial, if_pos hn0, if_pos ((emp_iff s).2 he)]) J
     ·by_cases hn1 : n = 1
      ·rw [show ((decide (n = 0) || decide (n = 1)) && emp s) = true by simp [he, hn1]]
       exact Ev.step (fun k => by simp only [belfryref05_size.j0]; rw [if_neg (by simp), if_neg o1, if_pos trivial, if_neg hn0, if_pos hn1, if_pos ((emp_iff s).2 he)]) J
      ·rw [show resR ((decide (n = 0) || decide (n = 1)) && emp s, l - 1) l = -1 by simp [resR, hn0, hn1]]
       exact Ev.step (fun k => by simp only [belfryref05_size.j0]; rw [if_neg (by simp), if_neg o1, if_pos trivial, if_neg hn0, if_neg hn1]) (Ev.now _)
    ·rw [show resR ((decide (n = 0) || decide (n = 1)) && emp s, l - 1) l = -1 by simp [resR, he]]
     have he' : ¬ s.toList = ([] : List UInt8) := fun h => he ((emp_iff s).1 h)
     by_cases hn0 : n = 0
     ·exact Ev.step (fun k => by simp only [belfryref05_size.j0]; rw [if_neg (by simp), if_neg o1, if_pos trivial, if_pos hn0, if_neg he']) (Ev.now _)
     ·by_cases hn1 : n = 1
      ·exact Ev.step (fun k => by simp only [belfryref05_size.j0]; rw [if_neg (by simp), if_neg o1, if_pos trivial, if_neg hn0, if_pos hn1, if_neg he']) (Ev.now _)
      ·exact Ev.step (fun k => by simp only [belfryref05_size.j0]; rw [if_neg (by simp), if_neg o1, if_pos trivial, if_neg hn0, if_neg hn1]) (Ev.now _)
   rw [if_neg o2]
   by_cases o3 : o = 3
   ·subst o3
    rw [if_pos rfl]
    rw [J0 (.inr (.inr rfl))] at J
    by_cases hn0 : n = 0
    ·refine Ev.step (f := fun k => (belfryref04_Name.f k s).bind fun t175 => (if t175 = true then (belfryref05_size.j1 k ((d : Int) + 1) l 3 n s xs) else (some (-1)))) (fun k => by simp only [belfryref05_size.j0]; rw [if_neg (by simp), if_neg o1, if_neg o2, if_pos trivial, if_pos hn0]) ?_
     refine Ev.bind (f := fun k t175 => (if t175 = true then (belfryref05_size.j1 k ((d : Int) + 1) l 3 n s xs) else (some (-1)))) (name_ev s) ?_
     cases hm : nameOk s with
     | true =>
      rw [show (decide (n = 0) && true) = true by simp [hn0]]
      exact Ev.congr (fun k => by simp) J
     | false =>
      rw [show resR (decide (n = 0) && false, l - 1) l = -1 by simp [resR]]
      exact Ev.congr (fun k => by simp) (Ev.now _)
    ·rw [show resR (decide (n = 0) && nameOk s, l - 1) l = -1 by simp [resR, hn0]]
     exact Ev.step (fun k => by simp only [belfryref05_size.j0]; rw [if_neg (by simp), if_neg o1, if_neg o2, if_pos trivial, if_neg hn0]) (Ev.now _)
   rw [if_neg o3]
   by_cases hn0 : n = 0
   ·by_cases he : emp s = true
    ·rw [show ((chks (chk nameOk d) xs (l - 1)).1 && (decide (n = 0) && emp s)) = (chks (chk nameOk d) xs (l - 1)).1 by simp [hn0, he]]
     exact Ev.step (fun k => by simp only [belfryref05_size.j0]; rw [if_neg (by simp), if_neg o1, if_neg o2, if_neg o3, if_pos hn0, if_pos ((emp_iff s).2 he)]) J
    ·rw [show resR ((chks (chk nameOk d) xs (l - 1)).1 && (decide (n = 0) && emp s), (chks (chk nameOk d) xs (l - 1)).2) l = -1 by simp [resR, he]]
     exact Ev.step (fun k => by simp only [belfryref05_size.j0]; rw [if_neg (by simp), if_neg o1, if_neg o2, if_neg o3, if_pos hn0, if_neg (fun h => he ((emp_iff s).1 h))]) (Ev.now _)
   ·rw [show resR ((chks (chk nameOk d) xs (l - 1)).1 && (decide (n = 0) && emp s), (chks (chk nameOk d) xs (l - 1)).2) l = -1 by simp [resR, hn0]]
    exact Ev.step (fun k => by simp only [belfryref05_size.j0]; rw [if_neg (by simp), if_neg o1, if_neg o2, if_neg o3, if_neg hn0]) (Ev.now _)
  ·have hb : (parts o != (xs.length : Int)) = true := by simp [hp]
   simp only [hb]
   rw [show resR (chk nameOk (d + 1) ⟨o, n, s, xs⟩ l) l = -1 by rw [chkB hp]; rfl]
   exact Ev.step (fun k => by simp [belfryref05_size.j0]) (Ev.now _)
theorem Check_ev (x : S25) : Ev (fun k => belfryref05_Check.f k x.f0 x.f1 x.f2 x.f3) (okE nameOk x) := by
 have h := size_all 32 (Nat.le_refl _) x 200 (by omega) (by omega)
 refine Ev.congr (f := fun k => (belfryref05_size.f k x.f0 x.f1 x.f2 x.f3 32 200).bind fun t179 => (some (decide (t179 > 0)))) (fun k => rfl) ?_
 refine Ev.bind (f := fun k t179 => (some (decide (t179 > 0)))) h ?_
 have hv : decide (resR (chk nameOk 32 x 200) 200 > 0) = okE nameOk x := by
  unfold resR okE
  cases hb : (chk nameOk 32 x 200).1 with
  | true =>
   have := (ok_of_chk nameOk 32 x 200 hb).lt
   simp; omega
  | false => simp
 rw [← hv]
 exact Ev.now _
end Go.Proofs.YtbdciibbgiphcaaDoor.V

/- The reference's Text: what it computes. -/
namespace Go.Proofs.YtbdciibbgiphcaaDoor.V
set_option linter.unusedVariables false
set_option linter.unusedSimpArgs false
set_option linter.unusedSectionVars false
open Go.RowKit Go.Proofs.YtbdciibbgiphcaaDoorW.PrintWords Go.Proofs.YtbdciibbgiphcaaDoorW.PrintLast Go.Proofs.YtbdciibbgiphcaaDoorW.PrintMore
theorem nameOk_le (s : ByteArray) (h : nameOk s = true) : s.size ≤ 40 := by
 unfold nameOk at h; simp only [Bool.and_eq_true, decide_eq_true_eq] at h; exact h.2.1
theorem nameOk_pos (s : ByteArray) (h : nameOk s = true) : 0 < s.size := by
 unfold nameOk at h; simp only [Bool.and_eq_true, decide_eq_true_eq] at h; exact h.1
theorem itoB_pos (a : Int) : 0 < (itoB a).size := by
 have hd : ∀ n, 0 < (Lib.decDigits n).length := by
  intro n
  rw [Lib.decDigits]
  split <;> simp
 show 0 < (Lib.itoa a).toArray.size
 rw [List.size_toArray]
 unfold Lib.itoa
 split
 ·simp
 ·exact hd _
theorem partW_pos {w : S25 → ByteArray} {x : S25} {k : Int} (h : 0 < (w x).size) : 0 < (partW w x k).size := by
 unfold partW
 split
 ·rw [size_app, size_app]; omega
 ·exact h
theorem wr_pos {d : Nat} {x : S25} {l l' : Int} (h : Ok nameOk d x l l') : 0 < (wr d x).size := by
 induction h with
 | int d n s l h1 h2 h3 => exact itoB_pos n
 | bool d n s l h1 h2 h3 =>
  rcases h2 with rfl | rfl
  ·show 0 < (boolW (decide ((0 : Int) = 1))).size; decide
  ·show 0 < (boolW (decide ((1 : Int) = 1))).size; decide
 | name d s l h1 h2 => exact nameOk_pos s h2
 | two d f s a b l l1 l2 h1 hf hs ha hb iha ihb =>
  simp only [wr, hf]
  rw [size_app, size_app, size_app, size_app]
  have := partW_pos (w := wr d) (k := (asksOf f).1) iha
  simp only [hd0, List.getD_cons_zero]
  omega
 | one d f s a l l1 h1 hf hq hs ha iha =>
  simp only [wr, hf, hq]
  unfold prefW
  have := partW_pos (w := wr d) (k := 6) iha
  simp only [hd0, List.getD_cons_zero]
  split
  ·rw [size_app]; omega
  ·rw [size_app]; omega
 | three d s a b c l l1 l2 l3 h1 hs ha hb hc iha ihb ihc =>
  have e : findL pairsL 17 = none := by decide
  have e2 : findL prefL 17 = none := by decide
  simp only [wr, e, e2]
  rw [if_neg (by decide), if_neg (by decide), if_neg (by decide), size_app]
  have := partW_pos (w := wr d) (k := 0) ihc
  simp only [hd0, List.getD_cons_succ, List.getD_cons_zero]
  omega
theorem part_ev {d : Nat} {x : S25} (least : Int) (h : Ev (fun k => belfryref05_written.f k x.f0 x.f1 x.f2 x.f3) (wr d x)) (hz : (wr d x).size ≤ 20000) :
  Ev (fun k => belfryref05_part.f k x.f0 x.f1 x.f2 x.f3 least) (partW (wr d) x least) := by
 obtain ⟨K, hK⟩ := h
 obtain ⟨K2, hK2⟩ := rank_ev x.f0
 refine ⟨K + K2 + 1, fun k hk => ?_⟩
 obtain ⟨k, rfl⟩ : ∃ m, k = m + 1 := ⟨k - 1, by omega⟩
 have e1 := hK k (by omega)
 have e2 := hK2 k (by omega)
 dsimp only at e1 e2
 have s1 : 1 + (wr d x).size ≤ 9223372036854775807 := by omega
 have s2 : ((⟨#[40]⟩ : ByteArray) ++ wr d x).size + 1 ≤ 9223372036854775807 := by rw [size_app]; show 1 + _ + 1 ≤ _; omega
 show belfryref05_part.f (k + 1) x.f0 x.f1 x.f2 x.f3 least = _
 simp only [belfryref05_part.f, e1, e2, Option.bind_some]
 unfold partW
 by_cases hr : rankOf x.f0 < least
 ·rw [if_pos hr, if_pos hr, if_pos s1, if_pos s2]
 ·rw [if_neg hr, if_neg hr]
theorem hasP (s : ByteArray) (h : 0 < s.size) : (bt s 0 = 45) ↔ Lib.hasPrefix s.data.toList [45] = true := by
 unfold bt Lib.hasPrefix
 rw [dif_pos (by simpa using h)]
 obtain ⟨l⟩ := s
 obtain ⟨l⟩ := l
 cases l with
 | nil => exact absurd h (by simp [ByteArray.size])
 | cons b r =>
  show (((ByteArray.get _ _ _ : UInt8).toNat : Int) = 45) ↔ _
  simp only [List.isPrefixOf, Bool.and_true, beq_iff_eq]
  show ((b.toNat : Int) = 45) ↔ (45 : UInt8) = b
  constructor
  ·intro h
   apply UInt8.toNat_inj.1
   show 45 = b.toNat
   omega
  ·rintro rfl; rfl
theorem sz_bound {l l' : Int} {s : ByteArray} (h : (s.size : Int) ≤ 60 * (l - l')) (h1 : 0 ≤ l') (h2 : l ≤ 200) : s.size ≤ 12000 := by omega
/-- what holds of a part: written, and its bounds. -/
theorem of_part {d : Nat} {x : S25} {l l' : Int} (h : Ok nameOk d x l l') (hl : l ≤ 200) (hw : WfE x) (ih : Ev (fun k => belfryref05_written.f k x.f0 x.f1 x.f2 x.f3) (wr d x)) (least : Int) :
  ∃ K, ∀ k, K ≤ k → belfryref05_part.f k x.f0 x.f1 x.f2 x.f3 least = some (partW (wr d) x least) ∧ (partW (wr d) x least).size ≤ 12002 ∧ 0 < (partW (wr d) x least).size := by
 have hz : (wr d x).size ≤ 12000 := sz_bound (wr_size nameOk_le h hw) h.lt.1 hl
 obtain ⟨K, hK⟩ := part_ev least ih (by omega)
 have := partW_size (wr d) x least
 exact ⟨K, fun k hk => ⟨hK k hk, by omega, partW_pos (wr_pos h)⟩⟩
theorem WfE.kid {o n : Int} {s : ByteArray} {xs : List S25} (h : WfE ⟨o, n, s, xs⟩) : ∀ y ∈ xs, WfE y := by cases h; assumption
theorem WfE.num {o n : Int} {s : ByteArray} {xs : List S25} (h : WfE ⟨o, n, s, xs⟩) : -9223372036854775808 ≤ n ∧ n ≤ 9223372036854775807 := by cases h; exact ⟨by assumption, by assumption⟩
theorem bin_nots {f : S83} (h : findL pairsL f.f0 = some f) : f.f0 ≠ 1 ∧ f.f0 ≠ 2 ∧ f.f0 ≠ 3 ∧ f.f0 ≠ 17 ∧ f.f0 ≠ 5 ∧ f.f0 ≠ 19 ∧ f.f0 ≠ 4 ∧ (f.f0 = 18 → f = ⟨18, 0, 3, ⟨#[45, 62]⟩⟩) ∧ (f.f0 ≠ 18 → f.f1 ≠ 0) ∧ 0 ≤ f.f1 ∧ f.f1 ≤ 5 ∧ f.f3.size ≤ 3 := by
 obtain ⟨_, hm⟩ := findL_op h
 simp only [pairsL, List.mem_cons, List.not_mem_nil, or_false] at hm
 rcases hm with rfl | rfl | rfl | rfl | rfl | rfl | rfl | rfl | rfl | rfl | rfl | rfl <;>
  (refine ⟨by decide, by decide, by decide, by decide, by decide, by decide, by decide, ?_, by decide, by decide, by decide, by decide⟩; first | exact fun _ => rfl | exact fun h => absurd h (by decide))
theorem written_ev {d : Nat} {x : S25} {l l' : Int} (h : Ok nameOk d x l l') : l ≤ 200 → WfE x → Ev (fun k => belfryref05_written.f k x.f0 x.f1 x.f2 x.f3) (wr d x) := by
 induction h with
 | int d n s l h1 h2 h3 =>
  intro hl hw
  obtain ⟨K2, hK2⟩ := rank_ev 1
  refine ⟨K2 + 1, fun k hk => ?_⟩
  obtain ⟨k, rfl⟩ : ∃ m, k = m + 1 := ⟨k - 1, by omega⟩
  have e2 := hK2 k (by omega)
  dsimp only at e2
  show belfryref05_written.f (k + 1) 1 n s [] = some (itoB n)
  simp only [belfryref05_written.f, e2, Option.bind_some, if_true, belfryref05_Digits.f, hw.num, and_self]
 | bool d n s l h1 h2 h3 =>
  intro hl hw
  obtain ⟨K2, hK2⟩ := rank_ev 2
  refine ⟨K2 + 1, fun k hk => ?_⟩
  obtain ⟨k, rfl⟩ : ∃ m, k = m + 1 := ⟨k - 1, by omega⟩
  have e2 := hK2 k (by omega)
  dsimp only at e2
  show belfryref05_written.f (k + 1) 2 n s [] = some (boolW (decide (n = 1)))
  simp only [belfryref05_written.f, e2, Option.bind_some]
  rcases h2 with rfl | rfl <;> rfl
 | name d s l h1 h2 =>
  intro hl hw
  obtain ⟨K2, hK2⟩ := rank_ev 3
  refine ⟨K2 + 1, fun k hk => ?_⟩
  obtain ⟨k, rfl⟩ : ∃ m, k = m + 1 := ⟨k - 1, by omega⟩
  have e2 := hK2 k (by omega)
  dsimp only at e2
  show belfryref05_written.f (k + 1) 3 0 s [] = some s
  simp only [belfryref05_written.f, e2, Option.bind_some]
  rfl
 | two d f s a b l l1 l2 h1 hf hs ha hb iha ihb =>
  intro hl hw
  have hwa := hw.kid a (by simp)
  have hwb := hw.kid b (by simp)
  have hla := ha.lt
  obtain ⟨n1, n2, n3, n17, n5, n19, n4, n18, nf, r0, r5, hf3⟩ := bin_nots hf
  obtain ⟨K2, hK2⟩ := rank_ev f.f0
  have hrk : rankOf f.f0 = f.f1 := by unfold rankOf; rw [if_neg n17, hf]
  by_cases h18 : f.f0 = 18
  ·obtain rfl := n18 h18
   obtain ⟨KA, hA⟩ := of_part ha (by omega) hwa (iha (by omega) hwa) 1
   obtain ⟨KB, hB⟩ := of_part hb (by omega) hwb (ihb (by omega) hwb) 0
   refine ⟨KA + KB + K2 + 1, fun k hk => ?_⟩
   obtain ⟨k, rfl⟩ : ∃ m, k = m + 1 := ⟨k - 1, by omega⟩
   have e2 := hK2 k (by omega)
   obtain ⟨eA, sA, pA⟩ := hA k (by omega)
   obtain ⟨eB, sB, pB⟩ := hB k (by omega)
   dsimp only at e2
   have hv : wr (d + 1) ⟨18, 0, s, [a, b]⟩ = (partW (wr d) a 1 ++ (⟨#[32, 45, 62, 32]⟩ : ByteArray)) ++ partW (wr d) b 0 := by
    show (((partW (wr d) a 1 ++ sp) ++ (⟨#[45, 62]⟩ : ByteArray)) ++ sp) ++ partW (wr d) b 0 = _
    rw [ByteArray.append_assoc (c := sp), ByteArray.append_assoc (a := partW (wr d) a 1)]
    rfl
   show belfryref05_written.f (k + 1) 18 0 s [a, b] = some (wr (d + 1) ⟨18, 0, s, [a, b]⟩)
   rw [hv]
   generalize partW (wr d) a 1 = pa at *
   generalize partW (wr d) b 0 = pb at *
   have s1 : pa.size + 4 ≤ 9223372036854775807 := by omega
   have s2 : (pa ++ (⟨#[32, 45, 62, 32]⟩ : ByteArray)).size + pb.size ≤ 9223372036854775807 := by rw [size_app]; show _ + 4 + _ ≤ _; omega
   simp only [belfryref05_written.f, e2, Option.bind_some, show rd_T25 [a, b] 0 = a from rfl, show rd_T25 [a, b] 1 = b from rfl, eA, eB, s1, s2, if_true]
   rfl
  ·have nf := nf h18
   have ask : asksOf f = if f.f1 = 3 then (4, 4) else (f.f1, f.f1 + 1) := by unfold asksOf; rw [if_neg nf]
   obtain ⟨KA, hA⟩ := of_part ha (by omega) hwa (iha (by omega) hwa) (asksOf f).1
   obtain ⟨KB, hB⟩ := of_part hb (by omega) hwb (ihb (by omega) hwb) (asksOf f).2
   obtain ⟨KS, hS⟩ := sign_ev hf
   refine ⟨KA + KB + K2 + KS + 1, fun k hk => ?_⟩
   obtain ⟨k, rfl⟩ : ∃ m, k = m + 1 := ⟨k - 1, by omega⟩
   have e2 := hK2 k (by omega)
   have e3 := hS k (by omega)
   obtain ⟨eA, sA, pA⟩ := hA k (by omega)
   obtain ⟨eB, sB, pB⟩ := hB k (by omega)
   dsimp only at e2 e3
   rw [hrk] at e2
   have hv : wr (d + 1) ⟨f.f0, 0, s, [a, b]⟩ = (((partW (wr d) a (asksOf f).1 ++ sp) ++ f.f3) ++ sp) ++ partW (wr d) b (asksOf f).2 := by
    simp only [wr, hf]; rfl
   show belfryref05_written.f (k + 1) f.f0 0 s [a, b] = some (wr (d + 1) ⟨f.f0, 0, s, [a, b]⟩)
   rw [hv]
   have w1 : wrap64 (f.f1 + 1) = f.f1 + 1 := w64 (by omega) (by omega)
   have hA1 : (asksOf f).1 = if f.f1 = 3 then 4 else f.f1 := by rw [ask]; split <;> rfl
   have hB1 : (asksOf f).2 = f.f1 + 1 := by rw [ask]; split <;> omega
   rw [hB1] at eB sB ⊢
   rw [hA1] at eA sA ⊢
   clear hA hB
   generalize hpb : partW (wr d) b (f.f1 + 1) = pb at eB sB ⊢
   by_cases h3 : f.f1 = 3
   ·rw [if_pos h3] at eA sA ⊢
    generalize hpa : partW (wr d) a 4 = pa at eA sA ⊢
    have s1 : pa.size + 1 ≤ 9223372036854775807 := by omega
    have s2 : (pa ++ (⟨#[32]⟩ : ByteArray)).size + f.f3.size ≤ 9223372036854775807 := by rw [size_app]; show _ + 1 + _ ≤ _; omega
    have s3 : ((pa ++ (⟨#[32]⟩ : ByteArray)) ++ f.f3).size + 1 ≤ 9223372036854775807 := by rw [size_app, size_app]; show _ + 1 + _ + _ ≤ _; omega
    have s4 : (((pa ++ (⟨#[32]⟩ : ByteArray)) ++ f.f3) ++ (⟨#[32]⟩ : ByteArray)).size + pb.size ≤ 9223372036854775807 := by rw [size_app, size_app, size_app]; show _ + 1 + _ + 1 + _ ≤ _; omega
    simp only [belfryref05_written.f, e2, e3, Option.bind_some, n1, n2, n3, n17, n5, n19, n4, h18, h3, show rd_T25 [a, b] 0 = a from rfl, show rd_T25 [a, b] 1 = b from rfl, eA, s1, s2, s3, if_true, if_false]
    rw [h3] at w1 eB
    simp only [w1, eB, s4, Option.bind_some, if_true]
    rfl
   ·rw [if_neg h3] at eA sA ⊢
    generalize hpa : partW (wr d) a f.f1 = pa at eA sA ⊢
    have s1 : pa.size + 1 ≤ 9223372036854775807 := by omega
    have s2 : (pa ++ (⟨#[32]⟩ : ByteArray)).size + f.f3.size ≤ 9223372036854775807 := by rw [size_app]; show _ + 1 + _ ≤ _; omega
    have s3 : ((pa ++ (⟨#[32]⟩ : ByteArray)) ++ f.f3).size + 1 ≤ 9223372036854775807 := by rw [size_app, size_app]; show _ + 1 + _ + _ ≤ _; omega
    have s4 : (((pa ++ (⟨#[32]⟩ : ByteArray)) ++ f.f3) ++ (⟨#[32]⟩ : ByteArray)).size + pb.size ≤ 9223372036854775807 := by rw [size_app, size_app, size_app]; show _ + 1 + _ + 1 + _ ≤ _; omega
    simp only [belfryref05_written.f, e2, e3, Option.bind_some, n1, n2, n3, n17, n5, n19, n4, h18, h3, show rd_T25 [a, b] 0 = a from rfl, show rd_T25 [a, b] 1 = b from rfl, eA, eB, w1, s1, s2, s3, s4, if_true, if_false]
    rfl
 | one d f s a l l1 h1 hf hq hs ha iha =>
  intro hl hw
  have hwa := hw.kid a (by simp)
  obtain ⟨K2, hK2⟩ := rank_ev f.f0
  obtain ⟨KA, hA⟩ := of_part ha (by omega) hwa (iha (by omega) hwa) 6
  refine ⟨KA + K2 + 1, fun k hk => ?_⟩
  obtain ⟨k, rfl⟩ : ∃ m, k = m + 1 := ⟨k - 1, by omega⟩
  have e2 := hK2 k (by omega)
  obtain ⟨eA, sA, pA⟩ := hA k (by omega)
  dsimp only at e2
  have hv : wr (d + 1) ⟨f.f0, 0, s, [a]⟩ = prefW f (partW (wr d) a 6) := by
   simp only [wr, hf, hq]; rfl
  show belfryref05_written.f (k + 1) f.f0 0 s [a] = some (wr (d + 1) ⟨f.f0, 0, s, [a]⟩)
  rw [hv]
  generalize partW (wr d) a 6 = pa at *
  have s1 : 4 + pa.size ≤ 9223372036854775807 := by omega
  have s2 : 2 + pa.size ≤ 9223372036854775807 := by omega
  have s3 : 1 + pa.size ≤ 9223372036854775807 := by omega
  have s4 : (0 : Int) < (pa.size : Int) := by omega
  obtain ⟨_, hm⟩ := findL_op hq
  simp only [prefL, List.mem_cons, List.not_mem_nil, or_false] at hm
  rcases hm with rfl | rfl | rfl
  ·have hp := hasP pa pA
   by_cases hb : bt pa 0 = 45
   ·have hb2 := hp.1 hb
    have hz : prefW ⟨4, 6, 3, ⟨#[45]⟩⟩ pa = (⟨#[45, 32]⟩ : ByteArray) ++ pa := by
     unfold prefW
     rw [if_neg (by simp only [hb2]; simp)]
     rfl
    rw [hz]
    simp only [belfryref05_written.f, e2, Option.bind_some, show rd_T25 [a] 0 = a from rfl, eA, s2, s4, hb, if_true]
    rfl
   ·have hb2 : Lib.hasPrefix pa.data.toList [45] = false := by
     cases hc : Lib.hasPrefix pa.data.toList [45] with
     | true => exact absurd (hp.2 hc) hb
     | false => rfl
    have hz : prefW ⟨4, 6, 3, ⟨#[45]⟩⟩ pa = (⟨#[45]⟩ : ByteArray) ++ pa := by
     unfold prefW
     rw [if_pos ⟨rfl, hb2⟩]
    rw [hz]
    simp only [belfryref05_written.f, e2, Option.bind_some, show rd_T25 [a] 0 = a from rfl, eA, s3, s4, hb, if_true, if_false]
    rfl
  ·have hz : prefW ⟨5, 6, 1, ⟨#[110, 111, 116]⟩⟩ pa = (⟨#[110, 111, 116, 32]⟩ : ByteArray) ++ pa := by
    unfold prefW
    rw [if_neg (by simp)]
    rfl
   rw [hz]
   simp only [belfryref05_written.f, e2, Option.bind_some, show rd_T25 [a] 0 = a from rfl, eA, s1, if_true]
   rfl
  ·have hz : prefW ⟨19, 6, 1, ⟨#[112, 114, 101]⟩⟩ pa = (⟨#[112, 114, 101, 32]⟩ : ByteArray) ++ pa := by
    unfold prefW
    rw [if_neg (by simp)]
    rfl
   rw [hz]
   simp only [belfryref05_written.f, e2, Option.bind_some, show rd_T25 [a] 0 = a from rfl, eA, s1, if_true]
   rfl
 | three d s a b c l l1 l2 l3 h1 hs ha hb hc iha ihb ihc =>
  intro hl hw
  have hwa := hw.kid a (by simp)
  have hwb := hw.kid b (by simp)
  have hwc := hw.kid c (by simp)
  have hla := ha.lt
  have hlb := hb.lt
  obtain ⟨K2, hK2⟩ := rank_ev 17
  obtain ⟨KA, hA⟩ := of_part ha (by omega) hwa (iha (by omega) hwa) 0
  obtain ⟨KB, hB⟩ := of_part hb (by omega) hwb (ihb (by omega) hwb) 0
  obtain ⟨KC, hC⟩ := of_part hc (by omega) hwc (ihc (by omega) hwc) 0
  refine ⟨KA + KB + KC + K2 + 1, fun k hk => ?_⟩
  obtain ⟨k, rfl⟩ : ∃ m, k = m + 1 := ⟨k - 1, by omega⟩
  have e2 := hK2 k (by omega)
  obtain ⟨eA, sA, pA⟩ := hA k (by omega)
  obtain ⟨eB, sB, pB⟩ := hB k (by omega)
  obtain ⟨eC, sC, pC⟩ := hC k (by omega)
  dsimp only at e2
  have hv : wr (d + 1) ⟨17, 0, s, [a, b, c]⟩ = (((((⟨#[105, 102, 32]⟩ : ByteArray) ++ partW (wr d) a 0) ++ (⟨#[32, 116, 104, 101, 110, 32]⟩ : ByteArray)) ++ partW (wr d) b 0) ++ (⟨#[32, 101, 108, 115, 101, 32]⟩ : ByteArray)) ++ partW (wr d) c 0 := by
   have e : findL pairsL 17 = none := by decide
   have e2 : findL prefL 17 = none := by decide
   simp only [wr, e, e2]
   rw [if_neg (by decide), if_neg (by decide), if_neg (by decide)]
   rfl
  show belfryref05_written.f (k + 1) 17 0 s [a, b, c] = some (wr (d + 1) ⟨17, 0, s, [a, b, c]⟩)
  rw [hv]
  generalize partW (wr d) a 0 = pa at *
  generalize partW (wr d) b 0 = pb at *
  generalize partW (wr d) c 0 = pc at *
  have s1 : 3 + pa.size ≤ 9223372036854775807 := by omega
  have s2 : ((⟨#[105, 102, 32]⟩ : ByteArray) ++ pa).size + 6 ≤ 9223372036854775807 := by rw [size_app]; show 3 + _ + 6 ≤ _; omega
  have s3 : (((⟨#[105, 102, 32]⟩ : ByteArray) ++ pa) ++ (⟨#[32, 116, 104, 101, 110, 32]⟩ : ByteArray)).size + pb.size ≤ 9223372036854775807 := by rw [size_app, size_app]; show 3 + _ + 6 + _ ≤ _; omega
  have s4 : ((((⟨#[105, 102, 32]⟩ : ByteArray) ++ pa) ++ (⟨#[32, 116, 104, 101, 110, 32]⟩ : ByteArray)) ++ pb).size + 6 ≤ 9223372036854775807 := by rw [size_app, size_app, size_app]; show 3 + _ + 6 + _ + 6 ≤ _; omega
  have s5 : (((((⟨#[105, 102, 32]⟩ : ByteArray) ++ pa) ++ (⟨#[32, 116, 104, 101, 110, 32]⟩ : ByteArray)) ++ pb) ++ (⟨#[32, 101, 108, 115, 101, 32]⟩ : ByteArray)).size + pc.size ≤ 9223372036854775807 := by rw [size_app, size_app, size_app, size_app]; show 3 + _ + 6 + _ + 6 + _ ≤ _; omega
  simp only [belfryref05_written.f, e2, Option.bind_some, show rd_T25 [a, b, c] 0 = a from rfl, show rd_T25 [a, b, c] 1 = b from rfl, show rd_T25 [a, b, c] 2 = c from rfl, eA, eB, eC, s1, s2, s3, s4, s5, if_true]
  rfl
end Go.Proofs.YtbdciibbgiphcaaDoor.V

/- The reference's Text: what it computes. -/
namespace Go.Proofs.YtbdciibbgiphcaaDoor.V
set_option linter.unusedVariables false
set_option linter.unusedSimpArgs false
set_option linter.unusedSectionVars false
open Go.RowKit Go.Proofs.YtbdciibbgiphcaaDoorW.PrintWords Go.Proofs.YtbdciibbgiphcaaDoorW.PrintLast Go.Proofs.YtbdciibbgiphcaaDoorW.PrintMore
theorem Text_ev (x : S25) (hw : WfE x) : Ev (fun k => belfryref05_Text.f k x.f0 x.f1 x.f2 x.f3) (textE nameOk x) := by
 refine Ev.congr (f := fun k => (belfryref05_Check.f k x.f0 x.f1 x.f2 x.f3).bind fun t253 => (if t253 = true then ((belfryref05_written.f k x.f0 x.f1 x.f2 x.f3).bind fun t254 => (some (t254, 0))) else (some ((⟨#[]⟩ : ByteArray), 1)))) (fun k => rfl) ?_
 refine Ev.bind (f := fun k t253 => (if t253 = true then ((belfryref05_written.f k x.f0 x.f1 x.f2 x.f3).bind fun t254 => (some (t254, (0 : Int)))) else (some ((⟨#[]⟩ : ByteArray), 1)))) (Check_ev x) ?_
 unfold textE
 cases hb : okE nameOk x with
 | true =>
  obtain ⟨l', hok⟩ := ok_okE hb
  refine Ev.congr (f := fun k => (belfryref05_written.f k x.f0 x.f1 x.f2 x.f3).bind fun t254 => (some (t254, (0 : Int)))) (fun k => by simp) ?_
  exact Ev.bind (f := fun k t254 => (some (t254, (0 : Int)))) (written_ev hok (by omega) hw) (by simpa using Ev.now _)
 | false => exact Ev.congr (fun k => by simp) (Ev.now _)
end Go.Proofs.YtbdciibbgiphcaaDoor.V
