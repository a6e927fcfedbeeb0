/- Book.Lists; lists in memory of their own, as they read. -/
import Derived.Test.YtodgeciggbeolaaGreatDoorTwM
namespace Go.Proofs.YtodgeciggbeolaaGreatDoor.B
set_option linter.unusedVariables false
set_option linter.unusedSimpArgs false
set_option linter.unusedSectionVars false
open Go.RowKit Go.Proofs.YtodgeciggbeolaaGreatDoorW.PrintWords Go.Proofs.YtodgeciggbeolaaGreatDoorW.PrintLast Go.Proofs.YtodgeciggbeolaaGreatDoorW.PrintMore
open Go.Proofs.YtodgeciggbeolaaGreatDoor.S Go.Proofs.YtodgeciggbeolaaGreatDoor
open Go.Proofs.Ord hiding W
theorem TwL.C {w : World} {base cc n : Nat} {T : Option Addr} {vs : List Value} {l : List (List Int)} (h : TwL w base (.slice T n cc) vs l) : n = l.length ∧ l.length ≤ cc ∧ Kd.C (Kd.slice 3 (Kd.int .i64)) w T l.length l := by
  have hrow := h.row
  rw [h.len] at hrow
  have hR : Reps ((Kd.slice 3 (Kd.int .i64)).K w) 1 l vs := by
    refine ⟨by rw [h.len, Nat.mul_one], fun j p hp => ?_⟩
    have hj : j < l.length := (List.getElem?_eq_some_iff.1 hp).1
    have hv : vs[j]? = some (vs[j]'(by rw [h.len]; exact hj)) := List.getElem?_eq_getElem _
    have htw := h.each j _ hv
    have hat : at_ l j = p := by unfold at_; rw [List.getD_eq_getElem?_getD, hp]; rfl
    rw [hat] at htw
    obtain ⟨A, c, he, hl, hC⟩ := Kd.R_reads (Kd.R_of_own (enc := Value.int .i64) (h1 := fun _ => rfl) (e := 3) (ok := fun _ => True) htw.own (fun _ _ => trivial))
    refine ⟨A, c, ?_, hl, hC⟩
    rw [Nat.mul_one, List.drop_eq_getElem_cons (by rw [h.len]; exact hj), List.take_succ_cons, List.take_zero, he]
  obtain ⟨A, c, he, hr⟩ := own_reads_row hrow hR rfl
  injection he with h1 h2 h3
  subst h1; subst h2; subst h3
  exact ⟨rfl, own_cap hrow, hr⟩
/-- the lists, with their lengths, of the first i. -/
def prs (vs : List Value) (l : List (List Int)) (i : Nat) : List (Value × Nat) := (List.range i).map fun j => (vs.getD j undef, (at_ l j).length)
theorem prs_len (vs : List Value) (l : List (List Int)) (i : Nat) : (prs vs l i).length = i := by simp [prs]
theorem prs_succ (vs : List Value) (l : List (List Int)) (i : Nat) (x : Value) (h : vs[i]? = some x) : prs vs l (i + 1) = prs vs l i ++ [(x, (at_ l i).length)] := by
  unfold prs
  rw [List.range_succ, List.map_append, List.map_singleton, List.getD_eq_getElem?_getD, h]
  rfl
theorem prs_get (vs : List Value) (l : List (List Int)) (i j : Nat) (y : Value × Nat) (h : (prs vs l i)[j]? = some y) : j < i ∧ y = (vs.getD j undef, (at_ l j).length) := by
  unfold prs at h
  rw [List.getElem?_map] at h
  have hj : j < i := by
    rcases Nat.lt_or_ge j i with h1 | h1
    · exact h1
    · rw [List.getElem?_eq_none (by simpa using h1)] at h; cases h
  rw [List.getElem?_range hj] at h
  injection h with h
  exact ⟨hj, h.symm⟩
set_option maxHeartbeats 4000000 in
set_option maxRecDepth 100000 in
theorem lists_walk (T : Option Addr) (cc base b2 kb : Nat) (l : List (List Int)) (vs : List Value) (w : World) (hk : Kp w w base kb []) (ht : TwL w b2 (.slice T l.length cc) vs l) (hne : (Value.slice T l.length cc).ownBlock ≠ some kb) (hm : l.length ≤ 300) (hs : ∀ k, (at_ l k).length ≤ 20000) :
    Calls Tryz.prog 10 #[.pointer (some ⟨kb, 0, none⟩), .slice T l.length cc] w (fun e w' => e = .returned (.tuple #[]) ∧ Kp w w' base kb (prs vs l l.length)) := by
  have HK := Lib.hid hk; have HT := Lib.hid ht; have HN := Lib.hid hne; have HSZ := Lib.hid hs
  clear hk ht hne hs
  go_enter Tryz.func10, Tryz.ntmps10
  go_wp2_with fail
  go_loopw [4] (fun iv wr => ∃ (i : Nat), iv = .int .i64 i ∧ i ≤ l.length ∧ Hid (Kp w wr base kb (prs vs l i))) (fun iv _ => l.length - (intOf iv).toNat)
  case atStart => exact ⟨0, rfl, Nat.zero_le _, HK⟩
  case round =>
    obtain ⟨i, rfl, hi, HP⟩ := hrel
    by_cases hlt : i < l.length
    · have hlen := HT.out.len
      have hx : vs[i]? = some (vs[i]'(by omega)) := List.getElem?_eq_getElem (by omega)
      generalize vs[i]'(by omega) = x at hx
      have htw := HT.out.each i x hx
      have hpre := Pre.of_own HT.out.row
      rw [hlen] at hpre
      obtain ⟨tb, hA⟩ : ∃ tb, T = some ⟨tb, 0, none⟩ := by
        rcases hpre with ⟨_, h0⟩ | ⟨g, cap, cur, hv, _⟩
        · omega
        · injection hv with h1 h2 h3; exact ⟨g, h1⟩
      subst hA
      have htl : tb < w.heap.size := own_lt HT.out.row tb rfl
      have t0 := hpre.cell _ _ hx
      have t1 : wr.cell? ⟨tb, i * 1 + 0, none⟩ = some x := by
        have e := HP.out.fr tb htl (fun e => HN.out (by rw [e]; rfl))
        have t0' : w.cell? ⟨tb, i * 1 + 0, none⟩ = some x := by simpa using t0
        simpa [World.cell?, e] using t0'
      rw [Nat.mul_one, Nat.add_zero] at t1
      obtain ⟨gx, cx, rfl, hown⟩ := htw
      have HX := Lib.hid hx
      have hpl := prs_len vs l i
      have hsz := HSZ.out i
      clear hown hpre hx hlen t0
      go_wp2_with fail
      refine (HP.out.wrap (by omega) (some ⟨gx, 0, none⟩) (at_ l i).length cx).mono ?_
      rintro e w2 ⟨rfl, hp2⟩
      have HP2 := Lib.hid hp2
      clear hp2
      go_wp2_with fail
      exact ⟨⟨i + 1, by go_num, by omega, Lib.hid (by rw [prs_succ vs l i _ HX.out]; exact HP2.out)⟩, by simp [intOf]; omega⟩
    · obtain rfl : i = l.length := by omega
      go_wp2_with fail
      go_end0
      exact ⟨rfl, HP.out⟩
end Go.Proofs.YtodgeciggbeolaaGreatDoor.B
