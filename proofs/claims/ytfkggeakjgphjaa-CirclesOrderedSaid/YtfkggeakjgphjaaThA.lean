/- names.things: the iterator over all things of a program that have a name. -/
import Derived.Test.YtfkggeakjgphjaaCx0
import Derived.Test.YtfkggeakjgphjaaRngT
import Derived.Shelf.Abstract
import Derived.Shelf.RegionOpen
import Derived.WalkKit
import Derived.OwnWalkIn
import Derived.TacticsInMore
import Derived.LoopNIn
import Derived.LoopIn
import Derived.Lib.Hide
namespace Go.Proofs.Ytfkggeakjgphjaa.C
set_option linter.unusedVariables false
set_option linter.unusedSimpArgs false
set_option linter.unusedSectionVars false
open Go.RowKit Go.Shelf Go.Proofs.YtfkggeakjgphjaaW.PrintWords Go.Proofs.YtfkggeakjgphjaaW.PrintLast Go.Proofs.YtfkggeakjgphjaaW.PrintMore
open Go.Proofs.RngT
attribute [local go_sem] Oper.semAt_some

/-- a thing: its name, its station, its type, its place among the flows. -/
abbrev Th := ByteArray × Int × Int × Int
def encTh (x : Th) : Array Value := #[.string x.1, .agg #[.int .i64 x.2.1, .int .u8 x.2.2.1, .int .i64 x.2.2.2]]
def thI (x : S84) : Th := (x.f0, x.f2, x.f1, -1)
def thF (i : Nat) (x : S51) : Th := (x.f0, x.f2, x.f1, (i : Int))
def things (ins : List S84) (fls : List S51) : List Th := ins.map thI ++ fls.mapIdx thF
theorem things_len (ins : List S84) (fls : List S51) : (things ins fls).length = ins.length + fls.length := by simp [things]
theorem things_in (ins : List S84) (fls : List S51) (i : Nat) (h : i < ins.length) : (things ins fls).take (i + 1) = (things ins fls).take i ++ [thI ins[i]] := by
  have hl : i < (things ins fls).length := by rw [things_len]; omega
  rw [List.take_succ_eq_append_getElem hl]
  congr 2
  have : (things ins fls)[i]? = some (thI ins[i]) := by
    unfold things
    rw [List.getElem?_append_left (by simpa using h)]
    simp [h]
  rw [List.getElem?_eq_getElem hl] at this
  exact Option.some.inj this
theorem things_fl (ins : List S84) (fls : List S51) (i : Nat) (h : i < fls.length) : (things ins fls).take (ins.length + i + 1) = (things ins fls).take (ins.length + i) ++ [thF i fls[i]] := by
  have hl : ins.length + i < (things ins fls).length := by rw [things_len]; omega
  rw [List.take_succ_eq_append_getElem hl]
  congr 2
  have : (things ins fls)[ins.length + i]? = some (thF i fls[i]) := by
    unfold things
    rw [List.getElem?_append_right (by simp)]
    simp [h]
  rw [List.getElem?_eq_getElem hl] at this
  exact Option.some.inj this
theorem box4 {w : World} {k : Nat} {t : TypeId} {a b c d : Value} (h : w.heap[k]? = some (.cells #[a, b, c, d] t (0, 0))) :
    w.cell? ⟨k, 0, none⟩ = some a ∧ w.cell? ⟨k, 1, none⟩ = some b ∧ w.cell? ⟨k, 2, none⟩ = some c ∧ w.cell? ⟨k, 3, none⟩ = some d := by
  simp [World.cell?, h]
theorem rdT84 (l : List S84) (i : Nat) (h : i < l.length) : rd_T84 l (i : Int) = l[i] := by
  show l.getD i z84 = _
  rw [List.getD_eq_getElem?_getD, List.getElem?_eq_getElem h]; rfl
theorem rdT51 (l : List S51) (i : Nat) (h : i < l.length) : rd_T51 l (i : Int) = l[i] := by
  show l.getD i z51 = _
  rw [List.getD_eq_getElem?_getD, List.getElem?_eq_getElem h]; rfl
theorem pre_take {α : Type} (l : List α) (k : Nat) : l.take k <+: l := List.take_prefix k l

set_option maxHeartbeats 4000000 in
set_option maxRecDepth 100000 in
theorem things1_in (n : Nat) (hn : 1 ≤ n) (T : Nat → Prop) (l B n0 : Nat) (w0 : World) (st : Int) (ins : List S84) (fls : List S51) (outs : List ByteArray) (A1 A2 A3 : Option Addr) (c1 c2 c3 : Nat)
    (hl1 : ins.length ≤ 140737488351232) (hl2 : fls.length ≤ 140737488351232)
    (hC1 : Kd.C k84 w0 A1 ins.length ins) (hc1 : ins.length ≤ c1) (hC2 : Kd.C k51 w0 A2 fls.length fls) (hc2 : fls.length ≤ c2)
    (J Jx : List Th → World → Prop) (W : World) (hw0 : Below w0.heap.size w0 W) (hnB : n0 ≤ B) (hn0 : n0 = w0.heap.size) (hBW : B < W.heap.size) (hTn : ∀ j, T j → n0 ≤ j) (hTB : ¬ T B) (hlB : l ≠ B) (hln : n0 ≤ l)
    (hJ : Abd W.heap.size J) (hJx : Abd W.heap.size Jx)
    (hY : ∀ pre x W1, J pre W1 → pre ++ [x] <+: things ins fls → YieldAt Fence.wide (n - 1) Try.prog l (encTh x) W1 fun e W' =>
      (e = .returned (.bool true) ∧ J (pre ++ [x]) W' ∧ Fr (fun j => T j ∨ j = l) W1 W') ∨ (e = .returned (.bool false) ∧ Jx (pre ++ [x]) W'))
    (hbox : W.heap[B]? = some (.cells #[.int .i64 st, .slice A1 ins.length c1, .slice A2 fls.length c2, .slice A3 outs.length c3] 26 (0, 0))) (h0 : J [] W) :
    CallsIn Fence.wide n Try.prog 44 #[.func (.yield l) #[] #[], .pointer (some ⟨B, 0, none⟩)] W fun e W' => (∃ v, e = .returned v) ∧
      ((∃ xs, xs = things ins fls ∧ J xs W') ∨ (∃ pre, pre <+: things ins fls ∧ Jx pre W')) := by
  have HC1 := Lib.hid hC1; have HC2 := Lib.hid hC2; have HJ := Lib.hid hJ; have HY := Lib.hid hY; have HBOX := Lib.hid hbox; have HN0 := Lib.hid hn0; have HT := Lib.hid hTn; have HB0 := Lib.hid hw0
  have hTB2 : ¬ (T B ∨ B = l) := fun h => h.elim hTB (fun e => hlB e.symm)
  have HTB := Lib.hid hTB2
  obtain ⟨N1, hN1⟩ : ∃ N, N = ins.length := ⟨_, rfl⟩
  obtain ⟨N2, hN2⟩ : ∃ N, N = fls.length := ⟨_, rfl⟩
  have HN1 := Lib.hid hN1; have HN2 := Lib.hid hN2
  obtain ⟨q0, q1, q2, q3⟩ := box4 hbox
  rw [← hN1] at hl1 hc1 q1 HBOX
  rw [← hN2] at hl2 hc2 q2 HBOX
  -- what a step of the loops' own does
  have hfr : ∀ wr W3, Below n0 w0 wr → Fr (fun j => T j ∨ j = l) wr W3 → Below n0 w0 W3 := fun wr W3 h1 h2 => by
    have := h1.size
    refine below_fr h1 h2 (fun j hj => ?_) (by have := HN0.out; omega)
    rcases hj with hj | hj
    · exact HT.out j hj
    · omega
  have HFR := Lib.hid hfr
  clear hC1 hC2 hJ hY hbox hTn hTB hfr hN1 hN2 hw0 hn0 hTB2
  refine callsIn_of_wp Try.func44 rfl trivial ?_ rfl
  simp only [Try.ntmps44, List.size_toArray, List.length_cons, List.length_nil, Nat.reduceAdd, Nat.reduceSub, Array.replicate_succ, Array.replicate_zero, List.push_toArray, List.append_toArray, List.nil_append, List.cons_append]
  gi_wp2
  gi_loopw [10] (fun i wr => ∃ k : Nat, k ≤ N1 ∧ i = .int .i64 k ∧ Hid (J ((things ins fls).take k) wr) ∧ Hid (Below n0 w0 wr) ∧ Hid (W.heap.size ≤ wr.heap.size) ∧ Hid (wr.heap[B]? = some (.cells #[.int .i64 st, .slice A1 N1 c1, .slice A2 N2 c2, .slice A3 outs.length c3] 26 (0, 0)))) (fun i _ => N1 - (intOf i).toNat)
  case atStart => exact ⟨0, Nat.zero_le _, rfl, Lib.hid (by simpa using h0), Lib.hid (by have := HB0.out; rw [HN0.out]; exact this), Lib.hid (Nat.le_refl _), HBOX⟩
  case round =>
    clear q0 q1 q2 q3
    obtain ⟨k, hk, rfl, HJs, HBe, HSz, HBx⟩ := hrel
    by_cases hlt : k < N1
    · have hix : k < ins.length := by rw [← HN1.out]; exact hlt
      have hC := Kd.C_below HC1.out (by have := HBe.out; rw [HN0.out] at this; exact this)
      obtain ⟨ad, hA, p0, p1, p2⟩ := at_T84 hC (k : Int) (by omega) (by have := HN1.out; omega)
      subst hA
      rw [rdT84 ins k hix] at p0 p1 p2
      simp only [Int.toNat_natCast] at p0 p1 p2
      have htk := things_in ins fls k hix
      have hpre : (things ins fls).take k ++ [thI ins[k]] <+: things ins fls := by rw [← htk]; exact pre_take _ _
      generalize ins[k] = y at *
      obtain ⟨fn, tmps, assign, body, hy, hR⟩ := HY.out ((things ins fls).take k) (thI y) (wr.alloc (.cells #[.string y.f0, .int .u8 y.f1, .int .i64 y.f2] 84)) (HJ.out _ _ _ HJs.out (((Below.refl _ _).alloc HSz.out) _)) hpre
      dsimp only [encTh, thI] at hy
      have HR := Lib.hid hR; have HTK := Lib.hid htk
      clear hR htk hpre hC
      gi_wp2
      refine HR.out.mono ?_
      rintro e W3 (⟨rfl, hJ3, hk3⟩ | ⟨rfl, hJx3⟩)
      · have hz3 := hk3.size
        have hx3 : Hid (W3.heap[B]? = some (.cells #[.int .i64 st, .slice (some ad) N1 c1, .slice A2 N2 c2, .slice A3 outs.length c3] 26 (0, 0))) := Lib.hid ((hk3.block B (by have := HSz.out; simp; omega) HTB.out).trans ((Below.heap_alloc _ _ _ (by have := HSz.out; omega)).trans HBx.out))
        have HB3 : Hid (Below n0 w0 W3) := Lib.hid (HFR.out _ _ (HBe.out.alloc (by have := HSz.out; omega) _) hk3)
        have HJ3 := Lib.hid hJ3
        have HS3 : Hid (W.heap.size ≤ W3.heap.size) := Lib.hid (by have := HSz.out; simp at hz3; omega)
        clear hJ3 hk3 hz3
        gi_wp2
        exact ⟨⟨k + 1, by omega, by go_num, Lib.hid (by rw [HTK.out]; exact HJ3.out), HB3, HS3, hx3⟩, by simp [intOf]; omega⟩
      · have HJx3 := Lib.hid hJx3
        clear hJx3
        gi_wp2
        refine bodyPost_ret (results_none rfl _ _ _) rfl ?_
        exact ⟨⟨_, rfl⟩, .inr ⟨_, by rw [← HTK.out]; exact pre_take _ _, HJx3.out⟩⟩
    · obtain rfl : k = N1 := by omega
      obtain ⟨q0, q1, q2, q3⟩ := box4 HBx.out
      gi_wp2
      obtain ⟨wo, rfl⟩ : ∃ wo : World, wo = wr := ⟨_, rfl⟩
      gi_loopw [28] (fun i wr => ∃ j : Nat, j ≤ N2 ∧ i = .int .i64 j ∧ Hid (J ((things ins fls).take (ins.length + j)) wr) ∧ Hid (Below n0 w0 wr) ∧ Hid (W.heap.size ≤ wr.heap.size)) (fun i _ => N2 - (intOf i).toNat)
      case atStart => exact ⟨0, Nat.zero_le _, rfl, Lib.hid (by have := HJs.out; rw [HN1.out] at this; exact this), HBe, HSz⟩
      case round =>
        clear q0 q1 q2 q3 HJs HBe HSz HBx
        obtain ⟨j, hj, rfl, HJs, HBe, HSz⟩ := hrel
        by_cases hlt2 : j < N2
        · have hix : j < fls.length := by rw [← HN2.out]; exact hlt2
          have hC := Kd.C_below HC2.out (by have := HBe.out; rw [HN0.out] at this; exact this)
          obtain ⟨ad, A7, c7, hA, p0, p1, p2, p3, p4, p5, p6, p7, _, _⟩ := at_T51 hC (j : Int) (by omega) (by have := HN2.out; omega)
          subst hA
          rw [rdT51 fls j hix] at p0 p1 p2 p3 p4 p5 p6 p7
          simp only [Int.toNat_natCast] at p0 p1 p2 p3 p4 p5 p6 p7
          have htk := things_fl ins fls j hix
          have hpre : (things ins fls).take (ins.length + j) ++ [thF j fls[j]] <+: things ins fls := by rw [← htk]; exact pre_take _ _
          generalize fls[j] = y at *
          obtain ⟨fn, tmps, assign, body, hy, hR⟩ := HY.out ((things ins fls).take (ins.length + j)) (thF j y) (wr.alloc (.cells #[.string y.f0, .int .u8 y.f1, .int .i64 y.f2, .int .i64 y.f3, .int .u8 y.f4.f0, .int .i64 y.f4.f1, .string y.f4.f2, .slice A7 y.f4.f3.length c7] 51)) (HJ.out _ _ _ HJs.out (((Below.refl _ _).alloc HSz.out) _)) hpre
          dsimp only [encTh, thF] at hy
          have HR := Lib.hid hR; have HTK := Lib.hid htk
          clear hR htk hpre hC
          gi_wp2
          refine HR.out.mono ?_
          rintro e W3 (⟨rfl, hJ3, hk3⟩ | ⟨rfl, hJx3⟩)
          · have hz3 := hk3.size
            have HB3 : Hid (Below n0 w0 W3) := Lib.hid (HFR.out _ _ (HBe.out.alloc (by have := HSz.out; omega) _) hk3)
            have HJ3 := Lib.hid hJ3
            have HS3 : Hid (W.heap.size ≤ W3.heap.size) := Lib.hid (by have := HSz.out; simp at hz3; omega)
            clear hJ3 hk3 hz3
            gi_wp2
            exact ⟨⟨j + 1, by omega, by go_num, Lib.hid (by rw [← Nat.add_assoc, HTK.out]; exact HJ3.out), HB3, HS3⟩, by simp [intOf]; omega⟩
          · have HJx3 := Lib.hid hJx3
            clear hJx3
            gi_wp2
            refine bodyPost_ret (results_none rfl _ _ _) rfl ?_
            exact ⟨⟨_, rfl⟩, .inr ⟨_, by rw [← HTK.out]; exact pre_take _ _, HJx3.out⟩⟩
        · obtain rfl : j = N2 := by omega
          gi_wp2
          go_end0
          exact ⟨⟨_, rfl⟩, .inl ⟨_, rfl, by have := HJs.out; rw [HN2.out, List.take_of_length_le (by rw [things_len]; exact Nat.le_refl _)] at this; exact this⟩⟩
end Go.Proofs.Ytfkggeakjgphjaa.C
