/- The document's own Refs: what is gathered is what exprs.Refs' inner function gathers (go1): walk. -/
import Derived.Test.YtbdciibbgiphcaaGreatDoorZrB
import Derived.Deep.RegionHeld3
import Derived.Deep.AppendLies
import Derived.LoopTactic
import Derived.Lib.Hide
namespace Go.Proofs.YtbdciibbgiphcaaGreatDoor.V
set_option linter.unusedVariables false
set_option linter.unusedSimpArgs false
set_option linter.unusedSectionVars false
open Go.RowKit Go.Proofs.YtbdciibbgiphcaaGreatDoorW.PrintWords Go.Proofs.YtbdciibbgiphcaaGreatDoorW.PrintLast Go.Proofs.YtbdciibbgiphcaaGreatDoorW.PrintMore
open Go.Proofs.YtbdciibbgiphcaaGreatDoor.B (own_kept grown_far)
theorem grown_hat {a b c : World} {r r2 : Option Nat} (h1 : a.grownBy b r) (h2 : b.grownBy c r2) (h : r2 = r ∨ ∃ q, r2 = some q ∧ a.heap.size ≤ q) : a.grownBy c r := by
  rcases h with rfl | ⟨q, rfl, hq⟩
  · exact h1.trans h2
  · exact grown_far h1 h2 hq
def GaIs (x : S25) : Prop := WfE x → ∀ (m : Nat), Nodes x m → ∀ (A : Option Addr) (c : Nat) (ago : Int) (l : List Rf) (w0 W : World) (tv : Value), -9223372036854775808 ≤ ago → ago ≤ 9223372036854775807 → l.length + m ≤ 2000000 → x.f3.length ≤ c → Kd.C k25 w0 A x.f3.length x.f3 → W.ownsRow w0.heap.size 60 2 tv l.length (rfCells l) → Below w0.heap.size w0 W →
  Calls Tryz.prog 16 #[tv, .agg #[.int .u8 x.f0, .int .i64 x.f1, .string x.f2, .slice A x.f3.length c], .int .i64 ago] W fun e w' => ∃ v, e = .returned v ∧ w'.ownsRow w0.heap.size 60 2 v (go1 x ago l).length (rfCells (go1 x ago l)) ∧ (go1 x ago l).length ≤ l.length + m ∧ W.grownBy w' tv.ownBlock ∧ (v.ownBlock = tv.ownBlock ∨ ∃ b, v.ownBlock = some b ∧ W.heap.size ≤ b)
attribute [local go_sem high] eqA60
set_option maxHeartbeats 16000000 in
set_option maxRecDepth 100000 in
theorem gather_walk (x : S25) (hx : ∀ y ∈ x.f3, GaIs y) : GaIs x := by
  intro hwf m hm A c ago l w0 W tv ha0 ha1 hlm hc hC hO hB
  obtain ⟨o, n, s, xs⟩ := x
  dsimp only at hx hc hC ⊢
  have hkid := hwf.kids
  have hsz := hwf.text
  obtain ⟨ns, hns, hnl, rfl⟩ : ∃ ns : List Nat, (∀ (i : Nat) (y : S25) (m : Nat), xs[i]? = some y → ns[i]? = some m → Nodes y m) ∧ ns.length = xs.length ∧ m = 1 + ns.sum := by
    cases hm with
    | mk o n s xs ns h1 h2 => exact ⟨ns, h2, h1, rfl⟩
  have hlen : xs.length ≤ 2000000 := by
    have := len_le_sum ns (fun m hm => by
      obtain ⟨j, hj, rfl⟩ := List.getElem_of_mem hm
      exact (hns j xs[j] ns[j] (List.getElem?_eq_getElem (by omega)) (List.getElem?_eq_getElem hj)).pos)
    omega
  obtain ⟨N, hN⟩ : ∃ N, N = xs.length := ⟨_, rfl⟩
  obtain ⟨T, cc, hv, _, _⟩ := refs_read hO
  rw [List.length_map] at hv
  subst hv
  rw [← hN] at hc hlen ⊢
  have HKID := Lib.hid hkid; have HC := Lib.hid hC; have HX := Lib.hid hx; have HNS := Lib.hid hns; have HNL := Lib.hid hnl; have HN := Lib.hid hN
  have HB0 := Lib.hid (hB.alloc hB.size (.cells #[.int .u8 o, .int .i64 n, .string s, .slice A N c] 25))
  have HO0 := Lib.hid (own_kept hO (w' := W.alloc (.cells #[.int .u8 o, .int .i64 n, .string s, .slice A N c] 25)) (fun k hk => Below.heap_alloc W _ k (own_lt hO k hk)))
  have HX0 := Lib.hid (heap_alloc_new W (.cells #[.int .u8 o, .int .i64 n, .string s, .slice A N c] 25))
  have HG0 := Lib.hid (World.grownBy_alloc W (.cells #[.int .u8 o, .int .i64 n, .string s, .slice A N c] 25) (Value.slice T l.length cc).ownBlock)
  have HLT := Lib.hid (fun k (hk : (Value.slice T l.length cc).ownBlock = some k) => own_lt hO k hk)
  have HBW := Lib.hid hB.size
  have HBI := Lib.hid hB
  have HOB := Lib.hid (fun k (hk : (Value.slice T l.length cc).ownBlock = some k) => own_base hO k hk)
  clear hC hx hm hns hnl hN hkid hwf hO hB
  by_cases h3 : o = 3
  · subst h3
    have HE : Hid (go1 ⟨3, n, s, xs⟩ ago l = goL xs ago (addR (s, ago) l)) := Lib.hid (by simp only [go1]; rfl)
    have hR1 : ((W.alloc (.cells #[.int .u8 3, .int .i64 n, .string s, .slice A N c] 25)).alloc (.cells #[.string s, .int .i64 ago] 60)).heap[W.heap.size + 1]? = some (.cells #[.string s, .int .i64 ago] 60 (0, 0)) := by
      have := heap_alloc_new (W.alloc (.cells #[.int .u8 3, .int .i64 n, .string s, .slice A N c] 25)) (.cells #[.string s, .int .i64 ago] 60)
      rwa [show (W.alloc (.cells #[.int .u8 3, .int .i64 n, .string s, .slice A N c] 25)).heap.size = W.heap.size + 1 by simp] at this
    have hO1 := own_kept HO0.out (w' := ((W.alloc (.cells #[.int .u8 3, .int .i64 n, .string s, .slice A N c] 25)).alloc (.cells #[.string s, .int .i64 ago] 60))) (fun k hk => Below.heap_alloc _ _ k (own_lt HO0.out k hk))
    have hX1 := blk_alloc HX0.out (.cells #[.string s, .int .i64 ago] 60)
    have hG1 := HG0.out.trans (World.grownBy_alloc (W.alloc (.cells #[.int .u8 3, .int .i64 n, .string s, .slice A N c] 25)) (.cells #[.string s, .int .i64 ago] 60) (Value.slice T l.length cc).ownBlock)
    have hS1 : ((W.alloc (.cells #[.int .u8 3, .int .i64 n, .string s, .slice A N c] 25)).alloc (.cells #[.string s, .int .i64 ago] 60)).heap.size = W.heap.size + 2 := by simp
    have hB1 := HB0.out.alloc HB0.out.size (.cells #[.string s, .int .i64 ago] 60)
    obtain ⟨b0, b1, b2, b3⟩ := box_cells HX0.out
    go_enter Tryz.func16, Tryz.ntmps16
    go_wp2_with fail
    clear b0 b1 b2 b3
    generalize ((W.alloc (.cells #[.int .u8 3, .int .i64 n, .string s, .slice A N c] 25)).alloc (.cells #[.string s, .int .i64 ago] 60)) = W1 at *
    have HR1 := Lib.hid hR1; have HO1 := Lib.hid hO1; have HX1 := Lib.hid hX1; have HG1 := Lib.hid hG1; have HB1 := Lib.hid hB1
    clear hR1 hO1 hX1 hG1 hB1 HO0 HX0 HG0
    go_loopw [8, 9] (fun tv kv wq => ∃ (k : Nat), kv = .int .i64 k ∧ k ≤ l.length ∧ tv = .bool (inR (s, ago) (l.take k)) ∧ Hid (Below W1.heap.size W1 wq)) (fun _ kv _ => l.length - (intOf kv).toNat)
    case atStart => exact ⟨0, rfl, Nat.zero_le _, by simp [inR], Lib.hid (Below.refl _ _)⟩
    case round =>
      obtain ⟨k, rfl, hk, rfl, HBQ⟩ := hrel
      by_cases hkl : k < l.length
      · obtain ⟨rk, hrk⟩ : ∃ rk, l[k]? = some rk := ⟨_, List.getElem?_eq_getElem hkl⟩
        have htk : inR (s, ago) (l.take (k + 1)) = (inR (s, ago) (l.take k) || decide (rk = (s, ago))) := by
          rw [List.take_add_one, hrk]
          simp [inR]
        obtain ⟨A5, c5, hv5, _, hR5⟩ := refs_read HO1.out
        have hA5 : T = A5 := by injection hv5
        subst hA5
        obtain ⟨ad, hA, q0, q1⟩ := at_T60 (Kd.C_below hR5 HBQ.out) (k : Int) (by omega) (by rw [List.length_map]; omega)
        subst hA
        rw [rd_R hrk] at q0 q1
        simp only [Int.toNat_natCast] at q0 q1
        have hwq := kp2 HBQ.out HR1.out
        obtain ⟨m0, m1⟩ := cell_two hwq.out
        cases hth : inR (s, ago) (l.take k) with
        | true =>
          rw [hth] at htk
          have HT2 := Lib.hid (htk.trans (Bool.true_or _))
          clear hrk hR5 hv5 htk hwq hth
          go_wp2_with fail
          refine wp_region_held_drew (S := fun w' => True) (by kernel_rfl) ?_ (fun hHeld => ?_)
          · trivial
          refine wpAnyH_take (i := 0) (oi := ?oi0) (v := ?v0) ?ho0 (by kernel_rfl) (by kernel_rfl) (by kernel_rfl) ?hq0 (Or.inl ⟨?hw0, ?hy0⟩) hHeld ?rest0
          case ho0 => simp only [List.getElem?_toArray, List.getElem?_cons_succ, List.getElem?_cons_zero]; rfl
          case hq0 => exact fun _ _ _ h => h
          case hw0 => rfl
          case hy0 => (intro w hSw; (try dsimp only at hSw); go_simp; try with_reducible rfl)
          try simp only [Act.put, List.setIfInBounds_toArray, List.set_cons_zero, List.set_cons_succ]
          refine wpAnyH_take (i := 1) (oi := ?oi1) (v := ?v1) ?ho1 (by kernel_rfl) (by kernel_rfl) (by kernel_rfl) ?hq1 (Or.inl ⟨?hw1, ?hy1⟩) hHeld ?rest1
          case ho1 => simp only [List.getElem?_toArray, List.getElem?_cons_succ, List.getElem?_cons_zero]; rfl
          case hq1 => exact fun _ _ _ h => h
          case hw1 => rfl
          case hy1 => (intro w hSw; (try dsimp only at hSw); go_simp; try with_reducible rfl)
          try simp only [Act.put, List.setIfInBounds_toArray, List.set_cons_zero, List.set_cons_succ]
          refine wpAnyH_take (i := 2) (oi := ?oi2) (v := undef) ?ho2 (by kernel_rfl) (by kernel_rfl) (by kernel_rfl) ?hq2 (Or.inr ⟨?hw2, rfl⟩) hHeld ?rest2
          case ho2 => simp only [List.getElem?_toArray, List.getElem?_cons_succ, List.getElem?_cons_zero]; rfl
          case hq2 => exact fun _ _ _ h => h
          case hw2 => rfl
          try simp only [Act.put, List.setIfInBounds_toArray, List.set_cons_zero, List.set_cons_succ]
          refine wpAnyH_take (i := 3) (oi := ?oi3) (v := undef) ?ho3 (by kernel_rfl) (by kernel_rfl) (by kernel_rfl) ?hq3 (Or.inr ⟨?hw3, rfl⟩) hHeld ?rest3
          case ho3 => simp only [List.getElem?_toArray, List.getElem?_cons_succ, List.getElem?_cons_zero]; rfl
          case hq3 => exact fun _ _ _ h => h
          case hw3 => rfl
          try simp only [Act.put, List.setIfInBounds_toArray, List.set_cons_zero, List.set_cons_succ]
          refine wpAnyH_take (i := 4) (oi := ?oi4) (v := undef) ?ho4 (by kernel_rfl) (by kernel_rfl) (by kernel_rfl) ?hq4 (Or.inr ⟨?hw4, rfl⟩) hHeld ?rest4
          case ho4 => simp only [List.getElem?_toArray, List.getElem?_cons_succ, List.getElem?_cons_zero]; rfl
          case hq4 => exact fun _ _ _ h => h
          case hw4 => rfl
          try simp only [Act.put, List.setIfInBounds_toArray, List.set_cons_zero, List.set_cons_succ]
          refine wpAnyH_take (i := 5) (oi := ?oi5) (v := undef) ?ho5 (by kernel_rfl) (by kernel_rfl) (by kernel_rfl) ?hq5 (Or.inr ⟨?hw5, rfl⟩) hHeld ?rest5
          case ho5 => simp only [List.getElem?_toArray, List.getElem?_cons_succ, List.getElem?_cons_zero]; rfl
          case hq5 => exact fun _ _ _ h => h
          case hw5 => rfl
          try simp only [Act.put, List.setIfInBounds_toArray, List.set_cons_zero, List.set_cons_succ]
          refine wpAnyH_take (i := 6) (oi := ?oi6) (v := undef) ?ho6 (by kernel_rfl) (by kernel_rfl) (by kernel_rfl) ?hq6 (Or.inr ⟨?hw6, rfl⟩) hHeld ?rest6
          case ho6 => simp only [List.getElem?_toArray, List.getElem?_cons_succ, List.getElem?_cons_zero]; rfl
          case hq6 => exact fun _ _ _ h => h
          case hw6 => rfl
          try simp only [Act.put, List.setIfInBounds_toArray, List.set_cons_zero, List.set_cons_succ]
          refine wpAnyH_take (i := 7) (oi := ?oi7) (v := undef) ?ho7 (by kernel_rfl) (by kernel_rfl) (by kernel_rfl) ?hq7 (Or.inr ⟨?hw7, rfl⟩) hHeld ?rest7
          case ho7 => simp only [List.getElem?_toArray, List.getElem?_cons_succ, List.getElem?_cons_zero]; rfl
          case hq7 => exact fun _ _ _ h => h
          case hw7 => rfl
          try simp only [Act.put, List.setIfInBounds_toArray, List.set_cons_zero, List.set_cons_succ]
          refine wpAnyH_take (i := 8) (oi := ?oi8) (v := ?v8) ?ho8 (by kernel_rfl) (by kernel_rfl) (by kernel_rfl) ?hq8 (Or.inl ⟨?hw8, ?hy8⟩) hHeld ?rest8
          case ho8 => simp only [List.getElem?_toArray, List.getElem?_cons_succ, List.getElem?_cons_zero]; rfl
          case hq8 => exact fun _ _ _ h => h
          case hw8 => rfl
          case hy8 => (intro w hSw; (try dsimp only at hSw); go_simp; try with_reducible rfl)
          try simp only [Act.put, List.setIfInBounds_toArray, List.set_cons_zero, List.set_cons_succ]
          refine wpAnyH_take (i := 9) (oi := ?oi9) (v := ?v9) ?ho9 (by kernel_rfl) (by kernel_rfl) (by kernel_rfl) ?hq9 (Or.inl ⟨?hw9, ?hy9⟩) hHeld ?rest9
          case ho9 => simp only [List.getElem?_toArray, List.getElem?_cons_succ, List.getElem?_cons_zero]; rfl
          case hq9 => exact fun _ _ _ h => h
          case hw9 => rfl
          case hy9 => (intro w hSw; (try dsimp only at hSw); go_simp; try with_reducible rfl)
          try simp only [Act.put, List.setIfInBounds_toArray, List.set_cons_zero, List.set_cons_succ]
          refine wpAnyH_done (by kernel_rfl) ?_ _
          go_wp2_with fail
          exact ⟨⟨k + 1, by go_num, by omega, by rw [HT2.out], Lib.hid HBQ.out.drew⟩, by simp [intOf]; omega⟩
        | false =>
          rw [hth] at htk
          have HT2 := Lib.hid (htk.trans ((Bool.false_or _).trans (dec_rf _ _)))
          clear hrk hR5 hv5 htk hwq hth
          go_wp2_with fail
          go_region_held3 (fun w' => w'.cell? ⟨W.heap.size + 1, 0, none⟩ = some (.string s) ∧ w'.cell? ⟨W.heap.size + 1, 1, none⟩ = some (.int .i64 ago) ∧ w'.cell? (ad.add (k * 2)) = some (.string rk.1) ∧ w'.cell? ⟨(ad.add (k * 2)).block, (ad.add (k * 2)).off + 1, none⟩ = some (.int .i64 rk.2)) (first | (exact ⟨m0, m1, q0, q1⟩) | go_keep) (fail)
          go_wp2_with fail
          exact ⟨⟨k + 1, by go_num, by omega, by rw [HT2.out], Lib.hid HBQ.out.drew⟩, by simp [intOf]; omega⟩
      · obtain rfl : k = l.length := by omega
        rw [List.take_length]
        have HWQ := kp2 HBQ.out HR1.out
        obtain ⟨m0, m1⟩ := cell_two HWQ.out
        have HX2 := kp2 HBQ.out HX1.out
        obtain ⟨b0, b1, b2, b3⟩ := box_cells HX2.out
        have HO2 := Lib.hid (own_kept HO1.out (fun k hk => HBQ.out.block k (own_lt HO1.out k hk)))
        have HG2 := Lib.hid (HG1.out.trans (grown_of_below HBQ.out (Value.slice T l.length cc).ownBlock))
        have HS2 := Lib.hid (show W.heap.size + 2 ≤ wr.heap.size by rw [← hS1]; exact HBQ.out.size)
        clear HO1 HBQ HR1 HX1 HG1 HB1
        cases hth : inR (s, ago) l with
        | true =>
          have HE2 : Hid (go1 ⟨3, n, s, xs⟩ ago l = goL xs ago l) := Lib.hid (by rw [HE.out]; unfold addR; rw [if_pos hth])
          have HLL : Hid (l.length ≤ l.length + 1) := Lib.hid (Nat.le_succ _)
          clear hth b0 b1 b2 b3
          obtain ⟨b0, b1, b2, b3⟩ := box_cells HX2.out
          go_wp2_with fail
          go_loopw [0, 10] (fun tv iv wr => ∃ (i : Nat) (T3 : Option Addr) (c3 : Nat), tv = .slice T3 (goL (xs.take i) ago l).length c3 ∧ iv = .int .i64 i ∧ i ≤ N ∧ Hid (wr.ownsRow w0.heap.size 60 2 (.slice T3 (goL (xs.take i) ago l).length c3) (goL (xs.take i) ago l).length (rfCells (goL (xs.take i) ago l))) ∧ Hid ((goL (xs.take i) ago l).length ≤ l.length + (ns.take i).sum) ∧ Hid (W.grownBy wr (Value.slice T l.length cc).ownBlock) ∧ Hid (wr.heap[W.heap.size]? = some (.cells #[.int .u8 3, .int .i64 n, .string s, .slice A N c] 25 (0, 0))) ∧ Hid ((Value.slice T3 (goL (xs.take i) ago l).length c3).ownBlock = (Value.slice T l.length cc).ownBlock ∨ ∃ b, (Value.slice T3 (goL (xs.take i) ago l).length c3).ownBlock = some b ∧ W.heap.size < b)) (fun _ iv _ => N - (intOf iv).toNat)
          case atStart => exact ⟨0, T, cc, rfl, rfl, Nat.zero_le _, HO2, Lib.hid (Nat.le_add_right _ _), HG2, HX2, Lib.hid (.inl rfl)⟩
          case round =>
            clear HO2 HG2 HX2 b0 b1 b2 b3
            obtain ⟨i, T3, c3, rfl, rfl, hi, HOL, HLN, HGL, HXL, HATL⟩ := hrel
            have HBL := Lib.hid (HB0.out.size |> fun _ => (Below.grown HBI.out HGL.out HBW.out (fun k hk => HOB.out k hk)))
            obtain ⟨b0, b1, b2, b3⟩ := box_cells HXL.out
            by_cases hlt : i < N
            · have hix : i < xs.length := by rw [← HN.out]; exact hlt
              obtain ⟨ad, A3, d3, hA, p0, p1, p2, p3, hl3, hC3⟩ := at_T25 HC.out (i : Int) (by omega) (by have := HN.out; omega)
              subst hA
              rw [rdT25 xs i hix] at p0 p1 p2 p3 hl3 hC3
              simp only [Int.toNat_natCast] at p0 p1 p2 p3
              have q0 := keep_cell HBL.out (Nat.le_refl _) p0
              have q1 := keep_cell HBL.out (Nat.le_refl _) p1
              have q2 := keep_cell HBL.out (Nat.le_refl _) p2
              have q3 := keep_cell HBL.out (Nat.le_refl _) p3
              have hix2 : i < ns.length := by rw [HNL.out]; exact hix
              have hnod : Nodes xs[i] ns[i] := HNS.out i _ _ (List.getElem?_eq_getElem hix) (List.getElem?_eq_getElem hix2)
              have hst := sum_take hix2
              have hsl := sum_take_le ns (i + 1)
              have htk := goL_take hix ago l
              have HY := Lib.hid (HX.out xs[i] (List.getElem_mem hix) (HKID.out _ (List.getElem_mem hix)) ns[i] hnod)
              have HTK := Lib.hid htk
              clear p0 p1 p2 p3 htk hnod
              generalize xs[i] = y at *
              generalize ns[i] = my at *
              obtain ⟨L3, hL3⟩ : ∃ L3, L3 = goL (xs.take i) ago l := ⟨_, rfl⟩
              rw [← hL3] at HOL HLN HTK HATL
              rw [← hL3]
              have hHLN := HLN.out
              have hll := HLL.out
              have HY2 := Lib.hid (HY.out A3 d3 ago L3 w0 wr _ ha0 ha1 (by omega) hl3 hC3 HOL.out HBL.out)
              have hxlt := (Array.getElem?_eq_some_iff.1 HXL.out).1
              clear HY hl3 hC3 hL3 HLN hll
              go_wp2_with fail
              refine HY2.out.mono ?_
              rintro e w2 ⟨v, rfl, hO2, hl2, hg2, hat2⟩
              obtain ⟨T4, c4, hv4, _, _⟩ := refs_read hO2
              rw [List.length_map] at hv4
              subst hv4
              have hatr : (Value.slice T3 L3.length c3).ownBlock = (Value.slice T l.length cc).ownBlock ∨ ∃ q, (Value.slice T3 L3.length c3).ownBlock = some q ∧ W.heap.size ≤ q := by
                rcases HATL.out with h | ⟨b, h, hb⟩
                · exact .inl h
                · exact .inr ⟨b, h, Nat.le_of_lt hb⟩
              have HG2 := Lib.hid (grown_hat HGL.out hg2 hatr)
              have HX2 := Lib.hid ((hg2.block W.heap.size hxlt (by
                rcases HATL.out with h | ⟨b, h, hb⟩
                · rw [h]; intro e; exact Nat.lt_irrefl _ (HLT.out _ e.symm)
                · rw [h]; intro e; injection e with e; omega)).trans HXL.out)
              have HAT2 : Hid ((Value.slice T4 (go1 y ago L3).length c4).ownBlock = (Value.slice T l.length cc).ownBlock ∨ ∃ b, (Value.slice T4 (go1 y ago L3).length c4).ownBlock = some b ∧ W.heap.size < b) := Lib.hid (by
                rcases hat2 with h | ⟨b, h, hb⟩
                · rw [h]; exact HATL.out
                · exact .inr ⟨b, h, by omega⟩)
              have HO2 := Lib.hid hO2
              clear hO2 hg2 hat2 hatr HY2 HOL HGL HXL HATL HBL b0 b1 b2 b3 q0 q1 q2 q3
              go_wp2_with fail
              exact ⟨⟨i + 1, T4, c4, by rw [HTK.out], by go_num, by omega, Lib.hid (by rw [HTK.out]; exact HO2.out), Lib.hid (by rw [HTK.out]; omega), HG2, HX2, by rw [HTK.out]; exact HAT2⟩, by simp [intOf]; omega⟩
            · obtain rfl : i = N := by omega
              have htk : xs.take i = xs := List.take_of_length_le (by have := HN.out; omega)
              have hsl := sum_take_le ns i
              rw [htk] at HOL HLN HATL
              rw [htk]
              have hHLN := HLN.out
              have hll := HLL.out
              go_wp2_with fail
              go_ret
              refine ⟨_, rfl, by rw [HE2.out]; exact HOL.out, by rw [HE2.out]; omega, HGL.out, ?_⟩
              rcases HATL.out with h | ⟨b, h, hb⟩
              · exact .inl h
              · exact .inr ⟨b, h, Nat.le_of_lt hb⟩
        | false =>
          have HE2 : Hid (go1 ⟨3, n, s, xs⟩ ago l = goL xs ago (l ++ [(s, ago)])) := Lib.hid (by rw [HE.out]; unfold addR; rw [if_neg (by rw [hth]; simp)])
          have HLL : Hid ((l ++ [(s, ago)]).length ≤ l.length + 1) := Lib.hid (by simp)
          clear hth
          obtain ⟨i5, hi5, hz0, hz1, hz2⟩ := info_parts info60
          have HOA := Lib.hid (own_kept HO2.out (w' := wr.alloc (.cells #[.string s, .int .i64 ago] 60)) (fun k hk => Below.heap_alloc wr _ k (own_lt HO2.out k hk)))
          have hsz2 : w0.heap.size ≤ wr.heap.size := by have := HS2.out; have := HBW.out; omega
          go_wp2_with (at_builtin; refine wpList_append_lies _ rfl _ _ 28 rfl w0.heap.size 60 i5 (.agg #[(.string ⟨#[]⟩), (.int .i64 0)]) 2 24 Tryz.underlying28 hi5 hz0 hz1 hz2 rfl (by decide) (.slice T l.length cc) l.length (rfCells l) rfl HOA.out ⟨wr.heap.size, 0, none⟩ 1 _ [.string s, .int .i64 ago] rfl rfl (World.news_of_block (heap_alloc_new wr _)) ?one (by decide) (by unfold maxLen; omega) (by omega) (by simp; omega) (wr.heap.size + 1) (by simp) ?_)
          case one =>
            intro u hu
            simp only [List.mem_cons, List.not_mem_nil, or_false] at hu
            rcases hu with rfl | rfl <;> rfl
          intro g cap w9 hown hgr hat hlt9
          have hgW := (World.grownBy_alloc wr (.cells #[.string s, .int .i64 ago] 60) (Value.slice T l.length cc).ownBlock).trans hgr
          have HG3 := Lib.hid (HG2.out.trans hgW)
          have HX3 := Lib.hid ((hgW.block W.heap.size (by have := HS2.out; omega) (fun e => Nat.lt_irrefl _ (HLT.out _ e.symm))).trans HX2.out)
          have hown2 : w9.ownsRow w0.heap.size 60 2 (.slice (some ⟨g, 0, none⟩) (l ++ [(s, ago)]).length cap) (l ++ [(s, ago)]).length (rfCells (l ++ [(s, ago)])) := by
            rw [List.length_append, rfCells_snoc]; exact hown
          have HO3 := Lib.hid hown2
          have HAT3 : Hid ((Value.slice (some ⟨g, 0, none⟩) (l ++ [(s, ago)]).length cap).ownBlock = (Value.slice T l.length cc).ownBlock ∨ ∃ b, (Value.slice (some ⟨g, 0, none⟩) (l ++ [(s, ago)]).length cap).ownBlock = some b ∧ W.heap.size < b) := Lib.hid (by
            rcases hat with h | h
            · left; rw [h]; rfl
            · right; exact ⟨g, rfl, by have := HS2.out; omega⟩)
          have hlen2 : (l ++ [(s, ago)]).length = l.length + 1 := by simp
          have HLE := Lib.hid hlen2
          clear hown hown2 hgr hgW hat hlt9 HO2 HG2 HX2 HOA m0 m1 b0 b1 b2 b3 hi5 hz0 hz1 hz2
          obtain ⟨L2, hL2⟩ : ∃ L2, L2 = l ++ [(s, ago)] := ⟨_, rfl⟩
          rw [show l.length + 1 = L2.length by rw [hL2]; exact hlen2.symm]
          rw [← hL2] at HO3 HAT3 HE2 HLL
          clear hlen2 HLE hL2
          obtain ⟨b0, b1, b2, b3⟩ := box_cells HX3.out
          go_wp2_with fail
          go_loopw [0, 10] (fun tv iv wr => ∃ (i : Nat) (T3 : Option Addr) (c3 : Nat), tv = .slice T3 (goL (xs.take i) ago L2).length c3 ∧ iv = .int .i64 i ∧ i ≤ N ∧ Hid (wr.ownsRow w0.heap.size 60 2 (.slice T3 (goL (xs.take i) ago L2).length c3) (goL (xs.take i) ago L2).length (rfCells (goL (xs.take i) ago L2))) ∧ Hid ((goL (xs.take i) ago L2).length ≤ L2.length + (ns.take i).sum) ∧ Hid (W.grownBy wr (Value.slice T l.length cc).ownBlock) ∧ Hid (wr.heap[W.heap.size]? = some (.cells #[.int .u8 3, .int .i64 n, .string s, .slice A N c] 25 (0, 0))) ∧ Hid ((Value.slice T3 (goL (xs.take i) ago L2).length c3).ownBlock = (Value.slice T l.length cc).ownBlock ∨ ∃ b, (Value.slice T3 (goL (xs.take i) ago L2).length c3).ownBlock = some b ∧ W.heap.size < b)) (fun _ iv _ => N - (intOf iv).toNat)
          case atStart => exact ⟨0, (some ⟨g, 0, none⟩), cap, rfl, rfl, Nat.zero_le _, HO3, Lib.hid (Nat.le_add_right _ _), HG3, HX3, HAT3⟩
          case round =>
            clear HO3 HG3 HX3 HAT3 b0 b1 b2 b3
            obtain ⟨i, T3, c3, rfl, rfl, hi, HOL, HLN, HGL, HXL, HATL⟩ := hrel
            have HBL := Lib.hid (HB0.out.size |> fun _ => (Below.grown HBI.out HGL.out HBW.out (fun k hk => HOB.out k hk)))
            obtain ⟨b0, b1, b2, b3⟩ := box_cells HXL.out
            by_cases hlt : i < N
            · have hix : i < xs.length := by rw [← HN.out]; exact hlt
              obtain ⟨ad, A3, d3, hA, p0, p1, p2, p3, hl3, hC3⟩ := at_T25 HC.out (i : Int) (by omega) (by have := HN.out; omega)
              subst hA
              rw [rdT25 xs i hix] at p0 p1 p2 p3 hl3 hC3
              simp only [Int.toNat_natCast] at p0 p1 p2 p3
              have q0 := keep_cell HBL.out (Nat.le_refl _) p0
              have q1 := keep_cell HBL.out (Nat.le_refl _) p1
              have q2 := keep_cell HBL.out (Nat.le_refl _) p2
              have q3 := keep_cell HBL.out (Nat.le_refl _) p3
              have hix2 : i < ns.length := by rw [HNL.out]; exact hix
              have hnod : Nodes xs[i] ns[i] := HNS.out i _ _ (List.getElem?_eq_getElem hix) (List.getElem?_eq_getElem hix2)
              have hst := sum_take hix2
              have hsl := sum_take_le ns (i + 1)
              have htk := goL_take hix ago L2
              have HY := Lib.hid (HX.out xs[i] (List.getElem_mem hix) (HKID.out _ (List.getElem_mem hix)) ns[i] hnod)
              have HTK := Lib.hid htk
              clear p0 p1 p2 p3 htk hnod
              generalize xs[i] = y at *
              generalize ns[i] = my at *
              obtain ⟨L3, hL3⟩ : ∃ L3, L3 = goL (xs.take i) ago L2 := ⟨_, rfl⟩
              rw [← hL3] at HOL HLN HTK HATL
              rw [← hL3]
              have hHLN := HLN.out
              have hll := HLL.out
              have HY2 := Lib.hid (HY.out A3 d3 ago L3 w0 wr _ ha0 ha1 (by omega) hl3 hC3 HOL.out HBL.out)
              have hxlt := (Array.getElem?_eq_some_iff.1 HXL.out).1
              clear HY hl3 hC3 hL3 HLN hll
              go_wp2_with fail
              refine HY2.out.mono ?_
              rintro e w2 ⟨v, rfl, hO2, hl2, hg2, hat2⟩
              obtain ⟨T4, c4, hv4, _, _⟩ := refs_read hO2
              rw [List.length_map] at hv4
              subst hv4
              have hatr : (Value.slice T3 L3.length c3).ownBlock = (Value.slice T l.length cc).ownBlock ∨ ∃ q, (Value.slice T3 L3.length c3).ownBlock = some q ∧ W.heap.size ≤ q := by
                rcases HATL.out with h | ⟨b, h, hb⟩
                · exact .inl h
                · exact .inr ⟨b, h, Nat.le_of_lt hb⟩
              have HG2 := Lib.hid (grown_hat HGL.out hg2 hatr)
              have HX2 := Lib.hid ((hg2.block W.heap.size hxlt (by
                rcases HATL.out with h | ⟨b, h, hb⟩
                · rw [h]; intro e; exact Nat.lt_irrefl _ (HLT.out _ e.symm)
                · rw [h]; intro e; injection e with e; omega)).trans HXL.out)
              have HAT2 : Hid ((Value.slice T4 (go1 y ago L3).length c4).ownBlock = (Value.slice T l.length cc).ownBlock ∨ ∃ b, (Value.slice T4 (go1 y ago L3).length c4).ownBlock = some b ∧ W.heap.size < b) := Lib.hid (by
                rcases hat2 with h | ⟨b, h, hb⟩
                · rw [h]; exact HATL.out
                · exact .inr ⟨b, h, by omega⟩)
              have HO2 := Lib.hid hO2
              clear hO2 hg2 hat2 hatr HY2 HOL HGL HXL HATL HBL b0 b1 b2 b3 q0 q1 q2 q3
              go_wp2_with fail
              exact ⟨⟨i + 1, T4, c4, by rw [HTK.out], by go_num, by omega, Lib.hid (by rw [HTK.out]; exact HO2.out), Lib.hid (by rw [HTK.out]; omega), HG2, HX2, by rw [HTK.out]; exact HAT2⟩, by simp [intOf]; omega⟩
            · obtain rfl : i = N := by omega
              have htk : xs.take i = xs := List.take_of_length_le (by have := HN.out; omega)
              have hsl := sum_take_le ns i
              rw [htk] at HOL HLN HATL
              rw [htk]
              have hHLN := HLN.out
              have hll := HLL.out
              go_wp2_with fail
              go_ret
              refine ⟨_, rfl, by rw [HE2.out]; exact HOL.out, by rw [HE2.out]; omega, HGL.out, ?_⟩
              rcases HATL.out with h | ⟨b, h, hb⟩
              · exact .inl h
              · exact .inr ⟨b, h, Nat.le_of_lt hb⟩
  · by_cases h19 : o = 19
    · subst h19
      have HE : Hid (go1 ⟨19, n, s, xs⟩ ago l = goL xs (wrap64 (ago + 1)) l) := Lib.hid (by simp only [go1]; rfl)
      have hw0 : -9223372036854775808 ≤ wrap64 (ago + 1) := by unfold wrap64; omega
      have hw1 : wrap64 (ago + 1) ≤ 9223372036854775807 := by unfold wrap64; omega
      have HLL : Hid (l.length ≤ l.length + 1) := Lib.hid (Nat.le_succ _)
      go_enter Tryz.func16, Tryz.ntmps16
      obtain ⟨b0, b1, b2, b3⟩ := box_cells HX0.out
      go_wp2_with fail
      go_loopw [0, 10] (fun tv iv wr => ∃ (i : Nat) (T3 : Option Addr) (c3 : Nat), tv = .slice T3 (goL (xs.take i) (wrap64 (ago + 1)) l).length c3 ∧ iv = .int .i64 i ∧ i ≤ N ∧ Hid (wr.ownsRow w0.heap.size 60 2 (.slice T3 (goL (xs.take i) (wrap64 (ago + 1)) l).length c3) (goL (xs.take i) (wrap64 (ago + 1)) l).length (rfCells (goL (xs.take i) (wrap64 (ago + 1)) l))) ∧ Hid ((goL (xs.take i) (wrap64 (ago + 1)) l).length ≤ l.length + (ns.take i).sum) ∧ Hid (W.grownBy wr (Value.slice T l.length cc).ownBlock) ∧ Hid (wr.heap[W.heap.size]? = some (.cells #[.int .u8 19, .int .i64 n, .string s, .slice A N c] 25 (0, 0))) ∧ Hid ((Value.slice T3 (goL (xs.take i) (wrap64 (ago + 1)) l).length c3).ownBlock = (Value.slice T l.length cc).ownBlock ∨ ∃ b, (Value.slice T3 (goL (xs.take i) (wrap64 (ago + 1)) l).length c3).ownBlock = some b ∧ W.heap.size < b)) (fun _ iv _ => N - (intOf iv).toNat)
      case atStart => exact ⟨0, T, cc, rfl, rfl, Nat.zero_le _, HO0, Lib.hid (Nat.le_add_right _ _), HG0, HX0, Lib.hid (.inl rfl)⟩
      case round =>
        clear HO0 HG0 HX0 b0 b1 b2 b3
        obtain ⟨i, T3, c3, rfl, rfl, hi, HOL, HLN, HGL, HXL, HATL⟩ := hrel
        have HBL := Lib.hid (HB0.out.size |> fun _ => (Below.grown HBI.out HGL.out HBW.out (fun k hk => HOB.out k hk)))
        obtain ⟨b0, b1, b2, b3⟩ := box_cells HXL.out
        by_cases hlt : i < N
        · have hix : i < xs.length := by rw [← HN.out]; exact hlt
          obtain ⟨ad, A3, d3, hA, p0, p1, p2, p3, hl3, hC3⟩ := at_T25 HC.out (i : Int) (by omega) (by have := HN.out; omega)
          subst hA
          rw [rdT25 xs i hix] at p0 p1 p2 p3 hl3 hC3
          simp only [Int.toNat_natCast] at p0 p1 p2 p3
          have q0 := keep_cell HBL.out (Nat.le_refl _) p0
          have q1 := keep_cell HBL.out (Nat.le_refl _) p1
          have q2 := keep_cell HBL.out (Nat.le_refl _) p2
          have q3 := keep_cell HBL.out (Nat.le_refl _) p3
          have hix2 : i < ns.length := by rw [HNL.out]; exact hix
          have hnod : Nodes xs[i] ns[i] := HNS.out i _ _ (List.getElem?_eq_getElem hix) (List.getElem?_eq_getElem hix2)
          have hst := sum_take hix2
          have hsl := sum_take_le ns (i + 1)
          have htk := goL_take hix (wrap64 (ago + 1)) l
          have HY := Lib.hid (HX.out xs[i] (List.getElem_mem hix) (HKID.out _ (List.getElem_mem hix)) ns[i] hnod)
          have HTK := Lib.hid htk
          clear p0 p1 p2 p3 htk hnod
          generalize xs[i] = y at *
          generalize ns[i] = my at *
          obtain ⟨L3, hL3⟩ : ∃ L3, L3 = goL (xs.take i) (wrap64 (ago + 1)) l := ⟨_, rfl⟩
          rw [← hL3] at HOL HLN HTK HATL
          rw [← hL3]
          have hHLN := HLN.out
          have hll := HLL.out
          have HY2 := Lib.hid (HY.out A3 d3 (wrap64 (ago + 1)) L3 w0 wr _ hw0 hw1 (by omega) hl3 hC3 HOL.out HBL.out)
          have hxlt := (Array.getElem?_eq_some_iff.1 HXL.out).1
          clear HY hl3 hC3 hL3 HLN hll
          go_wp2_with fail
          refine HY2.out.mono ?_
          rintro e w2 ⟨v, rfl, hO2, hl2, hg2, hat2⟩
          obtain ⟨T4, c4, hv4, _, _⟩ := refs_read hO2
          rw [List.length_map] at hv4
          subst hv4
          have hatr : (Value.slice T3 L3.length c3).ownBlock = (Value.slice T l.length cc).ownBlock ∨ ∃ q, (Value.slice T3 L3.length c3).ownBlock = some q ∧ W.heap.size ≤ q := by
            rcases HATL.out with h | ⟨b, h, hb⟩
            · exact .inl h
            · exact .inr ⟨b, h, Nat.le_of_lt hb⟩
          have HG2 := Lib.hid (grown_hat HGL.out hg2 hatr)
          have HX2 := Lib.hid ((hg2.block W.heap.size hxlt (by
            rcases HATL.out with h | ⟨b, h, hb⟩
            · rw [h]; intro e; exact Nat.lt_irrefl _ (HLT.out _ e.symm)
            · rw [h]; intro e; injection e with e; omega)).trans HXL.out)
          have HAT2 : Hid ((Value.slice T4 (go1 y (wrap64 (ago + 1)) L3).length c4).ownBlock = (Value.slice T l.length cc).ownBlock ∨ ∃ b, (Value.slice T4 (go1 y (wrap64 (ago + 1)) L3).length c4).ownBlock = some b ∧ W.heap.size < b) := Lib.hid (by
            rcases hat2 with h | ⟨b, h, hb⟩
            · rw [h]; exact HATL.out
            · exact .inr ⟨b, h, by omega⟩)
          have HO2 := Lib.hid hO2
          clear hO2 hg2 hat2 hatr HY2 HOL HGL HXL HATL HBL b0 b1 b2 b3 q0 q1 q2 q3
          go_wp2_with fail
          exact ⟨⟨i + 1, T4, c4, by rw [HTK.out], by go_num, by omega, Lib.hid (by rw [HTK.out]; exact HO2.out), Lib.hid (by rw [HTK.out]; omega), HG2, HX2, by rw [HTK.out]; exact HAT2⟩, by simp [intOf]; omega⟩
        · obtain rfl : i = N := by omega
          have htk : xs.take i = xs := List.take_of_length_le (by have := HN.out; omega)
          have hsl := sum_take_le ns i
          rw [htk] at HOL HLN HATL
          rw [htk]
          have hHLN := HLN.out
          have hll := HLL.out
          go_wp2_with fail
          go_ret
          refine ⟨_, rfl, by rw [HE.out]; exact HOL.out, by rw [HE.out]; omega, HGL.out, ?_⟩
          rcases HATL.out with h | ⟨b, h, hb⟩
          · exact .inl h
          · exact .inr ⟨b, h, Nat.le_of_lt hb⟩
    · have g3 : (o == 3) = false := by simpa using h3
      have g19 : (o == 19) = false := by simpa using h19
      have HE : Hid (go1 ⟨o, n, s, xs⟩ ago l = goL xs ago l) := Lib.hid (by simp only [go1]; rw [if_neg h19, if_neg h3])
      have HLL : Hid (l.length ≤ l.length + 1) := Lib.hid (Nat.le_succ _)
      go_enter Tryz.func16, Tryz.ntmps16
      obtain ⟨b0, b1, b2, b3⟩ := box_cells HX0.out
      go_wp2_with fail
      go_loopw [0, 10] (fun tv iv wr => ∃ (i : Nat) (T3 : Option Addr) (c3 : Nat), tv = .slice T3 (goL (xs.take i) ago l).length c3 ∧ iv = .int .i64 i ∧ i ≤ N ∧ Hid (wr.ownsRow w0.heap.size 60 2 (.slice T3 (goL (xs.take i) ago l).length c3) (goL (xs.take i) ago l).length (rfCells (goL (xs.take i) ago l))) ∧ Hid ((goL (xs.take i) ago l).length ≤ l.length + (ns.take i).sum) ∧ Hid (W.grownBy wr (Value.slice T l.length cc).ownBlock) ∧ Hid (wr.heap[W.heap.size]? = some (.cells #[.int .u8 o, .int .i64 n, .string s, .slice A N c] 25 (0, 0))) ∧ Hid ((Value.slice T3 (goL (xs.take i) ago l).length c3).ownBlock = (Value.slice T l.length cc).ownBlock ∨ ∃ b, (Value.slice T3 (goL (xs.take i) ago l).length c3).ownBlock = some b ∧ W.heap.size < b)) (fun _ iv _ => N - (intOf iv).toNat)
      case atStart => exact ⟨0, T, cc, rfl, rfl, Nat.zero_le _, HO0, Lib.hid (Nat.le_add_right _ _), HG0, HX0, Lib.hid (.inl rfl)⟩
      case round =>
        clear HO0 HG0 HX0 b0 b1 b2 b3
        obtain ⟨i, T3, c3, rfl, rfl, hi, HOL, HLN, HGL, HXL, HATL⟩ := hrel
        have HBL := Lib.hid (HB0.out.size |> fun _ => (Below.grown HBI.out HGL.out HBW.out (fun k hk => HOB.out k hk)))
        obtain ⟨b0, b1, b2, b3⟩ := box_cells HXL.out
        by_cases hlt : i < N
        · have hix : i < xs.length := by rw [← HN.out]; exact hlt
          obtain ⟨ad, A3, d3, hA, p0, p1, p2, p3, hl3, hC3⟩ := at_T25 HC.out (i : Int) (by omega) (by have := HN.out; omega)
          subst hA
          rw [rdT25 xs i hix] at p0 p1 p2 p3 hl3 hC3
          simp only [Int.toNat_natCast] at p0 p1 p2 p3
          have q0 := keep_cell HBL.out (Nat.le_refl _) p0
          have q1 := keep_cell HBL.out (Nat.le_refl _) p1
          have q2 := keep_cell HBL.out (Nat.le_refl _) p2
          have q3 := keep_cell HBL.out (Nat.le_refl _) p3
          have hix2 : i < ns.length := by rw [HNL.out]; exact hix
          have hnod : Nodes xs[i] ns[i] := HNS.out i _ _ (List.getElem?_eq_getElem hix) (List.getElem?_eq_getElem hix2)
          have hst := sum_take hix2
          have hsl := sum_take_le ns (i + 1)
          have htk := goL_take hix ago l
          have HY := Lib.hid (HX.out xs[i] (List.getElem_mem hix) (HKID.out _ (List.getElem_mem hix)) ns[i] hnod)
          have HTK := Lib.hid htk
          clear p0 p1 p2 p3 htk hnod
          generalize xs[i] = y at *
          generalize ns[i] = my at *
          obtain ⟨L3, hL3⟩ : ∃ L3, L3 = goL (xs.take i) ago l := ⟨_, rfl⟩
          rw [← hL3] at HOL HLN HTK HATL
          rw [← hL3]
          have hHLN := HLN.out
          have hll := HLL.out
          have HY2 := Lib.hid (HY.out A3 d3 ago L3 w0 wr _ ha0 ha1 (by omega) hl3 hC3 HOL.out HBL.out)
          have hxlt := (Array.getElem?_eq_some_iff.1 HXL.out).1
          clear HY hl3 hC3 hL3 HLN hll
          go_wp2_with fail
          refine HY2.out.mono ?_
          rintro e w2 ⟨v, rfl, hO2, hl2, hg2, hat2⟩
          obtain ⟨T4, c4, hv4, _, _⟩ := refs_read hO2
          rw [List.length_map] at hv4
          subst hv4
          have hatr : (Value.slice T3 L3.length c3).ownBlock = (Value.slice T l.length cc).ownBlock ∨ ∃ q, (Value.slice T3 L3.length c3).ownBlock = some q ∧ W.heap.size ≤ q := by
            rcases HATL.out with h | ⟨b, h, hb⟩
            · exact .inl h
            · exact .inr ⟨b, h, Nat.le_of_lt hb⟩
          have HG2 := Lib.hid (grown_hat HGL.out hg2 hatr)
          have HX2 := Lib.hid ((hg2.block W.heap.size hxlt (by
            rcases HATL.out with h | ⟨b, h, hb⟩
            · rw [h]; intro e; exact Nat.lt_irrefl _ (HLT.out _ e.symm)
            · rw [h]; intro e; injection e with e; omega)).trans HXL.out)
          have HAT2 : Hid ((Value.slice T4 (go1 y ago L3).length c4).ownBlock = (Value.slice T l.length cc).ownBlock ∨ ∃ b, (Value.slice T4 (go1 y ago L3).length c4).ownBlock = some b ∧ W.heap.size < b) := Lib.hid (by
            rcases hat2 with h | ⟨b, h, hb⟩
            · rw [h]; exact HATL.out
            · exact .inr ⟨b, h, by omega⟩)
          have HO2 := Lib.hid hO2
          clear hO2 hg2 hat2 hatr HY2 HOL HGL HXL HATL HBL b0 b1 b2 b3 q0 q1 q2 q3
          go_wp2_with fail
          exact ⟨⟨i + 1, T4, c4, by rw [HTK.out], by go_num, by omega, Lib.hid (by rw [HTK.out]; exact HO2.out), Lib.hid (by rw [HTK.out]; omega), HG2, HX2, by rw [HTK.out]; exact HAT2⟩, by simp [intOf]; omega⟩
        · obtain rfl : i = N := by omega
          have htk : xs.take i = xs := List.take_of_length_le (by have := HN.out; omega)
          have hsl := sum_take_le ns i
          rw [htk] at HOL HLN HATL
          rw [htk]
          have hHLN := HLN.out
          have hll := HLL.out
          go_wp2_with fail
          go_ret
          refine ⟨_, rfl, by rw [HE.out]; exact HOL.out, by rw [HE.out]; omega, HGL.out, ?_⟩
          rcases HATL.out with h | ⟨b, h, hb⟩
          · exact .inl h
          · exact .inr ⟨b, h, Nat.le_of_lt hb⟩
end Go.Proofs.YtbdciibbgiphcaaGreatDoor.V
