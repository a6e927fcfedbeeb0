/- ExprsAgo: the law's walk. -/
import Derived.Test.YtbdciibbgiphcaaDoorNH
import Derived.Test.YtbdciibbgiphcaaDoorNS
import Derived.Test.YtbdciibbgiphcaaDoorAgP
import Derived.Test.YtbdciibbgiphcaaDoorOdP
import Derived.Deep.RegionHeld3
import Derived.Lib.Hide
import Derived.LoopTactic
import Derived.Deep.Cut
import Derived.Deep.AppendLies
namespace Go.Proofs.YtbdciibbgiphcaaDoor.V
set_option linter.unusedVariables false
set_option linter.unusedSimpArgs false
set_option linter.unusedSectionVars false
open Go.RowKit Go.Proofs.YtbdciibbgiphcaaDoorW.PrintWords Go.Proofs.YtbdciibbgiphcaaDoorW.PrintLast Go.Proofs.YtbdciibbgiphcaaDoorW.PrintMore
theorem lit_C {W : World} {b : Nat} (ps : List (S25 × Option Addr × Nat)) (cs : Array Value) (hcs : cs.toList = ps.flatMap tv) (hb : W.heap[b]? = some (.cells cs 25 (0, 0)))
    (hl : ∀ p ∈ ps, PR3 W p) (hn : ps.length ≤ maxLen) : Kd.C k25 W (some ⟨b, 0, none⟩) (ps.map Prod.fst).length (ps.map Prod.fst) := by
  have hlen := tv_len ps
  have hsz : cs.size = ps.length * 4 := by rw [← Array.length_toList, hcs, hlen]
  have ho : W.ownsRow 0 25 4 (.slice (some ⟨b, 0, none⟩) ps.length ps.length) ps.length (ps.flatMap tv) :=
    ⟨hlen, .inr ⟨b, ps.length, cs, rfl, Nat.zero_le _, hb, Nat.le_refl _, hn, hsz, by rw [hcs, List.take_of_length_le (by omega)]⟩⟩
  obtain ⟨A, c, hv, _, hC⟩ := row_reads ho (fun j p hp => hl p (List.mem_of_getElem? hp))
  injection hv with hA
  subst hA
  rw [List.length_map]
  exact hC
theorem cnt_one (o : Int) (x : S25) : cntE ⟨o, 0, ⟨#[]⟩, [x]⟩ = 1 + cntE x := by simp [cntE, cntL]
theorem cnt_two (o : Int) (x y : S25) : cntE ⟨o, 0, ⟨#[]⟩, [x, y]⟩ = 1 + (cntE x + cntE y) := by simp [cntE, cntL]
theorem rd_R {l : List Rf} {i : Nat} {r : Rf} (h : l[i]? = some r) : rd_T51 (l.map toR) (i : Int) = toR r := by
  unfold rd_T51
  rw [Int.toNat_natCast, List.getD_eq_getElem?_getD, List.getElem?_map, h]
  rfl
theorem cell_al {w : World} {p : Addr} {v : Value} (h : w.cell? p = some v) (o : Obj) : (w.alloc o).cell? p = some v := by
  rw [World.cell?_alloc_some _ _ _ (by rw [h]; rfl)]; exact h
theorem dec_rf (a b : Rf) : decide (a = b) = (a.1.toList == b.1.toList && (a.2 == b.2)) := by
  rw [Bool.eq_iff_iff, decide_eq_true_iff, Bool.and_eq_true, beq_iff_eq, beq_iff_eq]
  constructor
  · rintro rfl; exact ⟨rfl, rfl⟩
  · rintro ⟨h1, h2⟩
    rw [ByteArray.toList_eq, ByteArray.toList_eq] at h1
    exact Prod.ext (ByteArray.ext (Array.toList_inj.1 h1)) h2
attribute [local go_sem high] eqA51
/-- Refs, read. -/
theorem refs_any {x : S25} (hwf : WfE x) (hn : cntE x ≤ 2000000) (A : Option Addr) (c : Nat) (w : World) (hc : x.f3.length ≤ c) (hC : Kd.C k25 w A x.f3.length x.f3) :
    Calls Tryd.prog 23 #[.agg #[.int .u8 x.f0, .int .i64 x.f1, .string x.f2, .slice A x.f3.length c]] w fun e w' => ∃ B d, e = .returned (.slice B (refsP x).length d) ∧ (refsP x).length ≤ d ∧ Kd.C k51 w' B ((refsP x).map toR).length ((refsP x).map toR) ∧ Below w.heap.size w w' := by
  refine (refs_walk x hwf (cntE x) (nodes_cnt hwf) hn A c w hc hC).mono ?_
  rintro e w' ⟨v, rfl, ho, hb⟩
  obtain ⟨B, d, hv, hd, hR⟩ := refs_read ho
  rw [List.length_map] at hv hd
  exact ⟨B, d, by rw [hv]; rfl, hd, hR, hb⟩
set_option maxHeartbeats 8000000 in
set_option maxRecDepth 100000 in
theorem exprsAgo_walk (x y : S25) (hwx : WfE x) (hwy : WfE y) (hsx : SmE x) (hsy : SmE y) (hcx : cntE x + cntE y ≤ 1048576) (A B : Option Addr) (c d : Nat) (o : Int) (ho0 : 0 ≤ o) (ho1 : o ≤ 255) (w : World)
    (hc : x.f3.length ≤ c) (hd : y.f3.length ≤ d) (hC : Kd.C k25 w A x.f3.length x.f3) (hD : Kd.C k25 w B y.f3.length y.f3) (hv : VarOk w) (ht : VarT w) :
    Calls Tryd.prog 6 #[.agg #[.int .u8 x.f0, .int .i64 x.f1, .string x.f2, .slice A x.f3.length c], .agg #[.int .u8 y.f0, .int .i64 y.f1, .string y.f2, .slice B y.f3.length d], .int .u8 o] w fun e w' => e = .returned (.bool true) ∧ Below w.heap.size w w' := by
  obtain ⟨sv, hsv⟩ := exprSize_any hsx
  obtain ⟨su, hsu⟩ := exprSize_any hsy
  have HSV := Lib.hid hsv; have HSU := Lib.hid hsu
  have HC := Lib.hid hC; have HD := Lib.hid hD; have HV := Lib.hid hv; have HT := Lib.hid ht; have HWX := Lib.hid hwx; have HWY := Lib.hid hwy; have HCX := Lib.hid hcx
  have hk0 := blk_alloc (heap_alloc_new w (.cells #[.int .u8 x.f0, .int .i64 x.f1, .string x.f2, .slice A x.f3.length c] 25)) (.cells #[.int .u8 y.f0, .int .i64 y.f1, .string y.f2, .slice B y.f3.length d] 25)
  have hk1 := alloc2_new w (.cells #[.int .u8 x.f0, .int .i64 x.f1, .string x.f2, .slice A x.f3.length c] 25) (.cells #[.int .u8 y.f0, .int .i64 y.f1, .string y.f2, .slice B y.f3.length d] 25)
  have hb0 : Below w.heap.size w ((w.alloc (.cells #[.int .u8 x.f0, .int .i64 x.f1, .string x.f2, .slice A x.f3.length c] 25)).alloc (.cells #[.int .u8 y.f0, .int .i64 y.f1, .string y.f2, .slice B y.f3.length d] 25)) := ((Below.refl _ _).alloc (Nat.le_refl _) _).alloc (by simp) _
  have HB0 := Lib.hid hb0; have HX0 := Lib.hid hk0; have HY0 := Lib.hid hk1
  clear hC hD hv ht hwx hwy hsx hsy hsv hsu hk0 hk1 hb0 hcx
  go_enter Tryd.func6, Tryd.ntmps6
  go_wp2_with fail
  refine (alive_law _ (HV.out.step HB0.out) (HT.out.step HB0.out)).mono ?_
  rintro e w1 ⟨rfl, hb⟩
  have HB1 := Lib.hid (HB0.out.trans (hb.mono HB0.out.size))
  have HX1 := kp2 hb HX0.out; have HY1 := kp2 hb HY0.out
  clear hb HX0 HY0 HB0
  obtain ⟨b0, b1, b2, b3⟩ := box_cells HX1.out
  obtain ⟨c0, c1, c2, c3⟩ := box_cells HY1.out
  go_wp2_with fail
  refine (HSV.out A c _ hc (Kd.C_below HC.out HB1.out)).mono ?_
  rintro e w2 ⟨rfl, hb⟩
  have HB2 := Lib.hid (HB1.out.trans (hb.mono HB1.out.size))
  have HX2 := kp2 hb HX1.out; have HY2 := kp2 hb HY1.out
  clear hb HX1 HY1 HB1 b0 b1 b2 b3 c0 c1 c2 c3
  obtain ⟨b0, b1, b2, b3⟩ := box_cells HX2.out
  obtain ⟨c0, c1, c2, c3⟩ := box_cells HY2.out
  by_cases hgt : sv > 3000
  · have g1 : decide (sv > 3000) = true := decide_eq_true hgt
    go_wp2_with fail
    refine (alive_law _ (HV.out.step HB2.out) (HT.out.step HB2.out)).mono ?_
    rintro e w3 ⟨rfl, hb⟩
    have HB3 := Lib.hid (HB2.out.trans (hb.mono HB2.out.size))
    clear hb
    go_wp2_with fail
    go_ret
    exact ⟨rfl, HB3.out⟩
  · have g1 : decide (sv > 3000) = false := decide_eq_false hgt
    go_wp2_with fail
    refine (HSU.out B d _ hd (Kd.C_below HD.out HB2.out)).mono ?_
    rintro e w3 ⟨rfl, hb⟩
    have HB3 := Lib.hid (HB2.out.trans (hb.mono HB2.out.size))
    have HX3 := kp2 hb HX2.out; have HY3 := kp2 hb HY2.out
    clear hb HX2 HY2 HB2 b0 b1 b2 b3 c0 c1 c2 c3
    obtain ⟨b0, b1, b2, b3⟩ := box_cells HX3.out
    obtain ⟨c0, c1, c2, c3⟩ := box_cells HY3.out
    by_cases hgt2 : su > 3000
    · have g2 : decide (su > 3000) = true := decide_eq_true hgt2
      go_wp2_with fail
      refine (alive_law _ (HV.out.step HB3.out) (HT.out.step HB3.out)).mono ?_
      rintro e w4 ⟨rfl, hb⟩
      have HB4 := Lib.hid (HB3.out.trans (hb.mono HB3.out.size))
      clear hb
      go_wp2_with fail
      go_ret
      exact ⟨rfl, HB4.out⟩
    · have g2 : decide (su > 3000) = false := decide_eq_false hgt2
      by_cases ho3 : o = 3
      · subst ho3
        go_wp2_with fail
        refine (alive_law _ (HV.out.step HB3.out) (HT.out.step HB3.out)).mono ?_
        rintro e w4 ⟨rfl, hb⟩
        have HB4 := Lib.hid (HB3.out.trans (hb.mono HB3.out.size))
        clear hb
        go_wp2_with fail
        go_ret
        exact ⟨rfl, HB4.out⟩
      · go_wp2_with fail
        have hnx : cntE x ≤ 2000000 := by have := HCX.out; omega
        have hny : cntE y ≤ 2000000 := by have := HCX.out; omega
        refine (refs_any HWX.out hnx A c _ hc (Kd.C_below HC.out HB3.out)).mono ?_
        rintro e w4 ⟨A1, c1', rfl, hl1, hR1, hb⟩
        have HB4 := Lib.hid (HB3.out.trans (hb.mono HB3.out.size))
        have HX4 := kp2 hb HX3.out; have HY4 := kp2 hb HY3.out
        have HR1 := Lib.hid hR1; have HL1 := Lib.hid hl1
        clear hb HX3 HY3 HB3 b0 b1 b2 b3 c0 c1 c2 c3 hR1 hl1 HSV HSU
        obtain ⟨b0, b1, b2, b3⟩ := box_cells HX4.out
        obtain ⟨c0, c1, c2, c3⟩ := box_cells HY4.out
        go_wp2_with fail
        refine (refs_any HWY.out hny B d _ hd (Kd.C_below HD.out HB4.out)).mono ?_
        rintro e w5 ⟨A2, c2', rfl, hl2, hR2, hb⟩
        have HB5 := Lib.hid (HB4.out.trans (hb.mono HB4.out.size))
        have HX5 := kp2 hb HX4.out; have HY5 := kp2 hb HY4.out
        have HR2 := Lib.hid hR2; have HL2 := Lib.hid hl2; have HR15 := Lib.hid (Kd.C_below HR1.out hb)
        clear hb HX4 HY4 HB4 b0 b1 b2 b3 c0 c1 c2 c3 hR2 hl2 HR1
        obtain ⟨b0, b1, b2, b3⟩ := box_cells HX5.out
        obtain ⟨c0, c1, c2, c3⟩ := box_cells HY5.out
        go_wp2_with fail
        have hbq : Below w5.heap.size w5 (w5.alloc (.cells #[.int .u8 x.f0, .int .i64 x.f1, .string x.f2, .slice A x.f3.length c] 25)) := (Below.refl _ _).alloc (Nat.le_refl _) _
        have hcq := heap_alloc_new w5 (.cells #[.int .u8 x.f0, .int .i64 x.f1, .string x.f2, .slice A x.f3.length c] 25)
        have HBQ := Lib.hid hbq; have HCQ := Lib.hid hcq
        clear hbq hcq
        refine (of_law 19 _ 1 1 _).mono ?_
        rintro e w6 ⟨rfl, hb⟩
        have HQ6 := Lib.hid (HBQ.out.trans (hb.mono HBQ.out.size))
        have hcq6 := kp2 hb HCQ.out
        have HB6 := Lib.hid (HB5.out.trans (HQ6.out.mono HB5.out.size))
        have HX6 := kp2 HQ6.out HX5.out; have HY6 := kp2 HQ6.out HY5.out
        have HR16 := Lib.hid (Kd.C_below HR15.out HQ6.out); have HR26 := Lib.hid (Kd.C_below HR2.out HQ6.out)
        have HPX := Lib.hid (lit_C [(x, A, c)] _ rfl hcq6.out (fun p hp => by
          rw [List.mem_singleton] at hp
          subst hp
          exact ⟨hc, Kd.C_below HC.out HB6.out⟩) (by unfold maxLen; simp))
        clear hb HX5 HY5 HB5 HBQ HCQ HQ6 HR15 HR2 hcq6 b0 b1 b2 b3 c0 c1 c2 c3
        obtain ⟨b0, b1, b2, b3⟩ := box_cells HX6.out
        obtain ⟨c0, c1, c2, c3⟩ := box_cells HY6.out
        go_wp2_with fail
        refine (refs_any (x := ⟨19, 0, ⟨#[]⟩, [x]⟩) (wf_op 19 [x] (by omega) (by omega) (by simp) (fun y hy => by
          rw [List.mem_singleton] at hy; subst hy; exact HWX.out)) (by rw [cnt_one]; have := HCX.out; omega) _ 1 _ (Nat.le_refl _) HPX.out).mono ?_
        rw [refs_pre hnx]
        rintro e w7 ⟨A3, c3', rfl, hl3, hR3, hb⟩
        have HB7 := Lib.hid (HB6.out.trans (hb.mono HB6.out.size))
        have HX7 := kp2 hb HX6.out; have HY7 := kp2 hb HY6.out
        have HR17 := Lib.hid (Kd.C_below HR16.out hb); have HR27 := Lib.hid (Kd.C_below HR26.out hb)
        have HR37 := Lib.hid hR3; have HL3 := Lib.hid hl3
        clear hb HX6 HY6 HB6 HR16 HR26 HPX hl3 hR3 b0 b1 b2 b3 c0 c1 c2 c3
        have hlp : ((refsP x).map (lag 1)).length = (refsP x).length := List.length_map _
        rw [hlp]
        obtain ⟨mm, hmm⟩ : ∃ mm : Int, mm = if o = 19 then 1 else 0 := ⟨_, rfl⟩
        go_upto_if 43 with (fail)
        go_cut [10] from 17 (fun v10 wc => v10 = .int .i64 mm ∧ wc = w7)
        case first =>
          by_cases ho19 : o = 19
          · rw [if_pos ho19] at hmm
            go_wp2_with fail
            go_meet
            case rel => exact ⟨by rw [hmm], rfl⟩
          · rw [if_neg ho19] at hmm
            go_wp2_with fail
            go_meet
            case rel => exact ⟨by rw [hmm], rfl⟩
        obtain ⟨rfl, rfl⟩ := hcut
        have HMM := Lib.hid hmm
        have hm01 : 0 ≤ mm ∧ mm ≤ 1 := by rw [hmm]; split <;> omega
        obtain ⟨L, hL⟩ : ∃ L, L = refsP x ++ refsP y := ⟨_, rfl⟩
        have HLL := Lib.hid hL
        have hlen : L.length = (refsP x).length + (refsP y).length := by rw [hL, List.length_append]
        have hlx := refsP_len hnx
        have hly := refsP_len hny
        have hcx2 := HCX.out
        have HWA := Lib.hid (show (addAll [] ((L.take 0).map (lag mm))) = [] by simp [addAll])
        clear hL hmm
        go_wp2_with fail
        go_loopw [11, 12] (fun wv iv wr => ∃ (i : Nat), iv = .int .i64 i ∧ i ≤ L.length ∧ (∃ T cc, wv = .slice T (addAll [] ((L.take i).map (lag mm))).length cc) ∧ Hid (wr.ownsRow wc.heap.size 51 2 wv (addAll [] ((L.take i).map (lag mm))).length (rfCells (addAll [] ((L.take i).map (lag mm))))) ∧ Hid (Below wc.heap.size wc wr)) (fun _ iv _ => L.length - (intOf iv).toNat)
        case atStart => exact ⟨0, rfl, Nat.zero_le _, ⟨none, 0, by rw [HWA.out]; rfl⟩, Lib.hid (by rw [HWA.out]; exact World.ownsRow_nil _ _ _ _), Lib.hid (Below.refl _ _)⟩
        case round =>
          clear HWA
          obtain ⟨i, rfl, hi, ⟨T, cc, rfl⟩, HO, HBR⟩ := hrel
          obtain ⟨wl, hwl⟩ : ∃ wl, wl = addAll [] ((L.take i).map (lag mm)) := ⟨_, rfl⟩
          rw [← hwl] at HO
          rw [← hwl]
          have HWL := Lib.hid hwl
          clear hwl
          by_cases hlt : i < L.length
          · obtain ⟨r0, hr0⟩ : ∃ r0, L[i]? = some r0 := ⟨_, List.getElem?_eq_getElem hlt⟩
            have HR0 := Lib.hid hr0
            have HNX := Lib.hid (show addAll [] ((L.take (i + 1)).map (lag mm)) = addR (r0.1, r0.2 + mm) wl by
              rw [List.take_add_one, hr0, List.map_append, addAll_append, ← HWL.out]; rfl)
            have hwll : wl.length ≤ 2097152 := by
              rw [HWL.out]
              have := addAll_len ((L.take i).map (lag mm)) []
              rw [List.length_map, List.length_take] at this
              simp only [List.length_nil] at this
              omega
            clear hr0
            go_upto_if 56 with (fail)
            go_cut [44, 45, 46, 47, 48, 49, 50, 51, 52, 53, 54, 55, 56] from 133 (fun _ _ _ _ _ _ _ _ _ _ _ _ _ wc' => wc' = wr.alloc (.cells #[.string r0.1, .int .i64 r0.2] 51))
            case first =>
              by_cases hin : i < (refsP x).length
              · have hrx : (refsP x)[i]? = some r0 := by
                  have := HR0.out
                  rw [HLL.out, List.getElem?_append_left hin] at this
                  exact this
                obtain ⟨ad, hA, q0, q1⟩ := at_T51 (Kd.C_below HR17.out HBR.out) (i : Int) (by omega) (by rw [List.length_map]; omega)
                subst hA
                rw [rd_R hrx] at q0 q1
                simp only [Int.toNat_natCast] at q0 q1
                have p0 := cell_al q0 (.cells #[.string ⟨#[]⟩, .int .i64 0] 51)
                have p1 := cell_al q1 (.cells #[.string ⟨#[]⟩, .int .i64 0] 51)
                go_wp2_with fail
                go_meet
                case rel => exact rfl
              · have hrx : (refsP y)[i - (refsP x).length]? = some r0 := by
                  have := HR0.out
                  rw [HLL.out, List.getElem?_append_right (by omega)] at this
                  exact this
                obtain ⟨ad, hA, q0, q1⟩ := at_T51 (Kd.C_below HR27.out HBR.out) ((i - (refsP x).length : Nat) : Int) (by omega) (by rw [List.length_map]; omega)
                subst hA
                rw [rd_R hrx] at q0 q1
                simp only [Int.toNat_natCast] at q0 q1
                have p0 := cell_al q0 (.cells #[.string ⟨#[]⟩, .int .i64 0] 51)
                have p1 := cell_al q1 (.cells #[.string ⟨#[]⟩, .int .i64 0] 51)
                have hjl : i - (refsP x).length < (refsP y).length := by omega
                clear hrx
                go_wp2_with fail
                go_meet
                case rel => exact rfl
            case rest =>
              subst hcut
              have hag : 0 ≤ r0.2 ∧ r0.2 ≤ 2000000 := by
                have hm : r0 ∈ L := List.mem_of_getElem? HR0.out
                rw [HLL.out] at hm
                rcases List.mem_append.1 hm with hm | hm
                · exact refsP_ago hnx r0 hm
                · exact refsP_ago hny r0 hm
              have hwr : wrap64 (r0.2 + mm) = r0.2 + mm := w64 (by omega) (by omega)
              go_wp2_with fail
              try rw [hwr]
              have hR := heap_alloc_new wr (.cells #[.string r0.1, .int .i64 (r0.2 + mm)] 51)
              have hO9 := Go.Proofs.YtbdciibbgiphcaaDoor.B.own_kept HO.out (w' := wr.alloc (.cells #[.string r0.1, .int .i64 (r0.2 + mm)] 51)) (fun k hk => Below.heap_alloc wr _ k (own_lt HO.out k hk))
              have hB9 := HBR.out.alloc HBR.out.size (.cells #[.string r0.1, .int .i64 (r0.2 + mm)] 51)
              have hob : ∀ k, (Value.slice T wl.length cc).ownBlock = some k → k ≠ wr.heap.size := fun k hk => Nat.ne_of_lt (own_lt HO.out k hk)
              obtain ⟨rb, hrb⟩ : ∃ rb, rb = wr.heap.size := ⟨_, rfl⟩
              have hrb2 : wc.heap.size ≤ rb := by rw [hrb]; exact HBR.out.size
              rw [← hrb] at hR hob
              rw [← hrb]
              clear hrb
              generalize wr.alloc (.cells #[.string r0.1, .int .i64 (r0.2 + mm)] 51) = W at *
              have HWR := Lib.hid hR; have HO9 := Lib.hid hO9; have HB9 := Lib.hid hB9; have HOB := Lib.hid hob
              clear hR hO9 hB9 hob hwr HO HBR
              go_loopw [14, 15] (fun tv kv wq => ∃ (k : Nat), kv = .int .i64 k ∧ k ≤ wl.length ∧ tv = .bool (inR (r0.1, r0.2 + mm) (wl.take k)) ∧ Hid (Below W.heap.size W wq)) (fun _ kv _ => wl.length - (intOf kv).toNat)
              case atStart => exact ⟨0, rfl, Nat.zero_le _, by simp [inR], Lib.hid (Below.refl _ _)⟩
              case round =>
                obtain ⟨k, rfl, hk, rfl, HBQ⟩ := hrel
                by_cases hkl : k < wl.length
                · obtain ⟨rk, hrk⟩ : ∃ rk, wl[k]? = some rk := ⟨_, List.getElem?_eq_getElem hkl⟩
                  have htk : inR (r0.1, r0.2 + mm) (wl.take (k + 1)) = (inR (r0.1, r0.2 + mm) (wl.take k) || decide (rk = (r0.1, r0.2 + mm))) := by
                    rw [List.take_add_one, hrk]
                    simp [inR]
                  have HTK := Lib.hid htk
                  obtain ⟨A5, c5, hv5, _, hR5⟩ := refs_read HO9.out
                  have hA5 : T = A5 := by injection hv5
                  subst hA5
                  obtain ⟨ad, hA, q0, q1⟩ := at_T51 (Kd.C_below hR5 HBQ.out) (k : Int) (by omega) (by rw [List.length_map]; omega)
                  subst hA
                  rw [rd_R hrk] at q0 q1
                  simp only [Int.toNat_natCast] at q0 q1
                  have hwq := kp2 HBQ.out HWR.out
                  obtain ⟨m0, m1⟩ := cell_two hwq.out
                  cases hth : inR (r0.1, r0.2 + mm) (wl.take k) with
                  | true =>
                    rw [hth] at htk
                    have HT2 := Lib.hid (htk.trans (Bool.true_or _))
                    clear hrk hR5 hv5 htk hwq hth
                    go_wp2_with fail
                    refine wp_region_held_drew (S := fun w' => True) (by kernel_rfl) ?_ (fun hHeld => ?_)
                    · trivial
                    refine wpAnyH_take (i := 0) (oi := ?oi0) (v := ?v0) ?ho0 (by kernel_rfl) (by kernel_rfl) (by kernel_rfl) ?hq0 (Or.inl ⟨?hw0, ?hy0⟩) hHeld ?rest0
                    case ho0 => simp only [List.getElem?_toArray, List.getElem?_cons_succ, List.getElem?_cons_zero]; rfl
                    case hq0 => exact fun _ _ _ h => h
                    case hw0 => rfl
                    case hy0 => (intro w hSw; (try dsimp only at hSw); go_simp; try with_reducible rfl)
                    try simp only [Act.put, List.setIfInBounds_toArray, List.set_cons_zero, List.set_cons_succ]
                    refine wpAnyH_take (i := 1) (oi := ?oi1) (v := ?v1) ?ho1 (by kernel_rfl) (by kernel_rfl) (by kernel_rfl) ?hq1 (Or.inl ⟨?hw1, ?hy1⟩) hHeld ?rest1
                    case ho1 => simp only [List.getElem?_toArray, List.getElem?_cons_succ, List.getElem?_cons_zero]; rfl
                    case hq1 => exact fun _ _ _ h => h
                    case hw1 => rfl
                    case hy1 => (intro w hSw; (try dsimp only at hSw); go_simp; try with_reducible rfl)
                    try simp only [Act.put, List.setIfInBounds_toArray, List.set_cons_zero, List.set_cons_succ]
                    refine wpAnyH_take (i := 2) (oi := ?oi2) (v := undef) ?ho2 (by kernel_rfl) (by kernel_rfl) (by kernel_rfl) ?hq2 (Or.inr ⟨?hw2, rfl⟩) hHeld ?rest2
                    case ho2 => simp only [List.getElem?_toArray, List.getElem?_cons_succ, List.getElem?_cons_zero]; rfl
                    case hq2 => exact fun _ _ _ h => h
                    case hw2 => rfl
                    try simp only [Act.put, List.setIfInBounds_toArray, List.set_cons_zero, List.set_cons_succ]
                    refine wpAnyH_take (i := 3) (oi := ?oi3) (v := undef) ?ho3 (by kernel_rfl) (by kernel_rfl) (by kernel_rfl) ?hq3 (Or.inr ⟨?hw3, rfl⟩) hHeld ?rest3
                    case ho3 => simp only [List.getElem?_toArray, List.getElem?_cons_succ, List.getElem?_cons_zero]; rfl
                    case hq3 => exact fun _ _ _ h => h
                    case hw3 => rfl
                    try simp only [Act.put, List.setIfInBounds_toArray, List.set_cons_zero, List.set_cons_succ]
                    refine wpAnyH_take (i := 4) (oi := ?oi4) (v := undef) ?ho4 (by kernel_rfl) (by kernel_rfl) (by kernel_rfl) ?hq4 (Or.inr ⟨?hw4, rfl⟩) hHeld ?rest4
                    case ho4 => simp only [List.getElem?_toArray, List.getElem?_cons_succ, List.getElem?_cons_zero]; rfl
                    case hq4 => exact fun _ _ _ h => h
                    case hw4 => rfl
                    try simp only [Act.put, List.setIfInBounds_toArray, List.set_cons_zero, List.set_cons_succ]
                    refine wpAnyH_take (i := 5) (oi := ?oi5) (v := undef) ?ho5 (by kernel_rfl) (by kernel_rfl) (by kernel_rfl) ?hq5 (Or.inr ⟨?hw5, rfl⟩) hHeld ?rest5
                    case ho5 => simp only [List.getElem?_toArray, List.getElem?_cons_succ, List.getElem?_cons_zero]; rfl
                    case hq5 => exact fun _ _ _ h => h
                    case hw5 => rfl
                    try simp only [Act.put, List.setIfInBounds_toArray, List.set_cons_zero, List.set_cons_succ]
                    refine wpAnyH_take (i := 6) (oi := ?oi6) (v := undef) ?ho6 (by kernel_rfl) (by kernel_rfl) (by kernel_rfl) ?hq6 (Or.inr ⟨?hw6, rfl⟩) hHeld ?rest6
                    case ho6 => simp only [List.getElem?_toArray, List.getElem?_cons_succ, List.getElem?_cons_zero]; rfl
                    case hq6 => exact fun _ _ _ h => h
                    case hw6 => rfl
                    try simp only [Act.put, List.setIfInBounds_toArray, List.set_cons_zero, List.set_cons_succ]
                    refine wpAnyH_take (i := 7) (oi := ?oi7) (v := undef) ?ho7 (by kernel_rfl) (by kernel_rfl) (by kernel_rfl) ?hq7 (Or.inr ⟨?hw7, rfl⟩) hHeld ?rest7
                    case ho7 => simp only [List.getElem?_toArray, List.getElem?_cons_succ, List.getElem?_cons_zero]; rfl
                    case hq7 => exact fun _ _ _ h => h
                    case hw7 => rfl
                    try simp only [Act.put, List.setIfInBounds_toArray, List.set_cons_zero, List.set_cons_succ]
                    refine wpAnyH_take (i := 8) (oi := ?oi8) (v := ?v8) ?ho8 (by kernel_rfl) (by kernel_rfl) (by kernel_rfl) ?hq8 (Or.inl ⟨?hw8, ?hy8⟩) hHeld ?rest8
                    case ho8 => simp only [List.getElem?_toArray, List.getElem?_cons_succ, List.getElem?_cons_zero]; rfl
                    case hq8 => exact fun _ _ _ h => h
                    case hw8 => rfl
                    case hy8 => (intro w hSw; (try dsimp only at hSw); go_simp; try with_reducible rfl)
                    try simp only [Act.put, List.setIfInBounds_toArray, List.set_cons_zero, List.set_cons_succ]
                    refine wpAnyH_take (i := 9) (oi := ?oi9) (v := ?v9) ?ho9 (by kernel_rfl) (by kernel_rfl) (by kernel_rfl) ?hq9 (Or.inl ⟨?hw9, ?hy9⟩) hHeld ?rest9
                    case ho9 => simp only [List.getElem?_toArray, List.getElem?_cons_succ, List.getElem?_cons_zero]; rfl
                    case hq9 => exact fun _ _ _ h => h
                    case hw9 => rfl
                    case hy9 => (intro w hSw; (try dsimp only at hSw); go_simp; try with_reducible rfl)
                    try simp only [Act.put, List.setIfInBounds_toArray, List.set_cons_zero, List.set_cons_succ]
                    refine wpAnyH_done (by kernel_rfl) ?_ _
                    go_wp2_with fail
                    exact ⟨⟨k + 1, by go_num, by omega, by rw [HT2.out], Lib.hid HBQ.out.drew⟩, by simp [intOf]; omega⟩
                  | false => 
                    rw [hth] at htk
                    have HT2 := Lib.hid (htk.trans ((Bool.false_or _).trans (dec_rf _ _)))
                    clear hrk hR5 hv5 htk hwq hth
                    go_wp2_with fail
                    go_region_held3 (fun w' => w'.cell? ⟨rb, 0, none⟩ = some (.string r0.1) ∧ w'.cell? ⟨rb, 1, none⟩ = some (.int .i64 (r0.2 + mm)) ∧ w'.cell? (ad.add (k * 2)) = some (.string rk.1) ∧ w'.cell? ⟨(ad.add (k * 2)).block, (ad.add (k * 2)).off + 1, none⟩ = some (.int .i64 rk.2)) (first | (exact ⟨m0, m1, q0, q1⟩) | go_keep) (fail)
                    go_wp2_with fail
                    exact ⟨⟨k + 1, by go_num, by omega, by rw [HT2.out], Lib.hid HBQ.out.drew⟩, by simp [intOf]; omega⟩
                · obtain rfl : k = wl.length := by omega
                  rw [List.take_length]
                  have HWQ := kp2 HBQ.out HWR.out
                  obtain ⟨m0, m1⟩ := cell_two HWQ.out
                  have HOQ := Lib.hid (Go.Proofs.YtbdciibbgiphcaaDoor.B.own_kept HO9.out (fun k hk => HBQ.out.block k (own_lt HO9.out k hk)))
                  have HBW := Lib.hid (HB9.out.trans (HBQ.out.mono HB9.out.size))
                  clear HO9 HB9 HBQ HWR
                  cases hth : inR (r0.1, r0.2 + mm) wl with
                  | true =>
                    have HT3 := Lib.hid (show addR (r0.1, r0.2 + mm) wl = wl by unfold addR; rw [if_pos hth])
                    clear hth
                    go_wp2_with fail
                    exact ⟨⟨i + 1, by go_num, by omega, ⟨T, cc, by rw [HNX.out, HT3.out]⟩, Lib.hid (by rw [HNX.out, HT3.out]; exact HOQ.out), HBW⟩, by simp [intOf]; omega⟩
                  | false =>
                    have HT3 := Lib.hid (show addR (r0.1, r0.2 + mm) wl = wl ++ [(r0.1, r0.2 + mm)] by unfold addR; rw [if_neg (by rw [hth]; simp)])
                    clear hth
                    obtain ⟨i5, hi5, hz0, hz1, hz2⟩ := info_parts info51
                    have HOA := Lib.hid (Go.Proofs.YtbdciibbgiphcaaDoor.B.own_kept HOQ.out (w' := wr.alloc (.cells #[.string r0.1, .int .i64 (r0.2 + mm)] 51)) (fun k hk => Below.heap_alloc wr _ k (own_lt HOQ.out k hk)))
                    have hsz := HBW.out.size
                    have HOW := Lib.hid (fun k hk => own_base HOQ.out k hk)
                    clear HOQ
                    go_wp2_with (at_builtin; refine wpList_append_lies _ rfl _ _ 47 rfl wc.heap.size 51 i5 (.agg #[(.string ⟨#[]⟩), (.int .i64 0)]) 2 24 Tryd.underlying47 hi5 hz0 hz1 hz2 rfl (by decide) (.slice T wl.length cc) wl.length (rfCells wl) rfl HOA.out ⟨wr.heap.size, 0, none⟩ 1 _ [.string r0.1, .int .i64 (r0.2 + mm)] rfl rfl (World.news_of_block (heap_alloc_new wr _)) ?one (by decide) (by unfold maxLen; omega) (by omega) (by simp; omega) (wr.heap.size + 1) (by simp) ?_)
                    case one =>
                      intro u hu
                      simp only [List.mem_cons, List.not_mem_nil, or_false] at hu
                      rcases hu with rfl | rfl <;> rfl
                    intro g cap w9 hown hgr hat hlt
                    have HB10 := Lib.hid ((HBW.out.alloc hsz _).grown hgr (by simp; omega) (fun k hk => HOW.out k hk))
                    have HO10 := Lib.hid hown
                    clear hown hgr hat hlt HOW HBW HOA
                    go_wp2_with fail
                    exact ⟨⟨i + 1, by go_num, by omega, ⟨some ⟨g, 0, none⟩, cap, by rw [HNX.out, HT3.out]; simp⟩, Lib.hid (by rw [HNX.out, HT3.out, List.length_append, rfCells_snoc]; exact HO10.out), HB10⟩, by simp [intOf]; omega⟩
          · obtain rfl : i = L.length := by omega
            have hwx : wl = refsP ⟨o, 0, ⟨#[]⟩, [x, y]⟩ := by
              rw [HWL.out, List.take_length, HLL.out]
              exact (refs_two hnx hny o mm ho3 HMM.out).symm
            have HWX2 := Lib.hid hwx
            have HX8 := Lib.hid ((HBR.out.block _ (blk_lt HX7.out)).trans HX7.out)
            have HY8 := Lib.hid ((HBR.out.block _ (blk_lt HY7.out)).trans HY7.out)
            obtain ⟨b0, b1, b2, b3⟩ := box_cells HX8.out
            obtain ⟨c0, c1, c2, c3⟩ := box_cells HY8.out
            clear hwx
            go_wp2_with fail
            have hbq : Below wr.heap.size wr (wr.alloc (.cells #[.int .u8 x.f0, .int .i64 x.f1, .string x.f2, .slice A x.f3.length c, .int .u8 y.f0, .int .i64 y.f1, .string y.f2, .slice B y.f3.length d] 25)) := (Below.refl _ _).alloc (Nat.le_refl _) _
            have hcq := heap_alloc_new wr (.cells #[.int .u8 x.f0, .int .i64 x.f1, .string x.f2, .slice A x.f3.length c, .int .u8 y.f0, .int .i64 y.f1, .string y.f2, .slice B y.f3.length d] 25)
            have HBQ := Lib.hid hbq; have HCQ := Lib.hid hcq
            clear hbq hcq
            refine (of_law o _ 2 2 _).mono ?_
            rintro e w10 ⟨rfl, hb⟩
            have HQ10 := Lib.hid (HBQ.out.trans (hb.mono HBQ.out.size))
            have hcq10 := kp2 hb HCQ.out
            have HBC := Lib.hid (HBR.out.trans (HQ10.out.mono HBR.out.size))
            have HBW10 := Lib.hid (HB7.out.trans (HBC.out.mono HB7.out.size))
            have HO10 := Lib.hid (Go.Proofs.YtbdciibbgiphcaaDoor.B.own_kept HO.out (fun k hk => HQ10.out.block k (own_lt HO.out k hk)))
            have HPX := Lib.hid (lit_C [(x, A, c), (y, B, d)] _ rfl hcq10.out (fun p hp => by
              simp only [List.mem_cons, List.not_mem_nil, or_false] at hp
              rcases hp with rfl | rfl
              · exact ⟨hc, Kd.C_below HC.out HBW10.out⟩
              · exact ⟨hd, Kd.C_below HD.out HBW10.out⟩) (by unfold maxLen; simp))
            clear hb HBQ HCQ HQ10 hcq10 b0 b1 b2 b3 c0 c1 c2 c3 HO HBR HX8 HY8 HX7 HY7
            go_wp2_with fail
            refine (refs_any (x := ⟨o, 0, ⟨#[]⟩, [x, y]⟩) (wf_op o [x, y] ho0 ho1 (by simp) (fun z hz => by
              simp only [List.mem_cons, List.not_mem_nil, or_false] at hz
              rcases hz with rfl | rfl
              · exact HWX.out
              · exact HWY.out)) (by rw [cnt_two]; have := HCX.out; omega) _ 2 _ (Nat.le_refl _) HPX.out).mono ?_
            rw [← HWX2.out]
            rintro e w11 ⟨A6, c6, rfl, hl6, hR6, hb⟩
            have HB11 := Lib.hid (HBC.out.trans (hb.mono HBC.out.size))
            have hO11 := Go.Proofs.YtbdciibbgiphcaaDoor.B.own_kept HO10.out (fun k hk => hb.block k (own_lt HO10.out k hk))
            obtain ⟨A7, c7, hv7, hl7, hR7⟩ := refs_read hO11
            have hA7 : T = A7 := by injection hv7
            have hc7 : cc = c7 := by injection hv7
            subst hA7
            subst hc7
            have HR6 := Lib.hid hR6; have HR7 := Lib.hid hR7; have HL6 := Lib.hid hl6; have HL7 := Lib.hid hl7
            clear hb hO11 hv7 hR6 hR7 hl6 hl7 HBC HBW10 HO10 HPX
            go_wp2_with fail
            have hwll : wl.length ≤ 4611686018427387904 := by
              rw [HWL.out]
              have := addAll_len ((L.take L.length).map (lag mm)) []
              rw [List.length_map, List.length_take] at this
              simp only [List.length_nil] at this
              omega
            have hcall := belfrylaw01_SameRefs.calls ((wl.map toR).length + 1) A6 c6 (wl.map toR) T cc (wl.map toR) true w11 HR6.out (by rw [List.length_map]; exact HL6.out) HR7.out HL7.out (sameRefs_self _ (by rw [List.length_map]; exact hwll))
            rw [List.length_map] at hcall
            refine hcall.mono ?_
            clear hcall
            rintro e w12 ⟨rfl, hb⟩
            have HB12 := Lib.hid (HB11.out.trans ((drawn_below hb).mono HB11.out.size))
            clear hb HR6 HR7 HB11
            go_wp2_with fail
            go_loopw [16] (fun iv wr => ∃ (i : Nat), iv = .int .i64 i ∧ i ≤ (refsP x).length ∧ Hid (Below wc.heap.size wc wr)) (fun iv _ => (refsP x).length - (intOf iv).toNat)
            case atStart => exact ⟨0, rfl, Nat.zero_le _, HB12⟩
            case round =>
              clear HB12
              obtain ⟨i, rfl, hi, HBR⟩ := hrel
              by_cases hlt : i < (refsP x).length
              · obtain ⟨r0, hr0⟩ : ∃ r0, (refsP x)[i]? = some r0 := ⟨_, List.getElem?_eq_getElem hlt⟩
                obtain ⟨ad, hA, q0, q1⟩ := at_T51 (Kd.C_below HR17.out HBR.out) (i : Int) (by omega) (by rw [List.length_map]; omega)
                subst hA
                rw [rd_R hr0] at q0 q1
                simp only [Int.toNat_natCast] at q0 q1
                obtain ⟨ap, hA, p0, p1⟩ := at_T51 (Kd.C_below HR37.out HBR.out) (i : Int) (by omega) (by rw [List.length_map, List.length_map]; omega)
                subst hA
                rw [rd_R (r := lag 1 r0) (by rw [List.getElem?_map, hr0]; rfl)] at p0 p1
                simp only [Int.toNat_natCast] at p0 p1
                have hag := refsP_ago hnx r0 (List.mem_of_getElem? hr0)
                have hwr0 : wrap64 (r0.2 + 1) = r0.2 + 1 := w64 (by omega) (by omega)
                have hwr : IntKind.i64.wrap (r0.2 + 1) = r0.2 + 1 := by first | exact hwr0 | (rw [IntKind.wrap_i64]; omega)
                clear hr0
                replace q0 : wr.cell? (ad.add (i * 2)) = some (.string r0.1) := q0
                replace q1 : wr.cell? ⟨(ad.add (i * 2)).block, (ad.add (i * 2)).off + 1, none⟩ = some (.int .i64 r0.2) := q1
                replace p0 : wr.cell? (ap.add (i * 2)) = some (.string r0.1) := p0
                replace p1 : wr.cell? ⟨(ap.add (i * 2)).block, (ap.add (i * 2)).off + 1, none⟩ = some (.int .i64 (r0.2 + 1)) := p1
                have hil : (i : Int) < ((refsP x).length : Int) := by omega
                go_wp2_with fail
                go_region_held3 (fun w' => w'.cell? (ad.add (i * 2)) = some (.string r0.1) ∧ w'.cell? ⟨(ad.add (i * 2)).block, (ad.add (i * 2)).off + 1, none⟩ = some (.int .i64 r0.2) ∧ w'.cell? (ap.add (i * 2)) = some (.string r0.1) ∧ w'.cell? ⟨(ap.add (i * 2)).block, (ap.add (i * 2)).off + 1, none⟩ = some (.int .i64 (r0.2 + 1))) (first | (exact ⟨q0, q1, p0, p1⟩) | go_keep) (fail)
                go_wp2_with fail
                exact ⟨⟨i + 1, by go_num, by omega, Lib.hid HBR.out.drew⟩, by simp [intOf]; omega⟩
              · obtain rfl : i = (refsP x).length := by omega
                go_wp2_with fail
                go_ret
                exact ⟨rfl, HB7.out.trans (HBR.out.mono HB7.out.size)⟩
end Go.Proofs.YtbdciibbgiphcaaDoor.V
