/- ExprsRefs: the law's walk. Printed by mklwrf.py (ours). -/
import Derived.Test.YtbdciibbgiphcaaGreatDoorKtW
import Derived.Test.YtbdciibbgiphcaaGreatDoorGaX
import Derived.Test.YtbdciibbgiphcaaGreatDoorNS
namespace Go.Proofs.YtbdciibbgiphcaaGreatDoor.V
set_option linter.unusedVariables false
set_option linter.unusedSimpArgs false
set_option linter.unusedSectionVars false
open Go.RowKit Go.Proofs.YtbdciibbgiphcaaGreatDoorW.PrintWords Go.Proofs.YtbdciibbgiphcaaGreatDoorW.PrintLast Go.Proofs.YtbdciibbgiphcaaGreatDoorW.PrintMore
open Go.Proofs.YtbdciibbgiphcaaGreatDoor.B (Kp Lst Pre own_kept)
set_option maxHeartbeats 2000000 in
set_option maxRecDepth 100000 in
theorem refs_kept {w wr : World} {base kb N : Nat} {es rs : List Lst} (h : Kp w wr base kb es rs N) (hN : N < 3000000) (hl : rs.length ≤ 3000000) (A : Option Addr) (n c : Nat) :
    Calls Tryz.prog 11 #[.pointer (some ⟨kb, 0, none⟩), .slice A n c] wr (fun e w' => e = .returned (.tuple #[]) ∧ Kp w w' base kb es (rs ++ [(.slice A n c, n, N + 1)]) (N + 1)) := by
  have H := Lib.hid h
  clear h
  go_enter Tryz.func11, Tryz.ntmps11
  go_wp2_with fail
  refine (H.out.keepRef hN hl A n c).mono ?_
  rintro e w2 ⟨rfl, hp⟩
  have HP := Lib.hid hp
  clear hp
  go_wp2_with fail
  go_end0
  exact ⟨rfl, HP.out⟩
/-- as many lists as parts. -/
theorem tw_nodes {w : World} {base : Nat} {xs : List S25} {v : Value} {bs : List Nat} (h : TwR w base xs v bs) : ∀ (y : S25) (m : Nat), y.f3 = xs → Nodes y m → bs.length = m := by
  induction h with
  | mk xs g c vs bss hv hbl ho he hn ih =>
    intro y m hy hm
    cases hm with
    | mk o n s ys ns h1 h2 =>
      dsimp only at hy
      subst hy
      have e : bss.map List.length = ns := by
        apply List.ext_getElem?
        intro i
        rw [List.getElem?_map]
        by_cases hi : i < ys.length
        · have hb : i < bss.length := by omega
          have hni : i < ns.length := by omega
          rw [List.getElem?_eq_getElem hb, List.getElem?_eq_getElem hni]
          have hx : ys[i]? = some ys[i] := List.getElem?_eq_getElem hi
          have hvi : vs[i]? = some vs[i] := List.getElem?_eq_getElem (by omega)
          have := ih i ys[i] vs[i] bss[i] hx hvi (List.getElem?_eq_getElem hb) ys[i] ns[i] rfl (h2 i _ _ hx (List.getElem?_eq_getElem hni))
          rw [Option.map_some, this]
        · rw [List.getElem?_eq_none (by omega), List.getElem?_eq_none (by omega)]
          rfl
      rw [List.length_cons, List.length_flatten, e]
      omega
set_option maxHeartbeats 16000000 in
set_option maxRecDepth 100000 in
theorem exprsRefs_walk (x : S25) (hwf : WfE x) (hs : SmE x) (m : Nat) (hm : Nodes x m) (hle : m ≤ 1100000) (A : Option Addr) (c : Nat) (w : World) (hc : x.f3.length ≤ c) (hC : Kd.C k25 w A x.f3.length x.f3) (ht : VarT w) :
    Calls Tryz.prog 3 #[.agg #[.int .u8 x.f0, .int .i64 x.f1, .string x.f2, .slice A x.f3.length c]] w fun e w' => e = .returned (.bool true) ∧ Below w.heap.size w w' := by
  have hp0 := ht.pos
  have HB0 := Lib.hid ((Below.refl w.heap.size w).alloc (Nat.le_refl _) (.cells #[.int .u8 x.f0, .int .i64 x.f1, .string x.f2, .slice A x.f3.length c] 25))
  have HX0 := Lib.hid (heap_alloc_new w (.cells #[.int .u8 x.f0, .int .i64 x.f1, .string x.f2, .slice A x.f3.length c] 25))
  obtain ⟨sv, hsv⟩ := exprSize_any hs
  have HSV := Lib.hid hsv; have HTA := Lib.hid (twin_any hs); have HLA := Lib.hid (left_any hs); have HKA := Lib.hid (keep_any hs)
  have HC := Lib.hid hC; have HV := Lib.hid ht; have HWF := Lib.hid hwf; have HM := Lib.hid hm
  clear hC ht hwf hm hsv hs
  go_enter Tryz.func3, Tryz.ntmps3
  have x0 := blk_cell HX0.out 0; have x1 := blk_cell HX0.out 1; have x2 := blk_cell HX0.out 2; have x3 := blk_cell HX0.out 3
  dsimp at x0 x1 x2 x3
  go_wp2_with fail
  refine (HSV.out A c _ hc (Kd.C_below HC.out HB0.out)).mono ?_
  rintro e w1 ⟨rfl, hb⟩
  have HB1 := Lib.hid (HB0.out.trans (hb.mono HB0.out.size))
  have HX1 := Lib.hid ((hb.block _ (blk_lt HX0.out)).trans HX0.out)
  clear hb HB0 HX0
  clear x0 x1 x2 x3
  clear HSV
  have x0 := blk_cell HX1.out 0; have x1 := blk_cell HX1.out 1; have x2 := blk_cell HX1.out 2; have x3 := blk_cell HX1.out 3
  dsimp at x0 x1 x2 x3
  by_cases hgt : sv > 5000
  · have g1 : decide (sv > 5000) = true := decide_eq_true hgt
    go_wp2_with fail
    go_ret
    exact ⟨rfl, HB1.out⟩
  have g1 : decide (sv > 5000) = false := decide_eq_false hgt
  go_wp2_with fail
  refine (HTA.out A c _ hc (Kd.C_below HC.out HB1.out)).mono ?_
  rintro e w2 ⟨v, bs, rfl, hT, hb⟩
  have hT2 := hT.lower HB1.out.size
  obtain ⟨T, tc, rfl, hlt, _⟩ := hT2.reads
  have hbl := tw_nodes hT2 x m rfl HM.out
  have HB2 := Lib.hid (HB1.out.trans (hb.mono HB1.out.size))
  have HX2 := Lib.hid ((hb.block _ (blk_lt HX1.out)).trans HX1.out)
  clear hb HB1 HX1
  clear x0 x1 x2 x3
  have HT2 := Lib.hid hT2
  have HL2 := Lib.hid (fun q (hq : q ∈ bs) => (hT2.blocks q hq).2)
  have HND := Lib.hid hT2.nodup
  clear hT hT2 HTA
  have hba := (Below.refl w2.heap.size w2).alloc (Nat.le_refl _) (.cells #[.int .u8 x.f0, .int .i64 x.f1, .string x.f2, .slice T x.f3.length tc] 25)
  have HB3 := Lib.hid (HB2.out.trans (hba.mono HB2.out.size))
  have HX3 := Lib.hid (blk_alloc HX2.out (.cells #[.int .u8 x.f0, .int .i64 x.f1, .string x.f2, .slice T x.f3.length tc] 25))
  have HT3 := Lib.hid (HT2.out.stay hba)
  have HZ3 := Lib.hid (heap_alloc_new w2 (.cells #[.int .u8 x.f0, .int .i64 x.f1, .string x.f2, .slice T x.f3.length tc] 25))
  clear hba HB2 HX2 HT2
  have x0 := blk_cell HX3.out 0; have x1 := blk_cell HX3.out 1; have x2 := blk_cell HX3.out 2; have x3 := blk_cell HX3.out 3
  dsimp at x0 x1 x2 x3
  have z0 := blk_cell HZ3.out 0; have z1 := blk_cell HZ3.out 1; have z2 := blk_cell HZ3.out 2; have z3 := blk_cell HZ3.out 3
  dsimp at z0 z1 z2 z3
  obtain ⟨L, hL⟩ : ∃ L, L = go1 x 0 [] := ⟨_, rfl⟩
  have HLE := Lib.hid hL
  clear hL
  obtain ⟨T2, tc2, hv2, _, hCt⟩ := HT3.out.reads
  have hT2e : T = T2 := by injection hv2
  subst hT2e
  have HCT := Lib.hid hCt
  clear hv2 hCt
  go_wp2_with fail
  refine (refs_walk x HWF.out m HM.out (by omega) T tc _ hlt HCT.out).mono ?_
  rw [← HLE.out]
  rintro e w4 ⟨va, rfl, ho, hb⟩
  have hloa : ∀ q, va.ownBlock = some q → w2.heap.size ≤ q ∧ q < w4.heap.size := fun q hq => ⟨by have := own_base ho q hq; simp at this; omega, own_lt ho q hq⟩
  have hs24 : w2.heap.size ≤ w4.heap.size := by have := hb.size; simp at this; omega
  have HS24 := Lib.hid hs24
  clear hs24
  have ho2 := own_weaken ho HB3.out.size
  clear ho HCT
  have HB4 := Lib.hid (HB3.out.trans (hb.mono HB3.out.size))
  have HX4 := Lib.hid ((hb.block _ (blk_lt HX3.out)).trans HX3.out)
  have HZ4 := Lib.hid ((hb.block _ (blk_lt HZ3.out)).trans HZ3.out)
  have HT4 := Lib.hid (HT3.out.stay hb)
  clear hb HB3 HX3 HZ3 HT3
  clear x0 x1 x2 x3
  clear z0 z1 z2 z3
  have HOa4 := Lib.hid ho2
  have HLOa := Lib.hid hloa
  clear ho2 hloa
  have x0 := blk_cell HX4.out 0; have x1 := blk_cell HX4.out 1; have x2 := blk_cell HX4.out 2; have x3 := blk_cell HX4.out 3
  dsimp at x0 x1 x2 x3
  have z0 := blk_cell HZ4.out 0; have z1 := blk_cell HZ4.out 1; have z2 := blk_cell HZ4.out 2; have z3 := blk_cell HZ4.out 3
  dsimp at z0 z1 z2 z3
  obtain ⟨T2, tc2, hv2, _, hCt⟩ := HT4.out.reads
  have hT2e : T = T2 := by injection hv2
  subst hT2e
  have HCT := Lib.hid hCt
  clear hv2 hCt
  go_wp2_with fail
  refine (refs_walk x HWF.out m HM.out (by omega) T tc _ hlt HCT.out).mono ?_
  rw [← HLE.out]
  rintro e w5 ⟨vb, rfl, ho, hb⟩
  have hlob : ∀ q, vb.ownBlock = some q → w4.heap.size ≤ q := fun q hq => own_base ho q hq
  have ho2 := own_weaken ho HB4.out.size
  clear ho HCT
  have HB5 := Lib.hid (HB4.out.trans (hb.mono HB4.out.size))
  have HX5 := Lib.hid ((hb.block _ (blk_lt HX4.out)).trans HX4.out)
  have HZ5 := Lib.hid ((hb.block _ (blk_lt HZ4.out)).trans HZ4.out)
  have HT5 := Lib.hid (HT4.out.stay hb)
  have HOa5 := Lib.hid (own_kept HOa4.out (fun q hq => hb.block q (own_lt HOa4.out q hq)))
  clear hb HB4 HX4 HZ4 HT4 HOa4
  clear x0 x1 x2 x3
  clear z0 z1 z2 z3
  have HOb5 := Lib.hid ho2
  have HLOb := Lib.hid hlob
  clear ho2 hlob
  have x0 := blk_cell HX5.out 0; have x1 := blk_cell HX5.out 1; have x2 := blk_cell HX5.out 2; have x3 := blk_cell HX5.out 3
  dsimp at x0 x1 x2 x3
  have z0 := blk_cell HZ5.out 0; have z1 := blk_cell HZ5.out 1; have z2 := blk_cell HZ5.out 2; have z3 := blk_cell HZ5.out 3
  dsimp at z0 z1 z2 z3
  go_wp2_with fail
  refine (rrefs_walk x HWF.out m HM.out (by omega) A c _ hc (Kd.C_below HC.out HB5.out)).mono ?_
  rw [← HLE.out]
  rintro e w6 ⟨vr, rfl, ho, hLm, hb⟩
  have HLM := Lib.hid hLm
  clear hLm
  have HB6 := Lib.hid (HB5.out.trans (hb.mono HB5.out.size))
  have HX6 := Lib.hid ((hb.block _ (blk_lt HX5.out)).trans HX5.out)
  have HZ6 := Lib.hid ((hb.block _ (blk_lt HZ5.out)).trans HZ5.out)
  have HT6 := Lib.hid (HT5.out.stay hb)
  have HOa6 := Lib.hid (own_kept HOa5.out (fun q hq => hb.block q (own_lt HOa5.out q hq)))
  have HOb6 := Lib.hid (own_kept HOb5.out (fun q hq => hb.block q (own_lt HOb5.out q hq)))
  clear hb HB5 HX5 HZ5 HT5 HOa5 HOb5
  clear x0 x1 x2 x3
  clear z0 z1 z2 z3
  have HOr6 := Lib.hid ho
  clear ho
  have x0 := blk_cell HX6.out 0; have x1 := blk_cell HX6.out 1; have x2 := blk_cell HX6.out 2; have x3 := blk_cell HX6.out 3
  dsimp at x0 x1 x2 x3
  have z0 := blk_cell HZ6.out 0; have z1 := blk_cell HZ6.out 1; have z2 := blk_cell HZ6.out 2; have z3 := blk_cell HZ6.out 3
  dsimp at z0 z1 z2 z3
  go_wp2_with fail
  refine (sameR_calls L (by have := HLM.out; omega) _ HOa6.out HOr6.out).mono ?_
  rintro e w7 ⟨rfl, hb⟩
  have HB7 := Lib.hid (HB6.out.trans (hb.mono HB6.out.size))
  have HX7 := Lib.hid ((hb.block _ (blk_lt HX6.out)).trans HX6.out)
  have HZ7 := Lib.hid ((hb.block _ (blk_lt HZ6.out)).trans HZ6.out)
  have HT7 := Lib.hid (HT6.out.stay hb)
  have HOa7 := Lib.hid (own_kept HOa6.out (fun q hq => hb.block q (own_lt HOa6.out q hq)))
  have HOb7 := Lib.hid (own_kept HOb6.out (fun q hq => hb.block q (own_lt HOb6.out q hq)))
  have HOr7 := Lib.hid (own_kept HOr6.out (fun q hq => hb.block q (own_lt HOr6.out q hq)))
  clear hb HB6 HX6 HZ6 HT6 HOa6 HOb6 HOr6
  clear x0 x1 x2 x3
  clear z0 z1 z2 z3
  have x0 := blk_cell HX7.out 0; have x1 := blk_cell HX7.out 1; have x2 := blk_cell HX7.out 2; have x3 := blk_cell HX7.out 3
  dsimp at x0 x1 x2 x3
  have z0 := blk_cell HZ7.out 0; have z1 := blk_cell HZ7.out 1; have z2 := blk_cell HZ7.out 2; have z3 := blk_cell HZ7.out 3
  dsimp at z0 z1 z2 z3
  go_wp2_with fail
  refine (sameR_calls L (by have := HLM.out; omega) _ HOb7.out HOa7.out).mono ?_
  rintro e w8 ⟨rfl, hb⟩
  have HB8 := Lib.hid (HB7.out.trans (hb.mono HB7.out.size))
  have HX8 := Lib.hid ((hb.block _ (blk_lt HX7.out)).trans HX7.out)
  have HZ8 := Lib.hid ((hb.block _ (blk_lt HZ7.out)).trans HZ7.out)
  have HT8 := Lib.hid (HT7.out.stay hb)
  have HOa8 := Lib.hid (own_kept HOa7.out (fun q hq => hb.block q (own_lt HOa7.out q hq)))
  have HOb8 := Lib.hid (own_kept HOb7.out (fun q hq => hb.block q (own_lt HOb7.out q hq)))
  have HOr8 := Lib.hid (own_kept HOr7.out (fun q hq => hb.block q (own_lt HOr7.out q hq)))
  clear hb HB7 HX7 HZ7 HT7 HOa7 HOb7 HOr7
  clear x0 x1 x2 x3
  clear z0 z1 z2 z3
  have x0 := blk_cell HX8.out 0; have x1 := blk_cell HX8.out 1; have x2 := blk_cell HX8.out 2; have x3 := blk_cell HX8.out 3
  dsimp at x0 x1 x2 x3
  have z0 := blk_cell HZ8.out 0; have z1 := blk_cell HZ8.out 1; have z2 := blk_cell HZ8.out 2; have z3 := blk_cell HZ8.out 3
  dsimp at z0 z1 z2 z3
  go_wp2_with fail
  refine (HLA.out A c _ _ bs _ HT8.out hc (Kd.C_below HC.out HB8.out)).mono ?_
  rintro e w9 hp
  obtain ⟨rfl, hb⟩ := hp
  have HB9 := Lib.hid (HB8.out.trans (hb.mono HB8.out.size))
  have HX9 := Lib.hid ((hb.block _ (blk_lt HX8.out)).trans HX8.out)
  have HZ9 := Lib.hid ((hb.block _ (blk_lt HZ8.out)).trans HZ8.out)
  have HT9 := Lib.hid (HT8.out.stay hb)
  have HOa9 := Lib.hid (own_kept HOa8.out (fun q hq => hb.block q (own_lt HOa8.out q hq)))
  have HOb9 := Lib.hid (own_kept HOb8.out (fun q hq => hb.block q (own_lt HOb8.out q hq)))
  have HOr9 := Lib.hid (own_kept HOr8.out (fun q hq => hb.block q (own_lt HOr8.out q hq)))
  clear hb HB8 HX8 HZ8 HT8 HOa8 HOb8 HOr8
  clear x0 x1 x2 x3
  clear z0 z1 z2 z3
  clear HLA HOr9
  have x0 := blk_cell HX9.out 0; have x1 := blk_cell HX9.out 1; have x2 := blk_cell HX9.out 2; have x3 := blk_cell HX9.out 3
  dsimp at x0 x1 x2 x3
  have z0 := blk_cell HZ9.out 0; have z1 := blk_cell HZ9.out 1; have z2 := blk_cell HZ9.out 2; have z3 := blk_cell HZ9.out 3
  dsimp at z0 z1 z2 z3
  have HBS9 := Lib.hid HB9.out.size; have HOAB := Lib.hid (And.intro (fun q (hq : va.ownBlock = some q) => own_lt HOa9.out q hq) (fun q (hq : vb.ownBlock = some q) => own_lt HOb9.out q hq)); have HLT9 := Lib.hid (fun q (hq : q ∈ bs) => (HT9.out.blocks q hq).2)
  have hba := (Below.refl w9.heap.size w9).alloc (Nat.le_refl _) (.cells #[.int .i64 0, .slice none 0 0, .slice none 0 0, .slice none 0 0, .slice none 0 0, .slice none 0 0, .slice none 0 0, .slice none 0 0, .slice none 0 0, .slice none 0 0, .slice none 0 0, .slice none 0 0, .slice none 0 0, .slice none 0 0, .slice none 0 0, .slice none 0 0, .slice none 0 0, .slice none 0 0] 50)
  have HB10 := Lib.hid (HB9.out.trans (hba.mono HB9.out.size))
  have HX10 := Lib.hid (blk_alloc HX9.out (.cells #[.int .i64 0, .slice none 0 0, .slice none 0 0, .slice none 0 0, .slice none 0 0, .slice none 0 0, .slice none 0 0, .slice none 0 0, .slice none 0 0, .slice none 0 0, .slice none 0 0, .slice none 0 0, .slice none 0 0, .slice none 0 0, .slice none 0 0, .slice none 0 0, .slice none 0 0, .slice none 0 0] 50))
  have HZ10 := Lib.hid (blk_alloc HZ9.out (.cells #[.int .i64 0, .slice none 0 0, .slice none 0 0, .slice none 0 0, .slice none 0 0, .slice none 0 0, .slice none 0 0, .slice none 0 0, .slice none 0 0, .slice none 0 0, .slice none 0 0, .slice none 0 0, .slice none 0 0, .slice none 0 0, .slice none 0 0, .slice none 0 0, .slice none 0 0, .slice none 0 0] 50))
  have HT10 := Lib.hid (HT9.out.stay hba)
  have HOa10 := Lib.hid (own_kept HOa9.out (fun q hq => hba.block q (own_lt HOa9.out q hq)))
  have HOb10 := Lib.hid (own_kept HOb9.out (fun q hq => hba.block q (own_lt HOb9.out q hq)))
  clear hba HB9 HX9 HZ9 HT9 HOa9 HOb9
  clear x0 x1 x2 x3
  clear z0 z1 z2 z3
  have HK0 := Lib.hid (B.Kp.start (base := w.heap.size) (heap_alloc_new w9 (.cells #[.int .i64 0, .slice none 0 0, .slice none 0 0, .slice none 0 0, .slice none 0 0, .slice none 0 0, .slice none 0 0, .slice none 0 0, .slice none 0 0, .slice none 0 0, .slice none 0 0, .slice none 0 0, .slice none 0 0, .slice none 0 0, .slice none 0 0, .slice none 0 0, .slice none 0 0, .slice none 0 0] 50)) (HBS9.out))
  have hkb : w9.heap.size ∉ bs := fun hm => Nat.lt_irrefl _ (HLT9.out _ hm)
  have HKE := Lib.hid (HKA.out (w9.alloc (.cells #[.int .i64 0, .slice none 0 0, .slice none 0 0, .slice none 0 0, .slice none 0 0, .slice none 0 0, .slice none 0 0, .slice none 0 0, .slice none 0 0, .slice none 0 0, .slice none 0 0, .slice none 0 0, .slice none 0 0, .slice none 0 0, .slice none 0 0, .slice none 0 0, .slice none 0 0, .slice none 0 0] 50)) (w9.alloc (.cells #[.int .i64 0, .slice none 0 0, .slice none 0 0, .slice none 0 0, .slice none 0 0, .slice none 0 0, .slice none 0 0, .slice none 0 0, .slice none 0 0, .slice none 0 0, .slice none 0 0, .slice none 0 0, .slice none 0 0, .slice none 0 0, .slice none 0 0, .slice none 0 0, .slice none 0 0, .slice none 0 0] 50)) w.heap.size w9.heap.size [] [] 0 (.slice T x.f3.length tc) bs HT10.out hkb (by simp; omega) (by omega) HK0.out)
  clear HK0 hkb HKA
  have x0 := blk_cell HX10.out 0; have x1 := blk_cell HX10.out 1; have x2 := blk_cell HX10.out 2; have x3 := blk_cell HX10.out 3
  dsimp at x0 x1 x2 x3
  have z0 := blk_cell HZ10.out 0; have z1 := blk_cell HZ10.out 1; have z2 := blk_cell HZ10.out 2; have z3 := blk_cell HZ10.out 3
  dsimp at z0 z1 z2 z3
  go_wp2_with fail
  refine HKE.out.mono ?_
  rintro e w11 ⟨rfl, es', hkr, hk⟩
  rw [List.nil_append, Nat.zero_add] at hk
  have HKR := Lib.hid hkr; have HK1 := Lib.hid hk
  clear hkr hk HKE
  clear x0 x1 x2 x3
  clear z0 z1 z2 z3
  obtain ⟨Aa, ca, hva, _, _⟩ := refs_read HOa10.out
  obtain ⟨Ab, cb, hvb, _, _⟩ := refs_read HOb10.out
  rw [List.length_map] at hva hvb
  subst hva
  subst hvb
  have hel := HKR.out.length
  have HOA9 := Lib.hid HOAB.out.1; have HOB9 := Lib.hid HOAB.out.2
  go_wp2_with fail
  refine (refs_kept HK1.out (by omega) (by simp) Aa L.length ca).mono ?_
  rintro e w12 ⟨rfl, hk⟩
  have HK2 := Lib.hid hk
  clear hk HK1
  go_wp2_with fail
  refine (refs_kept HK2.out (by omega) (by simp) Ab L.length cb).mono ?_
  rintro e w13 ⟨rfl, hk⟩
  have HK3 := Lib.hid hk
  clear hk HK2
  rw [List.nil_append] at HK3
  have HBK := Lib.hid (HB10.out.trans HK3.out.bel)
  have hmemE : ∀ y, y ∈ es' → ∀ q, y.1.ownBlock = some q → q ∈ bs := fun y hy q hq => by
    have h1 : y.1.ownBlock ∈ es'.map fun x => x.1.ownBlock := List.mem_map.2 ⟨y, hy, rfl⟩
    have h2 := HKR.out.perm.mem_iff.1 h1
    rw [hq] at h2
    obtain ⟨q2, h3, h4⟩ := List.mem_map.1 h2
    injection h4 with h4
    exact h4 ▸ h3
  have hnd : (es'.map fun x : Lst => x.1.ownBlock).Nodup := HKR.out.perm.nodup_iff.2 (List.Pairwise.map _ (fun a b hab e => hab (Option.some.inj e)) HND.out)
  have hAB : ∀ y, y ∈ ([(.slice Aa L.length ca, L.length, es'.length + 1), (.slice Ab L.length cb, L.length, es'.length + 1 + 1)] : List Lst) → y = (.slice Aa L.length ca, L.length, es'.length + 1) ∨ y = (.slice Ab L.length cb, L.length, es'.length + 1 + 1) := fun y hy => by simpa using hy
  have HMEM := Lib.hid hmemE; have HNN := Lib.hid hnd; have HAB := Lib.hid hAB
  clear hmemE hnd hAB
  have HAP := Lib.hid (HK3.out.apart (HV.out.step HBK.out hp0) hp0 (by simp) (by omega) (by simp)
    (fun y hy => HKR.out.own y hy)
    (fun y hy => by rcases HAB.out y hy with rfl | rfl; exact ⟨_, HOa10.out⟩; exact ⟨_, HOb10.out⟩)
    (fun y hy e => Nat.lt_irrefl _ (HLT9.out _ (HMEM.out y hy _ e)))
    (fun y hy e => by rcases HAB.out y hy with rfl | rfl; exact Nat.lt_irrefl _ (HOA9.out _ e); exact Nat.lt_irrefl _ (HOB9.out _ e))
    (fun i j y z hy hz hij q hq e => by
      have h1 : (es'.map fun x : Lst => x.1.ownBlock)[i]? = some (some q) := by rw [List.getElem?_map, hy, Option.map_some, hq]
      have h2 : (es'.map fun x : Lst => x.1.ownBlock)[j]? = some (some q) := by rw [List.getElem?_map, hz, Option.map_some, e]
      exact hij ((List.getElem?_inj (List.getElem?_eq_some_iff.1 h1).1 HNN.out).1 (h1.trans h2.symm)))
    (fun i j y z hy hz hij q hq e => by
      have q1 := HLOa.out; have q2 := HLOb.out
      match i, j, hy, hz with
      | 0, 0, _, _ => exact hij rfl
      | 0, 1, hy, hz => simp at hy hz; subst hy; subst hz; have := q1 q hq; have := q2 q e; omega
      | 1, 0, hy, hz => simp at hy hz; subst hy; subst hz; have := q1 q e; have := q2 q hq; omega
      | 1, 1, _, _ => exact hij rfl
      | 0, j + 2, _, hz => simp at hz
      | 1, j + 2, _, hz => simp at hz
      | i + 2, _, hy, _ => simp at hy)
    (fun y hy z hz q hq e => by
      have h1 := HL2.out q (HMEM.out y hy q hq)
      have h2 := HS24.out
      rcases HAB.out z hz with rfl | rfl
      · have := HLOa.out q e; omega
      · have := HLOb.out q e; omega)
    (fun y hy => HKR.out.len y hy) (fun y hy => by have := HLM.out; rcases HAB.out y hy with rfl | rfl <;> (show L.length ≤ _; omega))
    (fun y hy => HKR.out.num y hy) (fun y hy => by rcases HAB.out y hy with rfl | rfl; show es'.length + 1 ≤ _; omega; show es'.length + 1 + 1 ≤ _; omega))
  go_wp2_with fail
  refine HAP.out.mono ?_
  rintro e w14 ⟨rfl, hb⟩
  have HBE := Lib.hid (HBK.out.trans hb)
  clear hb HAP
  go_wp2_with fail
  go_ret
  exact ⟨rfl, HBE.out⟩
end Go.Proofs.YtbdciibbgiphcaaGreatDoor.V
