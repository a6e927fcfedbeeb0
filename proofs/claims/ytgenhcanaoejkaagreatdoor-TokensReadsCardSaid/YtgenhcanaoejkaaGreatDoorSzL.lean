/- TokensReads: the law's walk. -/
import Derived.Test.YtgenhcanaoejkaaGreatDoorBkX
import Derived.Test.YtgenhcanaoejkaaGreatDoorExtC
import Derived.Test.YtgenhcanaoejkaaGreatDoorSzR
import Derived.Test.YtgenhcanaoejkaaGreatDoorSzS
namespace Go.Proofs.YtgenhcanaoejkaaGreatDoor.B
set_option linter.unusedVariables false
set_option linter.unusedSimpArgs false
set_option linter.unusedSectionVars false
open Go.RowKit Go.Proofs.YtgenhcanaoejkaaGreatDoorW.PrintWords Go.Proofs.YtgenhcanaoejkaaGreatDoorW.PrintLast Go.Proofs.YtgenhcanaoejkaaGreatDoorW.PrintMore
open Go.Proofs.YtgenhcanaoejkaaGreatDoor.S
theorem keep7_walk (base kb N : Nat) (tv : Value) (rows : List (Value × Value × Nat)) (A : Option Addr) (n c : Nat) (w : World) (h : Bk w base kb N tv rows) (hN : N < 50) (hr : rows.length ≤ 50) :
    Calls Tryz.prog 7 #[.pointer (some ⟨kb, 0, none⟩), .slice A n c] w (KeepPost base kb N tv (.slice A n c) rows w) := by
  have H := Lib.hid h
  clear h
  go_enter Tryz.func7, Tryz.ntmps7
  go_wp2_with fail
  refine (keep_walk base kb N tv rows A n c _ H.out hN hr).mono ?_
  intro e w2 hp
  obtain ⟨rfl, hp2⟩ := hp
  have HP := Lib.hid hp2
  clear hp2
  go_wp2_with fail
  go_end0
  exact ⟨rfl, HP.out⟩
theorem two_kept {base kb n B1 : Nat} {w4 w5 w6 : World} {V1 V2 tv1 tv2 : Value} {x1 x2 : List Value}
    (h1 : w4.ownsRow base 54 3 V1 n x1) (h2 : w4.ownsRow base 54 3 V2 n x2) (hkb : w4.heap.size = kb + 1) (l1 : ∀ k, V1.ownBlock = some k → k < B1) (l2 : ∀ k, V2.ownBlock = some k → B1 ≤ k ∧ k < kb) (hB1 : B1 ≤ kb)
    (hk1 : Kept w4 w5 kb nilV) (ht1 : tv1.ownBlock = nilV.ownBlock ∨ ∃ b, tv1.ownBlock = some b ∧ w4.heap.size ≤ b)
    (hk2 : Kept w5 w6 kb tv1) (ht2 : tv2.ownBlock = tv1.ownBlock ∨ ∃ b, tv2.ownBlock = some b ∧ w5.heap.size ≤ b) :
    (∀ x, x ∈ [(V1, n), (V2, n)] → S1 w6 base x) ∧ Sep kb tv2 [(V1, n), (V2, n)] := by
  have hn1 : nilV.ownBlock = none := rfl
  have hs1 := hk1.1
  have hs2 := hk2.1
  have f1 : ∀ k, tv1.ownBlock = some k → kb < k := by
    intro k hk
    rcases ht1 with e | ⟨b, e, hb⟩
    · rw [e, hn1] at hk; cases hk
    · rw [e] at hk; injection hk with hk; omega
  have f2 : ∀ k, tv2.ownBlock = some k → kb < k := by
    intro k hk
    rcases ht2 with e | ⟨b, e, hb⟩
    · rw [e] at hk; exact f1 k hk
    · rw [e] at hk; injection hk with hk; omega
  have fr : ∀ k, k < kb → w6.heap[k]? = w4.heap[k]? := by
    intro k hk
    rw [hk2.2 k (by omega) (by omega) (fun e => by have := f1 k e.symm; omega), hk1.2 k (by omega) (by omega) (by rw [hn1]; simp)]
  have m1 : ∀ k, V1.ownBlock = some k → k < kb := fun k hk => by have := l1 k hk; omega
  have m2 : ∀ k, V2.ownBlock = some k → k < kb := fun k hk => (l2 k hk).2
  have o1 : ∀ k, V1.ownBlock = some k → V2.ownBlock ≠ some k := fun k hk e => by have := l1 k hk; have := (l2 k e).1; omega
  refine ⟨?_, ?_, ?_, ?_⟩
  · intro x hx
    rcases List.mem_cons.1 hx with rfl | hx
    · exact ⟨x1, own_kept h1 (fun k hk => fr k (m1 k hk))⟩
    · obtain rfl := List.mem_singleton.1 hx
      exact ⟨x2, own_kept h2 (fun k hk => fr k (m2 k hk))⟩
  · intro x hx e
    rcases List.mem_cons.1 hx with rfl | hx
    · have := m1 kb e; omega
    · obtain rfl := List.mem_singleton.1 hx
      have := m2 kb e; omega
  · intro x hx k hk e
    have := f2 k e
    rcases List.mem_cons.1 hx with rfl | hx
    · have := m1 k hk; omega
    · obtain rfl := List.mem_singleton.1 hx
      have := m2 k hk; omega
  · intro i j x y hx hy hij k hk e
    rcases i with _ | _ | i <;> rcases j with _ | _ | j <;> simp at hx hy hij
    · subst hx; subst hy; exact o1 k hk e
    · subst hx; subst hy; exact o1 k e hk
theorem own_nil (w : World) (base : Nat) : w.ownsRow base 67 3 (.slice none 0 0) 0 [] := ⟨rfl, .inl ⟨rfl, rfl⟩⟩
set_option maxHeartbeats 8000000 in
set_option maxRecDepth 100000 in
theorem law_walk (k : Nat) (s : ByteArray) (r1 : List S54) (r2 r3 : Int) (w : World) (hs : tokens_Read.f s = some (r1, r2, r3)) (hr : belfryref04_Read.f k s = some (r1, r2, r3)) (hsm : belfrylaw01_SameTokens.f k r1 r1 = some true)
    (hl : r1.length ≤ 1000000) (hz : s.size ≤ 100000) : Calls Tryz.prog 3 #[.string s] w (fun e w' => e = .returned (.bool true) ∧ Below w.heap.size w w') := by
  have HS := Lib.hid hs; have HR := Lib.hid hr; have HM := Lib.hid hsm
  clear hs hr hsm
  have hd1 : decide (100000 < (s.size : Int)) = false := decide_eq_false (by omega)
  go_enter Tryz.func3, Tryz.ntmps3
  go_wp2_with fail
  refine (tokens_Read.calls s r1 r2 r3 _ HS.out).mono ?_
  rintro e w1 ⟨V1, rfl, hR1, hb1⟩
  obtain ⟨A1, c1, rfl, hc1, hC1⟩ := Kd.R_reads hR1
  have HR1 := Lib.hid hR1; have HB1 := Lib.hid hb1; have HC1 := Lib.hid hC1
  clear hR1 hb1 hC1
  go_wp2_with fail
  refine (tokens_Read.calls s r1 r2 r3 _ HS.out).mono ?_
  rintro e w2 ⟨V2, rfl, hR2, hb2⟩
  obtain ⟨A2, c2, rfl, hc2, hC2⟩ := Kd.R_reads hR2
  have HR2 := Lib.hid hR2; have HB2 := Lib.hid hb2; have HC2 := Lib.hid hC2
  clear hR2 hb2 hC2
  go_wp2_with fail
  refine (belfryref04_Read.calls k s r1 r2 r3 _ HR.out).mono ?_
  rintro e w3 ⟨V3, rfl, hR3, hb3⟩
  obtain ⟨A3, c3, rfl, hc3, hC3⟩ := Kd.R_reads hR3
  have HR3 := Lib.hid hR3; have HB3 := Lib.hid hb3; have HC3 := Lib.hid hC3
  clear hR3 hb3 hC3
  go_wp2_with fail
  refine (belfrylaw01_SameTokens.calls k A1 c1 r1 A3 c3 r1 true _ (Kd.C_below (Kd.C_below HC1.out HB2.out) HB3.out) hc1 HC3.out hc3 HM.out).mono ?_
  rintro e w4 ⟨rfl, hd4⟩
  have HB4 : Hid (Below w3.heap.size w3 w4) := Lib.hid hd4.below
  clear hd4
  go_wp2_with fail
  refine (belfrylaw01_SameTokens.calls k A2 c2 r1 A3 c3 r1 true _ (Kd.C_below (Kd.C_below HC2.out HB3.out) HB4.out) hc2 (Kd.C_below HC3.out HB4.out) hc3 HM.out).mono ?_
  rintro e w5 ⟨rfl, hd5⟩
  have HB5 : Hid (Below w4.heap.size w4 w5) := Lib.hid hd5.below
  clear hd5
  go_wp2_with fail
  obtain ⟨wb, hwb⟩ : ∃ wb, wb = w5.alloc (.cells (bookCells 0 (.slice none 0 0)) 45) := ⟨_, rfl⟩
  have hbs : wb.heap.size = w5.heap.size + 1 := by rw [hwb]; simp
  have hbk : wb.heap[w5.heap.size]? = some (.cells (bookCells 0 (.slice none 0 0)) 45 (0, 0)) := by rw [hwb]; exact heap_alloc_new w5 _
  have z1 := HB1.out.size; have z2 := HB2.out.size; have z3 := HB3.out.size; have z4 := HB4.out.size; have z5 := HB5.out.size
  have hB0 : Below w.heap.size w wb := by
    rw [hwb]
    exact ((((HB1.out.trans (HB2.out.mono z1)).trans (HB3.out.mono (by omega))).trans (HB4.out.mono (by omega))).trans (HB5.out.mono (by omega))).alloc (by omega) _
  have hK0 : Bk wb w.heap.size w5.heap.size 0 (.slice none 0 0) [] := ⟨hbk, by omega, own_nil _ _, by simp [Value.ownBlock]⟩
  have hL1 : ∃ x1, wb.ownsRow w.heap.size 54 3 (.slice A1 r1.length c1) r1.length x1 ∧ ∀ q, (Value.slice A1 r1.length c1).ownBlock = some q → q < w1.heap.size := by
    obtain ⟨x1, ho⟩ := Kd.R_own HR1.out
    refine ⟨x1, ?_, fun q hq => own_lt ho q hq⟩
    have h5 := Kd.R_below (Kd.R_below (Kd.R_below (Kd.R_below HR1.out HB2.out) HB3.out) HB4.out) HB5.out
    have e : ∀ q, q < w1.heap.size → wb.heap[q]? = w1.heap[q]? := by
      intro q hq
      rw [hwb, Below.heap_alloc w5 _ q (by omega), HB5.out.block q (by omega), HB4.out.block q (by omega), HB3.out.block q (by omega), HB2.out.block q (by omega)]
    exact own_kept ho (fun q hq => e q (own_lt ho q hq))
  have hL2 : ∃ x2, wb.ownsRow w.heap.size 54 3 (.slice A2 r1.length c2) r1.length x2 ∧ ∀ q, (Value.slice A2 r1.length c2).ownBlock = some q → w1.heap.size ≤ q ∧ q < w5.heap.size := by
    obtain ⟨x2, ho⟩ := Kd.R_own HR2.out
    refine ⟨x2, ?_, fun q hq => ⟨own_base ho q hq, by have := own_lt ho q hq; omega⟩⟩
    have e : ∀ q, q < w2.heap.size → wb.heap[q]? = w2.heap[q]? := by
      intro q hq
      rw [hwb, Below.heap_alloc w5 _ q (by omega), HB5.out.block q (by omega), HB4.out.block q (by omega), HB3.out.block q (by omega)]
    exact own_kept (own_weaken ho z1) (fun q hq => e q (own_lt ho q hq))
  obtain ⟨x1, ho1, hq1⟩ := hL1
  obtain ⟨x2, ho2, hq2⟩ := hL2
  have HK0 := Lib.hid hK0; have H0 := Lib.hid hB0; have HO1 := Lib.hid ho1; have HQ1 := Lib.hid hq1; have HO2 := Lib.hid ho2; have HQ2 := Lib.hid hq2
  have HSZ : Hid (wb.heap.size = w5.heap.size + 1 ∧ w1.heap.size ≤ w5.heap.size ∧ w.heap.size ≤ w1.heap.size) := Lib.hid ⟨hbs, by omega, z1⟩
  clear hK0 hB0 ho1 hq1 ho2 hq2 hbs hbk z1 z2 z3 z4 z5
  show Calls Tryz.prog 7 _ (w5.alloc (.cells (bookCells 0 (.slice none 0 0)) 45)) _
  rw [← hwb]
  clear hwb
  refine (keep7_walk w.heap.size w5.heap.size 0 (.slice none 0 0) [] A1 r1.length c1 wb HK0.out (by omega) (by simp)).mono ?_
  intro e w6 hp
  obtain ⟨rfl, hb6, tv1, hk1, hkept1, ht1⟩ := hp
  have HK1 := Lib.hid hk1; have HB6 := Lib.hid hb6; have HP1 := Lib.hid hkept1; have HT1 := Lib.hid ht1
  clear hk1 hb6 hkept1 ht1
  go_wp2_with fail
  refine (keep7_walk w.heap.size w5.heap.size 1 tv1 _ A2 r1.length c2 w6 HK1.out (by omega) (by simp)).mono ?_
  intro e w7 hp
  obtain ⟨rfl, hb7, tv2, hk2, hkept2, ht2⟩ := hp
  obtain ⟨A7, c7, htv⟩ := own_slice hk2.tok
  subst htv
  have HS2 := Lib.hid (two_kept HO1.out HO2.out HSZ.out.1 HQ1.out HQ2.out HSZ.out.2.1 HP1.out HT1.out hkept2 ht2)
  have HK2 := Lib.hid hk2; have HB7 := Lib.hid hb7
  clear hk2 hb7 hkept2 ht2
  go_wp2_with fail
  refine (apart_walk w.heap.size w5.heap.size 2 A7 c7 _ [(.slice A1 r1.length c1, r1.length), (.slice A2 r1.length c2, r1.length)] w7 HK2.out HS2.out.2 ⟨rfl, ?_⟩ HS2.out.1 (by simp) ?_).mono ?_
  · intro i x hx
    rcases i with _ | _ | i <;> simp at hx
    · subst hx; rfl
    · subst hx; rfl
  · intro x hx
    rcases List.mem_cons.1 hx with rfl | hx
    · exact hl
    · obtain rfl := List.mem_singleton.1 hx
      exact hl
  · rintro e w8 ⟨rfl, hb8⟩
    have HB8 := Lib.hid hb8
    clear hb8
    go_wp2_with fail
    go_ret
    exact ⟨rfl, ((H0.out.trans HB6.out).trans HB7.out).trans HB8.out⟩
end Go.Proofs.YtgenhcanaoejkaaGreatDoor.B
