/- circles.needs: walked. -/
import Derived.Test.YtfkggeakjgphjaaSrW
import Derived.Test.YtfkggeakjgphjaaJB
import Derived.Test.YtfkggeakjgphjaaFnW
namespace Go.Proofs.Ytfkggeakjgphjaa.C
set_option linter.unusedVariables false
set_option linter.unusedSimpArgs false
set_option linter.unusedSectionVars false
open Go.RowKit Go.Proofs.YtfkggeakjgphjaaW.PrintWords Go.Proofs.YtfkggeakjgphjaaW.PrintLast Go.Proofs.YtfkggeakjgphjaaW.PrintMore
open Go.Proofs.RngT
open Go.Proofs.Ytfkggeakjgphjaa.B (own_kept)
theorem rows_ne {w : World} {b1 b2 s1 s2 n1 n2 : Nat} {e1 e2 : TypeId} {v1 v2 : Value} {xs1 xs2 : List Value} (h1 : w.ownsRow b1 e1 s1 v1 n1 xs1) (h2 : w.ownsRow b2 e2 s2 v2 n2 xs2) (he : e1 ≠ e2) (q : Nat) (hq : v1.ownBlock = some q) : v2.ownBlock ≠ some q := by
  intro hq2
  rcases h1.2 with ⟨rfl, _⟩ | ⟨g, cap, cur, rfl, _, hh, _⟩
  · simp [Value.ownBlock] at hq
  · rcases h2.2 with ⟨rfl, _⟩ | ⟨g2, cap2, cur2, rfl, _, hh2, _⟩
    · simp [Value.ownBlock] at hq2
    · have e1' : g = q := by simpa [Value.ownBlock] using hq
      have e2' : g2 = q := by simpa [Value.ownBlock] using hq2
      subst e1'; subst e2'
      rw [hh] at hh2
      injection hh2 with hh2
      injection hh2 with _ h3 _
      exact he h3
/-- which flow a ref needs at once. -/
def ndOne (ins : List S84) (fls : List S51) (r : Rf) : Option Int := match fnd ins fls r.1 with
  | some th => if 0 ≤ th.2.2.2 ∧ r.2 = 0 then some th.2.2.2 else none
  | none => none
def ndL (ins : List S84) (fls : List S51) (l : List Rf) : List Int := l.filterMap (ndOne ins fls)
def ndRow (ins : List S84) (fls : List S51) (x : S49) : List Int := ndL ins fls (refL x)
theorem ndL_snoc (ins : List S84) (fls : List S51) (l : List Rf) (r : Rf) : ndL ins fls (l ++ [r]) = ndL ins fls l ++ (ndOne ins fls r).toList := by
  unfold ndL
  rw [List.filterMap_append]
  cases h : ndOne ins fls r <;> simp [h]
def bodyAt (fls : List S51) (m : Int) : S49 := (fls.getD m.toNat z51).f4
/-- the flows that each one needs at once, rising; of those ahead of k. -/
def needK (ins : List S84) (fls : List S51) (k : Nat) (m : Int) : List Int := if 0 ≤ m ∧ m < k then srt (ndRow ins fls (bodyAt fls m)) else []
def needR (ins : List S84) (fls : List S51) : Int → List Int := needK ins fls fls.length
/-- within the round of k. -/
def needJ (ins : List S84) (fls : List S51) (k : Nat) (l : List Rf) (m : Int) : List Int := if m = k then ndL ins fls l else needK ins fls k m
theorem needJ_nil (ins : List S84) (fls : List S51) (k : Nat) (m : Int) : needJ ins fls k [] m = needK ins fls k m := by
  unfold needJ needK
  by_cases h : m = k
  · rw [if_pos h, if_neg (by omega)]; rfl
  · rw [if_neg h]
theorem needJ_snoc (ins : List S84) (fls : List S51) (k : Nat) (l : List Rf) (r : Rf) (x : Int) (hr : ndOne ins fls r = some x) (m : Int) : needJ ins fls k (l ++ [r]) m = if m = (k : Int) then needJ ins fls k l k ++ [x] else needJ ins fls k l m := by
  unfold needJ
  by_cases h : m = k
  · rw [if_pos h, if_pos h, if_pos rfl, ndL_snoc, hr]; rfl
  · rw [if_neg h, if_neg h, if_neg h]
theorem needJ_skip (ins : List S84) (fls : List S51) (k : Nat) (l : List Rf) (r : Rf) (hr : ndOne ins fls r = none) (m : Int) : needJ ins fls k (l ++ [r]) m = needJ ins fls k l m := by
  unfold needJ
  by_cases h : m = k
  · rw [if_pos h, if_pos h, ndL_snoc, hr]; simp
  · rw [if_neg h, if_neg h]
theorem needJ_all (ins : List S84) (fls : List S51) (k : Nat) (hk : k < fls.length) (m : Int) : needK ins fls (k + 1) m = if m = (k : Int) then srt (needJ ins fls k (refL fls[k].f4) k) else needJ ins fls k (refL fls[k].f4) m := by
  unfold needJ needK
  by_cases h : m = k
  · subst h
    rw [if_pos (by omega), if_pos rfl, if_pos rfl]
    unfold ndRow bodyAt
    rw [Int.toNat_natCast, List.getD_eq_getElem?_getD, List.getElem?_eq_getElem hk]
    rfl
  · rw [if_neg h, if_neg h]
    by_cases h2 : 0 ≤ m ∧ m < (k : Int)
    · rw [if_pos h2, if_pos (by omega)]
    · rw [if_neg h2, if_neg (by omega)]
theorem fl_lt {ins : List S84} {fls : List S51} {nm : ByteArray} {th : Th} (h : fnd ins fls nm = some th) : th.2.2.2 < (fls.length : Int) ∧ -1 ≤ th.2.2.2 := by
  have := List.mem_of_find?_eq_some h
  unfold things at this
  rcases List.mem_append.1 this with h1 | h1
  · obtain ⟨y, _, rfl⟩ := List.mem_map.1 h1
    simp [thI]; omega
  · obtain ⟨i, hi, rfl⟩ := List.mem_iff_getElem.1 h1
    simp only [List.length_mapIdx] at hi
    simp [thF]; omega
theorem ndL_len (ins : List S84) (fls : List S51) (l : List Rf) : (ndL ins fls l).length ≤ l.length := List.length_filterMap_le _ _
def NdPost (w : World) (R : Int → List Int) (e : Ending) (w' : World) : Prop := ∃ M, w.heap.size ≤ M ∧ e = .returned (.map (some M)) ∧ Rows (M + 1) M w' R ∧ Below w.heap.size w w'
set_option maxHeartbeats 8000000 in
set_option maxRecDepth 100000 in
theorem needs_any (w : World) (st : Int) (ins : List S84) (fls : List S51) (outs : List ByteArray) (A1 A2 A3 : Option Addr) (c1 c2 c3 : Nat)
    (hl1 : ins.length ≤ 140737488351232) (hl2 : fls.length ≤ 140737488351232) (hsm : ∀ x ∈ fls, Sm x.f4)
    (hC1 : Kd.C k84 w A1 ins.length ins) (hc1 : ins.length ≤ c1) (hC2 : Kd.C k51 w A2 fls.length fls) (hc2 : fls.length ≤ c2) :
    Calls Try.prog 24 #[.agg #[.int .i64 st, .slice A1 ins.length c1, .slice A2 fls.length c2, .slice A3 outs.length c3]] w (NdPost w (needR ins fls)) := by
  have hmm := @run_makeMap Try.prog
  have HC1 := Lib.hid hC1; have HC2 := Lib.hid hC2; have HSM := Lib.hid hsm
  obtain ⟨B, hB⟩ : ∃ B, B = w.heap.size := ⟨_, rfl⟩
  have HB := Lib.hid hB
  obtain ⟨N1, hN1⟩ : ∃ N, N = ins.length := ⟨_, rfl⟩
  obtain ⟨N2, hN2⟩ : ∃ N, N = fls.length := ⟨_, rfl⟩
  have HN1 := Lib.hid hN1; have HN2 := Lib.hid hN2
  have HFN := Lib.hid (fun (W : World) (hb : Below w.heap.size w W) (nm : ByteArray) => find_any W st ins fls outs A1 A2 A3 c1 c2 c3 nm hl1 hl2 (Kd.C_below hC1 hb) hc1 (Kd.C_below hC2 hb) hc2)
  rw [← hN1] at hl1 hc1 HFN ⊢
  rw [← hN2] at hl2 hc2 HFN ⊢
  obtain ⟨ob, hob⟩ : ∃ ob : Obj, ob = .cells #[.int .i64 st, .slice A1 N1 c1, .slice A2 N2 c2, .slice A3 outs.length c3] 26 := ⟨_, rfl⟩
  have HOB := Lib.hid hob
  have h0 := al_get w [ob, .map #[] 0] 0 ob rfl
  have hr0 : Rows (B + 2) (B + 1) (al w [ob, .map #[] 0]) (needK ins fls 0) := by
    have h1 := Rows.made (w.alloc ob)
    rw [show (w.alloc ob).heap.size = B + 1 by rw [hB]; simp] at h1
    exact h1.same (fun m => by unfold needK; rw [if_neg (by omega)])
  have hb1 := al_below w [ob, .map #[] 0]
  rw [← hB] at h0 hb1
  rw [Nat.add_zero] at h0
  obtain ⟨W1, hW1⟩ : ∃ W1, W1 = al w [ob, .map #[] 0] := ⟨_, rfl⟩
  rw [← hW1] at h0 hr0 hb1
  have HW1 : Hid (W1 = (w.alloc (.cells #[.int .i64 st, .slice A1 N1 c1, .slice A2 N2 c2, .slice A3 outs.length c3] 26)).alloc (.map #[] 0)) := Lib.hid (by rw [hW1, hob]; rfl)
  have H0 := Lib.hid h0; have HR0 := Lib.hid hr0; have HB1 := Lib.hid hb1
  clear hC1 hC2 hsm hB hN1 hN2 hob h0 hr0 hb1 hW1
  go_enter Try.func24, Try.ntmps24
  go_wp2_with fail
  rw [← HW1.out, ← HB.out]
  go_loopw [16] (fun i wr => ∃ k : Nat, k ≤ N2 ∧ i = .int .i64 k ∧ Hid (Rows (B + 2) (B + 1) wr (needK ins fls k)) ∧ Hid (Below B w wr) ∧ Hid (wr.heap[B]? = some ob)) (fun i _ => N2 - (intOf i).toNat)
  case atStart => exact ⟨0, Nat.zero_le _, rfl, HR0, HB1, H0⟩
  case round =>
    clear HR0 HB1 H0 hmm
    obtain ⟨k, hk, rfl, HR, HBe, HBx⟩ := hrel
    by_cases hlt : k < N2
    · have hix : k < fls.length := by rw [← HN2.out]; exact hlt
      have hC := Kd.C_below HC2.out (by rw [← HB.out]; exact HBe.out)
      obtain ⟨ad, A7, c7, hA, p0, p1, p2, p3, p4, p5, p6, p7, hl7, hC7⟩ := at_T51 hC (k : Int) (by omega) (by have := HN2.out; omega)
      subst hA
      rw [rdT51 fls k hix] at p0 p1 p2 p3 p4 p5 p6 p7 hl7 hC7
      simp only [Int.toNat_natCast] at p0 p1 p2 p3 p4 p5 p6 p7
      have HALL := Lib.hid (needJ_all ins fls k hix)
      have hsmk := HSM.out fls[k] (List.getElem_mem hix)
      generalize fls[k] = y at *
      have HCY := Lib.hid (refs_any y.f4 hsmk A7 c7 (wr.alloc (.cells #[.string y.f0, .int .u8 y.f1, .int .i64 y.f2, .int .i64 y.f3, .int .u8 y.f4.f0, .int .i64 y.f4.f1, .string y.f4.f2, .slice A7 y.f4.f3.length c7] 51)) hl7 (Kd.C_below hC7 ((Below.refl _ _).alloc (Nat.le_refl _) _)))
      have hM1 := HR.out.lt
      clear hsmk hl7 hC7 hC
      go_wp2_with fail
      refine HCY.out.mono ?_
      rintro e w2 ⟨A', c', rfl, hrow, hlen, hb2⟩
      obtain ⟨L, hL⟩ : ∃ L, L = refL y.f4 := ⟨_, rfl⟩
      rw [← hL] at hrow hlen HALL ⊢
      obtain ⟨m, hm⟩ : ∃ m, m = L.length := ⟨_, rfl⟩
      rw [← hm] at hrow hlen ⊢
      have HM := Lib.hid hm
      have HROW : Hid (w2.ownsRow (wr.heap.size + 1) 74 2 (.slice A' m c') m (rfCells L)) := Lib.hid (by simpa using hrow)
      have hbw : Below wr.heap.size wr w2 := ((Below.refl _ wr).alloc (Nat.le_refl _) _).trans (hb2.mono (by simp))
      have hszw : wr.heap.size + 1 ≤ w2.heap.size := by have := hb2.size; simp at this; exact this
      have HR2 : Hid (Rows (B + 2) (B + 1) w2 (needJ ins fls k [])) := Lib.hid ((HR.out.stay hbw (Nat.le_refl _)).same (needJ_nil ins fls k))
      have HBe2 : Hid (Below B w w2) := Lib.hid (HBe.out.trans (hbw.mono (by omega)))
      have HBx2 : Hid (w2.heap[B]? = some ob) := Lib.hid ((hbw.block B (by omega)).trans HBx.out)
      have HSZ2 := Lib.hid hszw
      clear hm hL hrow hb2 hbw hszw HCY HR HBe HBx p0 p1 p2 p3 p4 p5 p6 p7
      go_wp2_with fail
      obtain ⟨wo, rfl⟩ : ∃ wo : World, wo = wr := ⟨_, rfl⟩
      go_loopw [25] (fun i wr => ∃ j : Nat, j ≤ m ∧ i = .int .i64 j ∧ Hid (Rows (B + 2) (B + 1) wr (needJ ins fls k (L.take j))) ∧ Hid (Below B w wr) ∧ Hid (wr.heap[B]? = some ob) ∧ Hid (wr.ownsRow (wo.heap.size + 1) 74 2 (.slice A' m c') m (rfCells L)) ∧ Hid (wo.heap.size + 1 ≤ wr.heap.size)) (fun i _ => m - (intOf i).toNat)
      case atStart => exact ⟨0, Nat.zero_le _, rfl, HR2, HBe2, HBx2, HROW, HSZ2⟩
      case round =>
        clear HR2 HBe2 HBx2 HROW HSZ2
        obtain ⟨j, hj, rfl, HR, HBe, HBx, HROW, HSZ2⟩ := hrel
        by_cases hjm : j < m
        · have hjl : j < L.length := by rw [← HM.out]; exact hjm
          obtain ⟨ad2, hA2, r0, r1⟩ := refs_at HROW.out HM.out.symm j hjm
          subst hA2
          have HTM := Lib.hid (take_succ' L j hjl)
          generalize L[j] = rf at *
          have hBl : B < wr.heap.size := (Array.getElem?_eq_some_iff.1 HBx.out).1
          have hM1 := HR.out.lt
          obtain ⟨t0, t1, t2, t3⟩ := box4 (by rw [← HOB.out]; exact HBx.out)
          have hbn : Below wr.heap.size wr (wr.alloc (.cells #[.string rf.1, .int .i64 rf.2] 74)) := (Below.refl _ _).alloc (Nat.le_refl _) _
          have HCF := Lib.hid (HFN.out (wr.alloc (.cells #[.string rf.1, .int .i64 rf.2] 74)) (by rw [← HB.out]; exact HBe.out.trans (hbn.mono (by omega))) rf.1)
          have hkeep := fun (w3 : World) (hb : Below (wr.heap.size + 1) (wr.alloc (.cells #[.string rf.1, .int .i64 rf.2] 74)) w3) =>
            (show Rows (B + 2) (B + 1) w3 (needJ ins fls k (L.take j)) ∧ Below B w w3 ∧ w3.heap[B]? = some ob ∧ w3.ownsRow (wo.heap.size + 1) 74 2 (.slice (some ad2) m c') m (rfCells L) ∧ wo.heap.size + 1 ≤ w3.heap.size ∧ w3.cell? ⟨wr.heap.size, 1, none⟩ = some (.int .i64 rf.2) from by
              have hb3 : Below wr.heap.size wr w3 := hbn.trans (hb.mono (by omega))
              refine ⟨HR.out.stay hb3 (Nat.le_refl _), HBe.out.trans (hb3.mono (by omega)), (hb3.block B hBl).trans HBx.out, own_kept HROW.out (fun q hq => hb3.block q (own_lt HROW.out q hq)), by have := hb3.size; have := HSZ2.out; omega, ?_⟩
              have := (hb.block wr.heap.size (by omega)).trans (World.alloc_heap_new wr (.cells #[.string rf.1, .int .i64 rf.2] 74))
              simp [World.cell?, this])
          have HKP := Lib.hid hkeep
          clear hkeep hbn
          go_wp2_with fail
          refine HCF.out.mono ?_
          cases hf : fnd ins fls rf.1 with
          | none =>
            have HSK := Lib.hid (needJ_skip ins fls k (L.take j) rf (by unfold ndOne; rw [hf]))
            clear hf
            rintro e w3 ⟨rfl, hb3⟩
            obtain ⟨g1, g2, g3, g4, g5, g6⟩ := HKP.out w3 (by simpa using hb3)
            have G1 := Lib.hid (g1.same (fun m => HSK.out m)); have G2 := Lib.hid g2; have G3 := Lib.hid g3; have G4 := Lib.hid g4; have G5 := Lib.hid g5
            clear g1 g2 g3 g4 g5 hb3 HCF HKP
            unfold fndV
            go_wp2_with fail
            exact ⟨⟨j + 1, by omega, by go_num, by rw [HTM.out]; exact G1, G2, G3, G4, G5⟩, by simp [intOf]; omega⟩
          | some th =>
            have hfl := fl_lt hf
            by_cases hok : 0 ≤ th.2.2.2 ∧ rf.2 = 0
            · obtain ⟨x, hx⟩ : ∃ x, x = th.2.2.2 := ⟨_, rfl⟩
              have hone : ndOne ins fls rf = some x := by
                unfold ndOne
                rw [hf]
                show (if 0 ≤ th.2.2.2 ∧ rf.2 = 0 then some th.2.2.2 else none) = some x
                rw [if_pos hok, hx]
              have HSN := Lib.hid (needJ_snoc ins fls k (L.take j) rf x hone)
              have h2 : rf.2 = 0 := hok.2
              obtain ⟨rn, ra⟩ := rf
              dsimp only at h2
              subst h2
              obtain ⟨tn, ts, tt, tf⟩ := th
              dsimp only at hx hok hfl
              subst hx
              have hx0 := hok.1
              clear hf hok hone
              rintro e w3 ⟨rfl, hb3⟩
              obtain ⟨g1, g2, g3, g4, g5, g6⟩ := HKP.out w3 (by simpa using hb3)
              obtain ⟨hb0, f, hmp, hra⟩ := g1
              obtain ⟨v, hv, ho⟩ := hra.get (k : Int)
              have hlenJ : (needJ ins fls k (L.take j) (k : Int)).length ≤ 2000000 := by
                unfold needJ
                rw [if_pos rfl]
                have h1 := ndL_len ins fls (L.take j)
                have h2 : (L.take j).length ≤ L.length := by rw [List.length_take]; omega
                have := HM.out; omega
              have G2 := Lib.hid g2; have G3 := Lib.hid g3; have G4 := Lib.hid g4; have G5 := Lib.hid g5
              have HMP := Lib.hid hmp; have HRA := Lib.hid hra; have HV := Lib.hid hv; have HO := Lib.hid ho
              have hml := hmp.lt
              have HOK : Hid (okI (k : Int)) := Lib.hid (WalkArith.wf_i64 (by omega))
              have hvB : some (B + 1) ≠ v.ownBlock := fun e => by have := own_base ho (B + 1) e.symm; omega
              have HVB := Lib.hid hvB
              obtain ⟨Rk, hRk⟩ : ∃ Rk, Rk = needJ ins fls k (L.take j) (k : Int) := ⟨_, rfl⟩
              rw [← hRk] at hlenJ HO
              have HRK := Lib.hid hRk
              clear g2 g3 g4 g5 hb3 HCF HKP hmp hra hv ho hvB hRk r0 r1 t0 t1 t2 t3
              unfold fndV
              go_wp2_with (first | (at_lookup; refine MapG.wpList_look1 rfl _ _ rfl Try.underlying64 keyedI (zero35 _) encI_inj keyI HMP.out (k : Int) HOK.out v HV.out rfl rfl ?_) | (at_builtin; refine print_append_num (w0 := w3) (W := w3) (B + 2) rfl _ _ 35 3 .i64 8 rfl Try.underlying35 info3 (by decide) v Rk x rfl rfl HO.out (Below.refl _ _) (by omega) (by omega) ?_; intro v1 w6 hown6 hB6 hg6 hat6; have hm6 := Lib.hid (HMP.out.move (hg6.block (B + 1) HMP.out.lt HVB.out))) | (at_mapUpdate; refine MapG.wpList_upd rfl _ _ _ rfl Try.underlying64 keyedI encI_inj keyI hm6.out (k : Int) HOK.out v1 rfl rfl rfl ?_; intro w7 hm7 hg7))
              have hR7 : Rows (B + 2) (B + 1) w7 (needJ ins fls k (L.take (j + 1))) := Rows.put hb0 HMP.out HRA.out HV.out (by rw [← HRK.out]; exact hown6) hg6 hat6 hm7 hg7 (fun q => by rw [HTM.out]; exact HSN.out q)
              have hF6 : Fr (fun q => v.ownBlock = some q) w3 w6 := (Fr.refl _ w3).grown hg6 (fun q e => .inl e)
              have hF7 : Fr (fun q => v.ownBlock = some q ∨ q = B + 1) w3 w7 := (hF6.mono (fun _ => .inl)).grown hg7 (fun q e => .inl (.inr (by injection e with e; exact e.symm)))
              have hvb : ∀ q, v.ownBlock = some q → B + 2 ≤ q := fun q hq => own_base HO.out q hq
              have hBl3 : B < w3.heap.size := by omega
              have hrw : ∀ q, (Value.slice (some ad2) m c').ownBlock = some q → ¬ (v.ownBlock = some q ∨ q = B + 1) := by
                intro q hq h
                rcases h with h | h
                · exact rows_ne G4.out HO.out (by decide) q hq h
                · have h1 := own_base G4.out q hq; omega
              have k1 : ∀ q, (v.ownBlock = some q ∨ q = B + 1) → B ≤ q := fun q hq => hq.elim (fun h => by have := hvb q h; omega) (fun h => by omega)
              have k2 : ¬ (v.ownBlock = some B ∨ B = B + 1) := fun h => h.elim (fun h => by have := hvb B h; omega) (fun h => by omega)
              have k3 := hF7.size
              have k4 := G5.out
              exact ⟨⟨j + 1, by omega, by go_num, hR7, below_fr G2.out hF7 k1 (by omega), (hF7.block B hBl3 k2).trans G3.out, own_move G4.out (fun q hq => hF7.block q (own_lt G4.out q hq) (hrw q hq)), Nat.le_trans k4 k3⟩, by simp [intOf]; omega⟩
            · have HSK := Lib.hid (needJ_skip ins fls k (L.take j) rf (by
                unfold ndOne
                rw [hf]
                show (if 0 ≤ th.2.2.2 ∧ rf.2 = 0 then some th.2.2.2 else none) = none
                rw [if_neg hok]))
              clear hf
              rintro e w3 ⟨rfl, hb3⟩
              obtain ⟨g1, g2, g3, g4, g5, g6⟩ := HKP.out w3 (by simpa using hb3)
              have G1 := Lib.hid (g1.same (fun m => HSK.out m)); have G2 := Lib.hid g2; have G3 := Lib.hid g3; have G4 := Lib.hid g4; have G5 := Lib.hid g5
              obtain ⟨tn, ts, tt, tf⟩ := th
              dsimp only at hok hfl
              clear g1 g2 g3 g4 g5 hb3 HCF HKP
              unfold fndV
              by_cases h0 : 0 ≤ tf
              · have h2 : (rf.2 == 0) = false := beq_eq_false_iff_ne.2 (fun e => hok ⟨h0, e⟩)
                clear hok
                go_wp2_with fail
                exact ⟨⟨j + 1, by omega, by go_num, by rw [HTM.out]; exact G1, G2, G3, G4, G5⟩, by simp [intOf]; omega⟩
              · clear hok
                go_wp2_with fail
                exact ⟨⟨j + 1, by omega, by go_num, by rw [HTM.out]; exact G1, G2, G3, G4, G5⟩, by simp [intOf]; omega⟩
        · obtain rfl : j = m := by omega
          have HR3 : Hid (Rows (B + 2) (B + 1) wr (needJ ins fls k L)) := Lib.hid (by
            have := HR.out
            rw [show L.take j = L from List.take_of_length_le (by rw [← HM.out]; exact Nat.le_refl _)] at this
            exact this)
          obtain ⟨hb0, f, hmp, hra⟩ := HR3.out
          obtain ⟨v, hv, ho⟩ := hra.get (k : Int)
          have hlenJ : (needJ ins fls k L (k : Int)).length ≤ 2000000 := by
            unfold needJ
            rw [if_pos rfl]
            have h1 := ndL_len ins fls L
            have := HM.out; omega
          have HMP := Lib.hid hmp; have HRA := Lib.hid hra; have HV := Lib.hid hv
          have HOK : Hid (okI (k : Int)) := Lib.hid (WalkArith.wf_i64 (by omega))
          have HST := Lib.hid (sort_any (B + 2) v _ wr ho (by omega))
          have hBl : B < wr.heap.size := (Array.getElem?_eq_some_iff.1 HBx.out).1
          clear hmp hra hv ho HR HR3
          go_wp2_with (at_lookup; refine MapG.wpList_look1 rfl _ _ rfl Try.underlying64 keyedI (zero35 _) encI_inj keyI HMP.out (k : Int) HOK.out v HV.out rfl rfl ?_)
          refine HST.out.mono ?_
          rintro e w3 ⟨rfl, ho3, hF3⟩
          have HR4 : Hid (Rows (B + 2) (B + 1) w3 (needK ins fls (k + 1))) := Lib.hid (Rows.sorted hb0 HMP.out HRA.out HV.out ho3 hF3 HALL.out)
          have HBe4 : Hid (Below B w w3) := Lib.hid (below_fr HBe.out hF3 (fun q hq => by have := own_base ho3 q hq; omega) (by omega))
          have HBx4 : Hid (w3.heap[B]? = some ob) := Lib.hid ((hF3.block B hBl (fun hq => by have := own_base ho3 B hq; omega)).trans HBx.out)
          clear ho3 hF3
          go_wp2_with fail
          exact ⟨⟨k + 1, by omega, by go_num, HR4, HBe4, HBx4⟩, by simp [intOf]; omega⟩
    · obtain rfl : k = N2 := by omega
      go_wp2_with fail
      go_ret
      exact ⟨B + 1, by rw [← HB.out]; omega, rfl, by have := HR.out; rw [HN2.out] at this; exact this, by rw [← HB.out]; exact HBe.out⟩
end Go.Proofs.Ytfkggeakjgphjaa.C
