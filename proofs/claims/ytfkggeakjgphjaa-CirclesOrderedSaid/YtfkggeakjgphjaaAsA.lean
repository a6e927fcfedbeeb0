/- names.asked: the iterator over all names that are asked for. -/
import Derived.Test.YtfkggeakjgphjaaThA
import Derived.Test.YtfkggeakjgphjaaRfA
namespace Go.Proofs.Ytfkggeakjgphjaa.C
set_option linter.unusedVariables false
set_option linter.unusedSimpArgs false
set_option linter.unusedSectionVars false
open Go.RowKit Go.Shelf Go.Proofs.YtfkggeakjgphjaaW.PrintWords Go.Proofs.YtfkggeakjgphjaaW.PrintLast Go.Proofs.YtfkggeakjgphjaaW.PrintMore
open Go.Proofs.RngT
open Go.Proofs.Ytfkggeakjgphjaa.B (wp_append_two own_kept)
attribute [local go_sem] Oper.semAt_some

/-- what a body asks for. -/
def refL (x : S49) : List Rf := go1 x 0 []
/-- a body that is not too great. -/
def Sm (x : S49) : Prop := WfE x ∧ ∃ m, Nodes x m ∧ m ≤ 2000000
def askF (fls : List S51) : List ByteArray := fls.flatMap fun f => (refL f.f4).map fun r => r.1
def asked (fls : List S51) (outs : List ByteArray) : List ByteArray := askF fls ++ outs
theorem askF_take (fls : List S51) (k : Nat) (h : k < fls.length) : askF (fls.take (k + 1)) = askF (fls.take k) ++ (refL fls[k].f4).map fun r => r.1 := by
  rw [List.take_succ_eq_append_getElem h]
  simp only [askF, List.flatMap_append, List.flatMap_cons, List.flatMap_nil, List.append_nil]
theorem asked_split (fls : List S51) (outs : List ByteArray) (k : Nat) (h : k < fls.length) : asked fls outs = askF (fls.take k) ++ (((refL fls[k].f4).map fun r => r.1) ++ (askF (fls.drop (k + 1)) ++ outs)) := by
  have e : fls = fls.take k ++ fls[k] :: fls.drop (k + 1) := by rw [List.getElem_cons_drop]; exact (List.take_append_drop k fls).symm
  have e2 : askF fls = askF (fls.take k ++ fls[k] :: fls.drop (k + 1)) := congrArg askF e
  unfold asked
  rw [e2]
  simp only [askF, List.flatMap_append, List.flatMap_cons, List.append_assoc]
theorem asked_pre (fls : List S51) (outs : List ByteArray) (k j : Nat) (h : k < fls.length) : askF (fls.take k) ++ ((refL fls[k].f4).take j).map (fun r => r.1) <+: asked fls outs := by
  rw [asked_split fls outs k h]
  refine (List.prefix_append_right_inj _).2 ?_
  rw [List.map_take]
  exact (List.take_prefix _ _).trans (List.prefix_append _ _)
theorem asked_pre2 (fls : List S51) (outs : List ByteArray) (j : Nat) : askF fls ++ outs.take j <+: asked fls outs := (List.prefix_append_right_inj _).2 (List.take_prefix _ _)
theorem take_map_succ (l : List Rf) (j : Nat) (h : j < l.length) : (l.take (j + 1)).map (fun r => r.1) = (l.take j).map (fun r => r.1) ++ [l[j].1] := by
  rw [List.take_succ_eq_append_getElem h, List.map_append]; rfl
theorem take_succ' {α : Type} (l : List α) (j : Nat) (h : j < l.length) : l.take (j + 1) = l.take j ++ [l[j]] := List.take_succ_eq_append_getElem h
def toR (r : Rf) : S74 := ⟨r.1, r.2⟩
theorem rfReps (w : World) (l : List Rf) : Reps (k74.K w) 2 (l.map toR) (rfCells l) := by
  refine ⟨by induction l with
    | nil => rfl
    | cons r l ih => simp only [rfCells, List.flatMap_cons, List.length_append, List.map_cons, List.length_cons, List.length_nil] at ih ⊢; omega, ?_⟩
  induction l with
  | nil => intro j p h; simp at h
  | cons r l ih =>
    intro j p h
    cases j with
    | zero =>
      simp only [List.map_cons, List.getElem?_cons_zero, Option.some.injEq] at h
      subst h
      exact k74_mk w (toR r)
    | succ j =>
      simp only [List.map_cons, List.getElem?_cons_succ] at h
      have := ih j p h
      rw [show (j + 1) * 2 = j * 2 + 1 + 1 by omega]
      exact this
mutual
theorem go1_len : ∀ (x : S49) (m : Nat) (ago : Int) (l : List Rf), Nodes x m → (go1 x ago l).length ≤ l.length + m
  | ⟨o, n, s, xs⟩, m, ago, l, h => by
    obtain ⟨ns, h1, h2, rfl⟩ : ∃ ns : List Nat, ns.length = xs.length ∧ (∀ (i : Nat) (y : S49) (m : Nat), xs[i]? = some y → ns[i]? = some m → Nodes y m) ∧ m = 1 + ns.sum := by
      cases h with
      | mk o n s xs ns h1 h2 => exact ⟨ns, h1, h2, rfl⟩
    rw [go1]
    have h3 := goL_len xs ns (if o = 19 then wrap64 (ago + 1) else ago) (if o = 3 then addR (s, ago) l else l) h1 h2
    have h4 : (if o = 3 then addR (s, ago) l else l).length ≤ l.length + 1 := by
      unfold addR
      split
      · split <;> simp
      · omega
    omega
theorem goL_len : ∀ (xs : List S49) (ns : List Nat) (ago : Int) (l : List Rf), ns.length = xs.length → (∀ (i : Nat) (y : S49) (m : Nat), xs[i]? = some y → ns[i]? = some m → Nodes y m) → (goL xs ago l).length ≤ l.length + ns.sum
  | [], ns, ago, l, _, _ => by rw [goL]; omega
  | x :: xs, ns, ago, l, h, hn => by
    match ns, h, hn with
    | k :: ns, h, hn =>
      rw [goL, List.sum_cons]
      have h1 := go1_len x k ago l (hn 0 x k rfl rfl)
      have h2 := goL_len xs ns ago (go1 x ago l) (by simpa using h) (fun i y m hy hm => hn (i + 1) y m hy hm)
      omega
end
mutual
theorem go1_size : ∀ (x : S49) (ago : Int) (l : List Rf), WfE x → (∀ r ∈ l, r.1.size ≤ 140737488351232) → ∀ r ∈ go1 x ago l, r.1.size ≤ 140737488351232
  | ⟨o, n, s, xs⟩, ago, l, h, hl => by
    rw [go1]
    refine goL_size xs _ _ h.kids ?_
    have hs := h.text
    intro r hr
    split at hr
    · unfold addR at hr
      split at hr
      · exact hl r hr
      · rcases List.mem_append.1 hr with h | h
        · exact hl r h
        · rw [List.mem_singleton] at h; rw [h]; exact hs
    · exact hl r hr
theorem goL_size : ∀ (xs : List S49) (ago : Int) (l : List Rf), (∀ y ∈ xs, WfE y) → (∀ r ∈ l, r.1.size ≤ 140737488351232) → ∀ r ∈ goL xs ago l, r.1.size ≤ 140737488351232
  | [], ago, l, _, hl => by rw [goL]; exact hl
  | x :: xs, ago, l, h, hl => by
    rw [goL]
    exact goL_size xs ago _ (fun y hy => h y (List.mem_cons_of_mem _ hy)) (go1_size x ago l (h x List.mem_cons_self) hl)
end
/-- a row of refs at hand reads. -/
theorem refs_at {w : World} {base n c : Nat} {A : Option Addr} {l : List Rf} (h : w.ownsRow base 74 2 (.slice A n c) n (rfCells l)) (hn : l.length = n) (j : Nat) (hj : j < n) :
    ∃ ad, A = some ad ∧ w.cell? (ad.add (j * 2)) = some (.string (l[j]'(by omega)).1) ∧ w.cell? ⟨(ad.add (j * 2)).block, (ad.add (j * 2)).off + 1, none⟩ = some (.int .i64 (l[j]'(by omega)).2) := by
  obtain ⟨A', c', he, hr⟩ := own_reads_row h (rfReps w l) (by rw [List.length_map]; exact hn)
  injection he with e1 e2 e3
  subst e1
  obtain ⟨ad, hA, p0, p1⟩ := at_T74 (show Kd.C k74 w A n (l.map toR) from hr) (j : Int) (by omega) (by omega)
  have e : rd_T74 (l.map toR) (j : Int) = toR (l[j]'(by omega)) := by
    show (l.map toR).getD j z74 = _
    rw [List.getD_eq_getElem?_getD, List.getElem?_map, List.getElem?_eq_getElem (by omega)]; rfl
  rw [e] at p0 p1
  simp only [Int.toNat_natCast] at p0 p1
  exact ⟨ad, hA, p0, p1⟩
theorem refs_any (x : S49) (hS : Sm x) (A : Option Addr) (c : Nat) (w : World) (hc : x.f3.length ≤ c) (hC : Kd.C k49 w A x.f3.length x.f3) :
    Calls Try.prog 28 #[.agg #[.int .u8 x.f0, .int .i64 x.f1, .string x.f2, .slice A x.f3.length c]] w fun e w' => ∃ A' c', e = .returned (.slice A' (refL x).length c') ∧ w'.ownsRow w.heap.size 74 2 (.slice A' (refL x).length c') (refL x).length (rfCells (refL x)) ∧ (refL x).length ≤ 2000000 ∧ Below w.heap.size w w' := by
  obtain ⟨hwf, m, hm, hle⟩ := hS
  refine (refs_walk x hwf m hm hle A c w hc hC).mono ?_
  rintro e w' ⟨v, rfl, h1, h2⟩
  have hl := go1_len x m 0 [] hm
  simp only [List.length_nil, Nat.zero_add] at hl
  have h0 := h1.2
  rcases h0 with ⟨rfl, h0⟩ | ⟨g, cap, cur, rfl, _⟩
  · refine ⟨none, 0, by show _ = Ending.returned (.slice none (go1 x 0 []).length 0); rw [h0], ?_, Nat.le_trans hl hle, h2⟩
    have e : (refL x).length = 0 := h0
    show w'.ownsRow w.heap.size 74 2 (.slice none (refL x).length 0) (refL x).length (rfCells (refL x))
    rw [e]
    have e2 : (go1 x 0 []).length = 0 := h0
    rw [e2] at h1
    exact h1
  · exact ⟨_, _, rfl, h1, Nat.le_trans hl hle, h2⟩

set_option maxHeartbeats 4000000 in
set_option maxRecDepth 100000 in
theorem asked1_in (n : Nat) (hn : 1 ≤ n) (T : Nat → Prop) (l B n0 : Nat) (w0 : World) (st : Int) (ins : List S84) (fls : List S51) (outs : List ByteArray) (A1 A2 A3 : Option Addr) (c1 c2 c3 : Nat)
    (hl2 : fls.length ≤ 140737488351232) (hl3 : outs.length ≤ 140737488351232) (hsm : ∀ x ∈ fls, Sm x.f4)
    (hC2 : Kd.C k51 w0 A2 fls.length fls) (hc2 : fls.length ≤ c2) (hC3 : Kd.C Kd.string w0 A3 outs.length outs) (hc3 : outs.length ≤ c3)
    (J Jx : List ByteArray → World → Prop) (W : World) (hw0 : Below w0.heap.size w0 W) (hnB : n0 ≤ B) (hn0 : n0 = w0.heap.size) (hBW : B < W.heap.size) (hTn : ∀ j, T j → n0 ≤ j ∧ j < W.heap.size) (hTB : ¬ T B) (hlB : l ≠ B) (hln : n0 ≤ l) (hlW : l < W.heap.size)
    (hJ : Abd W.heap.size J) (hJx : Abd W.heap.size Jx)
    (hY : ∀ pre x W1, J pre W1 → pre ++ [x] <+: asked fls outs → YieldAt Fence.wide (n - 1) Try.prog l #[.string x] W1 fun e W' =>
      (e = .returned (.bool true) ∧ J (pre ++ [x]) W' ∧ Fr (fun j => T j ∨ j = l) W1 W') ∨ (e = .returned (.bool false) ∧ Jx (pre ++ [x]) W'))
    (hbox : W.heap[B]? = some (.cells #[.int .i64 st, .slice A1 ins.length c1, .slice A2 fls.length c2, .slice A3 outs.length c3] 26 (0, 0))) (h0 : J [] W) :
    CallsIn Fence.wide n Try.prog 45 #[.func (.yield l) #[] #[], .pointer (some ⟨B, 0, none⟩)] W fun e W' => (∃ v, e = .returned v) ∧
      ((∃ xs, xs = asked fls outs ∧ J xs W') ∨ (∃ pre, pre <+: asked fls outs ∧ Jx pre W')) := by
  have HC2 := Lib.hid hC2; have HC3 := Lib.hid hC3; have HJ := Lib.hid hJ; have HY := Lib.hid hY; have HBOX := Lib.hid hbox; have HN0 := Lib.hid hn0; have HT := Lib.hid hTn; have HB0 := Lib.hid hw0; have HSM := Lib.hid hsm
  have hTB2 : ¬ (T B ∨ B = l) := fun h => h.elim hTB (fun e => hlB e.symm)
  have HTB := Lib.hid hTB2
  obtain ⟨N2, hN2⟩ : ∃ N, N = fls.length := ⟨_, rfl⟩
  obtain ⟨N3, hN3⟩ : ∃ N, N = outs.length := ⟨_, rfl⟩
  have HN2 := Lib.hid hN2; have HN3 := Lib.hid hN3
  obtain ⟨q0, q1, q2, q3⟩ := box4 hbox
  rw [← hN2] at hl2 hc2 q2 HBOX
  rw [← hN3] at hl3 hc3 q3 HBOX
  have hfr : ∀ wr W3, Below n0 w0 wr → Fr (fun j => T j ∨ j = l) wr W3 → Below n0 w0 W3 := fun wr W3 h1 h2 => by
    have := h1.size
    refine below_fr h1 h2 (fun j hj => ?_) (by have := HN0.out; omega)
    rcases hj with hj | hj
    · exact (HT.out j hj).1
    · omega
  have hfar : ∀ wr W3 k, W.heap.size ≤ k → k < wr.heap.size → Fr (fun j => T j ∨ j = l) wr W3 → W3.heap[k]? = wr.heap[k]? := fun wr W3 k h1 h2 h3 =>
    h3.block k h2 (fun h => by
      rcases h with h | h
      · have := (HT.out k h).2; omega
      · omega)
  have HFR := Lib.hid hfr; have HFAR := Lib.hid hfar
  clear hC2 hC3 hJ hY hbox hTn hTB hfr hfar hN2 hN3 hw0 hn0 hTB2 hsm
  refine callsIn_of_wp Try.func45 rfl trivial ?_ rfl
  simp only [Try.ntmps45, List.size_toArray, List.length_cons, List.length_nil, Nat.reduceAdd, Nat.reduceSub, Array.replicate_succ, Array.replicate_zero, List.push_toArray, List.append_toArray, List.nil_append, List.cons_append]
  gi_wp2
  gi_loopw [12] (fun i wr => ∃ k : Nat, k ≤ N2 ∧ i = .int .i64 k ∧ Hid (J (askF (fls.take k)) wr) ∧ Hid (Below n0 w0 wr) ∧ Hid (W.heap.size ≤ wr.heap.size) ∧ Hid (wr.heap[B]? = some (.cells #[.int .i64 st, .slice A1 ins.length c1, .slice A2 N2 c2, .slice A3 N3 c3] 26 (0, 0)))) (fun i _ => N2 - (intOf i).toNat)
  case atStart => exact ⟨0, Nat.zero_le _, rfl, Lib.hid (by simpa [askF] using h0), Lib.hid (by have := HB0.out; rw [HN0.out]; exact this), Lib.hid (Nat.le_refl _), HBOX⟩
  case round =>
    clear q0 q1 q2 q3
    obtain ⟨k, hk, rfl, HJs, HBe, HSz, HBx⟩ := hrel
    by_cases hlt : k < N2
    · have hix : k < fls.length := by rw [← HN2.out]; exact hlt
      have hC := Kd.C_below HC2.out (by have := HBe.out; rw [HN0.out] at this; exact this)
      obtain ⟨ad, A7, c7, hA, p0, p1, p2, p3, p4, p5, p6, p7, hl7, hC7⟩ := at_T51 hC (k : Int) (by omega) (by have := HN2.out; omega)
      subst hA
      rw [rdT51 fls k hix] at p0 p1 p2 p3 p4 p5 p6 p7 hl7 hC7
      simp only [Int.toNat_natCast] at p0 p1 p2 p3 p4 p5 p6 p7
      have HTK := Lib.hid (askF_take fls k hix)
      have HPR := Lib.hid (fun j => asked_pre fls outs k j hix)
      have hsmk := HSM.out fls[k] (List.getElem_mem hix)
      generalize fls[k] = y at *
      have HCY := Lib.hid (refs_any y.f4 hsmk A7 c7 (wr.alloc (.cells #[.string y.f0, .int .u8 y.f1, .int .i64 y.f2, .int .i64 y.f3, .int .u8 y.f4.f0, .int .i64 y.f4.f1, .string y.f4.f2, .slice A7 y.f4.f3.length c7] 51)) hl7 (Kd.C_below hC7 ((Below.refl _ _).alloc (Nat.le_refl _) _)))
      clear hsmk hl7 hC7 hC
      gi_wp2_with (refine ⟨trivial, ?_⟩; gi_at_call 28; refine (callsIn_wide.2 HCY.out).mono ?_; rintro e w2 ⟨A', c', rfl, hrow, hlen, hb2⟩)
      obtain ⟨M, hM⟩ : ∃ M, M = (refL y.f4).length := ⟨_, rfl⟩
      rw [← hM] at hrow hlen
      try rw [← hM]
      have HM := Lib.hid hM
      have hsz2 : Hid (wr.heap.size + 1 ≤ w2.heap.size) := Lib.hid (by have := hb2.size; simp at this; exact this)
      have HROW : Hid (w2.ownsRow (wr.heap.size + 1) 74 2 (.slice A' M c') M (rfCells (refL y.f4))) := Lib.hid (by simpa using hrow)
      have hbw : Below wr.heap.size wr w2 := ((Below.refl _ wr).alloc (Nat.le_refl _) _).trans (hb2.mono (by simp))
      have HJ2 : Hid (J (askF (fls.take k)) w2) := Lib.hid (HJ.out _ _ _ HJs.out (hbw.mono HSz.out))
      have HBe2 : Hid (Below n0 w0 w2) := Lib.hid (HBe.out.trans (hbw.mono (by have := HSz.out; omega)))
      have HBx2 : Hid (w2.heap[B]? = some (.cells #[.int .i64 st, .slice A1 ins.length c1, .slice (some ad) N2 c2, .slice A3 N3 c3] 26 (0, 0))) := Lib.hid ((hbw.block B (by have := HSz.out; omega)).trans HBx.out)
      clear hM hrow hb2 hbw HCY HJs HBe HBx p0 p1 p2 p3 p4 p5 p6 p7
      gi_wp2
      obtain ⟨wo, rfl⟩ : ∃ wo : World, wo = wr := ⟨_, rfl⟩
      gi_loopw [20] (fun i wr => ∃ j : Nat, j ≤ M ∧ i = .int .i64 j ∧ Hid (J (askF (fls.take k) ++ ((refL y.f4).take j).map (fun r => r.1)) wr) ∧ Hid (Below n0 w0 wr) ∧ Hid (wo.heap.size + 1 ≤ wr.heap.size) ∧ Hid (wr.heap[B]? = some (.cells #[.int .i64 st, .slice A1 ins.length c1, .slice (some ad) N2 c2, .slice A3 N3 c3] 26 (0, 0))) ∧ Hid (wr.ownsRow (wo.heap.size + 1) 74 2 (.slice A' M c') M (rfCells (refL y.f4)))) (fun i _ => M - (intOf i).toNat)
      case atStart => exact ⟨0, Nat.zero_le _, rfl, Lib.hid (by simpa using HJ2.out), HBe2, hsz2, HBx2, HROW⟩
      case round =>
        clear HJ2 HBe2 HBx2 HROW hsz2
        obtain ⟨j, hj, rfl, HJs, HBe, HSz2, HBx, HROW⟩ := hrel
        by_cases hjm : j < M
        · have hjl : j < (refL y.f4).length := by rw [← HM.out]; exact hjm
          obtain ⟨ad2, hA2, r0, r1⟩ := refs_at HROW.out HM.out.symm j hjm
          subst hA2
          have HTM := Lib.hid (take_map_succ (refL y.f4) j hjl)
          generalize (refL y.f4)[j] = rf at *
          have hpre : (askF (fls.take k) ++ ((refL y.f4).take j).map (fun r => r.1)) ++ [rf.1] <+: asked fls outs := by
            have := HPR.out (j + 1)
            rw [HTM.out, ← List.append_assoc] at this
            exact this
          obtain ⟨fn, tmps, assign, body, hy, hR⟩ := HY.out _ rf.1 (wr.alloc (.cells #[.string rf.1, .int .i64 rf.2] 74)) (HJ.out _ _ _ HJs.out (((Below.refl _ _).alloc (by have := HSz.out; have := HSz2.out; omega) _))) hpre
          have HR := Lib.hid hR
          clear hR hpre
          gi_wp2
          refine HR.out.mono ?_
          rintro e W3 (⟨rfl, hJ3, hk3⟩ | ⟨rfl, hJx3⟩)
          · have hz3 := hk3.size
            have hx3 : Hid (W3.heap[B]? = some (.cells #[.int .i64 st, .slice A1 ins.length c1, .slice (some ad) N2 c2, .slice A3 N3 c3] 26 (0, 0))) := Lib.hid ((hk3.block B (by have := HSz.out; have := HSz2.out; simp; omega) HTB.out).trans ((Below.heap_alloc _ _ _ (by have := HSz.out; have := HSz2.out; omega)).trans HBx.out))
            have HB3 : Hid (Below n0 w0 W3) := Lib.hid (HFR.out _ _ (HBe.out.alloc (by have := HSz.out; have := HSz2.out; omega) _) hk3)
            have HJ3 := Lib.hid hJ3
            have HS3 : Hid (wo.heap.size + 1 ≤ W3.heap.size) := Lib.hid (by have := HSz2.out; simp at hz3; omega)
            have HR3 : Hid (W3.ownsRow (wo.heap.size + 1) 74 2 (.slice (some ad2) M c') M (rfCells (refL y.f4))) := Lib.hid (own_kept HROW.out (fun q hq => by
              have h1 := own_lt HROW.out q hq
              have h2 := own_base HROW.out q hq
              rw [HFAR.out _ _ q (by have := HSz.out; omega) (by simp; omega) hk3]
              exact Below.heap_alloc _ _ _ h1))
            clear hJ3 hk3 hz3 r0 r1
            gi_wp2
            exact ⟨⟨j + 1, by omega, by go_num, Lib.hid (by rw [HTM.out, ← List.append_assoc]; exact HJ3.out), HB3, HS3, hx3, HR3⟩, by simp [intOf]; omega⟩
          · have HJx3 := Lib.hid hJx3
            clear hJx3 r0 r1
            gi_wp2
            refine bodyPost_ret (results_none rfl _ _ _) rfl ?_
            refine ⟨⟨_, rfl⟩, .inr ⟨_, ?_, HJx3.out⟩⟩
            have := HPR.out (j + 1)
            rw [HTM.out, ← List.append_assoc] at this
            exact this
        · obtain rfl : j = M := by omega
          have HJ4 : Hid (J (askF (fls.take (k + 1))) wr) := Lib.hid (by
            have := HJs.out
            rw [show (refL y.f4).take j = refL y.f4 from List.take_of_length_le (by rw [← HM.out]; exact Nat.le_refl _)] at this
            rw [HTK.out]; exact this)
          clear HJs
          gi_wp2
          exact ⟨⟨k + 1, by omega, by go_num, HJ4, HBe, Lib.hid (by have := HSz.out; have := HSz2.out; omega), HBx⟩, by simp [intOf]; omega⟩
    · obtain rfl : k = N2 := by omega
      obtain ⟨q0, q1, q2, q3⟩ := box4 HBx.out
      gi_wp2
      obtain ⟨wo, rfl⟩ : ∃ wo : World, wo = wr := ⟨_, rfl⟩
      gi_loopw [34] (fun i wr => ∃ j : Nat, j ≤ N3 ∧ i = .int .i64 j ∧ Hid (J (askF fls ++ outs.take j) wr) ∧ Hid (Below n0 w0 wr) ∧ Hid (W.heap.size ≤ wr.heap.size)) (fun i _ => N3 - (intOf i).toNat)
      case atStart => exact ⟨0, Nat.zero_le _, rfl, Lib.hid (by have := HJs.out; rw [HN2.out, List.take_length] at this; simpa using this), HBe, HSz⟩
      case round =>
        clear q0 q1 q2 q3 HJs HBe HSz HBx
        obtain ⟨j, hj, rfl, HJs, HBe, HSz⟩ := hrel
        by_cases hlt2 : j < N3
        · have hix : j < outs.length := by rw [← HN3.out]; exact hlt2
          have hC := Kd.C_below HC3.out (by have := HBe.out; rw [HN0.out] at this; exact this)
          obtain ⟨ad, cs, hA, _, hK, hcc⟩ := Kd.C_get hC ByteArray.empty (j : Int) (by omega) (by have := HN3.out; omega)
          subst hA
          obtain rfl : cs = [.string (outs.getD j ByteArray.empty)] := hK
          have p0 := hcc 0 _ rfl
          rw [show (j : Int).toNat * Kd.string.sz + 0 = j from Nat.mul_one j, List.getD_eq_getElem?_getD, List.getElem?_eq_getElem hix, Option.getD_some] at p0
          have htk := take_succ' outs j hix
          have hpre : (askF fls ++ outs.take j) ++ [outs[j]] <+: asked fls outs := by
            have := asked_pre2 fls outs (j + 1)
            rw [htk, ← List.append_assoc] at this
            exact this
          generalize outs[j] = y at *
          obtain ⟨fn, tmps, assign, body, hy, hR⟩ := HY.out _ y wr HJs.out hpre
          have HR := Lib.hid hR; have HTK := Lib.hid htk; have HPRE := Lib.hid hpre
          clear hR htk hpre hC hcc
          gi_wp2
          refine HR.out.mono ?_
          rintro e W3 (⟨rfl, hJ3, hk3⟩ | ⟨rfl, hJx3⟩)
          · have hz3 := hk3.size
            have HB3 : Hid (Below n0 w0 W3) := Lib.hid (HFR.out _ _ HBe.out hk3)
            have HJ3 := Lib.hid hJ3
            have HS3 : Hid (W.heap.size ≤ W3.heap.size) := Lib.hid (by have := HSz.out; omega)
            clear hJ3 hk3 hz3
            gi_wp2
            exact ⟨⟨j + 1, by omega, by go_num, Lib.hid (by rw [HTK.out, ← List.append_assoc]; exact HJ3.out), HB3, HS3⟩, by simp [intOf]; omega⟩
          · have HJx3 := Lib.hid hJx3
            clear hJx3
            gi_wp2
            refine bodyPost_ret (results_none rfl _ _ _) rfl ?_
            exact ⟨⟨_, rfl⟩, .inr ⟨_, HPRE.out, HJx3.out⟩⟩
        · obtain rfl : j = N3 := by omega
          gi_wp2
          go_end0
          exact ⟨⟨_, rfl⟩, .inl ⟨_, rfl, by have := HJs.out; rw [HN3.out, List.take_length] at this; exact this⟩⟩
end Go.Proofs.Ytfkggeakjgphjaa.C
