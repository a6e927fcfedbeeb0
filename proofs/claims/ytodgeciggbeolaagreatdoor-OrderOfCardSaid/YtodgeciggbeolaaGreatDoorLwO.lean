/- OrderOf: the law's walk. -/
import Derived.Test.YtodgeciggbeolaaGreatDoorTwN
import Derived.Test.YtodgeciggbeolaaGreatDoorBkIntX
import Derived.Test.YtodgeciggbeolaaGreatDoorPzO
namespace Go.Proofs.YtodgeciggbeolaaGreatDoor.B
set_option linter.unusedVariables false
set_option linter.unusedSimpArgs false
set_option linter.unusedSectionVars false
open Go.RowKit Go.Proofs.YtodgeciggbeolaaGreatDoorW.PrintWords Go.Proofs.YtodgeciggbeolaaGreatDoorW.PrintLast Go.Proofs.YtodgeciggbeolaaGreatDoorW.PrintMore
open Go.Proofs.YtodgeciggbeolaaGreatDoor.S Go.Proofs.YtodgeciggbeolaaGreatDoor
open Go.Proofs.Ord hiding W
def xs3 (vs : List Value) (l : List (List Int)) (V1 V2 : Value) (n1 n2 : Nat) : List (Value × Nat) := prs vs l l.length ++ [(V1, n1)] ++ [(V2, n2)]
theorem get3 {vs : List Value} {l : List (List Int)} {V1 V2 : Value} {n1 n2 i : Nat} {x : Value × Nat} (hlen : vs.length = l.length) (h : (xs3 vs l V1 V2 n1 n2)[i]? = some x) :
    (∃ v, i < l.length ∧ vs[i]? = some v ∧ x = (v, (at_ l i).length)) ∨ (i = l.length ∧ x = (V1, n1)) ∨ (i = l.length + 1 ∧ x = (V2, n2)) := by
  have hl := prs_len vs l l.length
  unfold xs3 at h
  rcases Nat.lt_or_ge i (l.length + 1) with h1 | h1
  · rw [List.getElem?_append_left (by simp [hl]; omega)] at h
    rcases Nat.lt_or_ge i l.length with h2 | h2
    · rw [List.getElem?_append_left (by omega)] at h
      obtain ⟨_, rfl⟩ := prs_get vs l _ _ _ h
      have hv : vs[i]? = some (vs[i]'(by omega)) := List.getElem?_eq_getElem _
      exact .inl ⟨_, h2, hv, by rw [List.getD_eq_getElem?_getD, hv]; rfl⟩
    · obtain rfl : i = l.length := by omega
      rw [List.getElem?_append_right (by omega), hl, Nat.sub_self] at h
      exact .inr (.inl ⟨rfl, by simpa using h.symm⟩)
  · have hi : i < (prs vs l l.length ++ [(V1, n1)] ++ [(V2, n2)]).length := (List.getElem?_eq_some_iff.1 h).1
    simp [hl] at hi
    obtain rfl : i = l.length + 1 := by omega
    rw [List.getElem?_append_right (by simp [hl])] at h
    simp [hl] at h
    exact .inr (.inr ⟨rfl, h.symm⟩)
theorem three_kept {wb : World} {base kb s2 s3 n1 n2 : Nat} {vs x1 x2 : List Value} {l : List (List Int)} {V1 V2 : Value}
    (hlen : vs.length = l.length) (ht : ∀ (j : Nat) (x : Value), vs[j]? = some x → Tw wb base x (at_ l j) ∧ ∀ q, x.ownBlock = some q → q < s2)
    (hsep : ∀ (i j : Nat) (x y : Value), vs[i]? = some x → vs[j]? = some y → i ≠ j → x.ownBlock ≠ y.ownBlock)
    (h1 : wb.ownsRow base 3 1 V1 n1 x1) (q1 : ∀ q, V1.ownBlock = some q → s2 ≤ q ∧ q < s3) (h2 : wb.ownsRow base 3 1 V2 n2 x2) (q2 : ∀ q, V2.ownBlock = some q → s3 ≤ q ∧ q < kb) (h3 : s2 ≤ s3) (h4 : s3 ≤ kb) :
    (∀ x, x ∈ xs3 vs l V1 V2 n1 n2 → ∃ ys, wb.ownsRow base 3 1 x.1 x.2 ys) ∧ (∀ x, x ∈ xs3 vs l V1 V2 n1 n2 → x.1.ownBlock ≠ some kb) ∧
    (∀ (i j : Nat) (x y : Value × Nat), (xs3 vs l V1 V2 n1 n2)[i]? = some x → (xs3 vs l V1 V2 n1 n2)[j]? = some y → i ≠ j → ∀ k, x.1.ownBlock = some k → y.1.ownBlock ≠ some k) := by
  refine ⟨fun x hx => ?_, fun x hx e => ?_, fun i j x y hx hy hne k hk e => ?_⟩
  · obtain ⟨i, hi⟩ := List.mem_iff_getElem?.1 hx
    rcases get3 hlen hi with ⟨v, _, hv, rfl⟩ | ⟨_, rfl⟩ | ⟨_, rfl⟩
    · exact ⟨_, (ht i v hv).1.own⟩
    · exact ⟨_, h1⟩
    · exact ⟨_, h2⟩
  · obtain ⟨i, hi⟩ := List.mem_iff_getElem?.1 hx
    rcases get3 hlen hi with ⟨v, _, hv, rfl⟩ | ⟨_, rfl⟩ | ⟨_, rfl⟩
    · have := (ht i v hv).2 kb e; omega
    · have := q1 kb e; omega
    · have := q2 kb e; omega
  · rcases get3 hlen hx with ⟨v, _, hv, rfl⟩ | ⟨hi, rfl⟩ | ⟨hi, rfl⟩ <;> rcases get3 hlen hy with ⟨v', _, hv', rfl⟩ | ⟨hj, rfl⟩ | ⟨hj, rfl⟩
    · exact hsep i j v v' hv hv' hne (by simp only at hk e; rw [hk, e])
    · have := (ht i v hv).2 k hk; have := q1 k e; omega
    · have := (ht i v hv).2 k hk; have := q2 k e; omega
    · have := (ht j v' hv').2 k e; have := q1 k hk; omega
    · omega
    · have := q1 k hk; have := q2 k e; omega
    · have := (ht j v' hv').2 k e; have := q2 k hk; omega
    · have := q1 k e; have := q2 k hk; omega
    · omega
def Done (w : World) (e : Ending) (w' : World) : Prop := e = .returned (.bool true) ∧ Below w.heap.size w w'
set_option maxHeartbeats 4000000 in
set_option maxRecDepth 100000 in
theorem law_great (k : Nat) (A0 : Option Addr) (c0 : Nat) (l : List (List Int)) (w : World) (hr : Kd.C (Kd.slice 3 (Kd.int .i64)) w A0 l.length l) (hc : l.length ≤ c0) (h : V.belfrylaw13_great.f k l = some true) :
    Calls Tryz.prog 3 #[.slice A0 l.length c0] w (Done w) := by
  go_enter Tryz.func3, Tryz.ntmps3
  go_wp2_with fail
  refine (V.belfrylaw13_great.calls k A0 c0 l true _ hr hc h).mono ?_
  rintro e w1 ⟨rfl, hd⟩
  have HB := Lib.hid hd.below
  clear hd
  go_wp2_with fail
  go_ret
  exact ⟨rfl, HB.out⟩
set_option maxHeartbeats 8000000 in
set_option maxRecDepth 100000 in
theorem law_small (k : Nat) (A0 : Option Addr) (c0 : Nat) (l : List (List Int)) (w : World) (hr : Kd.C (Kd.slice 3 (Kd.int .i64)) w A0 l.length l) (hc : l.length ≤ c0) (h : V.belfrylaw13_great.f k l = some false) (hn : l.length ≤ 200) (hs : ∀ k, (at_ l k).length ≤ 20000)
    (hf : V.belfryref13_Of.f k l = some (Ord.of l)) (hsm : V.belfrylaw01_SameInts.f k (Ord.of l).1 (Ord.of l).1 = some true) (ho : (Ord.of l).1.length ≤ 1000000) :
    Calls Tryz.prog 3 #[.slice A0 l.length c0] w (Done w) := by
  have HR := Lib.hid hr; have HG := Lib.hid h; have HS := Lib.hid hs; have HF := Lib.hid hf; have HM := Lib.hid hsm
  clear hr h hs hf hsm
  obtain ⟨r1, r2, hr12⟩ : ∃ r1 r2, Ord.of l = (r1, r2) := ⟨_, _, rfl⟩
  have HR12 := Lib.hid hr12
  clear hr12
  go_enter Tryz.func3, Tryz.ntmps3
  go_wp2_with fail
  refine (V.belfrylaw13_great.calls k A0 c0 l false _ HR.out hc HG.out).mono ?_
  rintro e w1 ⟨rfl, hd⟩
  have HB1 := Lib.hid hd.below
  clear hd
  go_wp2_with fail
  refine (twin_lists A0 c0 l w1 (Kd.C_below HR.out HB1.out) (by omega) HS.out).mono ?_
  rintro e w2 ⟨v, vs, rfl, ht, hb2⟩
  obtain ⟨T, tc, hv⟩ := own_slice ht.row
  rw [ht.len] at hv
  subst hv
  have HT := Lib.hid ht; have HB2 := Lib.hid hb2
  clear ht hb2
  go_wp2_with fail
  refine (of_walk T tc l w2 HT.out.C.2.2 (by omega) HS.out).mono ?_
  rintro e w3 ⟨V1, rfl, ho1, hb3⟩
  rw [HR12.out] at ho1 ⊢
  obtain ⟨A1, c1, hv1⟩ := own_slice ho1
  subst hv1
  have HO1 := Lib.hid ho1; have HB3 := Lib.hid hb3
  clear ho1 hb3
  go_wp2_with fail
  refine (of_walk T tc l w3 (Kd.C_below HT.out.C.2.2 HB3.out) (by omega) HS.out).mono ?_
  rintro e w4 ⟨V2, rfl, ho2, hb4⟩
  rw [HR12.out] at ho2 ⊢
  obtain ⟨A2, c2, hv2⟩ := own_slice ho2
  subst hv2
  have HO2 := Lib.hid ho2; have HB4 := Lib.hid hb4
  clear ho2 hb4
  have hC4 : Kd.C (Kd.slice 3 (Kd.int .i64)) w4 A0 l.length l := Kd.C_below (Kd.C_below (Kd.C_below (Kd.C_below HR.out HB1.out) HB2.out) HB3.out) HB4.out
  have HC4 := Lib.hid hC4
  clear hC4
  go_wp2_with fail
  refine (V.belfryref13_Of.calls k A0 c0 l r1 r2 w4 HC4.out hc (by rw [HF.out, HR12.out])).mono ?_
  rintro e w5 ⟨V3, rfl, hR3, hb5⟩
  obtain ⟨A3, c3, rfl, hc3, hC3⟩ := Kd.R_reads hR3
  have HC3 := Lib.hid hC3; have HB5 := Lib.hid hb5
  clear hR3 hb5 hC3
  obtain ⟨hn1, hC1⟩ : r1.length ≤ c1 ∧ Kd.C (Kd.int .i64) w3 A1 r1.length r1 := by
    obtain ⟨A, c, he, hl, hC⟩ := Kd.R_reads (Kd.R_of_own (enc := Value.int .i64) (h1 := fun _ => rfl) (e := 3) (ok := fun _ => True) HO1.out (fun _ _ => trivial))
    injection he with e1 _ e3
    subst e1; subst e3
    exact ⟨hl, hC⟩
  obtain ⟨hn2, hC2⟩ : r1.length ≤ c2 ∧ Kd.C (Kd.int .i64) w4 A2 r1.length r1 := by
    obtain ⟨A, c, he, hl, hC⟩ := Kd.R_reads (Kd.R_of_own (enc := Value.int .i64) (h1 := fun _ => rfl) (e := 3) (ok := fun _ => True) HO2.out (fun _ _ => trivial))
    injection he with e1 _ e3
    subst e1; subst e3
    exact ⟨hl, hC⟩
  have HC1 := Lib.hid hC1; have HC2 := Lib.hid hC2
  clear hC1 hC2
  have HSM : Hid (V.belfrylaw01_SameInts.f k r1 r1 = some true) := Lib.hid (by have := HM.out; rw [HR12.out] at this; exact this)
  go_wp2_with fail
  refine (V.belfrylaw01_SameInts.calls k A1 c1 r1 A3 c3 r1 true _ (Kd.C_below (Kd.C_below HC1.out HB4.out) HB5.out) hn1 HC3.out hc3 HSM.out).mono ?_
  rintro e w6 ⟨rfl, hd6⟩
  have HB6 : Hid (Below w5.heap.size w5 w6) := Lib.hid hd6.below
  clear hd6
  go_wp2_with fail
  refine (V.belfrylaw01_SameInts.calls k A2 c2 r1 A3 c3 r1 true _ (Kd.C_below (Kd.C_below HC2.out HB5.out) HB6.out) hn2 (Kd.C_below HC3.out HB6.out) hc3 HSM.out).mono ?_
  rintro e w7 ⟨rfl, hd7⟩
  have HB7 : Hid (Below w6.heap.size w6 w7) := Lib.hid hd7.below
  clear hd7
  have z1 := HB1.out.size; have z2 := HB2.out.size; have z3 := HB3.out.size; have z4 := HB4.out.size; have z5 := HB5.out.size; have z6 := HB6.out.size; have z7 := HB7.out.size
  have HB27 : Hid (Below w2.heap.size w2 w7) := Lib.hid ((((HB3.out.trans (HB4.out.mono z3)).trans (HB5.out.mono (by omega))).trans (HB6.out.mono (by omega))).trans (HB7.out.mono (by omega)))
  have HT7 := Lib.hid (HT.out.below HB27.out)
  have HC7 := Lib.hid (Kd.C_below (Kd.C_below (Kd.C_below HC4.out HB5.out) HB6.out) HB7.out)
  go_wp2_with fail
  refine (left_lists T tc A0 c0 l vs w1.heap.size w7 HT7.out HC7.out (by omega) HS.out).mono ?_
  rintro e w8 ⟨rfl, hb8⟩
  have HB8 := Lib.hid hb8
  clear hb8
  go_wp2_with fail
  obtain ⟨wb, hwb⟩ : ∃ wb, wb = w8.alloc (.cells noLists 49) := ⟨_, rfl⟩
  have z8 := HB8.out.size
  have hbs : wb.heap.size = w8.heap.size + 1 := by rw [hwb]; simp
  have hbk : wb.heap[w8.heap.size]? = some (.cells noLists 49 (0, 0)) := by rw [hwb]; exact heap_alloc_new w8 _
  have hB1b : Below w1.heap.size w1 wb := by
    rw [hwb]
    exact (((HB2.out.trans (HB27.out.mono z2)).trans (HB8.out.mono (by omega)))).alloc (by omega) _
  have hB0 : Below w.heap.size w wb := HB1.out.trans (hB1b.mono z1)
  have hK0 : Kp wb wb w.heap.size w8.heap.size [] := Kp.start hbk (by omega)
  have hB2b : Below w2.heap.size w2 wb := by
    rw [hwb]
    exact (HB27.out.trans (HB8.out.mono (by omega))).alloc (by omega) _
  have hTb : TwL wb w1.heap.size (.slice T l.length tc) vs l := HT.out.below hB2b
  have hf3 : ∀ q, q < w3.heap.size → wb.heap[q]? = w3.heap[q]? := by
    intro q hq
    rw [hwb, Below.heap_alloc w8 _ q (by omega), HB8.out.block q (by omega), HB7.out.block q (by omega), HB6.out.block q (by omega), HB5.out.block q (by omega), HB4.out.block q (by omega)]
  have hf4 : ∀ q, q < w4.heap.size → wb.heap[q]? = w4.heap[q]? := by
    intro q hq
    rw [hwb, Below.heap_alloc w8 _ q (by omega), HB8.out.block q (by omega), HB7.out.block q (by omega), HB6.out.block q (by omega), HB5.out.block q (by omega)]
  have h3k := three_kept (wb := wb) (base := w.heap.size) (kb := w8.heap.size) (s2 := w2.heap.size) (s3 := w3.heap.size) (V1 := .slice A1 r1.length c1) (V2 := .slice A2 r1.length c2) (n1 := r1.length) (n2 := r1.length) hTb.len
    (fun j x hx => ⟨(hTb.each j x hx).lower z1, fun q hq => by obtain ⟨p, e, hp, _⟩ := (HT.out.each j x hx).some; rw [e] at hq; injection hq with hq; omega⟩) hTb.sep
    (own_kept (own_weaken HO1.out (by omega)) (fun q hq => hf3 q (own_lt HO1.out q hq))) (fun q hq => ⟨own_base HO1.out q hq, own_lt HO1.out q hq⟩)
    (own_kept (own_weaken HO2.out (by omega)) (fun q hq => hf4 q (own_lt HO2.out q hq))) (fun q hq => ⟨own_base HO2.out q hq, by have := own_lt HO2.out q hq; omega⟩) (by omega) (by omega)
  have hTk : (Value.slice T l.length tc).ownBlock ≠ some w8.heap.size := fun e => by have := own_lt HT.out.row _ e; omega
  have HK0 := Lib.hid hK0; have H0 := Lib.hid hB0; have HTB := Lib.hid hTb; have H3 := Lib.hid h3k; have HTK := Lib.hid hTk
  have hkb : w8.heap.size < wb.heap.size := by omega
  have hbase : w.heap.size ≤ wb.heap.size := by omega
  clear hK0 hB0 hTb h3k hTk hf3 hf4 hbk hbs hB1b hB2b z1 z2 z3 z4 z5 z6 z7 z8
  show Calls Tryz.prog 10 _ (w8.alloc (.cells noLists 49)) _
  rw [← hwb]
  clear hwb
  refine (lists_walk T tc w.heap.size w1.heap.size w8.heap.size l vs wb HK0.out HTB.out HTK.out (by omega) HS.out).mono ?_
  rintro e w9 ⟨rfl, hp9⟩
  have HP9 := Lib.hid hp9
  clear hp9
  have hpl := prs_len vs l l.length
  go_wp2_with fail
  refine (HP9.out.wrap (by omega) A1 r1.length c1).mono ?_
  rintro e w10 ⟨rfl, hp10⟩
  have HP10 := Lib.hid hp10
  clear hp10
  have hpl2 : (prs vs l l.length ++ [(Value.slice A1 r1.length c1, r1.length)]).length = l.length + 1 := by simp [hpl]
  have HPL2 := Lib.hid hpl2
  clear hpl2 hpl
  go_wp2_with fail
  refine (HP10.out.wrap (by rw [HPL2.out]; omega) A2 r1.length c2).mono ?_
  rintro e w11 ⟨rfl, hp11⟩
  have HP11 : Hid (Kp wb w11 w.heap.size w8.heap.size (xs3 vs l (.slice A1 r1.length c1) (.slice A2 r1.length c2) r1.length r1.length)) := Lib.hid hp11
  clear hp11
  go_wp2_with fail
  have hxl : (xs3 vs l (.slice A1 r1.length c1) (.slice A2 r1.length c2) r1.length r1.length).length = l.length + 2 := by unfold xs3; rw [List.length_append, HPL2.out]; rfl
  refine (HP11.out.apart hkb H3.out.1 H3.out.2.1 H3.out.2.2 (by omega) (by omega) (fun x hx => ?_)).mono ?_
  · obtain ⟨i, hi⟩ := List.mem_iff_getElem?.1 hx
    rcases get3 HTB.out.len hi with ⟨v, _, hv, rfl⟩ | ⟨_, rfl⟩ | ⟨_, rfl⟩
    · have := HS.out i; show (at_ l i).length ≤ _; omega
    · rw [HR12.out] at ho; exact ho
    · rw [HR12.out] at ho; exact ho
  · rintro e w12 ⟨rfl, hb12⟩
    have HB12 := Lib.hid hb12
    clear hb12
    go_wp2_with fail
    go_ret
    exact ⟨rfl, (H0.out.trans HP11.out.bel).trans HB12.out⟩
end Go.Proofs.YtodgeciggbeolaaGreatDoor.B
