/- What is written is read again: all that may be, token by token. Plain Lean. -/
import Derived.Test.YtbdciibbgiphcaaDoorRtQ
namespace Go.Proofs.YtbdciibbgiphcaaDoor.V
set_option linter.unusedVariables false
set_option linter.unusedSimpArgs false
set_option linter.unusedSectionVars false
open Go.RowKit Go.Proofs.YtbdciibbgiphcaaDoorW.PrintWords Go.Proofs.YtbdciibbgiphcaaDoorW.PrintLast Go.Proofs.YtbdciibbgiphcaaDoorW.PrintMore
theorem emp_eq {s : ByteArray} (h : emp s = true) : s = ⟨#[]⟩ := by
  unfold emp at h
  rw [ByteArray.toList_eq, List.isEmpty_iff] at h
  exact ByteArray.ext (Array.toList_inj.1 h)
section
variable {nm : ByteArray → Bool} {num : ByteArray → Option (Int × Int)} {T : List S45}
theorem pfx_op {f : S83} (hf : f ∈ prefL) {a : Int} {l : List Tk} (hs : Seg T a ((f.f2, f.f3) :: l)) : pfx T a = some f := by
  have hat : (fun g : S83 => atK T a g.f2 g.f3) = fun g : S83 => decide (f.f2 = g.f2) && decide (f.f3.data.toList = g.f3.data.toList) := by
    funext g
    rw [hs.at]
    simp only [ByteArray.toList_eq]
  unfold pfx
  rw [hat]
  clear hat hs
  unfold prefL at hf ⊢
  simp only [List.mem_cons, List.not_mem_nil, or_false] at hf
  rcases hf with rfl | rfl | rfl <;> rfl
theorem pfx_no {a k : Int} {s : ByteArray} {l : List Tk} (hs : Seg T a ((k, s) :: l)) (h : ∀ g ∈ prefL, ¬ (k = g.f2 ∧ s.data.toList = g.f3.data.toList)) : pfx T a = none := by
  unfold pfx
  rw [List.find?_eq_none]
  intro g hg
  rw [hs.at, ByteArray.toList_eq, ByteArray.toList_eq, Bool.and_eq_true]
  rintro ⟨h1, h2⟩
  exact h g hg ⟨of_decide_eq_true h1, of_decide_eq_true h2⟩
theorem at_no {a k : Int} {s : ByteArray} {l : List Tk} (hs : Seg T a ((k, s) :: l)) {k' : Int} {s' : ByteArray} (h : ¬ (k = k' ∧ s.data.toList = s'.data.toList)) : atK T a k' s' = false := by
  rw [hs.at, ByteArray.toList_eq, ByteArray.toList_eq]
  by_cases h1 : k = k'
  · rw [decide_eq_false (fun h2 => h ⟨h1, h2⟩), Bool.and_false]
  · rw [decide_eq_false h1, Bool.false_and]
/-- a beginning. -/
theorem Back.one {f : S83} (hf : f ∈ prefL) {y : S25} {a : Int} {L : List Tk} (hs : Seg T a ((f.f2, f.f3) :: L)) (hy : Back nm num T y 6 (a + 1) (a + 1 + L.length)) (rank : Int) :
    Back nm num T ⟨f.f0, 0, ⟨#[]⟩, [y]⟩ rank a (a + 1 + L.length) := by
  refine Back.ofPf (at_no hs ?_) (Pf.pre (pfx_op hf hs) (hy.P (Int.le_refl _))) rank
  unfold prefL at hf
  simp only [List.mem_cons, List.not_mem_nil, or_false] at hf
  rcases hf with rfl | rfl | rfl <;> decide
/-- a choice. -/
theorem Back.three {x y z : S25} {a : Int} {L1 L2 L3 : List Tk} (hs : Seg T a ((1, ifS) :: (L1 ++ (1, thenS) :: (L2 ++ (1, elseS) :: L3))))
    (hx : Back nm num T x 0 (a + 1) (a + 1 + L1.length)) (hy : Back nm num T y 0 (a + 1 + L1.length + 1) (a + 1 + L1.length + 1 + L2.length)) (hz : Back nm num T z 0 (a + 1 + L1.length + 1 + L2.length + 1) (a + 1 + L1.length + 1 + L2.length + 1 + L3.length)) :
    Back nm num T ⟨17, 0, ⟨#[]⟩, [x, y, z]⟩ 0 a (a + 1 + L1.length + 1 + L2.length + 1 + L3.length) := by
  refine ⟨fun h => by omega, fun n h0 _ hn hst => ?_, fun h => by omega, fun n h1 _ _ hn => by omega⟩
  obtain rfl : n = 0 := by omega
  have s2 := hs.tail.right
  have s3 := s2.tail.right
  obtain ⟨f1, r1⟩ := hx.D 0 (Int.le_refl _) (by omega) (Int.le_refl _) (fun q _ _ => frm_no s2 no_then q)
  obtain ⟨f2, r2⟩ := hy.D 0 (Int.le_refl _) (by omega) (Int.le_refl _) (fun q _ _ => frm_no s3 no_else q)
  obtain ⟨f3, r3⟩ := hz.D 0 (Int.le_refl _) (by omega) (Int.le_refl _) hst
  refine ⟨max f1 (max f2 f3) + 1 + 1, ?_⟩
  have hif : atK T a 1 ifS = true := by rw [hs.at]; simp
  have hth : atK T (a + 1 + L1.length) 1 thenS = true := by rw [s2.at]; simp
  have hel : atK T (a + 1 + L1.length + 1 + L2.length) 1 elseS = true := by rw [s3.at]; simp
  rw [rk, if_neg (by omega), if_pos ⟨rfl, hif⟩, ch, rk_fuel (show f1 ≤ max f1 (max f2 f3) by omega) r1]
  show (if atK T (a + 1 + L1.length) 1 thenS = true then _ else _) = _
  rw [if_pos hth, rk_fuel (show f2 ≤ max f1 (max f2 f3) by omega) r2]
  show (if atK T (a + 1 + L1.length + 1 + L2.length) 1 elseS = true then _ else _) = _
  rw [if_pos hel, rk_fuel (show f3 ≤ max f1 (max f2 f3) by omega) r3]
  rfl
/-- an atom. -/
theorem Back.atom {k : Int} {s : ByteArray} {a : Int} {x : S25} (hs : Seg T a [(k, s)]) (h1 : ∀ g ∈ prefL, ¬ (k = g.f2 ∧ s.data.toList = g.f3.data.toList)) (h2 : ¬ (k = 3 ∧ s.data.toList = opS.data.toList)) (h3 : ¬ (k = 1 ∧ s.data.toList = ifS.data.toList))
    (ha : atomP nm num T a = some (.ok x (a + 1))) (rank : Int) : Back nm num T x rank a (a + 1) := by
  refine Back.ofPf (at_no hs h3) ⟨1, ?_⟩ rank
  rw [pf, pfx_no hs h1]
  dsimp only
  rw [if_neg (by rw [at_no hs h2]; simp), ha]
theorem rank_two {f : S83} (h : findL pairsL f.f0 = some f) : rankOf f.f0 = f.f1 := by
  unfold rankOf
  rw [if_neg (fun e => by rw [e, findL_pairs_none.2.2.2.1] at h; simp at h), h]
theorem rank_one {f : S83} (h0 : findL pairsL f.f0 = none) (h : findL prefL f.f0 = some f) : rankOf f.f0 = 6 := by
  unfold rankOf
  rw [if_neg (fun e => by rw [e, findL_pairs_none.2.2.2.2.1] at h; simp at h), h0, h]
  have hm := (findL_op h).2
  unfold prefL at hm
  simp only [List.mem_cons, List.not_mem_nil, or_false] at hm
  rcases hm with rfl | rfl | rfl <;> rfl
/-- all that may be is read back. -/
theorem read_back (hnm : ∀ s, nm s = true → s.data.toList ≠ ifS.data.toList ∧ s.data.toList ≠ trueS.data.toList ∧ s.data.toList ≠ falseS.data.toList ∧ ∀ g ∈ prefL, s.data.toList ≠ g.f3.data.toList)
    (hnum : ∀ n : Int, 0 ≤ n → n ≤ 9223372036854775807 → num ⟨(Lib.itoa n).toArray⟩ = some (n, 0)) {d : Nat} {x : S25} {l l' : Int} (h : Ok nm d x l l') :
    WfE x → ∀ a, Seg T a (tkE d x) → Back nm num T x (rankOf x.f0) a (a + (tkE d x).length) := by
  induction h with
  | int d n s l h1 h2 h3 =>
    intro hw a hs
    cases hw with
    | mk _ _ _ _ _ _ _ w4 =>
    obtain rfl := emp_eq h3
    have e : tkE (d + 1) ⟨1, n, ⟨#[]⟩, []⟩ = [(2, ⟨(Lib.itoa n).toArray⟩)] := by
      simp only [tkE]
      rw [findL_pairs_none.1, findL_pairs_none.2.2.2.2.2.1]
      simp
    rw [e] at hs ⊢
    obtain ⟨t1, t2, t3⟩ := hs.head
    refine Back.atom hs (fun g hg => ?_) (by omega) (by omega) ?_ _
    · unfold prefL at hg
      simp only [List.mem_cons, List.not_mem_nil, or_false] at hg
      rcases hg with rfl | rfl | rfl <;> simp
    · unfold atomP
      rw [if_pos t1, t2, t3, if_neg (by omega), if_pos rfl, hnum n h2 w4]
      simp
  | bool d n s l h1 h2 h3 =>
    intro hw a hs
    obtain rfl := emp_eq h3
    have e : tkE (d + 1) ⟨2, n, ⟨#[]⟩, []⟩ = [(1, boolW (decide (n = 1)))] := by
      simp only [tkE]
      rw [findL_pairs_none.2.1, findL_pairs_none.2.2.2.2.2.2.1]
      simp
    rw [e] at hs ⊢
    obtain ⟨t1, t2, t3⟩ := hs.head
    have hb : boolW (decide (n = 1)) = if n = 1 then trueS else falseS := by
      by_cases hn : n = 1
      · rw [if_pos hn, decide_eq_true hn]; rfl
      · rw [if_neg hn, decide_eq_false hn]; rfl
    rw [hb] at hs t3
    rcases h2 with rfl | rfl
    · rw [if_neg (by omega)] at hs t3
      refine Back.atom hs (by unfold prefL falseS; decide) (by omega) (by unfold ifS falseS; decide) ?_ _
      unfold atomP
      rw [if_pos t1, t2, t3, if_pos rfl, if_neg (by rw [ByteArray.toList_eq, ByteArray.toList_eq]; decide), if_pos rfl]
    · rw [if_pos rfl] at hs t3
      refine Back.atom hs (by unfold prefL trueS; decide) (by omega) (by unfold ifS trueS; decide) ?_ _
      unfold atomP
      rw [if_pos t1, t2, t3, if_pos rfl, if_pos rfl]
  | name d s l h1 h2 =>
    intro hw a hs
    have e : tkE (d + 1) ⟨3, 0, s, []⟩ = [(1, s)] := by
      simp only [tkE]
      rw [findL_pairs_none.2.2.1, findL_pairs_none.2.2.2.2.2.2.2]
      simp
    rw [e] at hs ⊢
    obtain ⟨t1, t2, t3⟩ := hs.head
    obtain ⟨n1, n2, n3, n4⟩ := hnm s h2
    refine Back.atom hs (fun g hg hh => n4 g hg hh.2) (by omega) (fun hh => n1 hh.2) ?_ _
    unfold atomP
    rw [if_pos t1, t2, t3, if_pos rfl, if_neg (by rw [ByteArray.toList_eq, ByteArray.toList_eq]; exact n2), if_neg (by rw [ByteArray.toList_eq, ByteArray.toList_eq]; exact n3), if_pos h2]
  | two d f s y z l l1 l2 h1 h2 h3 hy hz ihy ihz =>
    intro hw a hs
    cases hw with
    | mk _ _ _ _ _ _ _ _ _ _ wk =>
    obtain rfl := emp_eq h3
    have e : tkE (d + 1) ⟨f.f0, 0, ⟨#[]⟩, [y, z]⟩ = partK (tkE d) y (asksOf f).1 ++ (f.f2, f.f3) :: partK (tkE d) z (asksOf f).2 := by
      simp only [tkE]
      rw [h2]
      rfl
    rw [e] at hs ⊢
    have hm := (findL_op h2).2
    have ha : 0 ≤ (asksOf f).1 ∧ 0 ≤ (asksOf f).2 := by
      unfold pairsL at hm
      simp only [List.mem_cons, List.not_mem_nil, or_false] at hm
      rcases hm with rfl | rfl | rfl | rfl | rfl | rfl | rfl | rfl | rfl | rfl | rfl | rfl <;> decide
    have by_ := Back.part ha.1 hs.left (fun a hs => ihy (wk y (by simp)) a hs)
    have bz_ := Back.part ha.2 hs.right.tail (fun a hs => ihz (wk z (by simp)) a hs)
    have := Back.two hm hs by_ bz_
    rw [rank_two h2]
    rw [show a + (((partK (tkE d) y (asksOf f).1 ++ (f.f2, f.f3) :: partK (tkE d) z (asksOf f).2).length : Nat) : Int) = a + ((partK (tkE d) y (asksOf f).1).length : Int) + 1 + ((partK (tkE d) z (asksOf f).2).length : Int) by simp only [List.length_append, List.length_cons]; omega]
    exact this
  | one d f s y l l1 h1 h2 h3 h4 hy ihy =>
    intro hw a hs
    cases hw with
    | mk _ _ _ _ _ _ _ _ _ _ wk =>
    obtain rfl := emp_eq h4
    have e : tkE (d + 1) ⟨f.f0, 0, ⟨#[]⟩, [y]⟩ = (f.f2, f.f3) :: partK (tkE d) y 6 := by
      simp only [tkE]
      rw [h2, h3]
      rfl
    rw [e] at hs ⊢
    have by_ := Back.part (by omega) hs.tail (fun a hs => ihy (wk y (by simp)) a hs)
    have := Back.one (findL_op h3).2 hs by_ (rankOf f.f0)
    rw [show a + ((((f.f2, f.f3) :: partK (tkE d) y 6).length : Nat) : Int) = a + 1 + ((partK (tkE d) y 6).length : Int) by simp only [List.length_cons]; omega]
    exact this
  | three d s x y z l l1 l2 l3 h1 h2 hx hy hz ihx ihy ihz =>
    intro hw a hs
    cases hw with
    | mk _ _ _ _ _ _ _ _ _ _ wk =>
    obtain rfl := emp_eq h2
    have e : tkE (d + 1) ⟨17, 0, ⟨#[]⟩, [x, y, z]⟩ = (1, ifS) :: (partK (tkE d) x 0 ++ (1, thenS) :: (partK (tkE d) y 0 ++ (1, elseS) :: partK (tkE d) z 0)) := by
      simp only [tkE]
      rw [findL_pairs_none.2.2.2.1, findL_pairs_none.2.2.2.2.1]
      rfl
    rw [e] at hs ⊢
    have b1 := Back.part (Int.le_refl _) hs.tail.left (fun a hs => ihx (wk x (by simp)) a hs)
    have b2 := Back.part (Int.le_refl _) hs.tail.right.tail.left (fun a hs => ihy (wk y (by simp)) a hs)
    have b3 := Back.part (Int.le_refl _) hs.tail.right.tail.right.tail (fun a hs => ihz (wk z (by simp)) a hs)
    have := Back.three hs b1 b2 b3
    rw [show rankOf 17 = 0 from rfl]
    rw [show a + ((((1, ifS) :: (partK (tkE d) x 0 ++ (1, thenS) :: (partK (tkE d) y 0 ++ (1, elseS) :: partK (tkE d) z 0))).length : Nat) : Int) = a + 1 + ((partK (tkE d) x 0).length : Int) + 1 + ((partK (tkE d) y 0).length : Int) + 1 + ((partK (tkE d) z 0).length : Int) by simp only [List.length_append, List.length_cons]; omega]
    exact this
end
end Go.Proofs.YtbdciibbgiphcaaDoor.V
