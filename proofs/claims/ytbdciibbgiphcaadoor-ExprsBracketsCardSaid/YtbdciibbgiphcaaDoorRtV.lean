/- Brackets around each part, and around all; what stands behind. Plain Lean. -/
import Derived.Test.YtbdciibbgiphcaaDoorRtU
namespace Go.Proofs.YtbdciibbgiphcaaDoor.V
set_option linter.unusedVariables false
set_option linter.unusedSimpArgs false
set_option linter.unusedSectionVars false
open Go.RowKit Go.Proofs.YtbdciibbgiphcaaDoorW.PrintWords Go.Proofs.YtbdciibbgiphcaaDoorW.PrintLast Go.Proofs.YtbdciibbgiphcaaDoorW.PrintMore
theorem rank_in (o : Int) : 0 ≤ rankOf o ∧ rankOf o < 100 := by
  unfold rankOf
  split
  · omega
  · split
    · rename_i f hf
      have hm := (findL_op hf).2
      unfold pairsL at hm
      simp only [List.mem_cons, List.not_mem_nil, or_false] at hm
      rcases hm with rfl | rfl | rfl | rfl | rfl | rfl | rfl | rfl | rfl | rfl | rfl | rfl <;> decide
    · split
      · rename_i f hf
        have hm := (findL_op hf).2
        unfold prefL at hm
        simp only [List.mem_cons, List.not_mem_nil, or_false] at hm
        rcases hm with rfl | rfl | rfl <;> decide
      · omega
theorem partW_all (w : S25 → ByteArray) (x : S25) : partW w x 100 = ((⟨#[40]⟩ : ByteArray) ++ w x) ++ (⟨#[41]⟩ : ByteArray) := if_pos (rank_in x.f0).2
theorem partK_all (w : S25 → List Tk) (x : S25) : partK w x 100 = (3, opS) :: (w x ++ [(3, clS)]) := if_pos (rank_in x.f0).2
/-- with brackets around each part. -/
def fullP : Nat → S25 → ByteArray
  | 0, _ => ⟨#[]⟩
  | d + 1, x => match findL pairsL x.f0 with
    | some f => (((partW (fullP d) (hd0 x 0) 100 ++ sp) ++ f.f3) ++ sp) ++ partW (fullP d) (hd0 x 1) 100
    | none => match findL prefL x.f0 with
      | some f => (if f.f2 = 3 then f.f3 else f.f3 ++ sp) ++ partW (fullP d) (hd0 x 0) 100
      | none => if x.f0 = 17 then ((((⟨#[105, 102, 32]⟩ : ByteArray) ++ partW (fullP d) (hd0 x 0) 100) ++ (⟨#[32, 116, 104, 101, 110, 32]⟩ : ByteArray)) ++ partW (fullP d) (hd0 x 1) 100) ++ (⟨#[32, 101, 108, 115, 101, 32]⟩ : ByteArray) ++ partW (fullP d) (hd0 x 2) 100
        else wr (d + 1) x
def fullK : Nat → S25 → List Tk
  | 0, _ => []
  | d + 1, x => match findL pairsL x.f0 with
    | some f => partK (fullK d) (hd0 x 0) 100 ++ (f.f2, f.f3) :: partK (fullK d) (hd0 x 1) 100
    | none => match findL prefL x.f0 with
      | some f => (f.f2, f.f3) :: partK (fullK d) (hd0 x 0) 100
      | none => if x.f0 = 17 then (1, ifS) :: (partK (fullK d) (hd0 x 0) 100 ++ (1, thenS) :: (partK (fullK d) (hd0 x 1) 100 ++ (1, elseS) :: partK (fullK d) (hd0 x 2) 100))
        else tkE (d + 1) x
section
variable {nm : ByteArray → Bool} {num : ByteArray → Option (Int × Int)} {T : List S45}
theorem Back.weak {x : S25} {r k a b : Int} (h : Back nm num T x r a b) (hk : k ≤ r) : Back nm num T x k a b :=
  ⟨fun h1 => h.noIf (by omega), fun n h0 h6 hn hs => h.D n h0 h6 (by omega) hs, fun h6 => h.P (by omega), fun n h1 h5 h3 hn hs r hl => h.S n h1 h5 h3 (by omega) hs r hl⟩
/-- it is read back. -/
theorem full_back (hnm : ∀ s, nm s = true → s.data.toList ≠ ifS.data.toList ∧ s.data.toList ≠ trueS.data.toList ∧ s.data.toList ≠ falseS.data.toList ∧ ∀ g ∈ prefL, s.data.toList ≠ g.f3.data.toList)
    (hnum : ∀ n : Int, 0 ≤ n → n ≤ 9223372036854775807 → num ⟨(Lib.itoa n).toArray⟩ = some (n, 0)) {d : Nat} {x : S25} {l l' : Int} (h : Ok nm d x l l') :
    WfE x → ∀ a, Seg T a (fullK d x) → Back nm num T x (rankOf x.f0) a (a + (fullK d x).length) := by
  induction h with
  | int d n s l h1 h2 h3 =>
    intro hw a hs
    have e : fullK (d + 1) ⟨1, n, s, []⟩ = tkE (d + 1) ⟨1, n, s, []⟩ := by
      simp only [fullK]
      rw [findL_pairs_none.1, findL_pairs_none.2.2.2.2.2.1]
      rfl
    rw [e] at hs ⊢
    exact read_back hnm hnum (.int d n s l h1 h2 h3) hw a hs
  | bool d n s l h1 h2 h3 =>
    intro hw a hs
    have e : fullK (d + 1) ⟨2, n, s, []⟩ = tkE (d + 1) ⟨2, n, s, []⟩ := by
      simp only [fullK]
      rw [findL_pairs_none.2.1, findL_pairs_none.2.2.2.2.2.2.1]
      rfl
    rw [e] at hs ⊢
    exact read_back hnm hnum (.bool d n s l h1 h2 h3) hw a hs
  | name d s l h1 h2 =>
    intro hw a hs
    have e : fullK (d + 1) ⟨3, 0, s, []⟩ = tkE (d + 1) ⟨3, 0, s, []⟩ := by
      simp only [fullK]
      rw [findL_pairs_none.2.2.1, findL_pairs_none.2.2.2.2.2.2.2]
      rfl
    rw [e] at hs ⊢
    exact read_back hnm hnum (.name d s l h1 h2) hw a hs
  | two d f s y z l l1 l2 h1 h2 h3 hy hz ihy ihz =>
    intro hw a hs
    cases hw with
    | mk _ _ _ _ _ _ _ _ _ _ wk =>
    obtain rfl := emp_eq h3
    have e : fullK (d + 1) ⟨f.f0, 0, ⟨#[]⟩, [y, z]⟩ = partK (fullK d) y 100 ++ (f.f2, f.f3) :: partK (fullK d) z 100 := by
      simp only [fullK]
      rw [h2]
      rfl
    rw [e] at hs ⊢
    have hm := (findL_op h2).2
    have ha : (asksOf f).1 ≤ 100 ∧ (asksOf f).2 ≤ 100 := by
      unfold pairsL at hm
      simp only [List.mem_cons, List.not_mem_nil, or_false] at hm
      rcases hm with rfl | rfl | rfl | rfl | rfl | rfl | rfl | rfl | rfl | rfl | rfl | rfl <;> decide
    have by_ := Back.part (by omega) hs.left (fun a hs => ihy (wk y (by simp)) a hs)
    have bz_ := Back.part (by omega) hs.right.tail (fun a hs => ihz (wk z (by simp)) a hs)
    have := Back.two hm hs (by_.weak ha.1) (bz_.weak ha.2)
    rw [rank_two h2]
    rw [show a + (((partK (fullK d) y 100 ++ (f.f2, f.f3) :: partK (fullK d) z 100).length : Nat) : Int) = a + ((partK (fullK d) y 100).length : Int) + 1 + ((partK (fullK d) z 100).length : Int) by simp only [List.length_append, List.length_cons]; omega]
    exact this
  | one d f s y l l1 h1 h2 h3 h4 hy ihy =>
    intro hw a hs
    cases hw with
    | mk _ _ _ _ _ _ _ _ _ _ wk =>
    obtain rfl := emp_eq h4
    have e : fullK (d + 1) ⟨f.f0, 0, ⟨#[]⟩, [y]⟩ = (f.f2, f.f3) :: partK (fullK d) y 100 := by
      simp only [fullK]
      rw [h2, h3]
      rfl
    rw [e] at hs ⊢
    have by_ := Back.part (by omega) hs.tail (fun a hs => ihy (wk y (by simp)) a hs)
    have := Back.one (findL_op h3).2 hs (by_.weak (by omega)) (rankOf f.f0)
    rw [show a + ((((f.f2, f.f3) :: partK (fullK d) y 100).length : Nat) : Int) = a + 1 + ((partK (fullK d) y 100).length : Int) by simp only [List.length_cons]; omega]
    exact this
  | three d s x y z l l1 l2 l3 h1 h2 hx hy hz ihx ihy ihz =>
    intro hw a hs
    cases hw with
    | mk _ _ _ _ _ _ _ _ _ _ wk =>
    obtain rfl := emp_eq h2
    have e : fullK (d + 1) ⟨17, 0, ⟨#[]⟩, [x, y, z]⟩ = (1, ifS) :: (partK (fullK d) x 100 ++ (1, thenS) :: (partK (fullK d) y 100 ++ (1, elseS) :: partK (fullK d) z 100)) := by
      simp only [fullK]
      rw [findL_pairs_none.2.2.2.1, findL_pairs_none.2.2.2.2.1]
      rfl
    rw [e] at hs ⊢
    have b1 := Back.part (by omega) hs.tail.left (fun a hs => ihx (wk x (by simp)) a hs)
    have b2 := Back.part (by omega) hs.tail.right.tail.left (fun a hs => ihy (wk y (by simp)) a hs)
    have b3 := Back.part (by omega) hs.tail.right.tail.right.tail (fun a hs => ihz (wk z (by simp)) a hs)
    have := Back.three hs (b1.weak (by omega)) (b2.weak (by omega)) (b3.weak (by omega))
    rw [show rankOf 17 = 0 from rfl]
    rw [show a + ((((1, ifS) :: (partK (fullK d) x 100 ++ (1, thenS) :: (partK (fullK d) y 100 ++ (1, elseS) :: partK (fullK d) z 100))).length : Nat) : Int) = a + 1 + ((partK (fullK d) x 100).length : Int) + 1 + ((partK (fullK d) y 100).length : Int) + 1 + ((partK (fullK d) z 100).length : Int) by simp only [List.length_append, List.length_cons]; omega]
    exact this
end
/-- its bytes are its tokens. -/
theorem full_wrt {d : Nat} {x : S25} {l l' : Int} (h : Ok nameOk d x l l') : WfE x → Wrt (fullP d x) (fullK d x) := by
  induction h with
  | int d n s l h1 h2 h3 =>
    intro hw
    have e : fullK (d + 1) ⟨1, n, s, []⟩ = tkE (d + 1) ⟨1, n, s, []⟩ ∧ fullP (d + 1) ⟨1, n, s, []⟩ = wr (d + 1) ⟨1, n, s, []⟩ := by
      simp only [fullK, fullP]
      rw [findL_pairs_none.1, findL_pairs_none.2.2.2.2.2.1]
      exact ⟨rfl, rfl⟩
    rw [e.1, e.2]
    exact lex_wr itoa_wrt (.int d n s l h1 h2 h3) hw
  | bool d n s l h1 h2 h3 =>
    intro hw
    have e : fullK (d + 1) ⟨2, n, s, []⟩ = tkE (d + 1) ⟨2, n, s, []⟩ ∧ fullP (d + 1) ⟨2, n, s, []⟩ = wr (d + 1) ⟨2, n, s, []⟩ := by
      simp only [fullK, fullP]
      rw [findL_pairs_none.2.1, findL_pairs_none.2.2.2.2.2.2.1]
      exact ⟨rfl, rfl⟩
    rw [e.1, e.2]
    exact lex_wr itoa_wrt (.bool d n s l h1 h2 h3) hw
  | name d s l h1 h2 =>
    intro hw
    have e : fullK (d + 1) ⟨3, 0, s, []⟩ = tkE (d + 1) ⟨3, 0, s, []⟩ ∧ fullP (d + 1) ⟨3, 0, s, []⟩ = wr (d + 1) ⟨3, 0, s, []⟩ := by
      simp only [fullK, fullP]
      rw [findL_pairs_none.2.2.1, findL_pairs_none.2.2.2.2.2.2.2]
      exact ⟨rfl, rfl⟩
    rw [e.1, e.2]
    exact lex_wr itoa_wrt (.name d s l h1 h2) hw
  | two d f s y z l l1 l2 h1 h2 h3 hy hz ihy ihz =>
    intro hw
    cases hw with
    | mk _ _ _ _ _ _ _ _ _ _ wk =>
    have e : fullK (d + 1) ⟨f.f0, 0, s, [y, z]⟩ = partK (fullK d) y 100 ++ (f.f2, f.f3) :: partK (fullK d) z 100 ∧
        fullP (d + 1) ⟨f.f0, 0, s, [y, z]⟩ = (((partW (fullP d) y 100 ++ sp) ++ f.f3) ++ sp) ++ partW (fullP d) z 100 := by
      simp only [fullK, fullP]
      rw [h2]
      exact ⟨rfl, rfl⟩
    rw [e.1, e.2]
    have p1 := Wrt.part (ihy (wk y (by simp))) 100
    have p2 := Wrt.part (ihz (wk z (by simp))) 100
    have := Wrt.blank (Wrt.blank p1 (Lex.op (findL_op h2).2)) p2.1
    rw [List.append_assoc] at this
    exact this
  | one d f s y l l1 h1 h2 h3 h4 hy ihy =>
    intro hw
    cases hw with
    | mk _ _ _ _ _ _ _ _ _ _ wk =>
    have e : fullK (d + 1) ⟨f.f0, 0, s, [y]⟩ = (f.f2, f.f3) :: partK (fullK d) y 100 ∧ fullP (d + 1) ⟨f.f0, 0, s, [y]⟩ = (if f.f2 = 3 then f.f3 else f.f3 ++ sp) ++ partW (fullP d) y 100 := by
      simp only [fullK, fullP]
      rw [h2, h3]
      exact ⟨rfl, rfl⟩
    rw [e.1, e.2]
    have p1 := Wrt.part (ihy (wk y (by simp))) 100
    have hm := (findL_op h3).2
    have hp : (if f.f2 = 3 then f.f3 else f.f3 ++ sp) ++ partW (fullP d) y 100 = prefW f (partW (fullP d) y 100) := by
      unfold prefW
      rw [partW_all]
      unfold prefL at hm
      simp only [List.mem_cons, List.not_mem_nil, or_false] at hm
      rcases hm with rfl | rfl | rfl
      · rw [if_pos rfl, if_pos]
        refine ⟨rfl, ?_⟩
        simp only [ByteArray.data_append, Array.toList_append]
        rfl
      · rfl
      · rfl
    rw [hp]
    exact Wrt.pre hm p1
  | three d s x y z l l1 l2 l3 h1 h2 hx hy hz ihx ihy ihz =>
    intro hw
    cases hw with
    | mk _ _ _ _ _ _ _ _ _ _ wk =>
    have e1 : fullK (d + 1) ⟨17, 0, s, [x, y, z]⟩ = (1, ifS) :: (partK (fullK d) x 100 ++ (1, thenS) :: (partK (fullK d) y 100 ++ (1, elseS) :: partK (fullK d) z 100)) := by
      simp only [fullK]
      rw [findL_pairs_none.2.2.2.1, findL_pairs_none.2.2.2.2.1]
      rfl
    have e2 : bytesOf (fullP (d + 1) ⟨17, 0, s, [x, y, z]⟩) = bytesOf (((((((ifS ++ sp) ++ partW (fullP d) x 100) ++ sp) ++ thenS) ++ sp) ++ partW (fullP d) y 100 ++ sp ++ elseS) ++ sp ++ partW (fullP d) z 100) := by
      simp only [fullP]
      rw [findL_pairs_none.2.2.2.1, findL_pairs_none.2.2.2.2.1]
      simp only [if_true]
      simp only [bytes_app, List.append_assoc]
      rfl
    have p1 := Wrt.part (ihx (wk x (by simp))) 100
    have p2 := Wrt.part (ihy (wk y (by simp))) 100
    have p3 := Wrt.part (ihz (wk z (by simp))) 100
    have hif : Wrt ifS [(1, ifS)] := ⟨(Lex.word (c := 105) (r := [102]) (by decide) rfl : Lex (105 :: [102]) [(1, ofB (105 :: [102]))]), 105, _, rfl, by decide⟩
    have hth : Lex (bytesOf thenS) [(1, thenS)] := (Lex.word (c := 116) (r := [104, 101, 110]) (by decide) rfl : Lex (116 :: [104, 101, 110]) [(1, ofB (116 :: [104, 101, 110]))])
    have hel : Lex (bytesOf elseS) [(1, elseS)] := (Lex.word (c := 101) (r := [108, 115, 101]) (by decide) rfl : Lex (101 :: [108, 115, 101]) [(1, ofB (101 :: [108, 115, 101]))])
    have := Wrt.blank (Wrt.blank (Wrt.blank (Wrt.blank (Wrt.blank hif p1.1) hth) p2.1) hel) p3.1
    unfold Wrt at this ⊢
    rw [e1, e2]
    simp only [List.append_assoc, List.cons_append, List.nil_append] at this ⊢
    exact this
theorem full_size {d : Nat} {x : S25} {l l' : Int} (h : Ok nameOk d x l l') : WfE x → ((fullP d x).size : Int) ≤ 70 * (l - l') := by
  induction h with
  | int d n s l h1 h2 h3 =>
    intro hw
    have e : fullP (d + 1) ⟨1, n, s, []⟩ = wr (d + 1) ⟨1, n, s, []⟩ := by
      simp only [fullP]
      rw [findL_pairs_none.1, findL_pairs_none.2.2.2.2.2.1]
      rfl
    have := wr_size nameOk40 (.int d n s l h1 h2 h3) hw
    rw [e]
    omega
  | bool d n s l h1 h2 h3 =>
    intro hw
    have e : fullP (d + 1) ⟨2, n, s, []⟩ = wr (d + 1) ⟨2, n, s, []⟩ := by
      simp only [fullP]
      rw [findL_pairs_none.2.1, findL_pairs_none.2.2.2.2.2.2.1]
      rfl
    have := wr_size nameOk40 (.bool d n s l h1 h2 h3) hw
    rw [e]
    omega
  | name d s l h1 h2 =>
    intro hw
    have e : fullP (d + 1) ⟨3, 0, s, []⟩ = wr (d + 1) ⟨3, 0, s, []⟩ := by
      simp only [fullP]
      rw [findL_pairs_none.2.2.1, findL_pairs_none.2.2.2.2.2.2.2]
      rfl
    have := wr_size nameOk40 (.name d s l h1 h2) hw
    rw [e]
    omega
  | two d f s y z l l1 l2 h1 h2 h3 hy hz ihy ihz =>
    intro hw
    cases hw with
    | mk _ _ _ _ _ _ _ _ _ _ wk =>
    have e : fullP (d + 1) ⟨f.f0, 0, s, [y, z]⟩ = (((partW (fullP d) y 100 ++ sp) ++ f.f3) ++ sp) ++ partW (fullP d) z 100 := by
      simp only [fullP]
      rw [h2]
      rfl
    rw [e, size_app, size_app, size_app, size_app]
    have g1 := partW_size (fullP d) y 100
    have g2 := partW_size (fullP d) z 100
    have g3 := form_text (.inl (findL_op h2).2)
    have g4 := ihy (wk y (by simp))
    have g5 := ihz (wk z (by simp))
    have g6 : sp.size = 1 := rfl
    omega
  | one d f s y l l1 h1 h2 h3 h4 hy ihy =>
    intro hw
    cases hw with
    | mk _ _ _ _ _ _ _ _ _ _ wk =>
    have e : fullP (d + 1) ⟨f.f0, 0, s, [y]⟩ = (if f.f2 = 3 then f.f3 else f.f3 ++ sp) ++ partW (fullP d) y 100 := by
      simp only [fullP]
      rw [h2, h3]
      rfl
    rw [e, size_app]
    have g1 := partW_size (fullP d) y 100
    have g3 := form_text (.inr (findL_op h3).2)
    have g4 := ihy (wk y (by simp))
    have g6 : sp.size = 1 := rfl
    have g7 : (if f.f2 = 3 then f.f3 else f.f3 ++ sp).size ≤ 4 := by
      split
      · omega
      · rw [size_app]; omega
    omega
  | three d s x y z l l1 l2 l3 h1 h2 hx hy hz ihx ihy ihz =>
    intro hw
    cases hw with
    | mk _ _ _ _ _ _ _ _ _ _ wk =>
    have e : fullP (d + 1) ⟨17, 0, s, [x, y, z]⟩ = ((((⟨#[105, 102, 32]⟩ : ByteArray) ++ partW (fullP d) x 100) ++ (⟨#[32, 116, 104, 101, 110, 32]⟩ : ByteArray)) ++ partW (fullP d) y 100) ++ (⟨#[32, 101, 108, 115, 101, 32]⟩ : ByteArray) ++ partW (fullP d) z 100 := by
      simp only [fullP]
      rw [findL_pairs_none.2.2.2.1, findL_pairs_none.2.2.2.2.1]
      rfl
    rw [e, size_app, size_app, size_app, size_app, size_app]
    have g1 := partW_size (fullP d) x 100
    have g2 := partW_size (fullP d) y 100
    have g3 := partW_size (fullP d) z 100
    have g4 := ihx (wk x (by simp))
    have g5 := ihy (wk y (by simp))
    have g6 := ihz (wk z (by simp))
    have q1 : (⟨#[105, 102, 32]⟩ : ByteArray).size = 3 := rfl
    have q2 : (⟨#[32, 116, 104, 101, 110, 32]⟩ : ByteArray).size = 6 := rfl
    have q3 : (⟨#[32, 101, 108, 115, 101, 32]⟩ : ByteArray).size = 6 := rfl
    omega
/-- what a text's tokens are. -/
theorem toks_of {s : ByteArray} {ts : List Tk} (hsz : s.size ≤ 65536) (hl : Lex (bytesOf s) ts) : ∃ T : List S45, tokens_Read.f s = some (T, 0, 0) ∧ T.length = ts.length ∧ Seg T 0 ts := by
  obtain ⟨us, h1, h2⟩ := hl [] (.inl rfl) 0
  rw [List.append_nil, Tok.R_nil, foldr_put, List.append_nil] at h2
  refine ⟨us.map toS, ?_, by rw [List.length_map, ← h1, List.length_map], ?_⟩
  · unfold tokens_Read.f
    rw [if_pos hsz, h2]
    rfl
  · have := seg_toks us
    rw [h1] at this
    exact this
/-- tokens that are read back, with such behind as do not go on. -/
theorem parse_seg {T : List S45} {ts : List Tk} {x : S25} {r : Int} (hT : ∀ a, (rd_T45 T a).f0 = 2 → numT (rd_T45 T a).f1 ≠ none) (hle : ts.length ≤ T.length) (hb : Back nameOk numT T x r 0 (0 + (ts.length : Int))) (hr : 0 ≤ r)
    (hstop : Stops T (ts.length : Int) 0) (hok : okE nameOk x = true) : parseT nameOk numT T 0 = some (x, (ts.length : Int), 0) := by
  rw [Int.zero_add] at hb
  obtain ⟨f, hf⟩ := hb.D 0 (Int.le_refl _) (by omega) hr hstop
  have hown := rk_own hT (Int.le_refl 0) (by omega) hf
  unfold parseT
  rw [if_neg (by omega), hown]
  dsimp only
  rw [hok, if_pos rfl]
theorem read_seg {s : ByteArray} {ts : List Tk} {x : S25} {r : Int} (hsz : s.size ≤ 65536) (hl : Lex (bytesOf s) ts) (hb : ∀ T : List S45, Seg T 0 ts → Back nameOk numT T x r 0 (0 + (ts.length : Int))) (hr : 0 ≤ r) (hok : okE nameOk x = true) : readP s = some (x, true) := by
  obtain ⟨T, h1, h2, h3⟩ := toks_of hsz hl
  have hp := parse_seg (read_nums _ _ _ _ h1) (by omega) (hb T h3) hr (fun q _ _ => by
    cases hq : frm T q (ts.length : Int) with
    | none => rfl
    | some g => have := frm_lt hq; omega) hok
  unfold readP
  rw [h1]
  show (parseT nameOk numT T 0).bind _ = _
  rw [hp]
  show some (x, decide ((0 : Int) = 0) && (decide ((0 : Int) = 0) && decide ((ts.length : Int) = (T.length : Int)))) = _
  rw [h2]
  simp
/-- brackets around it. -/
theorem read_br {x : S25} (hok : okE nameOk x = true) (hwf : WfE x) : readP (((⟨#[40]⟩ : ByteArray) ++ wr 32 x) ++ (⟨#[41]⟩ : ByteArray)) = some (x, true) := by
  obtain ⟨l', h⟩ := ok_okE hok
  have hl := h.lt
  have hsz := wr_size (nm := nameOk) nameOk40 h hwf
  have hs2 := partW_size (wr 32) x 100
  rw [← partW_all (wr 32) x]
  exact read_seg (by omega) (Wrt.part (lex_wr itoa_wrt h hwf) 100).1 (fun T hs => Back.part (by omega) hs (fun a hs => read_back names_ok itoa_num h hwf a hs)) (by omega) hok
/-- brackets around each part, and two around all. -/
theorem read_full {x : S25} (hok : okE nameOk x = true) (hwf : WfE x) : readP (((⟨#[40, 40]⟩ : ByteArray) ++ fullP 32 x) ++ (⟨#[41, 41]⟩ : ByteArray)) = some (x, true) := by
  obtain ⟨l', h⟩ := ok_okE hok
  have hl := h.lt
  have hsz := full_size h hwf
  have hs2 := partW_size (fullP 32) x 100
  have hs3 := partW_size (fun x => partW (fullP 32) x 100) x 100
  have e : ((⟨#[40, 40]⟩ : ByteArray) ++ fullP 32 x) ++ (⟨#[41, 41]⟩ : ByteArray) = partW (fun x => partW (fullP 32) x 100) x 100 := by
    rw [partW_all, partW_all, ← ofB_bytes (((⟨#[40, 40]⟩ : ByteArray) ++ fullP 32 x) ++ (⟨#[41, 41]⟩ : ByteArray)), ← ofB_bytes (((⟨#[40]⟩ : ByteArray) ++ (((⟨#[40]⟩ : ByteArray) ++ fullP 32 x) ++ (⟨#[41]⟩ : ByteArray))) ++ (⟨#[41]⟩ : ByteArray))]
    congr 1
    simp only [bytes_app, List.append_assoc]
    rfl
  rw [e]
  have hw1 := Wrt.part (full_wrt h hwf) 100
  have hw2 := Wrt.part (w := fun x => partW (fullP 32) x 100) (tk := fun x => partK (fullK 32) x 100) (x := x) hw1 100
  refine read_seg (r := 100) (by omega) hw2.1 (fun T hs => ?_) (by omega) hok
  exact Back.part (by omega) hs (fun a hs => (Back.part (by omega) hs (fun a hs => full_back names_ok itoa_num h hwf a hs)).weak (by have := rank_in x.f0; omega))
/-- what does not go on behind. -/
def behindP : Nat → Tk
  | 0 => (3, ⟨#[59]⟩)
  | 1 => (3, ⟨#[41]⟩)
  | 2 => (1, ⟨#[116, 104, 101, 110]⟩)
  | 3 => (1, ⟨#[101, 108, 115, 101]⟩)
  | 4 => (3, ⟨#[61]⟩)
  | 5 => (1, ⟨#[120]⟩)
  | _ => (2, ⟨#[49]⟩)
theorem behind_no (k : Nat) : ∀ g ∈ pairsL, ¬ ((behindP k).1 = g.f2 ∧ (behindP k).2.data.toList = g.f3.data.toList) := by
  match k with
  | 0 => unfold pairsL behindP; decide
  | 1 => unfold pairsL behindP; decide
  | 2 => unfold pairsL behindP; decide
  | 3 => unfold pairsL behindP; decide
  | 4 => unfold pairsL behindP; decide
  | 5 => unfold pairsL behindP; decide
  | n + 6 => show ∀ g ∈ pairsL, ¬ ((2 : Int) = g.f2 ∧ (⟨#[49]⟩ : ByteArray).data.toList = g.f3.data.toList); unfold pairsL; decide
theorem rd_left {T U : List S45} {a : Int} (h0 : a.toNat < T.length) : rd_T45 (T ++ U) a = rd_T45 T a := by
  unfold rd_T45
  rw [List.getD_eq_getElem?_getD, List.getD_eq_getElem?_getD, List.getElem?_append_left h0]
theorem partK_len (w : S25 → List Tk) (x : S25) (k : Int) : (partK w x k).length ≤ (w x).length + 2 := by
  unfold partK
  split
  · simp only [List.length_cons, List.length_append, List.length_nil]; omega
  · omega
theorem tk_len {nm : ByteArray → Bool} {d : Nat} {x : S25} {l l' : Int} (h : Ok nm d x l l') : ((tkE d x).length : Int) ≤ 10 * (l - l') := by
  induction h with
  | int d n s l h1 h2 h3 =>
    have e : tkE (d + 1) ⟨1, n, s, []⟩ = [(2, ⟨(Lib.itoa n).toArray⟩)] := by
      simp only [tkE]
      rw [findL_pairs_none.1, findL_pairs_none.2.2.2.2.2.1]
      simp
    rw [e]
    simp only [List.length_cons, List.length_nil]
    omega
  | bool d n s l h1 h2 h3 =>
    have e : tkE (d + 1) ⟨2, n, s, []⟩ = [(1, boolW (decide (n = 1)))] := by
      simp only [tkE]
      rw [findL_pairs_none.2.1, findL_pairs_none.2.2.2.2.2.2.1]
      simp
    rw [e]
    simp only [List.length_cons, List.length_nil]
    omega
  | name d s l h1 h2 =>
    have e : tkE (d + 1) ⟨3, 0, s, []⟩ = [(1, s)] := by
      simp only [tkE]
      rw [findL_pairs_none.2.2.1, findL_pairs_none.2.2.2.2.2.2.2]
      simp
    rw [e]
    simp only [List.length_cons, List.length_nil]
    omega
  | two d f s y z l l1 l2 h1 h2 h3 hy hz ihy ihz =>
    have e : tkE (d + 1) ⟨f.f0, 0, s, [y, z]⟩ = partK (tkE d) y (asksOf f).1 ++ (f.f2, f.f3) :: partK (tkE d) z (asksOf f).2 := by
      simp only [tkE]
      rw [h2]
      rfl
    rw [e]
    have g1 := partK_len (tkE d) y (asksOf f).1
    have g2 := partK_len (tkE d) z (asksOf f).2
    simp only [List.length_append, List.length_cons]
    omega
  | one d f s y l l1 h1 h2 h3 h4 hy ihy =>
    have e : tkE (d + 1) ⟨f.f0, 0, s, [y]⟩ = (f.f2, f.f3) :: partK (tkE d) y 6 := by
      simp only [tkE]
      rw [h2, h3]
      rfl
    rw [e]
    have g1 := partK_len (tkE d) y 6
    simp only [List.length_cons]
    omega
  | three d s x y z l l1 l2 l3 h1 h2 hx hy hz ihx ihy ihz =>
    have e : tkE (d + 1) ⟨17, 0, s, [x, y, z]⟩ = (1, ifS) :: (partK (tkE d) x 0 ++ (1, thenS) :: (partK (tkE d) y 0 ++ (1, elseS) :: partK (tkE d) z 0)) := by
      simp only [tkE]
      rw [findL_pairs_none.2.2.2.1, findL_pairs_none.2.2.2.2.1]
      rfl
    rw [e]
    have g1 := partK_len (tkE d) x 0
    have g2 := partK_len (tkE d) y 0
    have g3 := partK_len (tkE d) z 0
    simp only [List.length_append, List.length_cons]
    omega
/-- what is written, with something behind that does not go on: it is read up to there. -/
theorem parse_behind {x : S25} (hok : okE nameOk x = true) (hwf : WfE x) : ∃ T : List S45, tokens_Read.f (wr 32 x) = some (T, 0, 0) ∧ T.length ≤ 2000 ∧ ∀ k : Nat, parseT nameOk numT (T ++ [⟨(behindP k).1, (behindP k).2, 0⟩]) 0 = some (x, (T.length : Int), 0) := by
  obtain ⟨l', h⟩ := ok_okE hok
  have hl := h.lt
  have hsz := wr_size (nm := nameOk) nameOk40 h hwf
  obtain ⟨T, h1, h2, h3⟩ := toks_of (by omega) (lex_wr itoa_wrt h hwf).1
  refine ⟨T, h1, ?_, fun k => ?_⟩
  · have := tk_len h
    omega
  · have hseg : Seg (T ++ [⟨(behindP k).1, (behindP k).2, 0⟩]) 0 (tkE 32 x) := fun j t ht => by
      obtain ⟨q1, q2, q3⟩ := h3 j t ht
      rw [rd_left (by omega)]
      exact ⟨by rw [List.length_append]; omega, q2, q3⟩
    have hlast : Seg (T ++ [⟨(behindP k).1, (behindP k).2, 0⟩]) ((tkE 32 x).length : Int) [behindP k] := fun j t ht => by
      cases j with
      | succ j => simp at ht
      | zero =>
        simp only [List.getElem?_cons_zero, Option.some.injEq] at ht
        subst ht
        have e : rd_T45 (T ++ [⟨(behindP k).1, (behindP k).2, 0⟩]) (((tkE 32 x).length : Int) + ((0 : Nat) : Int)) = ⟨(behindP k).1, (behindP k).2, 0⟩ := by
          unfold rd_T45
          rw [show (((tkE 32 x).length : Int) + ((0 : Nat) : Int)).toNat = T.length by omega, List.getD_eq_getElem?_getD, List.getElem?_append_right (Nat.le_refl _), Nat.sub_self]
          rfl
        rw [e]
        exact ⟨by rw [List.length_append]; simp only [List.length_cons, List.length_nil]; omega, rfl, rfl⟩
    rw [h2]
    refine parse_seg (r := rankOf x.f0) (fun a ha => ?_) (by rw [List.length_append]; omega) (read_back names_ok itoa_num h hwf 0 hseg) (rank_in _).1 (fun q _ _ => frm_no hlast (behind_no k) q) hok
    by_cases hlt : a.toNat < T.length
    · rw [rd_left hlt] at ha ⊢
      exact read_nums _ _ _ _ h1 a ha
    · by_cases he : a.toNat = T.length
      · have e : rd_T45 (T ++ [⟨(behindP k).1, (behindP k).2, 0⟩]) a = ⟨(behindP k).1, (behindP k).2, 0⟩ := by
          unfold rd_T45
          rw [he, List.getD_eq_getElem?_getD, List.getElem?_append_right (Nat.le_refl _), Nat.sub_self]
          rfl
        rw [e]
        refine number_some ?_
        match k with
        | 0 => decide
        | 1 => decide
        | 2 => decide
        | 3 => decide
        | 4 => decide
        | 5 => decide
        | n + 6 => show (⟨#[49]⟩ : ByteArray).size ≤ _; decide
      · exfalso
        revert ha
        unfold rd_T45
        rw [List.getD_eq_getElem?_getD, List.getElem?_eq_none (by rw [List.length_append]; simp only [List.length_cons, List.length_nil]; omega)]
        simp [z45]
end Go.Proofs.YtbdciibbgiphcaaDoor.V
