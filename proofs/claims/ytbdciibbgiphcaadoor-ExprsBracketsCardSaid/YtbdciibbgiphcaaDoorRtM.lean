/- What is written is read again: the bytes of all that may be are its tokens. Plain Lean. -/
import Derived.Test.YtbdciibbgiphcaaDoorRtL
import Derived.Test.YtbdciibbgiphcaaDoorRtR
namespace Go.Proofs.YtbdciibbgiphcaaDoor.V
set_option linter.unusedVariables false
set_option linter.unusedSimpArgs false
set_option linter.unusedSectionVars false
open Go.RowKit Go.Proofs.YtbdciibbgiphcaaDoorW.PrintWords Go.Proofs.YtbdciibbgiphcaaDoorW.PrintLast Go.Proofs.YtbdciibbgiphcaaDoorW.PrintMore
theorem bytes_app (a b : ByteArray) : bytesOf (a ++ b) = bytesOf a ++ bytesOf b := by
  unfold bytesOf
  rw [ByteArray.data_append, Array.toList_append, List.map_append]
/-- it begins with something, and not with '>'. -/
def First (l : List Int) : Prop := ∃ c r, l = c :: r ∧ c ≠ 62
theorem First.app {l m : List Int} (h : First l) : First (l ++ m) := by
  obtain ⟨c, r, rfl, hc⟩ := h
  exact ⟨c, r ++ m, rfl, hc⟩
def Wrt (w : ByteArray) (ts : List Tk) : Prop := Lex (bytesOf w) ts ∧ First (bytesOf w)
theorem Wrt.part {w : S25 → ByteArray} {tk : S25 → List Tk} {x : S25} (h : Wrt (w x) (tk x)) (k : Int) : Wrt (partW w x k) (partK tk x k) := by
  unfold partW partK
  by_cases hr : rankOf x.f0 < k
  · rw [if_pos hr, if_pos hr]
    have e : bytesOf (((⟨#[40]⟩ : ByteArray) ++ w x) ++ (⟨#[41]⟩ : ByteArray)) = 40 :: (bytesOf (w x) ++ [41]) := by
      rw [bytes_app, bytes_app]; rfl
    unfold Wrt
    rw [e]
    exact ⟨Lex.bracket h.1, 40, _, rfl, by decide⟩
  · rw [if_neg hr, if_neg hr]; exact h
/-- with a blank between. -/
theorem Wrt.blank {a b : ByteArray} {ts us : List Tk} (h1 : Wrt a ts) (h2 : Lex (bytesOf b) us) : Wrt ((a ++ sp) ++ b) (ts ++ us) := by
  have e : bytesOf ((a ++ sp) ++ b) = bytesOf a ++ 32 :: bytesOf b := by
    rw [bytes_app, bytes_app, List.append_assoc]; rfl
  unfold Wrt
  rw [e]
  exact ⟨Lex.blank h1.1 h2, h1.2.app⟩
theorem Wrt.pre {f : S83} (hf : f ∈ prefL) {s : ByteArray} {ts : List Tk} (h : Wrt s ts) : Wrt (prefW f s) ((f.f2, f.f3) :: ts) := by
  have hw : Wrt f.f3 [(f.f2, f.f3)] := by
    unfold prefL at hf
    simp only [List.mem_cons, List.not_mem_nil, or_false] at hf
    rcases hf with rfl | rfl | rfl
    · exact ⟨Lex.op (f := ⟨7, 4, 3, ⟨#[45]⟩⟩) (by unfold pairsL; simp), 45, [], rfl, by decide⟩
    · exact ⟨(Lex.word (c := 110) (r := [111, 116]) (by decide) rfl : Lex (110 :: [111, 116]) [(1, ofB (110 :: [111, 116]))]), 110, _, rfl, by decide⟩
    · exact ⟨(Lex.word (c := 112) (r := [114, 101]) (by decide) rfl : Lex (112 :: [114, 101]) [(1, ofB (112 :: [114, 101]))]), 112, _, rfl, by decide⟩
  unfold prefW
  by_cases hp : f.f2 = 3 ∧ Lib.hasPrefix s.data.toList f.f3.data.toList = false
  · rw [if_pos hp]
    have hf3 : f.f2 = 3 ∧ f.f3 = ⟨#[45]⟩ := by
      unfold prefL at hf
      simp only [List.mem_cons, List.not_mem_nil, or_false] at hf
      rcases hf with rfl | rfl | rfl
      · exact ⟨rfl, rfl⟩
      · exact absurd hp.1 (by decide)
      · exact absurd hp.1 (by decide)
    have hpre := hp.2
    rw [hf3.1, hf3.2]
    rw [hf3.2] at hpre
    obtain ⟨hl, c, r, hb, h62⟩ := h
    have h45 : c ≠ 45 := by
      rintro rfl
      unfold bytesOf at hb
      cases hd : s.data.toList with
      | nil => rw [hd] at hb; simp at hb
      | cons b t =>
        rw [hd] at hb hpre
        simp only [List.map_cons, List.cons.injEq] at hb
        have hb45 : b = 45 := by
          apply UInt8.toNat_inj.1
          have := hb.1
          show b.toNat = 45
          omega
        subst hb45
        simp [Lib.hasPrefix] at hpre
    have e : bytesOf ((⟨#[45]⟩ : ByteArray) ++ s) = 45 :: c :: r := by rw [bytes_app, hb]; rfl
    unfold Wrt
    rw [e]
    rw [hb] at hl
    exact ⟨Lex.neg hl h45 h62, 45, _, rfl, by decide⟩
  · rw [if_neg hp]
    exact Wrt.blank hw h.1
theorem lex_wr (hnum : ∀ n : Int, 0 ≤ n → n ≤ 9223372036854775807 → Wrt ⟨(Lib.itoa n).toArray⟩ [(2, ⟨(Lib.itoa n).toArray⟩)]) {d : Nat} {x : S25} {l l' : Int} (h : Ok nameOk d x l l') : WfE x → Wrt (wr d x) (tkE d x) := by
  induction h with
  | int d n s l h1 h2 h3 =>
    intro hw
    cases hw with
    | mk _ _ _ _ _ _ _ w4 =>
    have e1 : tkE (d + 1) ⟨1, n, s, []⟩ = [(2, ⟨(Lib.itoa n).toArray⟩)] := by
      simp only [tkE]
      rw [findL_pairs_none.1, findL_pairs_none.2.2.2.2.2.1]
      simp
    have e2 : wr (d + 1) ⟨1, n, s, []⟩ = ⟨(Lib.itoa n).toArray⟩ := by
      simp only [wr]
      rw [findL_pairs_none.1, findL_pairs_none.2.2.2.2.2.1]
      simp
    rw [e1, e2]
    exact hnum n h2 w4
  | bool d n s l h1 h2 h3 =>
    intro hw
    have e1 : tkE (d + 1) ⟨2, n, s, []⟩ = [(1, boolW (decide (n = 1)))] := by
      simp only [tkE]
      rw [findL_pairs_none.2.1, findL_pairs_none.2.2.2.2.2.2.1]
      simp
    have e2 : wr (d + 1) ⟨2, n, s, []⟩ = boolW (decide (n = 1)) := by
      simp only [wr]
      rw [findL_pairs_none.2.1, findL_pairs_none.2.2.2.2.2.2.1]
      simp
    rw [e1, e2]
    rcases h2 with rfl | rfl
    · exact ⟨(Lex.word (c := 102) (r := [97, 108, 115, 101]) (by decide) rfl : Lex (102 :: [97, 108, 115, 101]) [(1, ofB (102 :: [97, 108, 115, 101]))]), 102, _, rfl, by decide⟩
    · exact ⟨(Lex.word (c := 116) (r := [114, 117, 101]) (by decide) rfl : Lex (116 :: [114, 117, 101]) [(1, ofB (116 :: [114, 117, 101]))]), 116, _, rfl, by decide⟩
  | name d s l h1 h2 =>
    intro hw
    have e1 : tkE (d + 1) ⟨3, 0, s, []⟩ = [(1, s)] := by
      simp only [tkE]
      rw [findL_pairs_none.2.2.1, findL_pairs_none.2.2.2.2.2.2.2]
      simp
    have e2 : wr (d + 1) ⟨3, 0, s, []⟩ = s := by
      simp only [wr]
      rw [findL_pairs_none.2.2.1, findL_pairs_none.2.2.2.2.2.2.2]
      simp
    rw [e1, e2]
    refine ⟨Lex.name h2, ?_⟩
    unfold nameOk at h2
    simp only [Bool.and_eq_true, decide_eq_true_eq] at h2
    obtain ⟨h0, _, h2, _⟩ := h2
    have hl := bytesOf_length s
    cases hb : bytesOf s with
    | nil => rw [hb] at hl; simp only [List.length_nil] at hl; omega
    | cons c r =>
      refine ⟨c, r, rfl, ?_⟩
      rintro rfl
      rw [hb] at h2
      have : Tok.wordLen (62 :: r) = 0 := rfl
      omega
  | two d f s y z l l1 l2 h1 h2 h3 hy hz ihy ihz =>
    intro hw
    cases hw with
    | mk _ _ _ _ _ _ _ _ _ _ wk =>
    have e1 : tkE (d + 1) ⟨f.f0, 0, s, [y, z]⟩ = partK (tkE d) y (asksOf f).1 ++ (f.f2, f.f3) :: partK (tkE d) z (asksOf f).2 := by
      simp only [tkE]
      rw [h2]
      rfl
    have e2 : wr (d + 1) ⟨f.f0, 0, s, [y, z]⟩ = (((partW (wr d) y (asksOf f).1 ++ sp) ++ f.f3) ++ sp) ++ partW (wr d) z (asksOf f).2 := by
      simp only [wr]
      rw [h2]
      rfl
    rw [e1, e2]
    have p1 := Wrt.part (ihy (wk y (by simp))) (asksOf f).1
    have p2 := Wrt.part (ihz (wk z (by simp))) (asksOf f).2
    have := Wrt.blank (Wrt.blank p1 (Lex.op (findL_op h2).2)) p2.1
    rw [List.append_assoc] at this
    exact this
  | one d f s y l l1 h1 h2 h3 h4 hy ihy =>
    intro hw
    cases hw with
    | mk _ _ _ _ _ _ _ _ _ _ wk =>
    have e1 : tkE (d + 1) ⟨f.f0, 0, s, [y]⟩ = (f.f2, f.f3) :: partK (tkE d) y 6 := by
      simp only [tkE]
      rw [h2, h3]
      rfl
    have e2 : wr (d + 1) ⟨f.f0, 0, s, [y]⟩ = prefW f (partW (wr d) y 6) := by
      simp only [wr]
      rw [h2, h3]
      rfl
    rw [e1, e2]
    exact Wrt.pre (findL_op h3).2 (Wrt.part (ihy (wk y (by simp))) 6)
  | three d s x y z l l1 l2 l3 h1 h2 hx hy hz ihx ihy ihz =>
    intro hw
    cases hw with
    | mk _ _ _ _ _ _ _ _ _ _ wk =>
    have e1 : tkE (d + 1) ⟨17, 0, s, [x, y, z]⟩ = (1, ifS) :: (partK (tkE d) x 0 ++ (1, thenS) :: (partK (tkE d) y 0 ++ (1, elseS) :: partK (tkE d) z 0)) := by
      simp only [tkE]
      rw [findL_pairs_none.2.2.2.1, findL_pairs_none.2.2.2.2.1]
      rfl
    have e2 : bytesOf (wr (d + 1) ⟨17, 0, s, [x, y, z]⟩) = bytesOf (((((((ifS ++ sp) ++ partW (wr d) x 0) ++ sp) ++ thenS) ++ sp) ++ partW (wr d) y 0 ++ sp ++ elseS) ++ sp ++ partW (wr d) z 0) := by
      simp only [wr]
      rw [findL_pairs_none.2.2.2.1, findL_pairs_none.2.2.2.2.1]
      rw [if_neg (by decide), if_neg (by decide), if_neg (by decide)]
      simp only [bytes_app, List.append_assoc]
      rfl
    have p1 := Wrt.part (ihx (wk x (by simp))) 0
    have p2 := Wrt.part (ihy (wk y (by simp))) 0
    have p3 := Wrt.part (ihz (wk z (by simp))) 0
    have hif : Wrt ifS [(1, ifS)] := ⟨(Lex.word (c := 105) (r := [102]) (by decide) rfl : Lex (105 :: [102]) [(1, ofB (105 :: [102]))]), 105, _, rfl, by decide⟩
    have hth : Lex (bytesOf thenS) [(1, thenS)] := (Lex.word (c := 116) (r := [104, 101, 110]) (by decide) rfl : Lex (116 :: [104, 101, 110]) [(1, ofB (116 :: [104, 101, 110]))])
    have hel : Lex (bytesOf elseS) [(1, elseS)] := (Lex.word (c := 101) (r := [108, 115, 101]) (by decide) rfl : Lex (101 :: [108, 115, 101]) [(1, ofB (101 :: [108, 115, 101]))])
    have := Wrt.blank (Wrt.blank (Wrt.blank (Wrt.blank (Wrt.blank hif p1.1) hth) p2.1) hel) p3.1
    unfold Wrt at this ⊢
    rw [e1, e2]
    simp only [List.append_assoc, List.cons_append, List.nil_append] at this ⊢
    exact this
end Go.Proofs.YtbdciibbgiphcaaDoor.V
