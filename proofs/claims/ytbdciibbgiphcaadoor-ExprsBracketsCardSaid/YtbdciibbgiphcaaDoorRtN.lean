/- What is written is read again. Plain Lean. -/
import Derived.Test.YtbdciibbgiphcaaDoorRtM
import Derived.Test.YtbdciibbgiphcaaDoorNF
namespace Go.Proofs.YtbdciibbgiphcaaDoor.V
set_option linter.unusedVariables false
set_option linter.unusedSimpArgs false
set_option linter.unusedSectionVars false
open Go.RowKit Go.Proofs.YtbdciibbgiphcaaDoorW.PrintWords Go.Proofs.YtbdciibbgiphcaaDoorW.PrintLast Go.Proofs.YtbdciibbgiphcaaDoorW.PrintMore
theorem foldr_put : ∀ (us ts : List Tok.T) (q : Nat), us.foldr Tok.put (some ts, q) = (some (us ++ ts), q)
  | [], ts, q => rfl
  | u :: us, ts, q => by rw [List.foldr_cons, foldr_put us ts q]; rfl
theorem seg_toks (us : List Tok.T) : Seg (us.map toS) 0 (us.map tkOf) := by
  intro j t ht
  rw [List.getElem?_map] at ht
  cases hu : us[j]? with
  | none => rw [hu] at ht; simp at ht
  | some u =>
    rw [hu] at ht
    simp only [Option.map_some, Option.some.injEq] at ht
    subst ht
    have hj := (List.getElem?_eq_some_iff.1 hu).1
    have e : rd_T45 (us.map toS) (0 + (j : Int)) = toS u := by
      unfold rd_T45
      rw [Int.zero_add, Int.toNat_natCast, List.getD_eq_getElem?_getD, List.getElem?_map, hu]
      rfl
    rw [e]
    exact ⟨by rw [List.length_map]; omega, rfl, rfl⟩
/-- what is written is read, all of it, as it was. -/
theorem read_wr (hnm : ∀ s, nameOk s = true → s.data.toList ≠ ifS.data.toList ∧ s.data.toList ≠ trueS.data.toList ∧ s.data.toList ≠ falseS.data.toList ∧ ∀ g ∈ prefL, s.data.toList ≠ g.f3.data.toList)
    (hW : ∀ n : Int, 0 ≤ n → n ≤ 9223372036854775807 → Wrt ⟨(Lib.itoa n).toArray⟩ [(2, ⟨(Lib.itoa n).toArray⟩)])
    (hI : ∀ n : Int, 0 ≤ n → n ≤ 9223372036854775807 → numT ⟨(Lib.itoa n).toArray⟩ = some (n, 0))
    (hT : ∀ (s : ByteArray) (T : List S45) (p e : Int), tokens_Read.f s = some (T, p, e) → ∀ a, (rd_T45 T a).f0 = 2 → numT (rd_T45 T a).f1 ≠ none)
    {x : S25} (hok : okE nameOk x = true) (hwf : WfE x) : readP (wr 32 x) = some (x, true) := by
  obtain ⟨l', h⟩ := ok_okE hok
  have hl := h.lt
  have hsz := wr_size (nm := nameOk) nameOk40 h hwf
  obtain ⟨us, h1, h2⟩ := (lex_wr hW h hwf).1 [] (.inl rfl) 0
  rw [List.append_nil, Tok.R_nil, foldr_put, List.append_nil] at h2
  have hr : tokens_Read.f (wr 32 x) = some (us.map toS, 0, 0) := by
    unfold tokens_Read.f
    rw [if_pos (by omega), h2]
    rfl
  have hseg := seg_toks us
  rw [h1] at hseg
  have hlen : (us.map toS).length = (tkE 32 x).length := by rw [List.length_map, ← h1, List.length_map]
  have hb := read_back (num := numT) hnm hI h hwf 0 hseg
  have hr0 : 0 ≤ rankOf x.f0 := by
    unfold rankOf
    split
    · omega
    · split
      · rename_i f hf
        have hm := (findL_op hf).2
        unfold pairsL at hm
        simp only [List.mem_cons, List.not_mem_nil, or_false] at hm
        rcases hm with rfl | rfl | rfl | rfl | rfl | rfl | rfl | rfl | rfl | rfl | rfl | rfl <;> decide
      · split
        · rename_i f hf
          have hm := (findL_op hf).2
          unfold prefL at hm
          simp only [List.mem_cons, List.not_mem_nil, or_false] at hm
          rcases hm with rfl | rfl | rfl <;> decide
        · omega
  obtain ⟨f, hf⟩ := hb.D 0 (Int.le_refl _) (by omega) hr0 (fun q _ _ => by
    cases hq : frm (us.map toS) q (0 + ((tkE 32 x).length : Int)) with
    | none => rfl
    | some g => have := frm_lt hq; rw [hlen] at this; omega)
  have hown := rk_own (hT _ _ _ _ hr) (Int.le_refl 0) (by omega) hf
  have hp : parseT nameOk numT (us.map toS) 0 = some (x, ((tkE 32 x).length : Int), 0) := by
    unfold parseT
    rw [if_neg (by omega), hown]
    dsimp only
    rw [hok, if_pos rfl, Int.zero_add]
  unfold readP
  rw [hr]
  show (parseT nameOk numT (us.map toS) 0).bind _ = _
  rw [hp]
  show some (x, decide ((0 : Int) = 0) && (decide ((0 : Int) = 0) && decide (((tkE 32 x).length : Int) = ((us.map toS).length : Int)))) = _
  rw [hlen]
  simp
theorem names_no {s : ByteArray} (h : nameOk s = true) {w : ByteArray} (hw : w ∈ words) : s.data.toList ≠ w.data.toList := by
  unfold nameOk at h
  simp only [Bool.and_eq_true, Bool.not_eq_true'] at h
  have := List.any_eq_false.1 h.2.2.2 w hw
  simp only [beq_iff_eq] at this
  exact fun e => this e.symm
/-- a name is none of the language's words. -/
theorem names_ok (s : ByteArray) (h : nameOk s = true) : s.data.toList ≠ ifS.data.toList ∧ s.data.toList ≠ trueS.data.toList ∧ s.data.toList ≠ falseS.data.toList ∧ ∀ g ∈ prefL, s.data.toList ≠ g.f3.data.toList := by
  refine ⟨names_no h (by unfold words ifS; simp), names_no h (by unfold words trueS; simp), names_no h (by unfold words falseS; simp), fun g hg => ?_⟩
  unfold prefL at hg
  simp only [List.mem_cons, List.not_mem_nil, or_false] at hg
  rcases hg with rfl | rfl | rfl
  · intro e
    have hs : s = ⟨#[45]⟩ := ByteArray.ext (Array.toList_inj.1 e)
    rw [hs] at h
    revert h
    decide
  · exact names_no h (by unfold words; simp)
  · exact names_no h (by unfold words; simp)
end Go.Proofs.YtbdciibbgiphcaaDoor.V
