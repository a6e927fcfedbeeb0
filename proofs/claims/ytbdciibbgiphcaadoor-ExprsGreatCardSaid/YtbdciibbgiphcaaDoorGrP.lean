/- ExprsGreat: the plain law: one operator in another, so deep; a row, so great. -/
import Derived.Test.YtbdciibbgiphcaaDoorNG
import Derived.Test.YtbdciibbgiphcaaDoorOdP
namespace Go.Proofs.YtbdciibbgiphcaaDoor.V
set_option linter.unusedVariables false
set_option linter.unusedSimpArgs false
set_option linter.unusedSectionVars false
open Go.RowKit Go.Proofs.YtbdciibbgiphcaaDoorW.PrintWords Go.Proofs.YtbdciibbgiphcaaDoorW.PrintLast Go.Proofs.YtbdciibbgiphcaaDoorW.PrintMore
/-- a name. -/
def lfA : S25 := ⟨3, 0, ⟨#[97]⟩, []⟩
/-- not, so often. -/
def nD : Nat → S25
  | 0 => lfA
  | m + 1 => ⟨5, 0, ⟨#[]⟩, [nD m]⟩
def txL : Nat → List Int
  | 0 => [97]
  | m + 1 => 110 :: 111 :: 116 :: 32 :: txL m
def txB : Nat → ByteArray
  | 0 => ⟨#[]⟩
  | m + 1 => txB m ++ ⟨#[110, 111, 116, 32]⟩
theorem bytesOf_app (a b : ByteArray) : bytesOf (a ++ b) = bytesOf a ++ bytesOf b := by
  unfold bytesOf
  rw [ByteArray.data_append, Array.toList_append, List.map_append]
theorem txL_snoc : ∀ (m : Nat) (l : List Int), (List.replicate m [110, 111, 116, 32]).flatten ++ ([110, 111, 116, 32] ++ l) = [110, 111, 116, 32] ++ ((List.replicate m [110, 111, 116, 32]).flatten ++ l)
  | 0, l => by simp
  | m + 1, l => by
    simp only [List.replicate_succ, List.flatten_cons, List.append_assoc]
    rw [txL_snoc m l]
theorem txB_bytes : ∀ (m : Nat) (l : List Int), bytesOf (txB m) ++ l = (List.replicate m [110, 111, 116, 32]).flatten ++ l
  | 0, l => rfl
  | m + 1, l => by
    have h : bytesOf (⟨#[110, 111, 116, 32]⟩ : ByteArray) = [110, 111, 116, 32] := rfl
    simp only [txB]
    rw [bytesOf_app, h, List.append_assoc, txB_bytes m, txL_snoc, List.replicate_succ, List.flatten_cons, List.append_assoc]
theorem txL_rep : ∀ m : Nat, (List.replicate m [110, 111, 116, 32]).flatten ++ [97] = txL m
  | 0 => rfl
  | m + 1 => by
    rw [List.replicate_succ, List.flatten_cons, List.append_assoc, txL_rep m]
    rfl
theorem tx_bytes (m : Nat) : bytesOf (txB m ++ ⟨#[97]⟩) = txL m := by
  have h : bytesOf (⟨#[97]⟩ : ByteArray) = [97] := rfl
  rw [bytesOf_app, h, txB_bytes, txL_rep]
theorem txB_size : ∀ m : Nat, (txB m).size = 4 * m
  | 0 => rfl
  | m + 1 => by
    simp only [txB]
    rw [ByteArray.size_append, txB_size m]
    show 4 * m + 4 = 4 * (m + 1)
    omega
/-- the tokens. -/
def tkL : Nat → Nat → List Tok.T
  | 0, p => [⟨1, [97], p⟩]
  | m + 1, p => ⟨1, [110, 111, 116], p⟩ :: tkL m (p + 4)
theorem head_not (l : List Int) : Tok.head (110 :: 111 :: 116 :: 32 :: l) = (1, 3) := by
  have hw : Tok.wordLen (110 :: 111 :: 116 :: 32 :: l) = 3 := by
    have : Tok.wordLen (110 :: 111 :: 116 :: 32 :: l) = if Tok.letter 110 then 1 + Tok.tw Tok.inWord (111 :: 116 :: 32 :: l) else 0 := rfl
    rw [this, if_pos (by decide), Tok.tw_yes _ (by decide), Tok.tw_yes _ (by decide), Tok.tw_no _ (by decide)]
  unfold Tok.head
  rw [hw]
  rfl
theorem silent_let {c : Int} (r : List Int) (h1 : Tok.blank c = false) (h2 : c ≠ 45) : Tok.silentLen (c :: r) = 0 := by
  rw [Tok.silent_eq, Tok.tw_no _ h1, List.drop_zero]
  have : Tok.dash (c :: r) = false := by
    unfold Tok.dash
    simp only [List.isPrefixOf]
    have : ((45 : Int) == c) = false := by rw [beq_eq_false_iff_ne]; exact fun h => h2 h.symm
    rw [this]; rfl
  rw [this]; rfl
theorem R_bl1 (l : List Int) (p : Nat) : Tok.R (32 :: l) p = Tok.R l (p + 1) := by
  by_cases h : 0 < Tok.silentLen (32 :: l)
  · have h2 : Tok.silentLen (32 :: l) = Tok.silentLen l + 1 := by
      rw [Tok.silent_eq, Tok.silent_eq, Tok.tw_yes _ (by decide), List.drop_succ_cons]
      split <;> omega
    rw [Tok.R_silent p h, h2, List.drop_succ_cons]
    by_cases h3 : 0 < Tok.silentLen l
    · cases l with
      | nil => rfl
      | cons c r =>
        rw [Tok.R_silent (p + 1) h3]
        congr 1
        omega
    · have h4 : Tok.silentLen l = 0 := by omega
      rw [h4]; rfl
  · exfalso
    apply h
    rw [Tok.silent_eq, Tok.tw_yes _ (by decide)]
    split <;> omega
theorem R_tx : ∀ (m p : Nat), ∃ q, Tok.R (txL m) p = (some (tkL m p), q)
  | 0, p => by
    have h : Tok.head [97] = (1, 1) := by decide
    refine ⟨p + 1, ?_⟩
    show Tok.R [97] p = _
    rw [Tok.R_head p (silent_let _ (by decide) (by decide)) (by rw [h]; decide), h]
    rfl
  | m + 1, p => by
    obtain ⟨q, hq⟩ := R_tx m (p + 4)
    refine ⟨q, ?_⟩
    show Tok.R (110 :: 111 :: 116 :: 32 :: txL m) p = _
    rw [Tok.R_head p (silent_let _ (by decide) (by decide)) (by rw [head_not]; decide), head_not]
    show Tok.put _ (Tok.R (32 :: txL m) (p + 3)) = _
    rw [R_bl1, hq]
    rfl
def toksD (m : Nat) : List S45 := (tkL m 0).map toS
theorem read_tx (m : Nat) (h : m ≤ 10000) : tokens_Read.f (txB m ++ ⟨#[97]⟩) = some (toksD m, 0, 0) := by
  obtain ⟨q, hq⟩ := R_tx m 0
  have hs : (txB m ++ (⟨#[97]⟩ : ByteArray)).size ≤ 65536 := by
    rw [ByteArray.size_append, txB_size]
    show 4 * m + 1 ≤ 65536
    omega
  unfold tokens_Read.f
  rw [if_pos hs, tx_bytes, hq]
  rfl
theorem tkL_len : ∀ (m p : Nat), (tkL m p).length = m + 1
  | 0, p => rfl
  | m + 1, p => by simp only [tkL, List.length_cons]; rw [tkL_len m]
theorem toksD_len (m : Nat) : (toksD m).length = m + 1 := by unfold toksD; rw [List.length_map, tkL_len]
theorem tkL_at : ∀ (m p j : Nat), j ≤ m → ∃ t, (tkL m p)[j]? = some t ∧ t.kind = 1 ∧ t.text = if j < m then [110, 111, 116] else [97]
  | 0, p, j, h => by
    obtain rfl : j = 0 := by omega
    exact ⟨_, rfl, rfl, rfl⟩
  | m + 1, p, 0, h => ⟨_, rfl, rfl, by rw [if_pos (by omega)]⟩
  | m + 1, p, j + 1, h => by
    obtain ⟨t, h1, h2, h3⟩ := tkL_at m (p + 4) j (by omega)
    refine ⟨t, h1, h2, ?_⟩
    rw [h3]
    by_cases hj : j < m
    · rw [if_pos hj, if_pos (by omega)]
    · rw [if_neg hj, if_neg (by omega)]
theorem tok_at (m j : Nat) (h : j ≤ m) : (rd_T45 (toksD m) (j : Int)).f0 = 1 ∧ (rd_T45 (toksD m) (j : Int)).f1 = if j < m then ⟨#[110, 111, 116]⟩ else ⟨#[97]⟩ := by
  obtain ⟨t, h1, h2, h3⟩ := tkL_at m 0 j h
  have e : rd_T45 (toksD m) (j : Int) = toS t := by
    unfold rd_T45 toksD
    rw [Int.toNat_natCast, List.getD_eq_getElem?_getD, List.getElem?_map, h1]
    rfl
  rw [e]
  refine ⟨h2, ?_⟩
  show ofB t.text = _
  rw [h3]
  split <;> rfl
theorem at_tok (m j : Nat) (h : j ≤ m) (k : Int) (s : ByteArray) : atK (toksD m) (j : Int) k s = (decide ((1 : Int) = k) && decide ((if j < m then (⟨#[110, 111, 116]⟩ : ByteArray) else ⟨#[97]⟩).toList = s.toList)) := by
  obtain ⟨h1, h2⟩ := tok_at m j h
  unfold atK
  rw [toksD_len, h1, h2, decide_eq_true (show (j : Int) < ((m + 1 : Nat) : Int) by omega), Bool.true_and]
theorem at_end (m : Nat) (k : Int) (s : ByteArray) : atK (toksD m) ((m + 1 : Nat) : Int) k s = false := by
  unfold atK
  rw [toksD_len, decide_eq_false (by omega), Bool.false_and]
theorem pfx_not (m j : Nat) (h : j < m) : pfx (toksD m) (j : Int) = some ⟨5, 6, 1, ⟨#[110, 111, 116]⟩⟩ := by
  unfold pfx prefL
  rw [List.find?_cons_of_neg (by rw [at_tok m j (by omega)]; simp), List.find?_cons_of_pos (by rw [at_tok m j (by omega), if_pos h]; simp)]
theorem ne_list {a b : ByteArray} (h : a.data.toList ≠ b.data.toList) : decide (a.toList = b.toList) = false := by
  rw [ByteArray.toList_eq, ByteArray.toList_eq]
  exact decide_eq_false h
theorem pfx_a (m : Nat) : pfx (toksD m) (m : Int) = none := by
  unfold pfx prefL
  rw [List.find?_cons_of_neg (by rw [at_tok m m (by omega)]; simp), List.find?_cons_of_neg (by rw [at_tok m m (by omega), if_neg (by omega), ne_list (by decide)]; simp), List.find?_cons_of_neg (by rw [at_tok m m (by omega), if_neg (by omega), ne_list (by decide)]; simp)]
  rfl
theorem frm_end (m : Nat) (n : Int) : frm (toksD m) n ((m + 1 : Nat) : Int) = none := by
  unfold frm
  rw [List.find?_eq_none]
  intro x _
  rw [at_end]
  simp
theorem nm_a : nameOk ⟨#[97]⟩ = true := by kernel_rfl
theorem atom_a (m : Nat) : atomP nameOk numT (toksD m) (m : Int) = some (.ok lfA ((m + 1 : Nat) : Int)) := by
  obtain ⟨h1, h2⟩ := tok_at m m (Nat.le_refl _)
  rw [if_neg (by omega)] at h2
  unfold atomP
  rw [h1, h2, toksD_len, if_pos (by omega), if_pos rfl, if_neg (of_decide_eq_false (ne_list (by decide))), if_neg (of_decide_eq_false (ne_list (by decide))), if_pos nm_a]
  rfl
theorem pf_tx (m : Nat) : ∀ (j f : Nat), j ≤ m → pf nameOk numT (toksD m) (f + j + 1) ((m - j : Nat) : Int) = some (.ok (nD j) ((m + 1 : Nat) : Int))
  | 0, f, h => by
    simp only [Nat.sub_zero, Nat.add_zero, pf]
    rw [pfx_a, at_tok m m (by omega)]
    simp only
    rw [if_neg (by simp), atom_a]
    rfl
  | j + 1, f, h => by
    have ih := pf_tx m j f (by omega)
    have e : ((m - (j + 1) : Nat) : Int) + 1 = ((m - j : Nat) : Int) := by omega
    obtain ⟨G, hG⟩ : ∃ G, G = f + j + 1 := ⟨_, rfl⟩
    rw [← hG] at ih
    rw [show f + (j + 1) + 1 = G + 1 by omega]
    simp only [pf]
    rw [pfx_not m (m - (j + 1)) (by omega)]
    simp only
    rw [e, ih]
    rfl
theorem rk_tx (m : Nat) (x : S25) (F : Nat) (hF : 1 ≤ F) (n : Int) (h0 : 0 ≤ n) (h5 : n ≤ 5) (h : rk nameOk numT (toksD m) F (n + 1) 0 = some (.ok x ((m + 1 : Nat) : Int))) :
    rk nameOk numT (toksD m) (F + 1) n 0 = some (.ok x ((m + 1 : Nat) : Int)) := by
  have hif : atK (toksD m) 0 1 ifS = false := by
    have := at_tok m 0 (by omega) 1 ifS
    rw [show ((0 : Nat) : Int) = 0 from rfl] at this
    rw [this]
    split
    · rw [ne_list (by decide)]; rfl
    · rw [ne_list (by decide)]; rfl
  simp only [rk]
  rw [if_neg (by omega), if_neg (by rw [hif]; simp), h]
  obtain ⟨F, rfl⟩ : ∃ G, F = G + 1 := ⟨F - 1, by omega⟩
  show lp nameOk numT (toksD m) (F + 1) n x ((m + 1 : Nat) : Int) = _
  simp only [lp]
  rw [frm_end]
theorem rk_all (m : Nat) : rk nameOk numT (toksD m) (10 * ((toksD m).length + 1)) 0 0 = some (.ok (nD m) ((m + 1 : Nat) : Int)) := by
  have h6 : rk nameOk numT (toksD m) ((9 * m + 12) + m + 1 + 1) 6 0 = some (.ok (nD m) ((m + 1 : Nat) : Int)) := by
    have := pf_tx m m (9 * m + 12) (Nat.le_refl _)
    rw [Nat.sub_self] at this
    show rk nameOk numT (toksD m) (((9 * m + 12) + m + 1) + 1) 6 0 = _
    simp only [rk]
    rw [if_pos (by omega)]
    exact this
  have h5 := rk_tx m _ _ (by omega) 5 (by omega) (by omega) h6
  have h4 := rk_tx m _ _ (by omega) 4 (by omega) (by omega) h5
  have h3 := rk_tx m _ _ (by omega) 3 (by omega) (by omega) h4
  have h2 := rk_tx m _ _ (by omega) 2 (by omega) (by omega) h3
  have h1 := rk_tx m _ _ (by omega) 1 (by omega) (by omega) h2
  have h0 := rk_tx m _ _ (by omega) 0 (by omega) (by omega) h1
  rw [toksD_len, show 10 * (m + 1 + 1) = 9 * m + 12 + m + 1 + 1 + 1 + 1 + 1 + 1 + 1 + 1 by omega]
  exact h0
theorem parts5 : parts 5 = 1 := by decide
theorem chk_nD (nm : ByteArray → Bool) (hn : nm ⟨#[97]⟩ = true) : ∀ (m d : Nat) (l : Int), (m + 1 ≤ d → ((m + 1 : Nat) : Int) ≤ l → chk nm d (nD m) l = (true, l - ((m + 1 : Nat) : Int))) ∧ (d < m + 1 → (chk nm d (nD m) l).1 = false)
  | 0, d, l => by
    refine ⟨fun h1 h2 => ?_, fun h => ?_⟩
    · obtain ⟨d, rfl⟩ : ∃ e, d = e + 1 := ⟨d - 1, by omega⟩
      simp only [nD, lfA, chk]
      rw [if_neg (by omega), if_neg (by decide), if_neg (by decide), if_neg (by decide), if_pos trivial, hn]
      simp
    · obtain rfl : d = 0 := by omega
      rfl
  | m + 1, d, l => by
    refine ⟨fun h1 h2 => ?_, fun h => ?_⟩
    · obtain ⟨d, rfl⟩ : ∃ e, d = e + 1 := ⟨d - 1, by omega⟩
      have ih := (chk_nD nm hn m d (l - 1)).1 (by omega) (by omega)
      have he : emp ⟨#[]⟩ = true := by unfold emp; rw [ByteArray.toList_eq]; rfl
      simp only [nD, chk]
      rw [if_neg (by omega), if_neg (by rw [parts5]; simp), if_neg (by decide), if_neg (by decide), if_neg (by decide)]
      simp only [chks]
      rw [ih]
      simp only [if_pos, he]
      refine Prod.ext (by simp) ?_
      show l - 1 - _ = l - _
      omega
    · cases d with
      | zero => rfl
      | succ d =>
        have ih := (chk_nD nm hn m d (l - 1)).2 (by omega)
        simp only [nD, chk]
        by_cases hl : l - 1 < 0
        · rw [if_pos hl]
        · rw [if_neg hl, if_neg (by rw [parts5]; simp), if_neg (by decide), if_neg (by decide), if_neg (by decide)]
          simp only [chks]
          rw [if_neg (by rw [ih]; simp)]
          rfl
theorem ok_nD (m : Nat) : okE nameOk (nD m) = decide (m + 1 ≤ 32) := by
  unfold okE
  by_cases h : m + 1 ≤ 32
  · rw [((chk_nD nameOk nm_a m 32 200).1 h (by omega)), decide_eq_true h]
  · rw [((chk_nD nameOk nm_a m 32 200).2 (by omega)), decide_eq_false h]
/-- what the reader makes of it. -/
theorem parse_tx (m : Nat) : parseT nameOk numT (toksD m) 0 = if m + 1 ≤ 32 then some (nD m, ((m + 1 : Nat) : Int), 0) else some (z25, 0, 3) := by
  unfold parseT
  rw [if_neg (by omega), rk_all]
  simp only
  rw [ok_nD]
  by_cases h : m + 1 ≤ 32
  · rw [if_pos h, decide_eq_true h, if_pos rfl]
  · rw [if_neg h, decide_eq_false h, if_neg (by simp)]
end Go.Proofs.YtbdciibbgiphcaaDoor.V
