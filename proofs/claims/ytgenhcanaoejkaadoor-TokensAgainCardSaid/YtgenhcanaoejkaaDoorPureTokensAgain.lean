/- TokensAgain: what its printed function answers, in plain words. -/
import Derived.Test.YtgenhcanaoejkaaDoorSx5
import Derived.Test.YtgenhcanaoejkaaDoorPuT
import Derived.Test.YtgenhcanaoejkaaDoorTokR
namespace Go.Proofs.YtgenhcanaoejkaaDoor.Pure
set_option linter.unusedVariables false
set_option linter.unusedSimpArgs false
open Go.RowKit Go.Proofs.YtgenhcanaoejkaaDoor.S Go.Proofs.YtgenhcanaoejkaaDoorW.PrintWords Go.Proofs.YtgenhcanaoejkaaDoorW.PrintLast
theorem alive_eqG : belfrylaw04_alive.f = some true := rfl
theorem bytes_range (s : ByteArray) : ∀ c ∈ bytesOf s, 0 ≤ c ∧ c ≤ 255 := by
  intro c hc
  obtain ⟨b, _, rfl⟩ := List.mem_map.1 hc
  have := b.toNat_lt
  omega
theorem bytesOf_ofB : ∀ {l : List Int}, (∀ c ∈ l, 0 ≤ c ∧ c ≤ 255) → bytesOf (ofB l) = l := by
  intro l h
  show ((l.map fun c => UInt8.ofNat c.toNat)).map (fun b => (b.toNat : Int)) = l
  rw [List.map_map]
  conv => rhs; rw [← List.map_id l]
  apply List.map_congr_left
  intro c hc
  have := h c hc
  have h2 : (UInt8.ofNat c.toNat).toNat = c.toNat % 256 := UInt8.toNat_ofNat'
  show (((UInt8.ofNat c.toNat).toNat : Nat) : Int) = c
  rw [h2]
  omega
theorem again_l0 (bl : ByteArray) (hbl : bytesOf bl ∈ Tok.blanks) : ∀ (rest : List Tok.T) (done : List S32) (x : ByteArray) (k : Nat) (T : List Tok.T) (q : Nat),
    (∀ t ∈ rest, ∀ c ∈ t.text, 0 ≤ c ∧ c ≤ 255) → x.size + (Tok.flat (bytesOf bl) rest).length ≤ 65536 → done.length + rest.length ≤ 5000 → rest.length + 5002 < k →
    Tok.R (bytesOf x ++ Tok.flat (bytesOf bl) rest) 0 = (some T, q) → T.map toS = done ++ (Tok.place (bytesOf bl) x.size rest).map toS →
    belfrylaw04_TokensAgain.l0 k (done ++ rest.map toS) bl x (done.length : Int) = some true
  | [], done, x, k, T, q, _, hz, hn, hk, hR, hT => by
    obtain ⟨k, rfl⟩ : ∃ m, k = m + 1 := ⟨k - 1, by omega⟩
    simp only [List.map_nil, List.append_nil, Tok.place, Tok.flat, List.length_nil, Nat.add_zero] at hR hT hz hn ⊢
    simp only [belfrylaw04_TokensAgain.l0]
    rw [if_neg (by omega), read_some hz hR, Option.bind_some, if_pos rfl, hT, same_f done (by omega) _ (by omega)]
    rfl
  | t :: rest, done, x, k, T, q, hc, hz, hn, hk, hR, hT => by
    obtain ⟨k, rfl⟩ : ∃ m, k = m + 1 := ⟨k - 1, by omega⟩
    rw [List.length_cons] at hn hk
    have htb := bytesOf_ofB (hc t List.mem_cons_self)
    have htz : (ofB t.text).size = t.text.length := by rw [← bytesOf_length, htb]
    have hfl : (Tok.flat (bytesOf bl) (t :: rest)).length = t.text.length + (bl.size + (Tok.flat (bytesOf bl) rest).length) := by
      show (t.text ++ (bytesOf bl ++ Tok.flat (bytesOf bl) rest)).length = _
      rw [List.length_append, List.length_append, bytesOf_length]
    rw [hfl] at hz
    have hset : (done ++ (t :: rest).map toS).set ((done.length : Int)).toNat (⟨(rd_T32 (done ++ (t :: rest).map toS) (done.length : Int)).f0, (rd_T32 (done ++ (t :: rest).map toS) (done.length : Int)).f1, (x.size : Int)⟩ : S32) = (done ++ [toS ⟨t.kind, t.text, (x.size : Nat)⟩]) ++ rest.map toS := by
      have hrd : rd_T32 (done ++ (t :: rest).map toS) (done.length : Int) = toS t := by
        unfold rd_T32
        rw [List.getD_eq_getElem?_getD, Int.toNat_natCast, List.getElem?_append_right (Nat.le_refl _), Nat.sub_self]
        rfl
      rw [hrd, Int.toNat_natCast, List.set_append_right _ _ (Nat.le_refl _), Nat.sub_self]
      simp [toS]
    have hrd2 : (rd_T32 ((done ++ [toS ⟨t.kind, t.text, (x.size : Nat)⟩]) ++ rest.map toS) (done.length : Int)).f1 = ofB t.text := by
      unfold rd_T32
      rw [List.getD_eq_getElem?_getD, Int.toNat_natCast, List.append_assoc, List.getElem?_append_right (Nat.le_refl _), Nat.sub_self]
      rfl
    have hw : wrap64 ((done.length : Int) + 1) = (((done ++ [toS ⟨t.kind, t.text, (x.size : Nat)⟩]).length : Nat) : Int) := by
      rw [List.length_append]; simp only [List.length_cons, List.length_nil]; unfold wrap64; omega
    have hx2 : ((x ++ ofB t.text) ++ bl).size = x.size + t.text.length + bl.size := by rw [size_append, size_append, htz]
    simp only [belfrylaw04_TokensAgain.l0]
    rw [if_pos (by rw [List.length_append, List.length_map, List.length_cons]; omega), if_pos (by omega), Option.bind_some, hset, hrd2, if_pos (by rw [htz]; omega), if_pos (by rw [size_append, htz]; omega), hw]
    refine again_l0 bl hbl rest _ _ k T q (fun u hu => hc u (List.mem_cons_of_mem _ hu)) (by rw [hx2]; omega) (by rw [List.length_append]; simp only [List.length_cons, List.length_nil]; omega) (by omega) ?_ ?_
    · rw [bytesOf_append, bytesOf_append, htb, ← hR]
      congr 1
      show _ = bytesOf x ++ (t.text ++ (bytesOf bl ++ Tok.flat (bytesOf bl) rest))
      simp only [List.append_assoc]
    · rw [hT, hx2]
      show done ++ (⟨t.kind, t.text, _⟩ :: Tok.place (bytesOf bl) (x.size + t.text.length + (bytesOf bl).length) rest).map toS = _
      rw [bytesOf_length, List.map_cons, List.append_assoc]
      rfl
def blankStrings : List ByteArray := [(⟨#[32]⟩ : ByteArray), (⟨#[9]⟩ : ByteArray), (⟨#[10]⟩ : ByteArray), (⟨#[13]⟩ : ByteArray), (⟨#[32, 45, 45, 32, 120, 10]⟩ : ByteArray)]
theorem blank_one (i : Nat) (h : i < 5) : bytesOf (rdOf ByteArray.empty blankStrings (i : Int)) ∈ Tok.blanks := by
  have : i = 0 ∨ i = 1 ∨ i = 2 ∨ i = 3 ∨ i = 4 := by omega
  rcases this with rfl | rfl | rfl | rfl | rfl <;> decide
theorem blank_len {l : List Int} (h : l ∈ Tok.blanks) : l.length ≤ 6 := by
  simp only [Tok.blanks, List.mem_cons, List.not_mem_nil, or_false] at h
  rcases h with rfl | rfl | rfl | rfl | rfl <;> decide
theorem TokensAgain : belfrylaw04_TokensAgain.Pure := by
  intro s a hs hwf
  obtain ⟨ha0, ha1⟩ := wf_u8 hwf
  refine ⟨s.size + 5010, ?_⟩
  unfold belfrylaw04_TokensAgain.f
  rw [alive_eqG, Option.bind_some, if_pos rfl]
  simp only [belfrylaw04_TokensAgain.j0]
  by_cases hg : (s.size : Int) > 5000
  · rw [decide_eq_true hg, if_pos rfl]; rfl
  · rw [decide_eq_false hg, if_neg (by simp)]
    rcases hx : Tok.R (bytesOf s) 0 with ⟨_ | ts, q⟩
    · rw [read_none (by omega) hx, Option.bind_some, if_neg (show ¬ ((5 : Int) = 0) by decide)]
    · rw [read_some (by omega) hx, Option.bind_some, if_pos rfl]
      obtain ⟨u1, u2, u3⟩ := Tok.R_upto _ _ _ _ hx
      rw [bytesOf_length] at u1
      obtain ⟨n, rfl⟩ : ∃ n : Nat, a = n := ⟨a.toNat, by omega⟩
      have hm : Int.tmod (n : Int) 5 = ((n % 5 : Nat) : Int) := rfl
      have hlt : n % 5 < 5 := Nat.mod_lt _ (by omega)
      show (some blankStrings).bind _ = _
      rw [Option.bind_some, hm, if_pos (by omega), if_pos (by show ((n % 5 : Nat) : Int) < 5; omega)]
      generalize n % 5 = i at hlt hm
      have hbl := blank_one i hlt
      generalize rdOf ByteArray.empty blankStrings (i : Int) = bl at hbl
      have hfl := Tok.R_flatlen (blank_len hbl) _ _ _ _ hx
      rw [bytesOf_length] at hfl
      obtain ⟨q2, hR⟩ := Tok.R_flat hbl ts (Tok.R_ok _ _ _ _ hx) 0
      have he : (⟨#[]⟩ : ByteArray).size = 0 := rfl
      have := again_l0 bl hbl ts [] ⟨#[]⟩ (s.size + 5009) (Tok.place (bytesOf bl) 0 ts) q2 (fun t ht c hc => bytes_range s c (u3 t ht c hc)) (by rw [he]; omega) (by simp only [List.length_nil]; omega) (by omega) (by rw [← hR]; rfl) rfl
      exact this
end Go.Proofs.YtgenhcanaoejkaaDoor.Pure
