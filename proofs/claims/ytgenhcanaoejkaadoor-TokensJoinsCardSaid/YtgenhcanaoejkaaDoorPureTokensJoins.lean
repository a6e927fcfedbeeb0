/- TokensJoins: what its printed function answers, in plain words. -/
import Derived.Test.YtgenhcanaoejkaaDoorSxJ
import Derived.Test.YtgenhcanaoejkaaDoorPuT
import Derived.Test.YtgenhcanaoejkaaDoorTokR
namespace Go.Proofs.YtgenhcanaoejkaaDoor.Pure
set_option linter.unusedVariables false
set_option linter.unusedSimpArgs false
open Go.RowKit Go.Proofs.YtgenhcanaoejkaaDoor.S Go.Proofs.YtgenhcanaoejkaaDoorW.PrintWords Go.Proofs.YtgenhcanaoejkaaDoorW.PrintLast
theorem alive_eqJ : belfrylaw04_alive.f = some true := rfl
theorem wid2 (n : Nat) (p : Int) (h0 : 0 ≤ p) (h1 : p ≤ 1000000) (hn : n ≤ 1000000) : wrap64 (wrap64 ((n : Int) + 1) + p) = p + ((n + 1 : Nat) : Int) := by
  have e : wrap64 ((n : Int) + 1) = (n : Int) + 1 := by unfold wrap64; omega
  rw [e]
  unfold wrap64
  omega
theorem joins_l0 (s : ByteArray) (hs : s.size ≤ 1000000) (x8 x11 : List S32) : ∀ (rest : List Tok.T) (pre : List S32) (done : List S32) (k : Nat), x8 = pre ++ rest.map toS → (∀ t ∈ rest, 0 ≤ t.pos ∧ t.pos ≤ 1000000) →
    pre.length + rest.length ≤ 100000 → done.length + rest.length ≤ 100000 → rest.length + 100002 < k → x11 = done ++ (rest.map fun t => t.by (s.size + 1)).map toS →
    belfrylaw04_TokensJoins.l0 k s x8 x11 0 done (pre.length : Int) = some true
  | [], pre, done, k, h8, hp, hn, hd, hk, h11 => by
    obtain ⟨k, rfl⟩ : ∃ m, k = m + 1 := ⟨k - 1, by omega⟩
    rw [List.map_nil, List.append_nil] at h8
    rw [List.map_nil, List.map_nil, List.append_nil] at h11
    subst h8; subst h11
    simp only [List.length_nil, Nat.add_zero] at hn hd hk
    simp only [belfrylaw04_TokensJoins.l0]
    rw [if_neg (by omega), if_pos trivial, same_f x11 (by omega) _ (by omega)]
    rfl
  | t :: rest, pre, done, k, h8, hp, hn, hd, hk, h11 => by
    obtain ⟨k, rfl⟩ : ∃ m, k = m + 1 := ⟨k - 1, by omega⟩
    rw [List.length_cons] at hn hd hk
    have hrd : rd_T32 x8 (pre.length : Int) = toS t := by
      unfold rd_T32
      rw [h8, List.getD_eq_getElem?_getD, Int.toNat_natCast, List.getElem?_append_right (Nat.le_refl _), Nat.sub_self]
      rfl
    have hlen : x8.length = pre.length + (rest.length + 1) := by rw [h8, List.length_append, List.length_map, List.length_cons]
    have ht := hp t List.mem_cons_self
    have hf : (toS t).f2 = t.pos := rfl
    have hw := wid2 s.size t.pos ht.1 ht.2 hs
    have hw2 : wrap64 ((pre.length : Int) + 1) = (((pre ++ [toS t]).length : Nat) : Int) := by
      rw [List.length_append]; simp only [List.length_cons, List.length_nil]; unfold wrap64; omega
    simp only [belfrylaw04_TokensJoins.l0]
    rw [if_pos (by omega), if_pos (by omega), if_pos (by omega), hrd, hf, hw, hw2]
    refine joins_l0 s hs x8 x11 rest (pre ++ [toS t]) _ k (by rw [h8]; simp) (fun u hu => hp u (List.mem_cons_of_mem _ hu)) (by rw [List.length_append]; simp only [List.length_cons, List.length_nil]; omega)
      (by rw [List.length_append]; simp only [List.length_cons, List.length_nil]; omega) (by omega) ?_
    rw [h11, List.map_cons, List.map_cons, List.append_assoc]
    rfl
theorem TokensJoins : belfrylaw04_TokensJoins.Pure := by
  intro s t hs ht
  refine ⟨s.size + t.size + 100010 + 1, ?_⟩
  unfold belfrylaw04_TokensJoins.f
  rw [alive_eqJ, Option.bind_some, if_pos rfl]
  by_cases hg : (s.size : Int) > 20000
  · rw [if_pos hg]; rfl
  rw [if_neg hg]
  by_cases hg2 : (t.size : Int) > 20000
  · rw [decide_eq_true hg2]; rfl
  rw [decide_eq_false hg2]
  have hb : bytesOf ((s ++ (⟨#[10]⟩ : ByteArray)) ++ t) = bytesOf s ++ 10 :: bytesOf t := by
    rw [bytesOf_append, bytesOf_append, List.append_assoc]; rfl
  have hz1 : (s ++ (⟨#[10]⟩ : ByteArray)).size = s.size + 1 := by rw [size_append]; rfl
  have hz : ((s ++ (⟨#[10]⟩ : ByteArray)) ++ t).size = s.size + 1 + t.size := by rw [size_append, hz1]
  have hj := Tok.R_join (bytesOf t) (bytesOf s) 0
  rw [← hb, bytesOf_length, show 0 + s.size + 1 = 0 + (s.size + 1) by omega, Tok.R_shift] at hj
  simp only [belfrylaw04_TokensJoins.j0]
  rw [if_neg (by simp)]
  rcases hx : Tok.R (bytesOf s) 0 with ⟨_ | ts, q⟩
  · rw [hx] at hj
    obtain ⟨y, hy⟩ : ∃ y, tokens_Read.f t = some y := ⟨_, rfl⟩
    rw [read_none (by omega) hx, Option.bind_some, hy, Option.bind_some, if_pos (by omega), if_pos (by rw [hz1]; omega), read_none (by omega) hj, Option.bind_some, if_neg (show ¬ ((5 : Int) = 0) by decide), if_pos rfl, if_pos rfl]
    rfl
  · rw [hx] at hj
    rcases hx2 : Tok.R (bytesOf t) 0 with ⟨_ | us, q2⟩
    · rw [hx2] at hj
      have hj2 : Tok.R (bytesOf ((s ++ (⟨#[10]⟩ : ByteArray)) ++ t)) 0 = (none, q2 + (s.size + 1)) := hj
      have hq := Tok.R_wrong _ _ _ hx2
      rw [bytesOf_length] at hq
      have hw := wid2 s.size q2 (by omega) (by omega) (by omega)
      rw [read_some (by omega) hx, Option.bind_some, read_none (by omega) hx2, Option.bind_some, if_pos (by omega), if_pos (by rw [hz1]; omega), read_none (by omega) hj2, Option.bind_some, if_pos rfl, if_neg (show ¬ ((5 : Int) = 0) by decide), if_pos rfl, hw, if_pos (show ((q2 + (s.size + 1) : Nat) : Int) = (q2 : Int) + ((s.size + 1 : Nat) : Int) by omega)]
      rfl
    · rw [hx2] at hj
      have hj2 : Tok.R (bytesOf ((s ++ (⟨#[10]⟩ : ByteArray)) ++ t)) 0 = (some (ts ++ us.map fun t => t.by (s.size + 1)), q2 + (s.size + 1)) := hj
      obtain ⟨u1, u2, u3⟩ := Tok.R_upto _ _ _ _ hx
      obtain ⟨v1, v2, v3⟩ := Tok.R_upto _ _ _ _ hx2
      have v4 := Tok.R_from _ _ _ _ hx2
      rw [bytesOf_length] at u1 u2 v1 v2
      rw [read_some (by omega) hx, Option.bind_some, read_some (by omega) hx2, Option.bind_some, if_pos (by omega), if_pos (by rw [hz1]; omega), read_some (by omega) hj2, Option.bind_some, if_pos rfl, if_pos rfl,
        if_pos (by rw [List.length_map, List.length_nil]; omega), List.nil_append]
      have := joins_l0 s (by omega) (us.map toS) ((ts ++ us.map fun t => t.by (s.size + 1)).map toS) us [] (ts.map toS) (s.size + t.size + 100010) rfl (fun x hx => ⟨by have := v4 x hx; omega, by have := v2 x hx; omega⟩)
        (by simp only [List.length_nil]; omega) (by rw [List.length_map]; omega) (by omega) (by rw [List.map_append])
      exact this
end Go.Proofs.YtgenhcanaoejkaaDoor.Pure
