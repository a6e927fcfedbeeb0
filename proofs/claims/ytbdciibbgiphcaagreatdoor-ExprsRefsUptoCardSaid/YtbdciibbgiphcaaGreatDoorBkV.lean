/- Lists that are written over, and grown, apart from each other: plain facts about a world's blocks. (Of whatever program.) -/
import Derived.Test.YtbdciibbgiphcaaGreatDoorZx0
import Derived.Lib.Hide
import Derived.Laws.AppendOwn
import Derived.Maps.AppendAt
namespace Go.Proofs.YtbdciibbgiphcaaGreatDoor.B
set_option linter.unusedVariables false
set_option linter.unusedSimpArgs false
set_option linter.unusedSectionVars false
open Go.RowKit
/-- the cells of n elements that are alike. -/
def marks (c : List Value) (n : Nat) : List Value := (List.replicate n c).flatten
theorem marks_len (c : List Value) (n : Nat) : (marks c n).length = n * c.length := by
  unfold marks; rw [List.length_flatten, List.map_replicate, List.sum_replicate_nat]
theorem marks_succ (c : List Value) (n : Nat) : marks c (n + 1) = marks c n ++ c := by
  unfold marks
  rw [List.replicate_succ', List.flatten_append]
  simp
theorem marks_get (c : List Value) : ∀ (n k j : Nat) (u : Value), k < n → c[j]? = some u → (marks c n)[k * c.length + j]? = some u
  | 0, k, j, u, hk, _ => absurd hk (by omega)
  | n + 1, k, j, u, hk, hj => by
    have hjl : j < c.length := by
      rcases Nat.lt_or_ge j c.length with h | h
      · exact h
      · rw [List.getElem?_eq_none h] at hj; cases hj
    rw [marks_succ]
    by_cases h : k < n
    · rw [List.getElem?_append_left]
      · exact marks_get c n k j u h hj
      · rw [marks_len]
        have : (k + 1) * c.length ≤ n * c.length := Nat.mul_le_mul_right _ (by omega)
        rw [Nat.add_mul] at this; omega
    · obtain rfl : k = n := by omega
      rw [List.getElem?_append_right (by rw [marks_len]; omega), marks_len, Nat.add_sub_cancel_left]
      exact hj
/-- of one's own: with one cell turned. -/
theorem own_set {w : World} {base : Nat} {e : TypeId} {size n : Nat} {g cap : Nat} {xs : List Value} (h : w.ownsRow base e size (.slice (some ⟨g, 0, none⟩) n cap) n xs) (j : Nat) (u : Value) :
    (w.setCell ⟨g, j, none⟩ u).ownsRow base e size (.slice (some ⟨g, 0, none⟩) n cap) n (xs.set j u) := by
  refine ⟨by rw [List.length_set]; exact h.1, ?_⟩
  rcases h.2 with ⟨hv, _⟩ | ⟨g', cap', cur, hv, hb, hg, hn, hc, hs, ht⟩
  · cases hv
  · injection hv with h1 h2 h3
    injection h1 with h1
    injection h1 with h1
    subst h1; subst h3
    refine .inr ⟨g, cap, cur.setIfInBounds j u, rfl, hb, ?_, hn, hc, by simpa using hs, ?_⟩
    · simp [World.setCell, hg, Array.getElem?_modify]
    · rw [Array.toList_setIfInBounds, List.take_set, ht]
/-- what a list reads as, whoever owns it. -/
def Pre (w : World) (e : TypeId) (size : Nat) (v : Value) (n : Nat) (xs : List Value) : Prop :=
  (v = .slice none 0 0 ∧ n = 0) ∨ ∃ g cap cur, v = .slice (some ⟨g, 0, none⟩) n cap ∧ w.heap[g]? = some (.cells cur e (0, 0)) ∧ cur.toList.take (n * size) = xs
theorem Pre.of_own {w : World} {base : Nat} {e : TypeId} {size n : Nat} {v : Value} {xs : List Value} (h : w.ownsRow base e size v n xs) : Pre w e size v n xs := by
  rcases h.2 with h | ⟨g, cap, cur, hv, _, hg, _, _, _, ht⟩
  · exact .inl h
  · exact .inr ⟨g, cap, cur, hv, hg, ht⟩
theorem Pre.kept {w w' : World} {e : TypeId} {size n : Nat} {v : Value} {xs : List Value} (h : Pre w e size v n xs) (hk : ∀ k, v.ownBlock = some k → w'.heap[k]? = w.heap[k]?) : Pre w' e size v n xs := by
  rcases h with h | ⟨g, cap, cur, rfl, hg, ht⟩
  · exact .inl h
  · exact .inr ⟨g, cap, cur, rfl, by rw [hk g rfl]; exact hg, ht⟩
theorem Pre.cell {w : World} {e : TypeId} {size n : Nat} {g cap : Nat} {xs : List Value} (h : Pre w e size (.slice (some ⟨g, 0, none⟩) n cap) n xs) (j : Nat) (u : Value) (hu : xs[j]? = some u) : w.cell? ⟨g, j, none⟩ = some u := by
  rcases h with ⟨h, _⟩ | ⟨g', cap', cur, hv, hg, ht⟩
  · cases h
  · injection hv with h1 h2 h3
    injection h1 with h1
    injection h1 with h1
    subst h1
    rw [← ht] at hu
    have : cur.toList[j]? = some u := by
      rw [List.getElem?_take] at hu
      split at hu
      · exact hu
      · cases hu
    simpa [World.cell?, hg] using this
theorem own_kept {w w' : World} {base : Nat} {e : TypeId} {size n : Nat} {v : Value} {xs : List Value} (h : w.ownsRow base e size v n xs) (hk : ∀ k, v.ownBlock = some k → w'.heap[k]? = w.heap[k]?) : w'.ownsRow base e size v n xs := by
  refine ⟨h.1, ?_⟩
  rcases h.2 with h | ⟨g, cap, cur, rfl, hb, hg, rest⟩
  · exact .inl h
  · exact .inr ⟨g, cap, cur, rfl, hb, by rw [hk g rfl]; exact hg, rest⟩
/-- one more behind a list of one's own: in its own block, or in a new one, and then nothing of what was there turns. -/
theorem append_two {P : Program} (w : World) (base : Nat) (t ty e : TypeId) (z : Value) (size bytes : Nat) (ht : P.underlying t = some (.slice e))
    (hinfo : (P.info? e).map (fun i => (i.zero, i.size, i.bytes)) = some (some z, size, bytes)) (hzs : z.cells.size = size) (hsz : 0 < size) (hb0 : 0 < bytes)
    (v : Value) (n : Nat) (xs : List Value) (hown : w.ownsRow base e size v n xs) (ad : Addr) (c : Nat) (news : List Value) (hl : news.length = size) (hnews : ∀ j u, news[j]? = some u → w.cell? (ad.add j) = some u)
    (h1 : ∀ u ∈ news, u.oneCell' = true) (hbytes : (n + 1) * bytes ≤ 140737488355328) (hbase : base ≤ w.heap.size) :
    ∃ v' w', (Builtin.append_ #[t, t] ty #[v, .slice (some ad) 1 c]).run P w = .ok v' w' ∧ w'.ownsRow base e size v' (n + 1) (xs ++ news) ∧
      ((v'.ownBlock = v.ownBlock ∧ w.grownBy w' v.ownBlock) ∨ (v'.ownBlock = some w.heap.size ∧ w.grownBy w' none)) := by
  obtain ⟨i, hi, hzz⟩ := Option.map_eq_some_iff.1 hinfo
  simp only [Prod.mk.injEq] at hzz
  obtain ⟨hz, hsize, hby⟩ := hzz
  have h63 : n + 1 ≤ maxLen := by
    have : n + 1 ≤ (n + 1) * bytes := Nat.le_mul_of_pos_right _ hb0
    simp only [maxLen]; omega
  obtain ⟨v', w', hr, h2, h3, h4, h5⟩ := run_append_own_at (P := P) w base t ty e i z size bytes ht hi hz hsize hby hzs hsz v n xs hown ad 1 c news (by omega) hnews h1 h63 hbytes hbase
  refine ⟨v', w', hr, h2, ?_⟩
  rcases h5 with h5 | h5
  · exact .inl ⟨h5, h3⟩
  · refine .inr ⟨h5, ?_⟩
    rcases hown.2 with ⟨rfl, rfl⟩ | ⟨g, cap, cur, rfl, hbg, hg, hnc, hcm, hcs, htake⟩
    · exact h3
    · by_cases hroom : n + 1 ≤ cap
      · exfalso
        subst hsize
        have hfit : n * i.size + news.length ≤ cur.size := by rw [hl, hcs]; have : (n + 1) * i.size ≤ cap * i.size := Nat.mul_le_mul_right _ hroom; rw [Nat.add_mul] at this; omega
        have hr2 := run_append_room (P := P) w t ty e i ht hi g n cap cur hg ad 1 c news (by omega) hnews h1 hroom hfit
        rw [hr2] at hr
        injection hr with hv hw
        rw [← hv] at h5
        have : g = w.heap.size := by simpa [Value.ownBlock] using h5
        have hlt : g < w.heap.size := (Array.getElem?_eq_some_iff.1 hg).1
        omega
      · subst hsize; subst hby
        have holds : ∀ j u, xs[j]? = some u → w.cell? ((⟨g, 0, none⟩ : Addr).add j) = some u := hown.cells (g := g) rfl
        have hr2 := run_append_grow (P := P) w t ty e i z ht hi hz ⟨g, 0, none⟩ n cap xs hown.1 holds ad 1 c news (by omega) hnews (by omega) (by simp only [maxLen] at h63; omega) (growslice_fits (by omega) hbytes)
        rw [hr2] at hr
        injection hr with hv hw
        rw [← hw]
        exact ⟨rfl, rfl, rfl, by simp, fun k hk _ => Below.heap_alloc w.drew _ k hk⟩
end Go.Proofs.YtbdciibbgiphcaaGreatDoor.B
