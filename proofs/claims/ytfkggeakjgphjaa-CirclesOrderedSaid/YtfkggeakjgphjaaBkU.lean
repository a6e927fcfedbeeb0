/- Words of appends. Selected by wip/sel.py (ours) out of other texts. -/
import Derived.Test.YtfkggeakjgphjaaCx0
import Derived.Lib.Hide
import Derived.Laws.AppendOwn
import Derived.Maps.AppendAt
namespace Go.Proofs.Ytfkggeakjgphjaa.B
set_option linter.unusedVariables false
set_option linter.unusedSimpArgs false
set_option linter.unusedSectionVars false
open Go.RowKit
/-- of one's own: with one cell turned. -/
theorem own_set {w : World} {base : Nat} {e : TypeId} {size n : Nat} {g cap : Nat} {xs : List Value} (h : w.ownsRow base e size (.slice (some ⟨g, 0, none⟩) n cap) n xs) (j : Nat) (u : Value) :
    (w.setCell ⟨g, j, none⟩ u).ownsRow base e size (.slice (some ⟨g, 0, none⟩) n cap) n (xs.set j u) := by
  refine ⟨by rw [List.length_set]; exact h.1, ?_⟩
  rcases h.2 with ⟨hv, _⟩ | ⟨g', cap', cur, hv, hb, hg, hn, hc, hs, ht⟩
  · cases hv
  · injection hv with h1 h2 h3
    injection h1 with h1
    injection h1 with h1
    subst h1; subst h3
    refine .inr ⟨g, cap, cur.setIfInBounds j u, rfl, hb, ?_, hn, hc, by simpa using hs, ?_⟩
    · simp [World.setCell, hg, Array.getElem?_modify]
    · rw [Array.toList_setIfInBounds, List.take_set, ht]
/-- what a list reads as, whoever owns it. -/
def Pre (w : World) (e : TypeId) (size : Nat) (v : Value) (n : Nat) (xs : List Value) : Prop :=
  (v = .slice none 0 0 ∧ n = 0) ∨ ∃ g cap cur, v = .slice (some ⟨g, 0, none⟩) n cap ∧ w.heap[g]? = some (.cells cur e (0, 0)) ∧ cur.toList.take (n * size) = xs
theorem Pre.cell {w : World} {e : TypeId} {size n : Nat} {g cap : Nat} {xs : List Value} (h : Pre w e size (.slice (some ⟨g, 0, none⟩) n cap) n xs) (j : Nat) (u : Value) (hu : xs[j]? = some u) : w.cell? ⟨g, j, none⟩ = some u := by
  rcases h with ⟨h, _⟩ | ⟨g', cap', cur, hv, hg, ht⟩
  · cases h
  · injection hv with h1 h2 h3
    injection h1 with h1
    injection h1 with h1
    subst h1
    rw [← ht] at hu
    have : cur.toList[j]? = some u := by
      rw [List.getElem?_take] at hu
      split at hu
      · exact hu
      · cases hu
    simpa [World.cell?, hg] using this
theorem own_kept {w w' : World} {base : Nat} {e : TypeId} {size n : Nat} {v : Value} {xs : List Value} (h : w.ownsRow base e size v n xs) (hk : ∀ k, v.ownBlock = some k → w'.heap[k]? = w.heap[k]?) : w'.ownsRow base e size v n xs := by
  refine ⟨h.1, ?_⟩
  rcases h.2 with h | ⟨g, cap, cur, rfl, hb, hg, rest⟩
  · exact .inl h
  · exact .inr ⟨g, cap, cur, rfl, hb, by rw [hk g rfl]; exact hg, rest⟩
/-- one more behind a list of one's own: in its own block, or in a new one, and then nothing of what was there turns. -/
theorem append_two {P : Program} (w : World) (base : Nat) (t ty e : TypeId) (z : Value) (size bytes : Nat) (ht : P.underlying t = some (.slice e))
    (hinfo : (P.info? e).map (fun i => (i.zero, i.size, i.bytes)) = some (some z, size, bytes)) (hzs : z.cells.size = size) (hsz : 0 < size) (hb0 : 0 < bytes)
    (v : Value) (n : Nat) (xs : List Value) (hown : w.ownsRow base e size v n xs) (ad : Addr) (c : Nat) (news : List Value) (hl : news.length = size) (hnews : ∀ j u, news[j]? = some u → w.cell? (ad.add j) = some u)
    (h1 : ∀ u ∈ news, u.oneCell' = true) (hbytes : (n + 1) * bytes ≤ 140737488355328) (hbase : base ≤ w.heap.size) :
    ∃ v' w', (Builtin.append_ #[t, t] ty #[v, .slice (some ad) 1 c]).run P w = .ok v' w' ∧ w'.ownsRow base e size v' (n + 1) (xs ++ news) ∧
      ((v'.ownBlock = v.ownBlock ∧ w.grownBy w' v.ownBlock) ∨ (v'.ownBlock = some w.heap.size ∧ w.grownBy w' none)) := by
  obtain ⟨i, hi, hzz⟩ := Option.map_eq_some_iff.1 hinfo
  simp only [Prod.mk.injEq] at hzz
  obtain ⟨hz, hsize, hby⟩ := hzz
  have h63 : n + 1 ≤ maxLen := by
    have : n + 1 ≤ (n + 1) * bytes := Nat.le_mul_of_pos_right _ hb0
    simp only [maxLen]; omega
  obtain ⟨v', w', hr, h2, h3, h4, h5⟩ := run_append_own_at (P := P) w base t ty e i z size bytes ht hi hz hsize hby hzs hsz v n xs hown ad 1 c news (by omega) hnews h1 h63 hbytes hbase
  refine ⟨v', w', hr, h2, ?_⟩
  rcases h5 with h5 | h5
  · exact .inl ⟨h5, h3⟩
  · refine .inr ⟨h5, ?_⟩
    rcases hown.2 with ⟨rfl, rfl⟩ | ⟨g, cap, cur, rfl, hbg, hg, hnc, hcm, hcs, htake⟩
    · exact h3
    · by_cases hroom : n + 1 ≤ cap
      · exfalso
        subst hsize
        have hfit : n * i.size + news.length ≤ cur.size := by rw [hl, hcs]; have : (n + 1) * i.size ≤ cap * i.size := Nat.mul_le_mul_right _ hroom; rw [Nat.add_mul] at this; omega
        have hr2 := run_append_room (P := P) w t ty e i ht hi g n cap cur hg ad 1 c news (by omega) hnews h1 hroom hfit
        rw [hr2] at hr
        injection hr with hv hw
        rw [← hv] at h5
        have : g = w.heap.size := by simpa [Value.ownBlock] using h5
        have hlt : g < w.heap.size := (Array.getElem?_eq_some_iff.1 hg).1
        omega
      · subst hsize; subst hby
        have holds : ∀ j u, xs[j]? = some u → w.cell? ((⟨g, 0, none⟩ : Addr).add j) = some u := hown.cells (g := g) rfl
        have hr2 := run_append_grow (P := P) w t ty e i z ht hi hz ⟨g, 0, none⟩ n cap xs hown.1 holds ad 1 c news (by omega) hnews (by omega) (by simp only [maxLen] at h63; omega) (growslice_fits (by omega) hbytes)
        rw [hr2] at hr
        injection hr with hv hw
        rw [← hw]
        exact ⟨rfl, rfl, rfl, by simp, fun k hk _ => Below.heap_alloc w.drew _ k hk⟩
open Go.RowKit Go.Proofs.YtfkggeakjgphjaaW.PrintWords Go.Proofs.YtfkggeakjgphjaaW.PrintLast Go.Proofs.YtfkggeakjgphjaaW.PrintMore
def rowCells (rows : List (Value × Value × Nat)) : List Value := rows.flatMap fun r => [r.1, r.2.1, .int .i64 r.2.2]
theorem rowCells_set : ∀ (rows : List (Value × Value × Nat)) (i : Nat) (v l l0 : Value) (n : Nat), rows[i]? = some (v, l0, n) → (rowCells rows).set (i * 3 + 1) l = rowCells (rows.set i (v, l, n))
  | [], i, v, l, l0, n, h => by simp at h
  | x :: rows, 0, v, l, l0, n, h => by
    simp only [List.getElem?_cons_zero, Option.some.injEq] at h
    subst h
    rfl
  | x :: rows, i + 1, v, l, l0, n, h => by
    rw [List.getElem?_cons_succ] at h
    have ih := rowCells_set rows i v l l0 n h
    have e : rowCells (x :: rows) = x.1 :: x.2.1 :: .int .i64 x.2.2 :: rowCells rows := rfl
    have e2 : rowCells ((x :: rows).set (i + 1) (v, l, n)) = x.1 :: x.2.1 :: .int .i64 x.2.2 :: rowCells (rows.set i (v, l, n)) := rfl
    rw [e, e2, show (i + 1) * 3 + 1 = (i * 3 + 1) + 1 + 1 + 1 by omega]
    simp only [List.set_cons_succ]
    rw [ih]
theorem blk_cell {w : World} {k : Nat} {cs : Array Value} {t : TypeId} (h : w.heap[k]? = some (.cells cs t (0, 0))) (j : Nat) : w.cell? ⟨k, j, none⟩ = cs[j]? := by simp [World.cell?, h]
theorem set_other (w : World) (k j : Nat) (u : Value) (q : Nat) (hq : q ≠ k) : (w.setCell ⟨k, j, none⟩ u).heap[q]? = w.heap[q]? := Below.heap_setCell w _ u q hq
theorem wp_append_two {P : Program} {ops : Array Oper} {rest : List Oper} {o : Oper} {a : Act} {Q : Exit → Act → World → Prop} {W : World} (base : Nat) (hgd : o.guard = none) (s x : Operand) (t e : TypeId) (z : Value) (size bytes : Nat)
    (ho : o.op = .call { callee := .builtin .append, args := #[s, x], argTypes := #[t, t] }) (ht : P.underlying t = some (.slice e)) (hinfo : (P.info? e).map (fun i => (i.zero, i.size, i.bytes)) = some (some z, size, bytes)) (hz : z.cells.size = size) (hs0 : 0 < size) (hb0 : 0 < bytes)
    (v : Value) (n : Nat) (xs ys : List Value) (hs : a.eval s = v) (hx : a.eval x = .slice (some ⟨W.heap.size, 0, none⟩) 1 1) (hys : ys.length = size) (h1 : ∀ u ∈ ys, u.oneCell' = true) (HO : W.ownsRow base e size v n xs) (hbase : base ≤ W.heap.size) (hl : (n + 1) * bytes ≤ 140737488355328)
    (h : ∀ v1 w1, w1.ownsRow base e size v1 (n + 1) (xs ++ ys) → ((v1.ownBlock = v.ownBlock ∧ W.grownBy w1 v.ownBlock) ∨ (∃ q, v1.ownBlock = some q ∧ W.heap.size ≤ q ∧ W.grownBy w1 none)) → wpList P ops Q rest (a.put o.dst v1) w1) :
    wpList P ops Q (o :: rest) a (W.alloc (.cells ys.toArray e)) := by
  refine wpList_plain hgd fun K hK => ?_
  obtain ⟨v', w', hr, h2, h3⟩ := append_two (P := P) (W.alloc (.cells ys.toArray e)) base t o.type e z size bytes ht hinfo hz hs0 hb0 v n xs (HO.alloc _) ⟨W.heap.size, 0, none⟩ 1 ys hys
    (by simpa using World.news_of_block (cs := ys.toArray) (t := e) (fr := (0, 0)) (heap_alloc_new W (.cells ys.toArray e))) h1 hl (by simp; omega)
  unfold Oper.wp execOp
  simp only [ho, resolve, invoke, builtin, Sem.run_bind, Sem.run_pure, Result.andThen_ok, List.map_toArray, List.map_cons, List.map_nil, hs, hx, hr]
  refine hK _ _ (h v' w' h2 ?_)
  rcases h3 with ⟨h4, h5⟩ | ⟨h4, h5⟩
  · exact .inl ⟨h4, (World.grownBy_alloc W _ _).trans h5⟩
  · exact .inr ⟨_, h4, by simp, (World.grownBy_alloc W _ _).trans h5⟩
/-- the Book's block, and the row of one kind's lists: bc the block's cells, f the kind's field, N how many lists of all kinds. -/
structure Bk (w : World) (base kb T held f : Nat) (bc : Array Value) (N : Nat) (tv : Value) (rows : List (Value × Value × Nat)) : Prop where
  book : w.heap[kb]? = some (.cells bc T (0, 0))
  n0 : bc[0]? = some (.int .i64 N)
  nf : bc[f]? = some tv
  hkb : base ≤ kb
  tok : w.ownsRow base held 3 tv rows.length (rowCells rows)
  ne : tv.ownBlock ≠ some kb
theorem Bk.cell {w : World} {base kb T held f N : Nat} {bc : Array Value} {tv : Value} {rows : List (Value × Value × Nat)} (h : Bk w base kb T held f bc N tv rows) (j : Nat) : w.cell? ⟨kb, j, none⟩ = bc[j]? := blk_cell h.book j
section
variable (e m : Nat) (cf : Nat → List Value)
variable {e m cf}
variable (e m cf)
variable {e m cf}
variable (e m cf)
variable {e m cf}
theorem Bk.put {wr : World} {base kb T held f N tb i n mm ct : Nat} {bc : Array Value} {v l l0 : Value} {rows : List (Value × Value × Nat)} (h : Bk wr base kb T held f bc N (.slice (some ⟨tb, 0, none⟩) mm ct) rows) (hm : rows.length = mm) (hr : rows[i]? = some (v, l0, n)) :
    Bk (wr.setCell ⟨tb, i * 3 + 1, none⟩ l) base kb T held f bc N (.slice (some ⟨tb, 0, none⟩) mm ct) (rows.set i (v, l, n)) := by
  have hne : tb ≠ kb := fun e => h.ne (by rw [e]; rfl)
  refine ⟨by rw [set_other wr tb _ l kb (fun e => hne e.symm)]; exact h.book, h.n0, h.nf, h.hkb, ?_, h.ne⟩
  rw [← rowCells_set rows i v l l0 n hr, List.length_set]
  have ht := h.tok
  rw [hm] at ht ⊢
  exact own_set ht (i * 3 + 1) l
variable (e m cf)
end
end Go.Proofs.Ytfkggeakjgphjaa.B
