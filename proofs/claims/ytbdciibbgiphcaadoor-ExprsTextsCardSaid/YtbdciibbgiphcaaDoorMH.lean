/- TwinExpr, LeftExpr, ExprSize. Joined by wip/merge.py (ours) from several texts of this seat. -/
import Derived.Test.YtbdciibbgiphcaaDoorMA
import Derived.Lib.Hide
import Derived.Laws.AppendOwn
import Derived.Maps.AppendAt
import Derived.Test.YtbdciibbgiphcaaDoorMF
import Derived.Test.YtbdciibbgiphcaaDoorME
import Derived.Deep.RegionHeld3
import Derived.LoopTactic
import Derived.OwnWalk
import Derived.Laws.MakeOwn
/- Lists that are written over, and grown, apart from each other: plain facts about a world's blocks. (Of whatever program.) -/
namespace Go.Proofs.YtbdciibbgiphcaaDoor.B
set_option linter.unusedVariables false
set_option linter.unusedSimpArgs false
set_option linter.unusedSectionVars false
open Go.RowKit
/-- the cells of n elements that are alike. -/
def marks (c : List Value) (n : Nat) : List Value := (List.replicate n c).flatten
theorem marks_len (c : List Value) (n : Nat) : (marks c n).length = n * c.length := by
 unfold marks; rw [List.length_flatten, List.map_replicate, List.sum_replicate_nat]
theorem marks_succ (c : List Value) (n : Nat) : marks c (n + 1) = marks c n ++ c := by
 unfold marks
 rw [List.replicate_succ', List.flatten_append]
 simp
theorem marks_get (c : List Value) : ∀ (n k j : Nat) (u : Value), k < n → c[j]? = some u → (marks c n)[k * c.length + j]? = some u
 | 0, k, j, u, hk, _ => absurd hk (by omega)
 | n + 1, k, j, u, hk, hj => by
  have hjl : j < c.length := by
   rcases Nat.lt_or_ge j c.length with h | h
   ·exact h
   ·rw [List.getElem?_eq_none h] at hj; cases hj
  rw [marks_succ]
  by_cases h : k < n
  ·rw [List.getElem?_append_left]
   ·exact marks_get c n k j u h hj
   ·rw [marks_len]
    have : (k + 1) * c.length ≤ n * c.length := Nat.mul_le_mul_right _ (by omega)
    rw [Nat.add_mul] at this; omega
  ·obtain rfl : k = n := by omega
   rw [List.getElem?_append_right (by rw [marks_len]; omega), marks_len, Nat.add_sub_cancel_left]
   exact hj
/-- of one's own: with one cell turned. -/
theorem own_set {w : World} {base : Nat} {e : TypeId} {size n : Nat} {g cap : Nat} {xs : List Value} (h : w.ownsRow base e size (.slice (some ⟨g, 0, none⟩) n cap) n xs) (j : Nat) (u : Value) :
  (w.setCell ⟨g, j, none⟩ u).ownsRow base e size (.slice (some ⟨g, 0, none⟩) n cap) n (xs.set j u) := by
 refine ⟨by rw [List.length_set]; exact h.1, ?_⟩
 rcases h.2 with ⟨hv, _⟩ | ⟨g', cap', cur, hv, hb, hg, hn, hc, hs, ht⟩
 ·cases hv
 ·injection hv with h1 h2 h3
  injection h1 with h1
  injection h1 with h1
  subst h1; subst h3
  refine .inr ⟨g, cap, cur.setIfInBounds j u, rfl, hb, ?_, hn, hc, by simpa using hs, ?_⟩
  ·simp [World.setCell, hg, Array.getElem?_modify]
  ·rw [Array.toList_setIfInBounds, List.take_set, ht]
/-- what a list reads as, whoever owns it. -/
def Pre (w : World) (e : TypeId) (size : Nat) (v : Value) (n : Nat) (xs : List Value) : Prop :=
 (v = .slice none 0 0 ∧ n = 0) ∨ ∃ g cap cur, v = .slice (some ⟨g, 0, none⟩) n cap ∧ w.heap[g]? = some (.cells cur e (0, 0)) ∧ cur.toList.take (n * size) = xs
theorem Pre.of_own {w : World} {base : Nat} {e : TypeId} {size n : Nat} {v : Value} {xs : List Value} (h : w.ownsRow base e size v n xs) : Pre w e size v n xs := by
 rcases h.2 with h | ⟨g, cap, cur, hv, _, hg, _, _, _, ht⟩
 ·exact .inl h
 ·exact .inr ⟨g, cap, cur, hv, hg, ht⟩
theorem Pre.kept {w w' : World} {e : TypeId} {size n : Nat} {v : Value} {xs : List Value} (h : Pre w e size v n xs) (hk : ∀ k, v.ownBlock = some k → w'.heap[k]? = w.heap[k]?) : Pre w' e size v n xs := by
 rcases h with h | ⟨g, cap, cur, rfl, hg, ht⟩
 ·exact .inl h
 ·exact .inr ⟨g, cap, cur, rfl, by rw [hk g rfl]; exact hg, ht⟩
theorem Pre.cell {w : World} {e : TypeId} {size n : Nat} {g cap : Nat} {xs : List Value} (h : Pre w e size (.slice (some ⟨g, 0, none⟩) n cap) n xs) (j : Nat) (u : Value) (hu : xs[j]? = some u) : w.cell? ⟨g, j, none⟩ = some u := by
 rcases h with ⟨h, _⟩ | ⟨g', cap', cur, hv, hg, ht⟩
 ·cases h
 ·injection hv with h1 h2 h3
  injection h1 with h1
  injection h1 with h1
  subst h1
  rw [← ht] at hu
  have : cur.toList[j]? = some u := by
   rw [List.getElem?_take] at hu
   split at hu
   ·exact hu
   ·cases hu
  simpa [World.cell?, hg] using this
theorem own_kept {w w' : World} {base : Nat} {e : TypeId} {size n : Nat} {v : Value} {xs : List Value} (h : w.ownsRow base e size v n xs) (hk : ∀ k, v.ownBlock = some k → w'.heap[k]? = w.heap[k]?) : w'.ownsRow base e size v n xs := by
 refine ⟨h.1, ?_⟩
 rcases h.2 with h | ⟨g, cap, cur, rfl, hb, hg, rest⟩
 ·exact .inl h
 ·exact .inr ⟨g, cap, cur, rfl, hb, by rw [hk g rfl]; exact hg, rest⟩
/-- one more behind a list of one's own: in its own block, or in a new one, and then nothing of what was there turns. -/
theorem append_two {P : Program} (w : World) (base : Nat) (t ty e : TypeId) (z : Value) (size bytes : Nat) (ht : P.underlying t = some (.slice e))
  (hinfo : (P.info? e).map (fun i => (i.zero, i.size, i.bytes)) = some (some z, size, bytes)) (hzs : z.cells.size = size) (hsz : 0 < size) (hb0 : 0 < bytes)
  (v : Value) (n : Nat) (xs : List Value) (hown : w.ownsRow base e size v n xs) (ad : Addr) (c : Nat) (news : List Value) (hl : news.length = size) (hnews : ∀ j u, news[j]? = some u → w.cell? (ad.add j) = some u)
  (h1 : ∀ u ∈ news, u.oneCell' = true) (hbytes : (n + 1) * bytes ≤ 140737488355328) (hbase : base ≤ w.heap.size) :
  ∃ v' w', (Builtin.append_ #[t, t] ty #[v, .slice (some ad) 1 c]).run P w = .ok v' w' ∧ w'.ownsRow base e size v' (n + 1) (xs ++ news) ∧
   ((v'.ownBlock = v.ownBlock ∧ w.grownBy w' v.ownBlock) ∨ (v'.ownBlock = some w.heap.size ∧ w.grownBy w' none)) := by
 obtain ⟨i, hi, hzz⟩ := Option.map_eq_some_iff.1 hinfo
 simp only [Prod.mk.injEq] at hzz
 obtain ⟨hz, hsize, hby⟩ := hzz
 have h63 : n + 1 ≤ maxLen := by
  have : n + 1 ≤ (n + 1) * bytes := Nat.le_mul_of_pos_right _ hb0
  simp only [maxLen]; omega
 obtain ⟨v', w', hr, h2, h3, h4, h5⟩ := run_append_own_at (P := P) w base t ty e i z size bytes ht hi hz hsize hby hzs hsz v n xs hown ad 1 c news (by omega) hnews h1 h63 hbytes hbase
 refine ⟨v', w', hr, h2, ?_⟩
 rcases h5 with h5 | h5
 ·exact .inl ⟨h5, h3⟩
 ·refine .inr ⟨h5, ?_⟩
  rcases hown.2 with ⟨rfl, rfl⟩ | ⟨g, cap, cur, rfl, hbg, hg, hnc, hcm, hcs, htake⟩
  ·exact h3
  ·by_cases hroom : n + 1 ≤ cap
   ·exfalso
    subst hsize
    have hfit : n * i.size + news.length ≤ cur.size := by rw [hl, hcs]; have : (n + 1) * i.size ≤ cap * i.size := Nat.mul_le_mul_right _ hroom; rw [Nat.add_mul] at this; omega
    have hr2 := run_append_room (P := P) w t ty e i ht hi g n cap cur hg ad 1 c news (by omega) hnews h1 hroom hfit
    rw [hr2] at hr
    injection hr with hv hw
    rw [← hv] at h5
    have : g = w.heap.size := by simpa [Value.ownBlock] using h5
    have hlt : g < w.heap.size := (Array.getElem?_eq_some_iff.1 hg).1
    omega
   ·subst hsize; subst hby
    have holds : ∀ j u, xs[j]? = some u → w.cell? ((⟨g, 0, none⟩ : Addr).add j) = some u := hown.cells (g := g) rfl
    have hr2 := run_append_grow (P := P) w t ty e i z ht hi hz ⟨g, 0, none⟩ n cap xs hown.1 holds ad 1 c news (by omega) hnews (by omega) (by simp only [maxLen] at h63; omega) (growslice_fits (by omega) hbytes)
    rw [hr2] at hr
    injection hr with hv hw
    rw [← hw]
    exact ⟨rfl, rfl, rfl, by simp, fun k hk _ => Below.heap_alloc w.drew _ k hk⟩
end Go.Proofs.YtbdciibbgiphcaaDoor.B

/- Book, whatever the kind of its lists: plain facts on lists that are kept, written over, grown. -/
namespace Go.Proofs.YtbdciibbgiphcaaDoor.B
set_option linter.unusedVariables false
set_option linter.unusedSimpArgs false
set_option linter.unusedSectionVars false
open Go.RowKit Go.Proofs.YtbdciibbgiphcaaDoorW.PrintWords Go.Proofs.YtbdciibbgiphcaaDoorW.PrintLast Go.Proofs.YtbdciibbgiphcaaDoorW.PrintMore
def nilV : Value := .slice none 0 0
def rowCells (rows : List (Value × Value × Nat)) : List Value := rows.flatMap fun r => [r.1, r.2.1, .int .i64 r.2.2]
theorem rowCells_snoc (rows : List (Value × Value × Nat)) (r : Value × Value × Nat) : rowCells (rows ++ [r]) = rowCells rows ++ [r.1, r.2.1, .int .i64 r.2.2] := by
 unfold rowCells; rw [List.flatMap_append]; simp
theorem rowCells_get : ∀ (rows : List (Value × Value × Nat)) (i : Nat) (r : Value × Value × Nat), rows[i]? = some r → (rowCells rows)[i * 3]? = some r.1 ∧ (rowCells rows)[i * 3 + 1]? = some r.2.1 ∧ (rowCells rows)[i * 3 + 2]? = some (.int .i64 r.2.2)
 | [], i, r, h => by simp at h
 | x :: rows, 0, r, h => by
  simp only [List.getElem?_cons_zero, Option.some.injEq] at h
  subst h
  exact ⟨rfl, rfl, rfl⟩
 | x :: rows, i + 1, r, h => by
  rw [List.getElem?_cons_succ] at h
  have ih := rowCells_get rows i r h
  have e : rowCells (x :: rows) = x.1 :: x.2.1 :: .int .i64 x.2.2 :: rowCells rows := rfl
  rw [e, show (i + 1) * 3 = i * 3 + 1 + 1 + 1 by omega, show i * 3 + 1 + 1 + 1 + 1 = (i * 3 + 1) + 1 + 1 + 1 by omega, show i * 3 + 1 + 1 + 1 + 2 = (i * 3 + 2) + 1 + 1 + 1 by omega]
  simp only [List.getElem?_cons_succ]
  exact ih
theorem rowCells_set : ∀ (rows : List (Value × Value × Nat)) (i : Nat) (v l l0 : Value) (n : Nat), rows[i]? = some (v, l0, n) → (rowCells rows).set (i * 3 + 1) l = rowCells (rows.set i (v, l, n))
 | [], i, v, l, l0, n, h => by simp at h
 | x :: rows, 0, v, l, l0, n, h => by
  simp only [List.getElem?_cons_zero, Option.some.injEq] at h
  subst h
  rfl
 | x :: rows, i + 1, v, l, l0, n, h => by
  rw [List.getElem?_cons_succ] at h
  have ih := rowCells_set rows i v l l0 n h
  have e : rowCells (x :: rows) = x.1 :: x.2.1 :: .int .i64 x.2.2 :: rowCells rows := rfl
  have e2 : rowCells ((x :: rows).set (i + 1) (v, l, n)) = x.1 :: x.2.1 :: .int .i64 x.2.2 :: rowCells (rows.set i (v, l, n)) := rfl
  rw [e, e2, show (i + 1) * 3 + 1 = (i * 3 + 1) + 1 + 1 + 1 by omega]
  simp only [List.set_cons_succ]
  rw [ih]
theorem blk_cell {w : World} {k : Nat} {cs : Array Value} {t : TypeId} (h : w.heap[k]? = some (.cells cs t (0, 0))) (j : Nat) : w.cell? ⟨k, j, none⟩ = cs[j]? := by simp [World.cell?, h]
theorem blk_frozen {w : World} {k : Nat} {cs : Array Value} {t : TypeId} (h : w.heap[k]? = some (.cells cs t (0, 0))) (j : Nat) : w.frozen? ⟨k, j, none⟩ = false := by simp [World.frozen?, h]
theorem blk_set {w : World} {k : Nat} {cs : Array Value} {t : TypeId} (h : w.heap[k]? = some (.cells cs t (0, 0))) (j : Nat) (u : Value) : (w.setCell ⟨k, j, none⟩ u).heap[k]? = some (.cells (cs.setIfInBounds j u) t (0, 0)) := by
 simp [World.setCell, h, Array.getElem?_modify]
theorem set_other (w : World) (k j : Nat) (u : Value) (q : Nat) (hq : q ≠ k) : (w.setCell ⟨k, j, none⟩ u).heap[q]? = w.heap[q]? := Below.heap_setCell w _ u q hq
theorem set_size (w : World) (k j : Nat) (u : Value) : (w.setCell ⟨k, j, none⟩ u).heap.size = w.heap.size := by simp [World.setCell]
theorem cell_lt {w : World} {a : Addr} {u : Value} (h : w.cell? a = some u) : a.block < w.heap.size := by
 rcases Nat.lt_or_ge a.block w.heap.size with h1 | h1
 ·exact h1
 ·simp [World.cell?, Array.getElem?_eq_none h1] at h
theorem keep_cell {B : Nat} {W w2 : World} {a : Addr} {u : Value} (hb : Below B W w2) (hB : W.heap.size ≤ B) (h : W.cell? a = some u) : w2.cell? a = some u := by
 rw [hb.cell (Nat.lt_of_lt_of_le (cell_lt h) hB)]; exact h
theorem own_frozen {w : World} {base : Nat} {e : TypeId} {size n : Nat} {g cap : Nat} {xs : List Value} (h : w.ownsRow base e size (.slice (some ⟨g, 0, none⟩) n cap) n xs) (j : Nat) : w.frozen? ⟨g, j, none⟩ = false := by
 rcases h.2 with ⟨hv, _⟩ | ⟨g', cap', cur, hv, _, hg, _⟩
 ·cases hv
 ·injection hv with h1 _ _
  injection h1 with h1
  injection h1 with h1
  subst h1
  exact blk_frozen hg j
theorem grown_of_below {w w' : World} (h : Below w.heap.size w w') (row : Option Nat) : w.grownBy w' row := ⟨h.os, h.tape, h.output, h.size, fun k hk _ => h.block k hk⟩
theorem grown_drew (w : World) (row : Option Nat) : w.grownBy w.drew row := ⟨rfl, rfl, rfl, Nat.le_refl _, fun _ _ _ => rfl⟩
theorem grown_set (w : World) (g j : Nat) (u : Value) : w.grownBy (w.setCell ⟨g, j, none⟩ u) (some g) :=
 ⟨rfl, rfl, rfl, Nat.le_of_eq (set_size w g j u).symm, fun k _ hk => set_other w g j u k (fun e => hk (by rw [e]))⟩
theorem grown_far {a b c : World} {r : Option Nat} {q : Nat} (h1 : a.grownBy b r) (h2 : b.grownBy c (some q)) (hq : a.heap.size ≤ q) : a.grownBy c r :=
 ⟨h2.os.trans h1.os, h2.tape.trans h1.tape, h2.output.trans h1.output, Nat.le_trans h1.size h2.size, fun k hk hr => by
  rw [h2.block k (by have := h1.size; omega) (fun e => by injection e with e; omega)]; exact h1.block k hk hr⟩
theorem grown_none {a b c : World} {r : Option Nat} (h1 : a.grownBy b r) (h2 : b.grownBy c none) : a.grownBy c r :=
 ⟨h2.os.trans h1.os, h2.tape.trans h1.tape, h2.output.trans h1.output, Nat.le_trans h1.size h2.size, fun k hk hr => by
  rw [h2.block k (by have := h1.size; omega) (by simp)]; exact h1.block k hk hr⟩
/-- cells one behind the other are set. -/
def setMany (w : World) (g : Nat) : Nat → List Value → World
 | _, [] => w
 | j, c :: cs => setMany (w.setCell ⟨g, j, none⟩ c) g (j + 1) cs
def putMany (xs : List Value) : Nat → List Value → List Value
 | _, [] => xs
 | j, c :: cs => putMany (xs.set j c) (j + 1) cs
theorem grown_many (g : Nat) : ∀ (cs : List Value) (w : World) (j : Nat), w.grownBy (setMany w g j cs) (some g)
 | [], w, j => World.grownBy.refl _ _
 | c :: cs, w, j => (grown_set w g j c).trans (grown_many g cs _ _)
theorem own_many {base : Nat} {e : TypeId} {size n g cap : Nat} : ∀ (cs : List Value) (w : World) (xs : List Value) (j : Nat), w.ownsRow base e size (.slice (some ⟨g, 0, none⟩) n cap) n xs →
  (setMany w g j cs).ownsRow base e size (.slice (some ⟨g, 0, none⟩) n cap) n (putMany xs j cs)
 | [], w, xs, j, h => h
 | c :: cs, w, xs, j, h => own_many cs _ _ _ (own_set h j c)
theorem putMany_mid : ∀ (cs M rest : List Value), cs.length ≤ rest.length → putMany (M ++ rest) M.length cs = (M ++ cs) ++ rest.drop cs.length
 | [], M, rest, _ => by simp [putMany]
 | c :: cs, M, [], h => by simp at h
 | c :: cs, M, r :: rest, h => by
  have ih := putMany_mid cs (M ++ [c]) rest (by simpa using h)
  have e : (M ++ r :: rest).set M.length c = (M ++ [c]) ++ rest := by
   rw [List.set_append_right _ _ (Nat.le_refl _), Nat.sub_self]; simp
  have e2 : (M ++ [c]).length = M.length + 1 := by simp
  rw [e2] at ih
  show putMany ((M ++ r :: rest).set M.length c) (M.length + 1) cs = _
  rw [e, ih]
  simp
theorem marks_take (c : List Value) (n m : Nat) (h : n ≤ m) : (marks c m).take (n * c.length) = marks c n := by
 have e : marks c m = marks c n ++ marks c (m - n) := by
  unfold marks
  rw [← List.flatten_append, List.replicate_append_replicate]
  congr 2
  omega
 have hl : n * c.length = (marks c n).length := (marks_len c n).symm
 rw [e, hl, List.take_left]
theorem wp_append_two {P : Program} {ops : Array Oper} {rest : List Oper} {o : Oper} {a : Act} {Q : Exit → Act → World → Prop} {W : World} (base : Nat) (hgd : o.guard = none) (s x : Operand) (t e : TypeId) (z : Value) (size bytes : Nat)
  (ho : o.op = .call { callee := .builtin .append, args := #[s, x], argTypes := #[t, t] }) (ht : P.underlying t = some (.slice e)) (hinfo : (P.info? e).map (fun i => (i.zero, i.size, i.bytes)) = some (some z, size, bytes)) (hz : z.cells.size = size) (hs0 : 0 < size) (hb0 : 0 < bytes)
  (v : Value) (n : Nat) (xs ys : List Value) (hs : a.eval s = v) (hx : a.eval x = .slice (some ⟨W.heap.size, 0, none⟩) 1 1) (hys : ys.length = size) (h1 : ∀ u ∈ ys, u.oneCell' = true) (HO : W.ownsRow base e size v n xs) (hbase : base ≤ W.heap.size) (hl : (n + 1) * bytes ≤ 140737488355328)
  (h : ∀ v1 w1, w1.ownsRow base e size v1 (n + 1) (xs ++ ys) → ((v1.ownBlock = v.ownBlock ∧ W.grownBy w1 v.ownBlock) ∨ (∃ q, v1.ownBlock = some q ∧ W.heap.size ≤ q ∧ W.grownBy w1 none)) → wpList P ops Q rest (a.put o.dst v1) w1) :
  wpList P ops Q (o :: rest) a (W.alloc (.cells ys.toArray e)) := by
 refine wpList_plain hgd fun K hK => ?_
 obtain ⟨v', w', hr, h2, h3⟩ := append_two (P := P) (W.alloc (.cells ys.toArray e)) base t o.type e z size bytes ht hinfo hz hs0 hb0 v n xs (HO.alloc _) ⟨W.heap.size, 0, none⟩ 1 ys hys
  (by simpa using World.news_of_block (cs := ys.toArray) (t := e) (fr := (0, 0)) (heap_alloc_new W (.cells ys.toArray e))) h1 hl (by simp; omega)
 unfold Oper.wp execOp
 simp only [ho, resolve, invoke, builtin, Sem.run_bind, Sem.run_pure, Result.andThen_ok, List.map_toArray, List.map_cons, List.map_nil, hs, hx, hr]
 refine hK _ _ (h v' w' h2 ?_)
 rcases h3 with ⟨h4, h5⟩ | ⟨h4, h5⟩
 ·exact .inl ⟨h4, (World.grownBy_alloc W _ _).trans h5⟩
 ·exact .inr ⟨_, h4, by simp, (World.grownBy_alloc W _ _).trans h5⟩
end Go.Proofs.YtbdciibbgiphcaaDoor.B

/- What is worked out, in memory of its own, with a spare place behind each list: what memory holds. -/
namespace Go.Proofs.YtbdciibbgiphcaaDoor.V
set_option linter.unusedVariables false
set_option linter.unusedSimpArgs false
set_option linter.unusedSectionVars false
open Go.RowKit Go.Proofs.YtbdciibbgiphcaaDoorW.PrintWords Go.Proofs.YtbdciibbgiphcaaDoorW.PrintLast Go.Proofs.YtbdciibbgiphcaaDoorW.PrintMore
open Go.Proofs.YtbdciibbgiphcaaDoor.B (wp_append_two own_kept)
theorem own_prefix {w : World} {base : Nat} {e : TypeId} {sz g n m cap : Nat} {xs : List Value} (h : w.ownsRow base e sz (.slice (some ⟨g, 0, none⟩) n cap) n xs) (hm : m ≤ n) :
  w.ownsRow base e sz (.slice (some ⟨g, 0, none⟩) m cap) m (xs.take (m * sz)) := by
 have hl := h.1
 have hms : m * sz ≤ n * sz := Nat.mul_le_mul_right _ hm
 rcases h.2 with ⟨h', _⟩ | ⟨g', cap', cur, h', hb, hh, hn, hc, hs, ht⟩
 ·cases h'
 ·injection h' with h1 h2 h3
  injection h1 with h1
  injection h1 with h1
  subst h1; subst h3
  refine ⟨by rw [List.length_take]; omega, .inr ⟨g, cap, cur, rfl, hb, hh, by omega, hc, hs, ?_⟩⟩
  rw [← ht, List.take_take]
  congr 1
  omega
def e4 (x : S25) (v : Value) : List Value := [.int .u8 x.f0, .int .i64 x.f1, .string x.f2, v]
def eCells : List S25 → List Value → List Value
 | x :: xs, v :: vs => e4 x v ++ eCells xs vs
 | _, _ => []
def spareE : List Value := [.int .u8 0, .int .i64 0, .string ⟨#[115, 112, 97, 114, 101]⟩, .slice none 0 0]
theorem eCells_snoc : ∀ (xs : List S25) (vs : List Value) (x : S25) (v : Value), vs.length = xs.length → eCells (xs ++ [x]) (vs ++ [v]) = eCells xs vs ++ e4 x v
 | [], [], x, v, _ => by simp [eCells]
 | y :: xs, u :: vs, x, v, h => by
  simp only [List.cons_append, eCells]
  rw [eCells_snoc xs vs x v (by simpa using h), List.append_assoc]
 | [], _ :: _, _, _, h => by simp at h
 | _ :: _, [], _, _, h => by simp at h
theorem eCells_len : ∀ (xs : List S25) (vs : List Value), vs.length = xs.length → (eCells xs vs).length = xs.length * 4
 | [], [], _ => rfl
 | y :: xs, u :: vs, h => by
  simp only [eCells, List.length_append, List.length_cons, e4, List.length_nil]
  rw [eCells_len xs vs (by simpa using h)]
  omega
 | [], _ :: _, h => by simp at h
 | _ :: _, [], h => by simp at h
theorem eCells_drop : ∀ (xs : List S25) (vs : List Value) (i : Nat) (x : S25) (v : Value), vs.length = xs.length → xs[i]? = some x → vs[i]? = some v → ((eCells xs vs).drop (i * 4)).take 4 = e4 x v
 | [], _, i, x, v, _, h, _ => by simp at h
 | y :: xs, [], i, x, v, h, _, _ => by simp at h
 | y :: xs, u :: vs, 0, x, v, h, h1, h2 => by
  simp only [List.getElem?_cons_zero, Option.some.injEq] at h1 h2
  subst h1; subst h2
  rfl
 | y :: xs, u :: vs, i + 1, x, v, h, h1, h2 => by
  simp only [List.getElem?_cons_succ] at h1 h2
  have := eCells_drop xs vs i x v (by simpa using h) h1 h2
  rw [show (i + 1) * 4 = i * 4 + 1 + 1 + 1 + 1 by omega]
  exact this
theorem eCells_get {xs : List S25} {vs : List Value} {i : Nat} {x : S25} {v : Value} (h : vs.length = xs.length) (h1 : xs[i]? = some x) (h2 : vs[i]? = some v) : ∀ j, j < 4 → (eCells xs vs)[i * 4 + j]? = (e4 x v)[j]? := by
 intro j hj
 have := eCells_drop xs vs i x v h h1 h2
 rw [← this, List.getElem?_take, if_pos hj, List.getElem?_drop]
/-- a list, with a spare place behind, and all lists within it: bs their blocks, each once. -/
inductive TwR (w : World) (base : Nat) : List S25 → Value → List Nat → Prop
 | mk (xs : List S25) (g c : Nat) (vs : List Value) (bss : List (List Nat)) : vs.length = xs.length → bss.length = xs.length →
   w.ownsRow base 25 4 (.slice (some ⟨g, 0, none⟩) (xs.length + 1) c) (xs.length + 1) (eCells xs vs ++ spareE) →
   (∀ (i : Nat) (x : S25) (v : Value) (bs : List Nat), xs[i]? = some x → vs[i]? = some v → bss[i]? = some bs → TwR w base x.f3 v bs) →
   (g :: bss.flatten).Nodup → TwR w base xs (.slice (some ⟨g, 0, none⟩) xs.length c) (g :: bss.flatten)
theorem mem_bss {bss : List (List Nat)} {k n : Nat} {xs : List S25} {vs : List Value} (hb : bss.length = n) (hx : xs.length = n) (hv : vs.length = n) (h : k ∈ bss.flatten) :
  ∃ (i : Nat) (x : S25) (v : Value) (bs : List Nat), xs[i]? = some x ∧ vs[i]? = some v ∧ bss[i]? = some bs ∧ k ∈ bs := by
 obtain ⟨bs, h1, h2⟩ := List.mem_flatten.1 h
 obtain ⟨i, hi, rfl⟩ := List.getElem_of_mem h1
 exact ⟨i, _, _, _, List.getElem?_eq_getElem (by omega), List.getElem?_eq_getElem (by omega), List.getElem?_eq_getElem hi, h2⟩
theorem TwR.nodup {w : World} {base : Nat} {xs : List S25} {v : Value} {bs : List Nat} (h : TwR w base xs v bs) : bs.Nodup := by cases h; assumption
theorem TwR.blocks {w : World} {base : Nat} {xs : List S25} {v : Value} {bs : List Nat} (h : TwR w base xs v bs) : ∀ k ∈ bs, base ≤ k ∧ k < w.heap.size := by
 induction h with
 | mk xs g c vs bss hv hb ho he hn ih =>
  intro k hk
  rcases List.mem_cons.1 hk with rfl | hk
  ·exact ⟨own_base ho k rfl, own_lt ho k rfl⟩
  ·obtain ⟨i, x, v, bs, h1, h2, h3, h4⟩ := mem_bss hb rfl hv hk
   exact ih i x v bs h1 h2 h3 k h4
theorem TwR.kept {w w' : World} {base : Nat} {xs : List S25} {v : Value} {bs : List Nat} (h : TwR w base xs v bs) : (∀ k ∈ bs, w'.heap[k]? = w.heap[k]?) → TwR w' base xs v bs := by
 induction h with
 | mk xs g c vs bss hv hb ho he hn ih =>
  intro hk
  refine .mk xs g c vs bss hv hb (own_kept ho (fun k hq => ?_)) (fun i x v bs h1 h2 h3 => ih i x v bs h1 h2 h3 (fun k hk2 => hk k ?_)) hn
  ·have : k = g := by simpa [Value.ownBlock] using hq.symm
   subst this
   exact hk k List.mem_cons_self
  ·exact List.mem_cons_of_mem _ (List.mem_flatten.2 ⟨bs, List.mem_of_getElem? h3, hk2⟩)
theorem TwR.lower {w : World} {base b : Nat} {xs : List S25} {v : Value} {bs : List Nat} (h : TwR w base xs v bs) (hb : b ≤ base) : TwR w b xs v bs := by
 induction h with
 | mk xs g c vs bss hv hbl ho he hn ih => exact .mk xs g c vs bss hv hbl (own_weaken ho hb) (fun i x v bs h1 h2 h3 => ih i x v bs h1 h2 h3) hn
theorem TwR.stay {w w' : World} {base : Nat} {xs : List S25} {v : Value} {bs : List Nat} (h : TwR w base xs v bs) (hb : Below w.heap.size w w') : TwR w' base xs v bs :=
 h.kept (fun k hk => hb.block k (h.blocks k hk).2)
theorem own_cap' {w : World} {base n c e sz : Nat} {A : Option Addr} {xs : List Value} (h : w.ownsRow base e sz (.slice A n c) n xs) : n ≤ c := by
 rcases h.2 with ⟨h', h2⟩ | ⟨g', cap', cur, h', hb, hh, hn, hc, hs, ht⟩
 ·injection h' with h1 h2 h3; omega
 ·injection h' with h1 h2 h3; omega
/-- such a list reads as it is told. -/
theorem TwR.reads {w : World} {base : Nat} {xs : List S25} {v : Value} {bs : List Nat} (h : TwR w base xs v bs) : ∃ A c, v = .slice A xs.length c ∧ xs.length ≤ c ∧ Kd.C k25 w A xs.length xs := by
 induction h with
 | mk xs g c vs bss hv hb ho he hn ih =>
  have hl := eCells_len xs vs hv
  have ho2 : w.ownsRow base 25 4 (.slice (some ⟨g, 0, none⟩) xs.length c) xs.length (eCells xs vs) := by
   have h9 := own_prefix ho (m := xs.length) (by omega)
   rw [← hl, List.take_left] at h9
   exact h9
  have hR : Reps (k25.K w) 4 xs (eCells xs vs) := by
   refine ⟨hl, fun j x hx => ?_⟩
   have hj : j < xs.length := (List.getElem?_eq_some_iff.1 hx).1
   obtain ⟨A, c', hv', hl', hC⟩ := ih j x (vs[j]'(by rw [hv]; exact hj)) (bss[j]'(by rw [hb]; exact hj)) hx (List.getElem?_eq_getElem _) (List.getElem?_eq_getElem _)
   rw [eCells_drop xs vs j x _ hv hx (List.getElem?_eq_getElem (by rw [hv]; exact hj))]
   unfold e4
   rw [hv']
   exact k25_mk w x hl' hC
  obtain ⟨A, c', he', hr⟩ := own_reads_row ho2 hR rfl
  exact ⟨A, c', he', by injection he' with _ _ h3; have := own_cap' ho; omega, hr⟩
/-- while such a list is made. -/
structure TwS (w : World) (base : Nat) (xs : List S25) (tv : Value) (vs : List Value) (bss : List (List Nat)) : Prop where
 lv : vs.length = xs.length
 lb : bss.length = xs.length
 row : w.ownsRow base 25 4 tv xs.length (eCells xs vs)
 each : ∀ (i : Nat) (x : S25) (v : Value) (bs : List Nat), xs[i]? = some x → vs[i]? = some v → bss[i]? = some bs → TwR w base x.f3 v bs
 nd : bss.flatten.Nodup
 ne : ∀ b ∈ bss.flatten, tv.ownBlock ≠ some b
theorem TwS.lt {w : World} {base : Nat} {xs : List S25} {tv : Value} {vs : List Value} {bss : List (List Nat)} (h : TwS w base xs tv vs bss) : ∀ b ∈ bss.flatten, base ≤ b ∧ b < w.heap.size := by
 intro b hb
 obtain ⟨i, x, v, bs, h1, h2, h3, h4⟩ := mem_bss h.lb rfl h.lv hb
 exact (h.each i x v bs h1 h2 h3).blocks b h4
theorem get_snoc {α : Type} {xs : List α} {x y : α} {j n : Nat} (hl : xs.length = n) (h : (xs ++ [x])[j]? = some y) : (j < n ∧ xs[j]? = some y) ∨ (j = n ∧ y = x) := by
 rcases Nat.lt_or_ge j xs.length with h1 | h1
 ·rw [List.getElem?_append_left h1] at h; exact .inl ⟨by omega, h⟩
 ·rw [List.getElem?_append_right h1] at h
  obtain ⟨h2, h3⟩ := List.getElem?_eq_some_iff.1 h
  have h4 : j - xs.length = 0 := by simp at h2; omega
  simp only [h4] at h3
  exact .inr ⟨by omega, by simpa using h3.symm⟩
theorem TwS.snoc {wr w2 w3 : World} {base : Nat} {xs : List S25} {tv tv1 v : Value} {vs : List Value} {bss : List (List Nat)} {x : S25} {bs : List Nat} (h : TwS wr base xs tv vs bss) (hbase : base ≤ wr.heap.size) (hb : Below wr.heap.size wr w2) (hx : TwR w2 wr.heap.size x.f3 v bs)
  (hown : w3.ownsRow base 25 4 tv1 (xs.length + 1) (eCells xs vs ++ e4 x v)) (hat : (tv1.ownBlock = tv.ownBlock ∧ w2.grownBy w3 tv.ownBlock) ∨ (∃ q, tv1.ownBlock = some q ∧ w2.heap.size ≤ q ∧ w2.grownBy w3 none)) : TwS w3 base (xs ++ [x]) tv1 (vs ++ [v]) (bss ++ [bs]) := by
 have hsz := hb.size
 have hg : ∀ q, q < w2.heap.size → tv.ownBlock ≠ some q → w3.heap[q]? = w2.heap[q]? := by
  intro q hq hv
  rcases hat with ⟨_, g⟩ | ⟨p, _, _, g⟩
  ·exact g.block q hq (fun e => hv e.symm)
  ·exact g.block q hq (by simp)
 have hvl : ∀ q, tv.ownBlock = some q → q < wr.heap.size := fun q hq => own_lt h.row q hq
 refine ⟨by simp [h.lv], by simp [h.lb], ?_, ?_, ?_, ?_⟩
 ·rw [List.length_append, List.length_singleton, eCells_snoc xs vs x v h.lv]; exact hown
 ·intro i y u cs hy hu hc
  rcases get_snoc rfl hy with ⟨hi, hy⟩ | ⟨hi, hy⟩
  ·rcases get_snoc h.lv hu with ⟨_, hu⟩ | ⟨hi2, _⟩
   ·rcases get_snoc h.lb hc with ⟨_, hc⟩ | ⟨hi3, _⟩
    ·have h1 := h.each i y u cs hy hu hc
     refine h1.kept (fun k hk => ?_)
     have hkl := (h1.blocks k hk).2
     rw [hg k (by omega) (h.ne k (List.mem_flatten.2 ⟨cs, List.mem_of_getElem? hc, hk⟩)), hb.block k hkl]
    ·omega
   ·omega
  ·subst hy
   rcases get_snoc h.lv hu with ⟨hi2, _⟩ | ⟨_, hu⟩
   ·omega
   ·rcases get_snoc h.lb hc with ⟨hi3, _⟩ | ⟨_, hc⟩
    ·omega
    ·subst hu; subst hc
     refine (hx.lower hbase).kept (fun k hk => ?_)
     have hkl := hx.blocks k hk
     exact hg k hkl.2 (fun e => by have := hvl k e; omega)
 ·rw [List.flatten_append, List.flatten_singleton, List.nodup_append]
  refine ⟨h.nd, hx.nodup, fun a ha b hb2 e => ?_⟩
  have := (h.lt a ha).2
  have := (hx.blocks b hb2).1
  omega
 ·intro b hb2 e
  rw [List.flatten_append, List.flatten_singleton, List.mem_append] at hb2
  rcases hb2 with hb2 | hb2
  ·rcases hat with ⟨e2, _⟩ | ⟨p, e2, hp, _⟩
   ·exact h.ne b hb2 (by rw [← e2, e])
   ·rw [e2] at e; injection e with e; have := (h.lt b hb2).2; omega
  ·have hbl := hx.blocks b hb2
   rcases hat with ⟨e2, _⟩ | ⟨p, e2, hp, _⟩
   ·have := hvl b (by rw [← e2, e]); omega
   ·rw [e2] at e; injection e with e; omega
theorem TwS.shut {wr w3 : World} {base g c : Nat} {xs : List S25} {tv : Value} {vs : List Value} {bss : List (List Nat)} (h : TwS wr base xs tv vs bss)
  (hown : w3.ownsRow base 25 4 (.slice (some ⟨g, 0, none⟩) (xs.length + 1) c) (xs.length + 1) (eCells xs vs ++ spareE)) (hat : (some g = tv.ownBlock ∧ wr.grownBy w3 tv.ownBlock) ∨ (wr.heap.size ≤ g ∧ wr.grownBy w3 none)) : TwR w3 base xs (.slice (some ⟨g, 0, none⟩) xs.length c) (g :: bss.flatten) := by
 refine .mk xs g c vs bss h.lv h.lb hown (fun i x v bs h1 h2 h3 => (h.each i x v bs h1 h2 h3).kept (fun k hk => ?_)) ?_
 ·have hkl := ((h.each i x v bs h1 h2 h3).blocks k hk).2
  have hkf : k ∈ bss.flatten := List.mem_flatten.2 ⟨bs, List.mem_of_getElem? h3, hk⟩
  rcases hat with ⟨e, gr⟩ | ⟨e, gr⟩
  ·exact gr.block k hkl (fun e2 => h.ne k hkf e2.symm)
  ·exact gr.block k hkl (by simp)
 ·rw [List.nodup_cons]
  refine ⟨fun hm => ?_, h.nd⟩
  rcases hat with ⟨e, gr⟩ | ⟨e, gr⟩
  ·exact h.ne g hm e.symm
  ·have := (h.lt g hm).2; omega
theorem tws_below {w wr w2 w3 : World} {xs : List S25} {tv tv1 : Value} {vs : List Value} {bss : List (List Nat)} (h : TwS wr w.heap.size xs tv vs bss) (hB : Below w.heap.size w wr) (hb : Below wr.heap.size wr w2)
  (hat : (tv1.ownBlock = tv.ownBlock ∧ w2.grownBy w3 tv.ownBlock) ∨ (∃ q, tv1.ownBlock = some q ∧ w2.heap.size ≤ q ∧ w2.grownBy w3 none)) : Below w.heap.size w w3 := by
 have h2 := hB.trans (hb.mono hB.size)
 rcases hat with ⟨_, g⟩ | ⟨_, _, _, g⟩
 ·exact h2.grown g h2.size (fun k hk => own_base h.row k hk)
 ·exact h2.grown g h2.size (fun k hk => by cases hk)
/-- no list is great. -/
inductive SmE : S25 → Prop
 | mk (o n : Int) (s : ByteArray) (xs : List S25) : xs.length ≤ 2513169434900 → (∀ y ∈ xs, SmE y) → SmE ⟨o, n, s, xs⟩
end Go.Proofs.YtbdciibbgiphcaaDoor.V

/- TwinExpr, TwinExprs: walks. -/
namespace Go.Proofs.YtbdciibbgiphcaaDoor.V
set_option linter.unusedVariables false
set_option linter.unusedSimpArgs false
set_option linter.unusedSectionVars false
open Go.RowKit Go.Proofs.YtbdciibbgiphcaaDoorW.PrintWords Go.Proofs.YtbdciibbgiphcaaDoorW.PrintLast Go.Proofs.YtbdciibbgiphcaaDoorW.PrintMore
open Go.Proofs.YtbdciibbgiphcaaDoor.B (wp_append_two own_kept)
theorem below_gn {w w1 : World} (h : w.grownBy w1 none) : Below w.heap.size w w1 := ⟨h.os, h.tape, h.output, h.size, fun i hi => h.block i hi (by simp)⟩
def TwinPost (xs : List S25) (w : World) (e : Ending) (w' : World) : Prop := ∃ v bs, e = .returned v ∧ TwR w' w.heap.size xs v bs ∧ Below w.heap.size w w'
def TwinsIs (xs : List S25) : Prop := ∀ (A : Option Addr) (c : Nat) (w : World), xs.length ≤ c → Kd.C k25 w A xs.length xs → Calls Tryd.prog 30 #[.slice A xs.length c] w (TwinPost xs w)
def TwinIs (x : S25) : Prop := ∀ (A : Option Addr) (c : Nat) (w : World), x.f3.length ≤ c → Kd.C k25 w A x.f3.length x.f3 →
 Calls Tryd.prog 11 #[.agg #[.int .u8 x.f0, .int .i64 x.f1, .string x.f2, .slice A x.f3.length c]] w fun e w' => ∃ v bs, e = .returned (.agg #[.int .u8 x.f0, .int .i64 x.f1, .string x.f2, v]) ∧ TwR w' w.heap.size x.f3 v bs ∧ Below w.heap.size w w'
theorem own_head' {w : World} {base n c e sz : Nat} {A : Option Addr} {xs : List Value} (h : w.ownsRow base e sz (.slice A n c) n xs) (hn : 0 < n) : ∃ g, A = some ⟨g, 0, none⟩ := by
 rcases h.2 with ⟨h', h2⟩ | ⟨g', cap', cur, h', hb, hh, hn, hc, hs, ht⟩
 ·injection h' with h1 h2 h3; omega
 ·injection h' with h1 h2 h3; exact ⟨g', h1⟩
set_option maxHeartbeats 4000000 in
set_option maxRecDepth 100000 in
theorem twins_walk (xs : List S25) (hm : xs.length ≤ 2513169434900) (hi : ∀ y ∈ xs, TwinIs y) : TwinsIs xs := by
 intro A c w hc hr
 obtain ⟨n, hn⟩ : ∃ n, n = xs.length := ⟨_, rfl⟩
 have HN := Lib.hid hn
 have HR := Lib.hid hr; have HI := Lib.hid hi
 rw [← hn] at hc hm
 rw [← hn]
 clear hr hi hn
 obtain ⟨i3, hi3, hz30, hz31, hz32⟩ := info_parts info25
 go_enter Tryd.func30, Tryd.ntmps30
 go_wp2_with (at_make; go_loud (refine wpList_make_own _ rfl _ _ 23 rfl w.heap.size 25 i3 (.agg #[(.int .u8 0), (.int .i64 0), (.string ⟨#[]⟩), (.slice none 0 0)]) 4 Tryd.underlying23 hi3 hz30 hz31 .i64 .i64 _ (n + 1) rfl rfl (by omega) ?b2 ?b3 (Nat.le_refl _) ?_))
 case b2 => rw [hz32]; omega
 case b3 => unfold maxLen; omega
 intro w1 hown hgr
 have HO : Hid (TwS w1 w.heap.size (xs.take 0) (.slice (some ⟨w.heap.size, 0, none⟩) 0 (n + 1)) [] []) := Lib.hid ⟨rfl, rfl, hown, fun i x v bs hx => by simp at hx, List.nodup_nil, fun b hb => by simp at hb⟩
 have HB1 := Lib.hid (below_gn hgr)
 clear hown hgr hi3 hz30 hz31 hz32
 go_wp2_with fail
 go_loopw [3, 4] (fun tv iv wr => ∃ (i : Nat) (T : Option Addr) (cc : Nat) (vs : List Value) (bss : List (List Nat)), tv = .slice T i cc ∧ iv = .int .i64 i ∧ i ≤ n ∧ Hid (TwS wr w.heap.size (xs.take i) (.slice T i cc) vs bss) ∧ Hid (Below w.heap.size w wr)) (fun _ iv _ => n - (intOf iv).toNat)
 case atStart => exact ⟨0, _, _, _, _, rfl, rfl, Nat.zero_le _, HO, HB1⟩
 case round =>
  clear HO HB1
  obtain ⟨i, T, cc, vs, bss, rfl, rfl, hi, HO, HB1⟩ := hrel
  have hlen : (xs.take i).length = i := by rw [List.length_take]; have := HN.out; omega
  by_cases hlt : i < n
  ·have hix : i < xs.length := by rw [← HN.out]; exact hlt
   obtain ⟨ad, A3, c3, hA, q0, q1, q2, q3, hl3, hC3⟩ := at_T25 (Kd.C_below HR.out HB1.out) (i : Int) (by omega) (by omega)
   subst hA
   rw [rdT25 xs i hix] at q0 q1 q2 q3 hl3 hC3
   simp only [Int.toNat_natCast] at q0 q1 q2 q3
   have htk : xs.take (i + 1) = xs.take i ++ [xs[i]] := List.take_succ_eq_append_getElem hix
   have HTK := Lib.hid htk
   have hmem : xs[i] ∈ xs := List.getElem_mem hix
   have HY := Lib.hid (HI.out xs[i] hmem)
   clear htk hmem
   generalize xs[i] = y at *
   have HC3 := Lib.hid hC3; have HL3 := Lib.hid hl3; have HLEN := Lib.hid hlen
   clear hC3 hl3 hlen
   go_wp2_with fail
   refine (HY.out A3 c3 _ HL3.out HC3.out).mono ?_
   rintro e w2 ⟨v, bs, rfl, hx, hb2⟩
   have HX := Lib.hid hx; have HB2 := Lib.hid hb2
   have hs1 := HB1.out.size
   have hs2 := HB2.out.size
   have ho2 : w2.ownsRow w.heap.size 25 4 (.slice T i cc) i (eCells (xs.take i) vs) := by
    have := own_kept HO.out.row (w' := w2) (fun k hk => HB2.out.block k (own_lt HO.out.row k hk))
    rw [HLEN.out] at this
    exact this
   have HO2 := Lib.hid ho2
   obtain ⟨Av, cv, rfl, _, _⟩ := HX.out.reads
   clear hx hb2 ho2 q0 q1 q2 q3
   go_wp2_with (at_builtin; refine wp_append_two (W := w2) w.heap.size rfl _ _ 23 25 (.agg #[(.int .u8 0), (.int .i64 0), (.string ⟨#[]⟩), (.slice none 0 0)]) 4 56 rfl Tryd.underlying23 info25 rfl (by decide) (by decide) (.slice T i cc) i (eCells (xs.take i) vs) (e4 y (.slice Av y.f3.length cv)) rfl rfl rfl (by simp [e4, Value.oneCell']) HO2.out (by omega) (by omega) ?_; intro v1 w3 hown3 hat3; obtain ⟨T3, cc3, hv3⟩ := own_slice hown3; subst hv3; have HO3 := Lib.hid (HO.out.snoc hs1 HB2.out HX.out (by rw [HLEN.out]; exact hown3) hat3); have HB3 := Lib.hid (tws_below HO.out HB1.out HB2.out hat3); clear hown3 hat3)
   exact ⟨⟨i + 1, T3, cc3, _, _, rfl, by go_num, by omega, Lib.hid (by rw [HTK.out]; exact HO3.out), HB3⟩, by simp [intOf]; omega⟩
  ·obtain rfl : i = n := by omega
   have htk : xs.take i = xs := List.take_of_length_le (by have := HN.out; omega)
   rw [htk] at HO
   have hs1 := HB1.out.size
   have ho2 : wr.ownsRow w.heap.size 25 4 (.slice T i cc) i (eCells xs vs) := by
    have := HO.out.row
    rw [← HN.out] at this
    exact this
   have HO2 := Lib.hid ho2
   clear ho2 htk hlen
   go_wp2_with (at_builtin; refine wp_append_two (W := wr) w.heap.size rfl _ _ 23 25 (.agg #[(.int .u8 0), (.int .i64 0), (.string ⟨#[]⟩), (.slice none 0 0)]) 4 56 rfl Tryd.underlying23 info25 rfl (by decide) (by decide) (.slice T i cc) i (eCells xs vs) spareE rfl rfl rfl (by simp [spareE, Value.oneCell']) HO2.out hs1 (by omega) ?_; intro v1 w3 hown3 hat3; obtain ⟨T3, cc3, hv3⟩ := own_slice hown3; subst hv3; obtain ⟨g, hg⟩ := own_head' hown3 (by omega); subst hg; have hcap := own_cap' hown3; have HO3 := Lib.hid hown3; have HA3 := Lib.hid hat3; clear hown3 hat3)
   go_ret
   have hn := HN.out
   subst hn
   have hat := HA3.out
   have hfin := HO.out.shut HO3.out (by
    rcases hat with ⟨e, gr⟩ | ⟨q, e, hq, gr⟩
    ·exact .inl ⟨e, gr⟩
    ·have : g = q := by simpa [Value.ownBlock] using e
     subst this
     exact .inr ⟨hq, gr⟩)
   exact ⟨_, _, rfl, hfin, tws_below HO.out HB1.out (Below.refl _ _) hat⟩
set_option maxHeartbeats 4000000 in
set_option maxRecDepth 100000 in
theorem twin_walk (x : S25) (h : TwinsIs x.f3) : TwinIs x := by
 intro A c w hc hr
 obtain ⟨o, n, s, xs⟩ := x
 dsimp only at h hc hr ⊢
 have HR := Lib.hid hr; have HT := Lib.hid h
 clear hr h
 go_enter Tryd.func11, Tryd.ntmps11
 go_wp2_with fail
 obtain ⟨wb, hwb⟩ : ∃ wb, wb = (w.alloc (.cells #[.int .u8 o, .int .i64 n, .string s, .slice A xs.length c] 25)).alloc (.cells #[.int .u8 0, .int .i64 0, .string ⟨#[]⟩, .slice none 0 0] 25) := ⟨_, rfl⟩
 rw [← hwb]
 have hk0 : wb.heap[w.heap.size]? = some (.cells #[.int .u8 o, .int .i64 n, .string s, .slice A xs.length c] 25 (0, 0)) := by
  rw [hwb, Below.heap_alloc _ _ _ (by simp)]; exact heap_alloc_new w _
 have hk1 : wb.heap[w.heap.size + 1]? = some (.cells #[.int .u8 0, .int .i64 0, .string ⟨#[]⟩, .slice none 0 0] 25 (0, 0)) := by
  have := heap_alloc_new (w.alloc (.cells #[.int .u8 o, .int .i64 n, .string s, .slice A xs.length c] 25)) (.cells #[.int .u8 0, .int .i64 0, .string ⟨#[]⟩, .slice none 0 0] 25)
  have e : (w.alloc (.cells #[.int .u8 o, .int .i64 n, .string s, .slice A xs.length c] 25)).heap.size = w.heap.size + 1 := by simp
  rw [hwb]
  rw [e] at this
  exact this
 have hb0 : Below w.heap.size w wb := by rw [hwb]; exact ((Below.refl _ _).alloc (Nat.le_refl _) _).alloc (by simp) _
 have HB0 := Lib.hid hb0; have HK1 := Lib.hid hk1
 obtain ⟨e0, e1, e2, e3⟩ := box_cells hk0
 clear hwb hb0 hk0 hk1
 go_region_held3 (fun w' => w'.cell? ⟨w.heap.size, 0, none⟩ = some (.int .u8 o) ∧ w'.cell? ⟨w.heap.size, 1, none⟩ = some (.int .i64 n) ∧ w'.cell? ⟨w.heap.size, 2, none⟩ = some (.string s) ∧ w'.cell? ⟨w.heap.size, 3, none⟩ = some (.slice A xs.length c)) (first | (exact ⟨s0, s1, s2, s3⟩) | go_keep) (first | (go_at_call 30; refine (HT.out A c wb.drew hc (Kd.C_below HR.out HB0.out.drew)).mono ?_; rintro e w2 ⟨v, bs, rfl, hx, hb2⟩; have s0 := keep_cell hb2 (Nat.le_refl _) e0; have s1 := keep_cell hb2 (Nat.le_refl _) e1; have s2 := keep_cell hb2 (Nat.le_refl _) e2; have s3 := keep_cell hb2 (Nat.le_refl _) e3; have HB2 := Lib.hid (HB0.out.drew.trans (hb2.mono HB0.out.size)); have HX := Lib.hid hx; have HK2 := Lib.hid ((hb2.block _ (Array.getElem?_eq_some_iff.1 HK1.out).1).trans HK1.out); have r0 := blk_cell HK2.out 0; have r1 := blk_cell HK2.out 1; have r2 := blk_cell HK2.out 2; have r3 := blk_cell HK2.out 3; have f0 := blk_frozen HK2.out 0; have f1 := blk_frozen HK2.out 1; have f2 := blk_frozen HK2.out 2; have f3 := blk_frozen HK2.out 3; dsimp at r0 r1 r2 r3; obtain ⟨Av, cv, hv, _, _⟩ := HX.out.reads; subst hv; clear hb2 hx))
 all_goals
  have hblk : ((((w2.setCell ⟨w.heap.size + 1, 0, none⟩ (.int .u8 o)).setCell ⟨w.heap.size + 1, 1, none⟩ (.int .i64 n)).setCell ⟨w.heap.size + 1, 2, none⟩ (.string s)).setCell ⟨w.heap.size + 1, 3, none⟩ (.slice Av xs.length cv)).heap[w.heap.size + 1]? = some (.cells #[.int .u8 o, .int .i64 n, .string s, .slice Av xs.length cv] 25 (0, 0)) := by
   refine blk_put (cs := #[.int .u8 o, .int .i64 n, .string s, .slice none 0 0]) ?_ 3 _ rfl
   refine blk_put (cs := #[.int .u8 o, .int .i64 n, .string ⟨#[]⟩, .slice none 0 0]) ?_ 2 _ rfl
   refine blk_put (cs := #[.int .u8 o, .int .i64 0, .string ⟨#[]⟩, .slice none 0 0]) ?_ 1 _ rfl
   exact blk_put (cs := #[.int .u8 0, .int .i64 0, .string ⟨#[]⟩, .slice none 0 0]) HK2.out 0 _ rfl
  have hbel : Below w.heap.size w ((((w2.setCell ⟨w.heap.size + 1, 0, none⟩ (.int .u8 o)).setCell ⟨w.heap.size + 1, 1, none⟩ (.int .i64 n)).setCell ⟨w.heap.size + 1, 2, none⟩ (.string s)).setCell ⟨w.heap.size + 1, 3, none⟩ (.slice Av xs.length cv)) :=
   (((HB2.out.setCell (p := ⟨w.heap.size + 1, 0, none⟩) (by simp) _).setCell (p := ⟨w.heap.size + 1, 1, none⟩) (by simp) _).setCell (p := ⟨w.heap.size + 1, 2, none⟩) (by simp) _).setCell (p := ⟨w.heap.size + 1, 3, none⟩) (by simp) _
  have hfar : ∀ k, k ≠ w.heap.size + 1 → ((((w2.setCell ⟨w.heap.size + 1, 0, none⟩ (.int .u8 o)).setCell ⟨w.heap.size + 1, 1, none⟩ (.int .i64 n)).setCell ⟨w.heap.size + 1, 2, none⟩ (.string s)).setCell ⟨w.heap.size + 1, 3, none⟩ (.slice Av xs.length cv)).heap[k]? = w2.heap[k]? := by
   intro k hk
   rw [Below.heap_setCell _ _ _ k hk, Below.heap_setCell _ _ _ k hk, Below.heap_setCell _ _ _ k hk, Below.heap_setCell _ _ _ k hk]
  have hwbs : w.heap.size + 1 < wb.heap.size := (Array.getElem?_eq_some_iff.1 HK1.out).1
  have hx2 := (HX.out.lower (b := w.heap.size) (by show w.heap.size ≤ wb.heap.size; omega)).kept (w' := ((((w2.setCell ⟨w.heap.size + 1, 0, none⟩ (.int .u8 o)).setCell ⟨w.heap.size + 1, 1, none⟩ (.int .i64 n)).setCell ⟨w.heap.size + 1, 2, none⟩ (.string s)).setCell ⟨w.heap.size + 1, 3, none⟩ (.slice Av xs.length cv))) (fun k hk => hfar k (by
   have := (HX.out.blocks k hk).1
   have e : wb.drew.heap.size = wb.heap.size := rfl
   omega))
  have HBLK := Lib.hid hblk; have HBEL := Lib.hid hbel; have HX2 := Lib.hid hx2
  clear hblk hbel hfar hx2 hwbs
  generalize ((((w2.setCell ⟨w.heap.size + 1, 0, none⟩ (.int .u8 o)).setCell ⟨w.heap.size + 1, 1, none⟩ (.int .i64 n)).setCell ⟨w.heap.size + 1, 2, none⟩ (.string s)).setCell ⟨w.heap.size + 1, 3, none⟩ (.slice Av xs.length cv)) = w3 at *
  go_wp2_with fail
  refine bodyPost_ret (results_cell_row rfl _ _ (w.heap.size + 1) 25 #[.int .u8 o, .int .i64 n, .string s, .slice Av xs.length cv] (0, 0) _ rfl HBLK.out Tryd.underlying25 rfl (by kernel_rfl)) rfl ?_
  exact ⟨_, _, rfl, HX2.out, HBEL.out⟩
theorem twin_any {x : S25} (h : SmE x) : TwinIs x := by
 induction h with
 | mk o n s xs hl hy ih => exact twin_walk _ (twins_walk xs hl ih)
end Go.Proofs.YtbdciibbgiphcaaDoor.V

/- LeftExpr, LeftExprs: a copy is as it was: walks. -/
namespace Go.Proofs.YtbdciibbgiphcaaDoor.V
set_option linter.unusedVariables false
set_option linter.unusedSimpArgs false
set_option linter.unusedSectionVars false
open Go.RowKit Go.Proofs.YtbdciibbgiphcaaDoorW.PrintWords Go.Proofs.YtbdciibbgiphcaaDoorW.PrintLast Go.Proofs.YtbdciibbgiphcaaDoorW.PrintMore
open Go.Proofs.YtbdciibbgiphcaaDoor.B (Pre)
def LeftPost (w : World) (e : Ending) (w' : World) : Prop := e = .returned (.bool true) ∧ Below w.heap.size w w'
def LeftsIs (xs : List S25) : Prop := ∀ (A : Option Addr) (c base : Nat) (tv : Value) (bs : List Nat) (w : World), TwR w base xs tv bs → xs.length ≤ c → Kd.C k25 w A xs.length xs → Calls Tryd.prog 35 #[tv, .slice A xs.length c] w (LeftPost w)
def LeftIs (x : S25) : Prop := ∀ (A : Option Addr) (c base : Nat) (tv : Value) (bs : List Nat) (w : World), TwR w base x.f3 tv bs → x.f3.length ≤ c → Kd.C k25 w A x.f3.length x.f3 →
 Calls Tryd.prog 16 #[.agg #[.int .u8 x.f0, .int .i64 x.f1, .string x.f2, tv], .agg #[.int .u8 x.f0, .int .i64 x.f1, .string x.f2, .slice A x.f3.length c]] w (LeftPost w)
set_option maxHeartbeats 4000000 in
set_option maxRecDepth 100000 in
theorem left_walk (x : S25) (h : LeftsIs x.f3) : LeftIs x := by
 intro A c base tv bs w ht hc hr
 obtain ⟨o, n, s, xs⟩ := x
 dsimp only at h ht hc hr ⊢
 obtain ⟨T, tc, rfl, _, _⟩ := ht.reads
 have hb : Below w.heap.size w ((w.alloc (.cells #[.int .u8 o, .int .i64 n, .string s, .slice T xs.length tc] 25)).alloc (.cells #[.int .u8 o, .int .i64 n, .string s, .slice A xs.length c] 25)) := ((Below.refl _ _).alloc (Nat.le_refl _) _).alloc (by simp) _
 have HB := Lib.hid hb
 have H := Lib.hid (h A c base _ bs _ (ht.stay hb) hc (Kd.C_below hr hb))
 clear h ht hr hb
 go_enter Tryd.func16, Tryd.ntmps16
 go_wp2_with fail
 refine H.out.mono ?_
 intro e w2 hp
 obtain ⟨rfl, hb2⟩ := hp
 have HB2 := Lib.hid (HB.out.trans (hb2.mono HB.out.size))
 clear hb2
 go_wp2_with fail
 go_ret
 exact ⟨rfl, HB2.out⟩
set_option maxHeartbeats 4000000 in
set_option maxRecDepth 100000 in
theorem lefts_walk (xs : List S25) (hm : xs.length ≤ 2513169434900) (hi : ∀ y ∈ xs, LeftIs y) : LeftsIs xs := by
 intro A c base tv bs w ht hc hr
 have HT := Lib.hid ht; have HR := Lib.hid hr; have HI := Lib.hid hi
 cases ht with
 | mk _ g tc vs bss hv hbl ho he hn =>
 have hcap := own_cap' ho
 have HO := Lib.hid ho; have HV := Lib.hid hv; have HL := Lib.hid hbl; have HE := Lib.hid he
 obtain ⟨n, hnn⟩ : ∃ n, n = xs.length := ⟨_, rfl⟩
 have HN := Lib.hid hnn
 rw [← hnn] at hc hm hcap
 rw [← hnn]
 clear hr hi hv hbl ho he hn hnn
 have hcp : decide ((tc : Int) ≤ (n : Int)) = false := decide_eq_false (by omega)
 have hcp2 : decide (tc ≤ n) = false := decide_eq_false (by omega)
 go_enter Tryd.func35, Tryd.ntmps35
 go_wp2_with fail
 go_loopw [5] (fun iv wr => ∃ (i : Nat), iv = .int .i64 i ∧ i ≤ n ∧ Hid (Below w.heap.size w wr)) (fun iv _ => n - (intOf iv).toNat)
 case atStart => exact ⟨0, rfl, Nat.zero_le _, Lib.hid (Below.refl _ _)⟩
 case round =>
  obtain ⟨i, rfl, hi, HB⟩ := hrel
  obtain ⟨wo, hwo⟩ : ∃ wo, wo = wr := ⟨_, rfl⟩
  subst hwo
  have hp := Pre.of_own HO.out
  by_cases hlt : i < n
  ·have hix : i < xs.length := by rw [← HN.out]; exact hlt
   have hiv : i < vs.length := by rw [HV.out]; exact hix
   have hib : i < bss.length := by rw [HL.out]; exact hix
   have hx : xs[i]? = some xs[i] := List.getElem?_eq_getElem hix
   have hvi : vs[i]? = some vs[i] := List.getElem?_eq_getElem hiv
   have hbi : bss[i]? = some bss[i] := List.getElem?_eq_getElem hib
   have htw := (HE.out i _ _ _ hx hvi hbi).stay HB.out
   obtain ⟨ad, A3, c3, hA, q0, q1, q2, q3, hl3, hC3⟩ := at_T25 (Kd.C_below HR.out HB.out) (i : Int) (by omega) (by omega)
   subst hA
   rw [rdT25 xs i hix] at q0 q1 q2 q3 hl3 hC3
   simp only [Int.toNat_natCast] at q0 q1 q2 q3
   have hel := eCells_len xs vs HV.out
   have hget : ∀ j u, j < 4 → (e4 xs[i] vs[i])[j]? = some u → (eCells xs vs ++ spareE)[i * 4 + j]? = some u := by
    intro j u hj hu
    rw [List.getElem?_append_left (by rw [hel]; omega), eCells_get HV.out hx hvi j hj]
    exact hu
   have t0 := keep_cell HB.out (Nat.le_refl _) (hp.cell _ _ (hget 0 _ (by omega) rfl))
   rw [Nat.add_zero] at t0
   have t1 := keep_cell HB.out (Nat.le_refl _) (hp.cell _ _ (hget 1 _ (by omega) rfl))
   have t2 := keep_cell HB.out (Nat.le_refl _) (hp.cell _ _ (hget 2 _ (by omega) rfl))
   have t3 := keep_cell HB.out (Nat.le_refl _) (hp.cell _ _ (hget 3 _ (by omega) rfl))
   have HY := Lib.hid (HI.out xs[i] (List.getElem_mem hix))
   obtain ⟨Av, cv, hav, _, _⟩ := htw.reads
   rw [hav] at t3 htw
   have HTW := Lib.hid htw
   clear hget htw hx hvi hbi hav hel hp
   generalize xs[i] = y at *
   generalize bss[i] = bsi at *
   have HC3 := Lib.hid hC3; have HL3 := Lib.hid hl3
   clear hC3 hl3
   go_wp2_with fail
   go_region_held3 (fun w' => w'.cell? ⟨g, i * 4, none⟩ = some (.int .u8 y.f0) ∧ w'.cell? ⟨g, i * 4 + 1, none⟩ = some (.int .i64 y.f1) ∧ w'.cell? ⟨g, i * 4 + 2, none⟩ = some (.string y.f2) ∧ w'.cell? ⟨g, i * 4 + 3, none⟩ = some (.slice Av y.f3.length cv) ∧ w'.cell? (ad.add (i * 4)) = some (.int .u8 y.f0) ∧ w'.cell? ⟨(ad.add (i * 4)).block, (ad.add (i * 4)).off + 1, none⟩ = some (.int .i64 y.f1) ∧ w'.cell? ⟨(ad.add (i * 4)).block, (ad.add (i * 4)).off + 2, none⟩ = some (.string y.f2) ∧ w'.cell? ⟨(ad.add (i * 4)).block, (ad.add (i * 4)).off + 3, none⟩ = some (.slice A3 y.f3.length c3)) (first | (exact ⟨xt0, xt1, xt2, xt3, xq0, xq1, xq2, xq3⟩) | go_keep) (first | (go_at_call 16; refine (HY.out A3 c3 base _ bsi wo.drew (HTW.out.kept (fun _ _ => rfl)) HL3.out (Kd.C_below HC3.out (Below.refl wo.heap.size wo).drew)).mono ?_; intro e w2 hp2; obtain ⟨rfl, hb2⟩ := hp2; have xt0 := keep_cell hb2 (Nat.le_refl _) t0; have xt1 := keep_cell hb2 (Nat.le_refl _) t1; have xt2 := keep_cell hb2 (Nat.le_refl _) t2; have xt3 := keep_cell hb2 (Nat.le_refl _) t3; have xq0 := keep_cell hb2 (Nat.le_refl _) q0; have xq1 := keep_cell hb2 (Nat.le_refl _) q1; have xq2 := keep_cell hb2 (Nat.le_refl _) q2; have xq3 := keep_cell hb2 (Nat.le_refl _) q3; have HB2 := Lib.hid (HB.out.drew.trans (hb2.mono HB.out.size)); clear hb2))
   all_goals (go_wp2_with fail; exact ⟨⟨i + 1, by go_num, by omega, HB2⟩, by simp [intOf]; omega⟩)
  ·obtain rfl : i = n := by omega
   have hel := eCells_len xs vs HV.out
   rw [← HN.out] at hel hp
   have hget : ∀ j u, spareE[j]? = some u → (eCells xs vs ++ spareE)[i * 4 + j]? = some u := by
    intro j u hu
    rw [List.getElem?_append_right (by omega), hel, Nat.add_sub_cancel_left]
    exact hu
   have t0 := keep_cell HB.out (Nat.le_refl _) (hp.cell _ _ (hget 0 _ rfl))
   rw [Nat.add_zero] at t0
   have t1 := keep_cell HB.out (Nat.le_refl _) (hp.cell _ _ (hget 1 _ rfl))
   have t2 := keep_cell HB.out (Nat.le_refl _) (hp.cell _ _ (hget 2 _ rfl))
   have t3 := keep_cell HB.out (Nat.le_refl _) (hp.cell _ _ (hget 3 _ rfl))
   clear hget hp hel
   go_wp2_with fail
   go_ret
   refine ⟨rfl, ?_⟩
   exact HB.out.alloc HB.out.size _
theorem left_any {x : S25} (h : SmE x) : LeftIs x := by
 induction h with
 | mk o n s xs hl hy ih => exact left_walk _ (lefts_walk xs hl ih)
end Go.Proofs.YtbdciibbgiphcaaDoor.V

/- ExprSize answers, whatever the tree. -/
namespace Go.Proofs.YtbdciibbgiphcaaDoor.V
set_option linter.unusedVariables false
set_option linter.unusedSimpArgs false
set_option linter.unusedSectionVars false
open Go.RowKit Go.Proofs.YtbdciibbgiphcaaDoorW.PrintWords Go.Proofs.YtbdciibbgiphcaaDoorW.PrintLast Go.Proofs.YtbdciibbgiphcaaDoorW.PrintMore
theorem ssize_l0 (xs : List S25) (hx : xs.length ≤ 2513169434900) (hy : ∀ y ∈ xs, ∃ v, Ev (fun k => belfrylaw01_ExprSize.f k y.f0 y.f1 y.f2 y.f3) v) :
  ∀ (m i : Nat) (n : Int), i + m = xs.length → ∃ v, Ev (fun k => belfrylaw01_ExprsSize.l0 k xs n (i : Int)) v
 | 0, i, n, hi => by
  refine ⟨n, Ev.step (fun k => ?_) (Ev.now _)⟩
  simp only [belfrylaw01_ExprsSize.l0]
  rw [if_neg (by omega)]
 | m + 1, i, n, hi => by
  have hlt : i < xs.length := by omega
  by_cases hn : n ≤ 1048576
  ·obtain ⟨v, hv⟩ := hy xs[i] (List.getElem_mem hlt)
   have hi1 : wrap64 ((i : Int) + 1) = ((i + 1 : Nat) : Int) := by rw [w64 (by omega) (by omega)]; omega
   obtain ⟨r, hr⟩ := ssize_l0 xs hx hy m (i + 1) (wrap64 (n + v)) (by omega)
   refine ⟨r, Ev.step (f := fun k => (belfrylaw01_ExprSize.f k xs[i].f0 xs[i].f1 xs[i].f2 xs[i].f3).bind fun t => belfrylaw01_ExprsSize.l0 k xs (wrap64 (n + t)) (wrap64 ((i : Int) + 1))) (fun k => ?_) ?_⟩
   ·simp only [belfrylaw01_ExprsSize.l0]
    rw [if_pos (by omega), if_pos hn, if_pos (by omega), rdT25 xs i hlt]
   ·refine Ev.bind (f := fun k t => belfrylaw01_ExprsSize.l0 k xs (wrap64 (n + t)) (wrap64 ((i : Int) + 1))) hv ?_
    rw [hi1]
    exact hr
  ·refine ⟨n, Ev.step (fun k => ?_) (Ev.now _)⟩
   simp only [belfrylaw01_ExprsSize.l0]
   rw [if_pos (by omega), if_neg hn]
theorem ssize_f {xs : List S25} (hx : xs.length ≤ 2513169434900) (hy : ∀ y ∈ xs, ∃ v, Ev (fun k => belfrylaw01_ExprSize.f k y.f0 y.f1 y.f2 y.f3) v) :
  ∃ v, Ev (fun k => belfrylaw01_ExprsSize.f k xs) v := by
 obtain ⟨v, hv⟩ := ssize_l0 xs hx hy xs.length 0 (xs.length : Int) (by omega)
 exact ⟨v, Ev.step (fun k => by simp only [belfrylaw01_ExprsSize.f]; rfl) hv⟩
theorem size_any {x : S25} (h : SmE x) : ∃ v, Ev (fun k => belfrylaw01_ExprSize.f k x.f0 x.f1 x.f2 x.f3) v := by
 induction h with
 | mk o n s xs hl hy ih =>
  obtain ⟨v, hv⟩ := ssize_f hl ih
  by_cases hs : wrap64 (1 + (s.size : Int)) ≤ 1048576
  ·refine ⟨_, Ev.step (f := fun k => (belfrylaw01_ExprsSize.f k xs).bind fun t108 => (some (wrap64 ((wrap64 (1 + (s.size : Int))) + t108)))) (fun k => ?_) (Ev.bind (f := fun k t108 => (some (wrap64 ((wrap64 (1 + (s.size : Int))) + t108)))) hv (Ev.now _))⟩
   simp only [belfrylaw01_ExprSize.f]
   rw [if_pos hs]
  ·refine ⟨wrap64 (1 + (s.size : Int)), Ev.step (fun k => ?_) (Ev.now _)⟩
   simp only [belfrylaw01_ExprSize.f]
   rw [if_neg hs]
end Go.Proofs.YtbdciibbgiphcaaDoor.V
