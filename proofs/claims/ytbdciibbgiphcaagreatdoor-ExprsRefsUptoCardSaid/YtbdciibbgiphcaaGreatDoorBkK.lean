/- Book, whatever the kind of its lists: plain facts on lists that are kept, written over, grown. -/
import Derived.Test.YtbdciibbgiphcaaGreatDoorBkV
namespace Go.Proofs.YtbdciibbgiphcaaGreatDoor.B
set_option linter.unusedVariables false
set_option linter.unusedSimpArgs false
set_option linter.unusedSectionVars false
open Go.RowKit Go.Proofs.YtbdciibbgiphcaaGreatDoorW.PrintWords Go.Proofs.YtbdciibbgiphcaaGreatDoorW.PrintLast Go.Proofs.YtbdciibbgiphcaaGreatDoorW.PrintMore
def nilV : Value := .slice none 0 0
def rowCells (rows : List (Value × Value × Nat)) : List Value := rows.flatMap fun r => [r.1, r.2.1, .int .i64 r.2.2]
theorem rowCells_snoc (rows : List (Value × Value × Nat)) (r : Value × Value × Nat) : rowCells (rows ++ [r]) = rowCells rows ++ [r.1, r.2.1, .int .i64 r.2.2] := by
  unfold rowCells; rw [List.flatMap_append]; simp
theorem rowCells_get : ∀ (rows : List (Value × Value × Nat)) (i : Nat) (r : Value × Value × Nat), rows[i]? = some r → (rowCells rows)[i * 3]? = some r.1 ∧ (rowCells rows)[i * 3 + 1]? = some r.2.1 ∧ (rowCells rows)[i * 3 + 2]? = some (.int .i64 r.2.2)
  | [], i, r, h => by simp at h
  | x :: rows, 0, r, h => by
    simp only [List.getElem?_cons_zero, Option.some.injEq] at h
    subst h
    exact ⟨rfl, rfl, rfl⟩
  | x :: rows, i + 1, r, h => by
    rw [List.getElem?_cons_succ] at h
    have ih := rowCells_get rows i r h
    have e : rowCells (x :: rows) = x.1 :: x.2.1 :: .int .i64 x.2.2 :: rowCells rows := rfl
    rw [e, show (i + 1) * 3 = i * 3 + 1 + 1 + 1 by omega, show i * 3 + 1 + 1 + 1 + 1 = (i * 3 + 1) + 1 + 1 + 1 by omega, show i * 3 + 1 + 1 + 1 + 2 = (i * 3 + 2) + 1 + 1 + 1 by omega]
    simp only [List.getElem?_cons_succ]
    exact ih
theorem rowCells_set : ∀ (rows : List (Value × Value × Nat)) (i : Nat) (v l l0 : Value) (n : Nat), rows[i]? = some (v, l0, n) → (rowCells rows).set (i * 3 + 1) l = rowCells (rows.set i (v, l, n))
  | [], i, v, l, l0, n, h => by simp at h
  | x :: rows, 0, v, l, l0, n, h => by
    simp only [List.getElem?_cons_zero, Option.some.injEq] at h
    subst h
    rfl
  | x :: rows, i + 1, v, l, l0, n, h => by
    rw [List.getElem?_cons_succ] at h
    have ih := rowCells_set rows i v l l0 n h
    have e : rowCells (x :: rows) = x.1 :: x.2.1 :: .int .i64 x.2.2 :: rowCells rows := rfl
    have e2 : rowCells ((x :: rows).set (i + 1) (v, l, n)) = x.1 :: x.2.1 :: .int .i64 x.2.2 :: rowCells (rows.set i (v, l, n)) := rfl
    rw [e, e2, show (i + 1) * 3 + 1 = (i * 3 + 1) + 1 + 1 + 1 by omega]
    simp only [List.set_cons_succ]
    rw [ih]
theorem blk_cell {w : World} {k : Nat} {cs : Array Value} {t : TypeId} (h : w.heap[k]? = some (.cells cs t (0, 0))) (j : Nat) : w.cell? ⟨k, j, none⟩ = cs[j]? := by simp [World.cell?, h]
theorem blk_frozen {w : World} {k : Nat} {cs : Array Value} {t : TypeId} (h : w.heap[k]? = some (.cells cs t (0, 0))) (j : Nat) : w.frozen? ⟨k, j, none⟩ = false := by simp [World.frozen?, h]
theorem blk_set {w : World} {k : Nat} {cs : Array Value} {t : TypeId} (h : w.heap[k]? = some (.cells cs t (0, 0))) (j : Nat) (u : Value) : (w.setCell ⟨k, j, none⟩ u).heap[k]? = some (.cells (cs.setIfInBounds j u) t (0, 0)) := by
  simp [World.setCell, h, Array.getElem?_modify]
theorem set_other (w : World) (k j : Nat) (u : Value) (q : Nat) (hq : q ≠ k) : (w.setCell ⟨k, j, none⟩ u).heap[q]? = w.heap[q]? := Below.heap_setCell w _ u q hq
theorem set_size (w : World) (k j : Nat) (u : Value) : (w.setCell ⟨k, j, none⟩ u).heap.size = w.heap.size := by simp [World.setCell]
theorem cell_lt {w : World} {a : Addr} {u : Value} (h : w.cell? a = some u) : a.block < w.heap.size := by
  rcases Nat.lt_or_ge a.block w.heap.size with h1 | h1
  · exact h1
  · simp [World.cell?, Array.getElem?_eq_none h1] at h
theorem keep_cell {B : Nat} {W w2 : World} {a : Addr} {u : Value} (hb : Below B W w2) (hB : W.heap.size ≤ B) (h : W.cell? a = some u) : w2.cell? a = some u := by
  rw [hb.cell (Nat.lt_of_lt_of_le (cell_lt h) hB)]; exact h
theorem own_frozen {w : World} {base : Nat} {e : TypeId} {size n : Nat} {g cap : Nat} {xs : List Value} (h : w.ownsRow base e size (.slice (some ⟨g, 0, none⟩) n cap) n xs) (j : Nat) : w.frozen? ⟨g, j, none⟩ = false := by
  rcases h.2 with ⟨hv, _⟩ | ⟨g', cap', cur, hv, _, hg, _⟩
  · cases hv
  · injection hv with h1 _ _
    injection h1 with h1
    injection h1 with h1
    subst h1
    exact blk_frozen hg j
theorem grown_of_below {w w' : World} (h : Below w.heap.size w w') (row : Option Nat) : w.grownBy w' row := ⟨h.os, h.tape, h.output, h.size, fun k hk _ => h.block k hk⟩
theorem grown_drew (w : World) (row : Option Nat) : w.grownBy w.drew row := ⟨rfl, rfl, rfl, Nat.le_refl _, fun _ _ _ => rfl⟩
theorem grown_set (w : World) (g j : Nat) (u : Value) : w.grownBy (w.setCell ⟨g, j, none⟩ u) (some g) :=
  ⟨rfl, rfl, rfl, Nat.le_of_eq (set_size w g j u).symm, fun k _ hk => set_other w g j u k (fun e => hk (by rw [e]))⟩
theorem grown_far {a b c : World} {r : Option Nat} {q : Nat} (h1 : a.grownBy b r) (h2 : b.grownBy c (some q)) (hq : a.heap.size ≤ q) : a.grownBy c r :=
  ⟨h2.os.trans h1.os, h2.tape.trans h1.tape, h2.output.trans h1.output, Nat.le_trans h1.size h2.size, fun k hk hr => by
    rw [h2.block k (by have := h1.size; omega) (fun e => by injection e with e; omega)]; exact h1.block k hk hr⟩
theorem grown_none {a b c : World} {r : Option Nat} (h1 : a.grownBy b r) (h2 : b.grownBy c none) : a.grownBy c r :=
  ⟨h2.os.trans h1.os, h2.tape.trans h1.tape, h2.output.trans h1.output, Nat.le_trans h1.size h2.size, fun k hk hr => by
    rw [h2.block k (by have := h1.size; omega) (by simp)]; exact h1.block k hk hr⟩
/-- cells one behind the other are set. -/
def setMany (w : World) (g : Nat) : Nat → List Value → World
  | _, [] => w
  | j, c :: cs => setMany (w.setCell ⟨g, j, none⟩ c) g (j + 1) cs
def putMany (xs : List Value) : Nat → List Value → List Value
  | _, [] => xs
  | j, c :: cs => putMany (xs.set j c) (j + 1) cs
theorem grown_many (g : Nat) : ∀ (cs : List Value) (w : World) (j : Nat), w.grownBy (setMany w g j cs) (some g)
  | [], w, j => World.grownBy.refl _ _
  | c :: cs, w, j => (grown_set w g j c).trans (grown_many g cs _ _)
theorem own_many {base : Nat} {e : TypeId} {size n g cap : Nat} : ∀ (cs : List Value) (w : World) (xs : List Value) (j : Nat), w.ownsRow base e size (.slice (some ⟨g, 0, none⟩) n cap) n xs →
    (setMany w g j cs).ownsRow base e size (.slice (some ⟨g, 0, none⟩) n cap) n (putMany xs j cs)
  | [], w, xs, j, h => h
  | c :: cs, w, xs, j, h => own_many cs _ _ _ (own_set h j c)
theorem putMany_mid : ∀ (cs M rest : List Value), cs.length ≤ rest.length → putMany (M ++ rest) M.length cs = (M ++ cs) ++ rest.drop cs.length
  | [], M, rest, _ => by simp [putMany]
  | c :: cs, M, [], h => by simp at h
  | c :: cs, M, r :: rest, h => by
    have ih := putMany_mid cs (M ++ [c]) rest (by simpa using h)
    have e : (M ++ r :: rest).set M.length c = (M ++ [c]) ++ rest := by
      rw [List.set_append_right _ _ (Nat.le_refl _), Nat.sub_self]; simp
    have e2 : (M ++ [c]).length = M.length + 1 := by simp
    rw [e2] at ih
    show putMany ((M ++ r :: rest).set M.length c) (M.length + 1) cs = _
    rw [e, ih]
    simp
theorem marks_take (c : List Value) (n m : Nat) (h : n ≤ m) : (marks c m).take (n * c.length) = marks c n := by
  have e : marks c m = marks c n ++ marks c (m - n) := by
    unfold marks
    rw [← List.flatten_append, List.replicate_append_replicate]
    congr 2
    omega
  have hl : n * c.length = (marks c n).length := (marks_len c n).symm
  rw [e, hl, List.take_left]
theorem wp_append_two {P : Program} {ops : Array Oper} {rest : List Oper} {o : Oper} {a : Act} {Q : Exit → Act → World → Prop} {W : World} (base : Nat) (hgd : o.guard = none) (s x : Operand) (t e : TypeId) (z : Value) (size bytes : Nat)
    (ho : o.op = .call { callee := .builtin .append, args := #[s, x], argTypes := #[t, t] }) (ht : P.underlying t = some (.slice e)) (hinfo : (P.info? e).map (fun i => (i.zero, i.size, i.bytes)) = some (some z, size, bytes)) (hz : z.cells.size = size) (hs0 : 0 < size) (hb0 : 0 < bytes)
    (v : Value) (n : Nat) (xs ys : List Value) (hs : a.eval s = v) (hx : a.eval x = .slice (some ⟨W.heap.size, 0, none⟩) 1 1) (hys : ys.length = size) (h1 : ∀ u ∈ ys, u.oneCell' = true) (HO : W.ownsRow base e size v n xs) (hbase : base ≤ W.heap.size) (hl : (n + 1) * bytes ≤ 140737488355328)
    (h : ∀ v1 w1, w1.ownsRow base e size v1 (n + 1) (xs ++ ys) → ((v1.ownBlock = v.ownBlock ∧ W.grownBy w1 v.ownBlock) ∨ (∃ q, v1.ownBlock = some q ∧ W.heap.size ≤ q ∧ W.grownBy w1 none)) → wpList P ops Q rest (a.put o.dst v1) w1) :
    wpList P ops Q (o :: rest) a (W.alloc (.cells ys.toArray e)) := by
  refine wpList_plain hgd fun K hK => ?_
  obtain ⟨v', w', hr, h2, h3⟩ := append_two (P := P) (W.alloc (.cells ys.toArray e)) base t o.type e z size bytes ht hinfo hz hs0 hb0 v n xs (HO.alloc _) ⟨W.heap.size, 0, none⟩ 1 ys hys
    (by simpa using World.news_of_block (cs := ys.toArray) (t := e) (fr := (0, 0)) (heap_alloc_new W (.cells ys.toArray e))) h1 hl (by simp; omega)
  unfold Oper.wp execOp
  simp only [ho, resolve, invoke, builtin, Sem.run_bind, Sem.run_pure, Result.andThen_ok, List.map_toArray, List.map_cons, List.map_nil, hs, hx, hr]
  refine hK _ _ (h v' w' h2 ?_)
  rcases h3 with ⟨h4, h5⟩ | ⟨h4, h5⟩
  · exact .inl ⟨h4, (World.grownBy_alloc W _ _).trans h5⟩
  · exact .inr ⟨_, h4, by simp, (World.grownBy_alloc W _ _).trans h5⟩
/-- the Book's block, and the row of one kind's lists: bc the block's cells, f the kind's field, N how many lists of all kinds. -/
structure Bk (w : World) (base kb T held f : Nat) (bc : Array Value) (N : Nat) (tv : Value) (rows : List (Value × Value × Nat)) : Prop where
  book : w.heap[kb]? = some (.cells bc T (0, 0))
  n0 : bc[0]? = some (.int .i64 N)
  nf : bc[f]? = some tv
  hkb : base ≤ kb
  tok : w.ownsRow base held 3 tv rows.length (rowCells rows)
  ne : tv.ownBlock ≠ some kb
theorem Bk.cell {w : World} {base kb T held f N : Nat} {bc : Array Value} {tv : Value} {rows : List (Value × Value × Nat)} (h : Bk w base kb T held f bc N tv rows) (j : Nat) : w.cell? ⟨kb, j, none⟩ = bc[j]? := blk_cell h.book j
theorem Bk.c0 {w : World} {base kb T held f N : Nat} {bc : Array Value} {tv : Value} {rows : List (Value × Value × Nat)} (h : Bk w base kb T held f bc N tv rows) : w.cell? ⟨kb, 0, none⟩ = some (.int .i64 N) := (h.cell 0).trans h.n0
theorem Bk.cf {w : World} {base kb T held f N : Nat} {bc : Array Value} {tv : Value} {rows : List (Value × Value × Nat)} (h : Bk w base kb T held f bc N tv rows) : w.cell? ⟨kb, f, none⟩ = some tv := (h.cell f).trans h.nf
theorem Bk.grown {wo wr : World} {base kb T held f N : Nat} {bc : Array Value} {tv : Value} {rows : List (Value × Value × Nat)} {r : Option Nat} (h : Bk wo base kb T held f bc N tv rows) (hg : wo.grownBy wr r) (hkb : r ≠ some kb) (htb : ∀ q, tv.ownBlock = some q → r ≠ some q) : Bk wr base kb T held f bc N tv rows :=
  ⟨by rw [hg.block kb (Array.getElem?_eq_some_iff.1 h.book).1 (fun e => hkb e.symm)]; exact h.book, h.n0, h.nf, h.hkb, own_kept h.tok (fun q hq => hg.block q (own_lt h.tok q hq) (fun e => htb q hq e.symm)), h.ne⟩
/-- blocks other than the Book's own two are as they were. -/
def Kept (w w' : World) (kb : Nat) (tv : Value) : Prop := w.heap.size ≤ w'.heap.size ∧ ∀ k, k < w.heap.size → k ≠ kb → some k ≠ tv.ownBlock → w'.heap[k]? = w.heap[k]?
def bump (bc : Array Value) (N : Nat) : Array Value := bc.setIfInBounds 0 (.int .i64 ((N : Int) + 1))
def KeepPost (base kb T held f : Nat) (bc : Array Value) (N : Nat) (tv v : Value) (rows : List (Value × Value × Nat)) (w : World) (e : Ending) (w' : World) : Prop :=
  e = .returned (.tuple #[]) ∧ Below base w w' ∧ ∃ tv', Bk w' base kb T held f ((bump bc N).setIfInBounds f tv') (N + 1) tv' (rows ++ [(v, nilV, N + 1)]) ∧ Kept w w' kb tv ∧ (tv'.ownBlock = tv.ownBlock ∨ ∃ b, tv'.ownBlock = some b ∧ w.heap.size ≤ b)
theorem keep_end {base kb T held f N : Nat} {bc : Array Value} {tv v : Value} {rows : List (Value × Value × Nat)} {w w1 w2 : World} {A1 : Option Addr} {c1 : Nat} (hf : 0 < f) (h : Bk w base kb T held f bc N tv rows) (HK1 : Hid (w1.heap[kb]? = some (.cells (bump bc N) T (0, 0))))
    (HS1 : Hid (w1.heap.size = w.heap.size)) (HO1 : Hid (∀ q, q ≠ kb → w1.heap[q]? = w.heap[q]?)) (HB1 : Hid (Below base w w1)) (hB : Below base w1 w2) (hg : w1.drew.grownBy w2 tv.ownBlock)
    (hown : w2.ownsRow base held 3 (.slice A1 (rows.length + 1) c1) (rows.length + 1) (rowCells rows ++ [v, .slice none 0 0, .int .i64 ((N : Int) + 1)]))
    (hat : (Value.slice A1 (rows.length + 1) c1).ownBlock = tv.ownBlock ∨ ∃ b, (Value.slice A1 (rows.length + 1) c1).ownBlock = some b ∧ w1.drew.heap.size ≤ b) :
    KeepPost base kb T held f bc N tv v rows w (.returned (.tuple #[])) (w2.setCell ⟨kb, f, none⟩ (.slice A1 (rows.length + 1) c1)) := by
  have hlt : kb < w1.heap.size := (Array.getElem?_eq_some_iff.1 HK1.out).1
  have hk2 : w2.heap[kb]? = some (.cells (bump bc N) T (0, 0)) := by rw [hg.block kb hlt (fun e => h.ne e.symm)]; exact HK1.out
  have hz : 0 < bc.size := (Array.getElem?_eq_some_iff.1 h.n0).1
  have hfz : f < bc.size := (Array.getElem?_eq_some_iff.1 h.nf).1
  have hne : (Value.slice A1 (rows.length + 1) c1).ownBlock ≠ some kb := by
    rcases hat with e | ⟨b, e, hb⟩
    · rw [e]; exact h.ne
    · rw [e]
      intro q
      injection q with q
      have : w1.drew.heap.size = w1.heap.size := rfl
      omega
  refine ⟨rfl, (HB1.out.trans hB).setCell (p := ⟨kb, f, none⟩) h.hkb _, .slice A1 (rows.length + 1) c1, ⟨?_, ?_, ?_, h.hkb, ?_, hne⟩, ⟨?_, ?_⟩, ?_⟩
  · rw [blk_set hk2 f]
  · rw [Array.getElem?_setIfInBounds_ne (by omega)]
    unfold bump
    rw [Array.getElem?_setIfInBounds_self_of_lt hz]
    rfl
  · rw [Array.getElem?_setIfInBounds_self_of_lt (by unfold bump; simpa using hfz)]
  · rw [rowCells_snoc, List.length_append]
    exact own_kept hown (fun k hk => set_other w2 kb f _ k (fun e => hne (by rw [hk, e])))
  · rw [set_size, ← HS1.out]; exact hg.size
  · intro k hk hk1 hk2
    rw [set_other w2 kb f _ k hk1, hg.block k (by rw [show w1.drew.heap.size = w1.heap.size from rfl, HS1.out]; exact hk) hk2]
    exact HO1.out k hk1
  · rcases hat with e | ⟨b, e, hb⟩
    · exact .inl e
    · exact .inr ⟨b, e, by rw [← HS1.out]; exact hb⟩
/-- a list: what it is, how long, its number. -/
abbrev Lst := Value × Nat × Nat
def rowsOf (es : List Lst) : List (Value × Value × Nat) := es.map fun x => (x.1, nilV, x.2.2)
theorem rowsOf_len (es : List Lst) : (rowsOf es).length = es.length := by simp [rowsOf]
theorem rowsOf_get {es : List Lst} {i : Nat} {x : Lst} (h : es[i]? = some x) : (rowsOf es)[i]? = some (x.1, nilV, x.2.2) := by simp [rowsOf, h]
section
variable (e m : Nat) (cf : Nat → List Value)
def S1 (w : World) (base : Nat) (x : Lst) : Prop := ∃ xs, w.ownsRow base e m x.1 x.2.1 xs
def S2 (w : World) (base : Nat) (x : Lst) : Prop := w.ownsRow base e m x.1 x.2.1 (marks (cf x.2.2) x.2.1)
/-- the lists lie apart from each other, and from the Book. -/
structure Sep (kb : Nat) (tv : Value) (es : List Lst) : Prop where
  book : ∀ x, x ∈ es → x.1.ownBlock ≠ some kb
  tok : ∀ x, x ∈ es → ∀ k, x.1.ownBlock = some k → tv.ownBlock ≠ some k
  each : ∀ (i j : Nat) (x y : Lst), es[i]? = some x → es[j]? = some y → i ≠ j → ∀ k, x.1.ownBlock = some k → y.1.ownBlock ≠ some k
/-- blocks that are none of these lists', nor their row's, are as they were. -/
def Fr (w wr : World) (tv : Value) (es : List Lst) : Prop := ∀ q, q < w.heap.size → (∀ x, x ∈ es → x.1.ownBlock ≠ some q) → tv.ownBlock ≠ some q → wr.heap[q]? = w.heap[q]?
structure FInv (w wr : World) (base kb T held f : Nat) (bc : Array Value) (N : Nat) (tv : Value) (es : List Lst) (i : Nat) : Prop where
  bel : Below base w wr
  fr : Fr w wr tv es
  bk : Bk wr base kb T held f bc N tv (rowsOf es)
  done : ∀ (j : Nat) (x : Lst), es[j]? = some x → j < i → S2 e m cf wr base x
  left : ∀ (j : Nat) (x : Lst), es[j]? = some x → i ≤ j → S1 e m wr base x
variable {e m cf}
theorem fill_step {wb wr w2 : World} {base g n cap k nm : Nat} {rest : List Value} (hc : (cf nm).length = m) (hk : k < n) (HG : wb.grownBy wr (some g)) (hb2 : Below wr.drew.heap.size wr.drew w2)
    (HK2 : w2.ownsRow base e m (.slice (some ⟨g, 0, none⟩) n cap) n (marks (cf nm) k ++ rest)) :
    wb.grownBy (setMany w2 g (k * m) (cf nm)) (some g) ∧ ∃ rest', (setMany w2 g (k * m) (cf nm)).ownsRow base e m (.slice (some ⟨g, 0, none⟩) n cap) n (marks (cf nm) (k + 1) ++ rest') := by
  refine ⟨((HG.trans (grown_drew wr _)).trans (grown_of_below hb2 _)).trans (grown_many _ _ _ _), rest.drop m, ?_⟩
  have h := own_many (cf nm) _ _ (k * m) HK2
  have hl := HK2.1
  have hm : (marks (cf nm) k).length = k * m := by rw [marks_len, hc]
  rw [List.length_append, hm] at hl
  have h1 : (k + 1) * m ≤ n * m := Nat.mul_le_mul_right _ (by omega)
  rw [Nat.add_mul] at h1
  have e1 := putMany_mid (cf nm) (marks (cf nm) k) rest (by omega)
  rw [hm] at e1
  rw [e1, hc] at h
  rw [marks_succ]
  exact h
theorem FInv.step {w wo wr : World} {base kb T held f N : Nat} {bc : Array Value} {tv : Value} {es : List Lst} {i : Nat} {x : Lst} (HI : FInv e m cf w wo base kb T held f bc N tv es i) (hx : es[i]? = some x) (hs : Sep kb tv es)
    (hg : wo.grownBy wr x.1.ownBlock) (hb : ∀ k, x.1.ownBlock = some k → base ≤ k) (h2 : S2 e m cf wr base x) : FInv e m cf w wr base kb T held f bc N tv es (i + 1) := by
  have hmem := List.mem_of_getElem? hx
  have hkl : kb < wo.heap.size := (Array.getElem?_eq_some_iff.1 HI.bk.book).1
  have hbase : base ≤ wo.heap.size := by have := HI.bk.hkb; omega
  refine ⟨HI.bel.grown hg hbase hb, ?_, HI.bk.grown hg (fun e => hs.book x hmem e) (fun q hq e => hs.tok x hmem q e hq), ?_, ?_⟩
  · intro q hq h1 h2
    rw [hg.block q (by have := HI.bel.size; omega) (fun e => h1 x hmem e.symm)]
    exact HI.fr q hq h1 h2
  · intro j y hy hj
    by_cases hji : j = i
    · subst hji
      rw [hx] at hy
      injection hy with hy
      subst hy
      exact h2
    · have hS := HI.done j y hy (by omega)
      exact own_kept hS (fun k hk => hg.block k (own_lt hS k hk) (fun e => hs.each i j x y hx hy (fun q => hji q.symm) k e.symm hk))
  · intro j y hy hj
    obtain ⟨xs, hS⟩ := HI.left j y hy (by omega)
    exact ⟨xs, own_kept hS (fun k hk => hg.block k (own_lt hS k hk) (fun e => hs.each i j x y hx hy (by omega) k e.symm hk))⟩
variable (e m cf)
def FillPost (base kb T held f : Nat) (bc : Array Value) (N : Nat) (tv : Value) (es : List Lst) (w : World) (en : Ending) (w' : World) : Prop :=
  en = .returned (.tuple #[]) ∧ FInv e m cf w w' base kb T held f bc N tv es es.length
/-- the state while one list grows: v the list, l what it has grown to. -/
structure Gro (wb wr : World) (base : Nat) (v l : Value) (n k nm : Nat) : Prop where
  grown : wb.grownBy wr v.ownBlock
  own : wr.ownsRow base e m l (n + k) (marks (cf nm) (n + k))
  pre : Pre wr e m v n (marks (cf nm) n)
  loc : l.ownBlock = v.ownBlock ∨ ∃ q, l.ownBlock = some q ∧ wb.heap.size ≤ q
variable {e m cf}
theorem Gro.step {wb wr W w1 : World} {base : Nat} {v l v1 : Value} {n k nm : Nat} (hc : (cf nm).length = m) (hm0 : 0 < m) (h : Gro e m cf wb wr base v l n k nm) (hv : ∀ q, v.ownBlock = some q → q < wb.heap.size) (hW : wr.grownBy W none)
    (hown : w1.ownsRow base e m v1 (n + k + 1) (marks (cf nm) (n + k) ++ cf nm))
    (hat : (v1.ownBlock = l.ownBlock ∧ W.grownBy w1 l.ownBlock) ∨ (∃ q, v1.ownBlock = some q ∧ W.heap.size ≤ q ∧ W.grownBy w1 none)) : Gro e m cf wb w1 base v v1 n (k + 1) nm := by
  have hbW : wb.grownBy W v.ownBlock := grown_none h.grown hW
  have hpW : Pre W e m v n (marks (cf nm) n) := h.pre.kept (fun q hq => hW.block q (by have := hv q hq; have := h.grown.size; omega) (by simp))
  have ho : w1.ownsRow base e m v1 (n + (k + 1)) (marks (cf nm) (n + (k + 1))) := by
    rw [show n + (k + 1) = n + k + 1 by omega, marks_succ]; exact hown
  have hsz : wb.heap.size ≤ W.heap.size := hbW.size
  rcases hat with ⟨e1, g1⟩ | ⟨q, e1, hq, g1⟩
  · rcases h.loc with e2 | ⟨q, e2, hq⟩
    · refine ⟨hbW.trans (by rw [← e2]; exact g1), ho, ?_, .inl (by rw [e1, e2])⟩
      rcases h.pre with hn | ⟨g, cap, cur, rfl, hg, ht⟩
      · exact .inl hn
      · obtain ⟨g', cap', hv1, hbg, hlt⟩ := ho.form (by omega)
        have hgg : g' = g := by
          rw [e2, hv1] at e1
          simpa [Value.ownBlock] using e1
        subst hgg
        rcases ho.2 with ⟨hx, _⟩ | ⟨g2, cap2, cur2, hv2, _, hg2, _, _, _, ht2⟩
        · rw [hv1] at hx; cases hx
        · rw [hv1] at hv2
          injection hv2 with a1 a2 a3
          injection a1 with a1
          injection a1 with a1
          subst a1
          refine .inr ⟨g', cap, cur2, rfl, hg2, ?_⟩
          have hm := marks_take (cf nm) n (n + (k + 1)) (by omega)
          rw [← ht2, List.take_take, hc] at hm
          rw [← hm]
          congr 1
          have : n * m ≤ (n + (k + 1)) * m := Nat.mul_le_mul_right _ (by omega)
          omega
    · rw [e2] at g1
      refine ⟨grown_far hbW g1 hq, ho, hpW.kept (fun p hp => g1.block p (by have := hv p hp; omega) (fun e => by injection e with e; have := hv p hp; omega)), .inr ⟨q, by rw [e1, e2], hq⟩⟩
  · exact ⟨grown_none hbW g1, ho, hpW.kept (fun p hp => g1.block p (by have := hv p hp; omega) (by simp)), .inr ⟨q, e1, by omega⟩⟩
variable (e m cf)
/-- a grown list, and what it grew from. -/
structure S3 (w : World) (base : Nat) (x : Lst) (l : Value) : Prop where
  pre : Pre w e m x.1 x.2.1 (marks (cf x.2.2) x.2.1)
  own : w.ownsRow base e m l (x.2.1 + 40) (marks (cf x.2.2) (x.2.1 + 40))
  lt : ∀ q, x.1.ownBlock = some q → q < w.heap.size
/-- the blocks of a list and of what it has grown to are not these. -/
def Off (x : Lst) (l : Value) (q : Nat) : Prop := x.1.ownBlock ≠ some q ∧ l.ownBlock ≠ some q
structure GInv (w wr : World) (base kb T held f : Nat) (bc : Array Value) (N : Nat) (tv : Value) (es : List Lst) (i : Nat) (lg : Nat → Value) : Prop where
  bel : Below base w wr
  fr : Fr w wr tv es
  bk : ∃ rows, Bk wr base kb T held f bc N tv rows ∧ rows.length = es.length ∧ ∀ (j : Nat) (x : Lst), es[j]? = some x → rows[j]? = some (x.1, (if j < i then lg j else nilV), x.2.2)
  done : ∀ (j : Nat) (x : Lst), es[j]? = some x → j < i → S3 e m cf wr base x (lg j)
  off : ∀ (j : Nat) (x : Lst), es[j]? = some x → j < i → Off x (lg j) kb ∧ (∀ q, tv.ownBlock = some q → Off x (lg j) q) ∧ (∀ (j' : Nat) (y : Lst), es[j']? = some y → j' ≠ j → ∀ q, y.1.ownBlock = some q → Off x (lg j) q)
  new : ∀ (j : Nat) (x : Lst), es[j]? = some x → j < i → (lg j).ownBlock = x.1.ownBlock ∨ ∃ q, (lg j).ownBlock = some q ∧ w.heap.size ≤ q
  left : ∀ (j : Nat) (x : Lst), es[j]? = some x → i ≤ j → S2 e m cf wr base x
variable {e m cf}
theorem Bk.put {wr : World} {base kb T held f N tb i n mm ct : Nat} {bc : Array Value} {v l l0 : Value} {rows : List (Value × Value × Nat)} (h : Bk wr base kb T held f bc N (.slice (some ⟨tb, 0, none⟩) mm ct) rows) (hm : rows.length = mm) (hr : rows[i]? = some (v, l0, n)) :
    Bk (wr.setCell ⟨tb, i * 3 + 1, none⟩ l) base kb T held f bc N (.slice (some ⟨tb, 0, none⟩) mm ct) (rows.set i (v, l, n)) := by
  have hne : tb ≠ kb := fun e => h.ne (by rw [e]; rfl)
  refine ⟨by rw [set_other wr tb _ l kb (fun e => hne e.symm)]; exact h.book, h.n0, h.nf, h.hkb, ?_, h.ne⟩
  rw [← rowCells_set rows i v l l0 n hr, List.length_set]
  have ht := h.tok
  rw [hm] at ht ⊢
  exact own_set ht (i * 3 + 1) l
theorem GInv.step {w wo wb wr : World} {base kb T held f N tb ct n nm i : Nat} {bc : Array Value} {v l : Value} {es : List Lst} {lg : Nat → Value} (HI : GInv e m cf w wo base kb T held f bc N (.slice (some ⟨tb, 0, none⟩) es.length ct) es i lg) (hx : es[i]? = some (v, n, nm))
    (hs : Sep kb (.slice (some ⟨tb, 0, none⟩) es.length ct) es) (hwb : wo.grownBy wb none) (hlt : wo.heap.size < wb.heap.size) (HG : Gro e m cf wb wr base v l n 40 nm) (ho : wo.ownsRow base e m v n (marks (cf nm) n)) :
    GInv e m cf w (wr.setCell ⟨tb, i * 3 + 1, none⟩ l) base kb T held f bc N (.slice (some ⟨tb, 0, none⟩) es.length ct) es (i + 1) (fun j => if j = i then l else lg j) := by
  have hmem := List.mem_of_getElem? hx
  have hgo : wo.grownBy wr v.ownBlock := by
    have h1 : wo.grownBy wb v.ownBlock := ⟨hwb.os, hwb.tape, hwb.output, hwb.size, fun k hk _ => hwb.block k hk (by simp)⟩
    exact h1.trans HG.grown
  obtain ⟨rows, hbk, hrl, hrows⟩ := HI.bk
  have hri := hrows i _ hx
  rw [if_neg (by omega)] at hri
  have hkl : kb < wo.heap.size := (Array.getElem?_eq_some_iff.1 hbk.book).1
  have htl : tb < wo.heap.size := own_lt hbk.tok tb rfl
  have htb : base ≤ tb := own_base hbk.tok tb rfl
  have hvk : v.ownBlock ≠ some kb := hs.book _ hmem
  have hvt : v.ownBlock ≠ some tb := fun e => hs.tok _ hmem tb e rfl
  have hws : w.heap.size ≤ wo.heap.size := HI.bel.size
  have hlq : ∀ q, q < wo.heap.size → v.ownBlock ≠ some q → l.ownBlock ≠ some q := by
    intro q hq hv
    rcases HG.loc with e | ⟨p, e, hp⟩
    · rw [e]; exact hv
    · rw [e]; intro f; injection f with f; omega
  have hfr : ∀ q, q < wo.heap.size → v.ownBlock ≠ some q → q ≠ tb → (wr.setCell ⟨tb, i * 3 + 1, none⟩ l).heap[q]? = wo.heap[q]? := by
    intro q hq hv ht
    rw [set_other wr tb _ l q ht]
    exact hgo.block q hq (fun e => hv e.symm)
  have hsz : wo.heap.size ≤ (wr.setCell ⟨tb, i * 3 + 1, none⟩ l).heap.size := by rw [set_size]; exact hgo.size
  have hvl : ∀ q, v.ownBlock = some q → q < wo.heap.size := fun q hq => own_lt ho q hq
  refine ⟨?_, ?_, ⟨rows.set i (v, l, nm), ?_, by rw [List.length_set]; exact hrl, ?_⟩, ?_, ?_, ?_, ?_⟩
  · exact (HI.bel.grown hgo (by have := hbk.hkb; omega) (fun q hq => own_base ho q hq)).setCell (p := ⟨tb, i * 3 + 1, none⟩) htb _
  · intro q hq h1 h2
    rw [hfr q (by omega) (h1 _ hmem) (fun e => h2 (by rw [e]; rfl))]
    exact HI.fr q hq h1 h2
  · exact (hbk.grown hgo hvk (fun q hq e => hvt (by rw [e, ← hq]; rfl))).put hrl hri
  · intro j y hy
    by_cases hji : j = i
    · subst hji
      rw [hx] at hy
      injection hy with hy
      subst hy
      rw [if_pos (by omega), if_pos rfl]
      rw [List.getElem?_set_self (by rw [hrl]; exact (List.getElem?_eq_some_iff.1 hx).1)]
    · rw [List.getElem?_set_ne (fun e => hji e.symm), hrows j y hy]
      simp only [if_neg hji]
      congr 3
      by_cases h1 : j < i
      · rw [if_pos h1, if_pos (by omega)]
      · rw [if_neg h1, if_neg (by omega)]
  · intro j y hy hj
    by_cases hji : j = i
    · subst hji
      rw [hx] at hy
      injection hy with hy
      subst hy
      rw [if_pos rfl]
      refine ⟨HG.pre.kept (fun q hq => set_other wr tb _ l q (fun e => hvt (by rw [hq, e]))), own_kept HG.own (fun q hq => set_other wr tb _ l q (fun e => hlq tb htl hvt (by rw [hq, e]))), fun q hq => by have := hvl q hq; omega⟩
    · rw [if_neg hji]
      have hS := HI.done j y hy (by omega)
      obtain ⟨o1, o2, o3⟩ := HI.off j y hy (by omega)
      have hly : ∀ q, (lg j).ownBlock = some q → q < wo.heap.size := fun q hq => own_lt hS.own q hq
      refine ⟨hS.pre.kept (fun q hq => hfr q (hS.lt q hq) (fun e => hs.each j i y _ hy hx hji q hq e) (fun e => (o2 tb rfl).1 (by rw [hq, e]))), own_kept hS.own (fun q hq => hfr q (hly q hq) (fun e => (o3 i _ hx (fun q => hji q.symm) q e).2 hq) (fun e => (o2 tb rfl).2 (by rw [hq, e]))), fun q hq => by have := hS.lt q hq; omega⟩
  · intro j y hy hj
    by_cases hji : j = i
    · subst hji
      rw [hx] at hy
      injection hy with hy
      subst hy
      rw [if_pos rfl]
      refine ⟨⟨hvk, hlq kb hkl hvk⟩, fun q hq => ?_, fun j' y hy' hne q hq => ?_⟩
      · have e : q = tb := by simpa [Value.ownBlock] using hq.symm
        subst e
        exact ⟨hvt, hlq q htl hvt⟩
      · have hv : v.ownBlock ≠ some q := fun e => hs.each j' j y _ hy' hx hne q hq e
        have hql : q < wo.heap.size := by
          by_cases h1 : j' < j
          · exact (HI.done j' y hy' h1).lt q hq
          · exact own_lt (HI.left j' y hy' (by omega)) q hq
        exact ⟨hv, hlq q hql hv⟩
    · rw [if_neg hji]
      exact HI.off j y hy (by omega)
  · intro j y hy hj
    by_cases hji : j = i
    · subst hji
      rw [hx] at hy
      injection hy with hy
      subst hy
      rw [if_pos rfl]
      rcases HG.loc with e | ⟨p, e, hp⟩
      · exact .inl e
      · exact .inr ⟨p, e, by omega⟩
    · rw [if_neg hji]
      exact HI.new j y hy (by omega)
  · intro j y hy hj
    have hS := HI.left j y hy (by omega)
    exact own_kept hS (fun q hq => hfr q (own_lt hS q hq) (fun e => hs.each i j _ y hx hy (by omega) q e hq) (fun e => hs.tok y (List.mem_of_getElem? hy) q hq (by rw [e]; rfl)))
variable (e m cf)
def GrowPost (base kb T held f : Nat) (bc : Array Value) (N : Nat) (tv : Value) (es : List Lst) (w : World) (en : Ending) (w' : World) : Prop :=
  en = .returned (.tuple #[]) ∧ ∃ lg, GInv e m cf w w' base kb T held f bc N tv es es.length lg
end
def LookPost (w : World) (e : Ending) (w' : World) : Prop := e = .returned (.bool true) ∧ Below w.heap.size w w'
end Go.Proofs.YtbdciibbgiphcaaGreatDoor.B
