/- Book: lists of tokens are written over: walk. -/
import Derived.Test.YtgenhcanaoejkaaGreatDoorBkW
namespace Go.Proofs.YtgenhcanaoejkaaGreatDoor.B
set_option linter.unusedVariables false
set_option linter.unusedSimpArgs false
set_option linter.unusedSectionVars false
open Go.RowKit Go.Proofs.YtgenhcanaoejkaaGreatDoorW.PrintWords Go.Proofs.YtgenhcanaoejkaaGreatDoorW.PrintLast Go.Proofs.YtgenhcanaoejkaaGreatDoorW.PrintMore
open Go.Proofs.YtgenhcanaoejkaaGreatDoor.S
/-- the cells of a marked token. -/
def cellsOf (n : Nat) : List Value := [.int .u8 0, .string (mk n), .int .i64 0]
theorem rowCells_get : ∀ (rows : List (Value × Value × Nat)) (i : Nat) (r : Value × Value × Nat), rows[i]? = some r → (rowCells rows)[i * 3]? = some r.1 ∧ (rowCells rows)[i * 3 + 1]? = some r.2.1 ∧ (rowCells rows)[i * 3 + 2]? = some (.int .i64 r.2.2)
  | [], i, r, h => by simp at h
  | x :: rows, 0, r, h => by
    simp only [List.getElem?_cons_zero, Option.some.injEq] at h
    subst h
    exact ⟨rfl, rfl, rfl⟩
  | x :: rows, i + 1, r, h => by
    rw [List.getElem?_cons_succ] at h
    have ih := rowCells_get rows i r h
    have e : rowCells (x :: rows) = x.1 :: x.2.1 :: .int .i64 x.2.2 :: rowCells rows := rfl
    rw [e, show (i + 1) * 3 = i * 3 + 1 + 1 + 1 by omega, show i * 3 + 1 + 1 + 1 + 1 = (i * 3 + 1) + 1 + 1 + 1 by omega, show i * 3 + 1 + 1 + 1 + 2 = (i * 3 + 2) + 1 + 1 + 1 by omega]
    simp only [List.getElem?_cons_succ]
    exact ih
def S1 (w : World) (base : Nat) (x : Value × Nat) : Prop := ∃ xs, w.ownsRow base 54 3 x.1 x.2 xs
def S2 (w : World) (base i : Nat) (x : Value × Nat) : Prop := w.ownsRow base 54 3 x.1 x.2 (marks (cellsOf (i + 1)) x.2)
theorem own_frozen {w : World} {base : Nat} {e : TypeId} {size n : Nat} {g cap : Nat} {xs : List Value} (h : w.ownsRow base e size (.slice (some ⟨g, 0, none⟩) n cap) n xs) (j : Nat) : w.frozen? ⟨g, j, none⟩ = false := by
  rcases h.2 with ⟨hv, _⟩ | ⟨g', cap', cur, hv, _, hg, _⟩
  · cases hv
  · injection hv with h1 _ _
    injection h1 with h1
    injection h1 with h1
    subst h1
    exact blk_frozen hg j
theorem mark_calls (i : Nat) (hi : i < 90) (w : World) : Calls Tryz.prog 83 #[.int .i64 ((i : Int) + 1)] w fun e w' => e = .returned (.agg #[.int .u8 0, .string (mk (i + 1)), .int .i64 0]) ∧ Below w.heap.size w w' := by
  have h : belfrylaw01_markToken.f ((i : Int) + 1) = some (0, mk (i + 1), 0) := by
    unfold belfrylaw01_markToken.f belfrylaw01_word.f
    rw [if_pos ⟨by omega, by omega⟩]
    have : ((i : Int) + 1).toNat = i + 1 := by omega
    rw [this]
    rfl
  exact belfrylaw01_markToken.calls _ _ _ _ w h
/-- the lists lie apart from each other, and from the Book. -/
structure Sep (kb : Nat) (tv : Value) (es : List (Value × Nat)) : Prop where
  book : ∀ x, x ∈ es → x.1.ownBlock ≠ some kb
  tok : ∀ x, x ∈ es → ∀ k, x.1.ownBlock = some k → tv.ownBlock ≠ some k
  each : ∀ (i j : Nat) (x y : Value × Nat), es[i]? = some x → es[j]? = some y → i ≠ j → ∀ k, x.1.ownBlock = some k → y.1.ownBlock ≠ some k
/-- the rows that the Book has of them. -/
def RowsOf (es : List (Value × Nat)) (rows : List (Value × Value × Nat)) : Prop := rows.length = es.length ∧ ∀ (i : Nat) (x : Value × Nat), es[i]? = some x → rows[i]? = some (x.1, nilV, i + 1)
structure FInv (w wr : World) (base kb N : Nat) (tv : Value) (rows : List (Value × Value × Nat)) (es : List (Value × Nat)) (i : Nat) : Prop where
  bel : Below base w wr
  bk : Bk wr base kb N tv rows
  done : ∀ (j : Nat) (x : Value × Nat), es[j]? = some x → j < i → S2 wr base j x
  left : ∀ (j : Nat) (x : Value × Nat), es[j]? = some x → i ≤ j → S1 wr base x
theorem grown_of_below {w w' : World} (h : Below w.heap.size w w') (row : Option Nat) : w.grownBy w' row := ⟨h.os, h.tape, h.output, h.size, fun k hk _ => h.block k hk⟩
theorem grown_drew (w : World) (row : Option Nat) : w.grownBy w.drew row := ⟨rfl, rfl, rfl, Nat.le_refl _, fun _ _ _ => rfl⟩
theorem grown_set (w : World) (g j : Nat) (u : Value) : w.grownBy (w.setCell ⟨g, j, none⟩ u) (some g) :=
  ⟨rfl, rfl, rfl, Nat.le_of_eq (set_size w g j u).symm, fun k _ hk => set_other w g j u k (fun e => hk (by rw [e]))⟩
theorem marks3 (M rest : List Value) (a b c : Value) (h : 3 ≤ rest.length) : (((M ++ rest).set M.length a).set (M.length + 1) b).set (M.length + 2) c = (M ++ [a, b, c]) ++ rest.drop 3 := by
  match rest, h with
  | x :: y :: z :: r, _ =>
    rw [List.set_append_right _ _ (by omega), Nat.sub_self, List.set_append_right _ _ (by omega), show M.length + 1 - M.length = 1 by omega, List.set_append_right _ _ (by omega), show M.length + 2 - M.length = 2 by omega]
    simp
theorem fill_step {wb wr w2 : World} {base g n cap k i : Nat} {rest : List Value} (hk : k < n) (HG : wb.grownBy wr (some g)) (hb2 : Below wr.drew.heap.size wr.drew w2)
    (HK2 : w2.ownsRow base 54 3 (.slice (some ⟨g, 0, none⟩) n cap) n (marks (cellsOf (i + 1)) k ++ rest)) :
    wb.grownBy (((w2.setCell ⟨g, k * 3, none⟩ (.int .u8 0)).setCell ⟨g, k * 3 + 1, none⟩ (.string (mk (i + 1)))).setCell ⟨g, k * 3 + 2, none⟩ (.int .i64 0)) (some g) ∧
    ∃ rest', (((w2.setCell ⟨g, k * 3, none⟩ (.int .u8 0)).setCell ⟨g, k * 3 + 1, none⟩ (.string (mk (i + 1)))).setCell ⟨g, k * 3 + 2, none⟩ (.int .i64 0)).ownsRow base 54 3 (.slice (some ⟨g, 0, none⟩) n cap) n (marks (cellsOf (i + 1)) (k + 1) ++ rest') := by
  refine ⟨(((HG.trans (grown_drew wr _)).trans (grown_of_below hb2 _)).trans (grown_set _ _ _ _)).trans ((grown_set _ _ _ _).trans (grown_set _ _ _ _)), rest.drop 3, ?_⟩
  have h := own_set (own_set (own_set HK2 (k * 3) (.int .u8 0)) (k * 3 + 1) (.string (mk (i + 1)))) (k * 3 + 2) (.int .i64 0)
  have hl := HK2.1
  have hm : (marks (cellsOf (i + 1)) k).length = k * 3 := marks_len _ _
  rw [List.length_append, hm] at hl
  have e := marks3 (marks (cellsOf (i + 1)) k) rest (.int .u8 0) (.string (mk (i + 1))) (.int .i64 0) (by omega)
  rw [hm] at e
  rw [e] at h
  rw [marks_succ]
  exact h
theorem FInv.step {w wo wr : World} {base kb N : Nat} {tv : Value} {rows : List (Value × Value × Nat)} {es : List (Value × Nat)} {i : Nat} {x : Value × Nat} (HI : FInv w wo base kb N tv rows es i) (hx : es[i]? = some x) (hs : Sep kb tv es)
    (hg : wo.grownBy wr x.1.ownBlock) (hb : ∀ k, x.1.ownBlock = some k → base ≤ k) (h2 : S2 wr base i x) : FInv w wr base kb N tv rows es (i + 1) := by
  have hmem := List.mem_of_getElem? hx
  have hkl : kb < wo.heap.size := (Array.getElem?_eq_some_iff.1 HI.bk.book).1
  have hbase : base ≤ wo.heap.size := by have := HI.bk.hkb; omega
  refine ⟨HI.bel.grown hg hbase hb, ⟨?_, HI.bk.hkb, ?_, HI.bk.ne⟩, ?_, ?_⟩
  · rw [hg.block kb hkl (fun e => hs.book x hmem e.symm)]; exact HI.bk.book
  · exact own_kept HI.bk.tok (fun k hk => hg.block k (own_lt HI.bk.tok k hk) (fun e => hs.tok x hmem k e.symm hk))
  · intro j y hy hj
    by_cases hji : j = i
    · subst hji
      rw [hx] at hy
      injection hy with hy
      subst hy
      exact h2
    · have hS := HI.done j y hy (by omega)
      exact own_kept hS (fun k hk => hg.block k (own_lt hS k hk) (fun e => hs.each i j x y hx hy (fun q => hji q.symm) k e.symm hk))
  · intro j y hy hj
    obtain ⟨xs, hS⟩ := HI.left j y hy (by omega)
    exact ⟨xs, own_kept hS (fun k hk => hg.block k (own_lt hS k hk) (fun e => hs.each i j x y hx hy (by omega) k e.symm hk))⟩
def FillPost (base kb N : Nat) (tv : Value) (rows : List (Value × Value × Nat)) (es : List (Value × Nat)) (w : World) (e : Ending) (w' : World) : Prop :=
  e = .returned (.tuple #[]) ∧ FInv w w' base kb N tv rows es es.length
set_option maxHeartbeats 4000000 in
set_option maxRecDepth 100000 in
theorem fill_walk (base kb N : Nat) (A : Option Addr) (ct : Nat) (rows : List (Value × Value × Nat)) (es : List (Value × Nat)) (w : World) (h : Bk w base kb N (.slice A es.length ct) rows) (hs : Sep kb (.slice A es.length ct) es) (hr : RowsOf es rows)
    (hl : ∀ x, x ∈ es → S1 w base x) (hm : es.length ≤ 50) (hn : ∀ x, x ∈ es → x.2 ≤ 1000000) :
    Calls Tryz.prog 22 #[.pointer (some ⟨kb, 0, none⟩)] w (FillPost base kb N (.slice A es.length ct) rows es w) := by
  go_enter Tryz.func22, Tryz.ntmps22
  go_wp2_with fail
  go_loopw [2] (fun iv wr => ∃ (i : Nat), iv = .int .i64 i ∧ i ≤ es.length ∧ Hid (FInv w wr base kb N (.slice A es.length ct) rows es i)) (fun iv _ => es.length - (intOf iv).toNat)
  case atStart => exact ⟨0, rfl, Nat.zero_le _, Lib.hid ⟨Below.refl _ _, h, fun j x _ hj => absurd hj (by omega), fun j x hx _ => hl x (List.mem_of_getElem? hx)⟩⟩
  case round =>
    obtain ⟨i, rfl, hi, HI⟩ := hrel
    obtain ⟨wo, hwo⟩ : ∃ wo, wo = wr := ⟨_, rfl⟩
    subst hwo
    have c6 := HI.out.bk.cell 6
    simp only [bookCells] at c6
    dsimp at c6
    by_cases hlt : i < es.length
    · obtain ⟨x, hx⟩ : ∃ x, es[i]? = some x := ⟨es[i], List.getElem?_eq_getElem hlt⟩
      obtain ⟨r1, r2, r3⟩ := rowCells_get rows i _ (hr.2 i x hx)
      have hrl := hr.1
      have hpre := Pre.of_own HI.out.bk.tok
      rw [hrl] at hpre
      obtain ⟨tb, hA⟩ : ∃ tb, A = some ⟨tb, 0, none⟩ := by
        rcases hpre with ⟨_, h0⟩ | ⟨g, cap, cur, hv, _⟩
        · omega
        · injection hv with h1 h2 h3; exact ⟨g, h1⟩
      subst hA
      have t0 := hpre.cell _ _ r1
      have t1 := hpre.cell _ _ r2
      have t2 := hpre.cell _ _ r3
      simp only [nilV] at t1
      obtain ⟨v, n⟩ := x
      obtain ⟨xs, ho⟩ := HI.out.left i _ hx (Nat.le_refl _)
      obtain ⟨A1, c1, hv⟩ := own_slice ho
      simp only at hv
      subst hv
      have hnn := hn _ (List.mem_of_getElem? hx)
      simp only at hnn
      have HX := Lib.hid hx
      have HR := Lib.hid hpre
      have HO := Lib.hid ho
      clear hpre r1 r2 r3 hx ho
      go_wp2_with fail
      obtain ⟨wb, hwb⟩ : ∃ wb, wb = wo.alloc (.cells #[.slice A1 n c1, .slice none 0 0, .int .i64 ((i : Int) + 1)] 67) := ⟨_, rfl⟩
      rw [← hwb]
      have HWB := Lib.hid hwb
      have hbox : wb.heap[wo.heap.size]? = some (.cells #[.slice A1 n c1, .slice none 0 0, .int .i64 ((i : Int) + 1)] 67 (0, 0)) := by rw [hwb]; exact heap_alloc_new wo _
      have HBX := Lib.hid hbox
      have HOB : Hid (wb.ownsRow base 54 3 (.slice A1 n c1) n xs) := Lib.hid (by rw [hwb]; exact HO.out.alloc _)
      clear hwb hbox
      go_loopw [4] (fun kv wk => ∃ (k : Nat) (rest : List Value), kv = .int .i64 k ∧ k ≤ n ∧ Hid (wb.grownBy wk (Value.slice A1 n c1).ownBlock) ∧ Hid (wk.ownsRow base 54 3 (.slice A1 n c1) n (marks (cellsOf (i + 1)) k ++ rest))) (fun kv _ => n - (intOf kv).toNat)
      case atStart => exact ⟨0, xs, rfl, Nat.zero_le _, World.grownBy.refl _ _, HOB⟩
      case round =>
        obtain ⟨k, rest, rfl, hk, HG, HK⟩ := hrel
        have hbw : wo.heap.size < wb.heap.size := (Array.getElem?_eq_some_iff.1 HBX.out).1
        have hoe : some wo.heap.size ≠ (Value.slice A1 n c1).ownBlock := fun e => absurd (own_lt HO.out _ e.symm) (by omega)
        have hbk : wr.heap[wo.heap.size]? = some (.cells #[.slice A1 n c1, .slice none 0 0, .int .i64 ((i : Int) + 1)] 67 (0, 0)) := by rw [HG.out.block _ hbw hoe]; exact HBX.out
        have b0 := blk_cell hbk 0
        have b1 := blk_cell hbk 1
        have b2 := blk_cell hbk 2
        dsimp at b0 b1 b2
        by_cases hkn : k < n
        · obtain ⟨g, cap, hv, hbg, hgl⟩ := HK.out.form (by omega)
          injection hv with hA1 _ hcc
          subst hA1
          have hgb : g ≠ wo.heap.size := fun e => hoe (by rw [← e]; rfl)
          have hkl := HK.out.1
          have e0 := List.getElem?_eq_getElem (l := marks (cellsOf (i + 1)) k ++ rest) (i := k * 3) (by omega)
          have e1 := List.getElem?_eq_getElem (l := marks (cellsOf (i + 1)) k ++ rest) (i := k * 3 + 1) (by omega)
          have e2 := List.getElem?_eq_getElem (l := marks (cellsOf (i + 1)) k ++ rest) (i := k * 3 + 2) (by omega)
          have E0 := Lib.hid e0; have E1 := Lib.hid e1; have E2 := Lib.hid e2
          clear e0 e1 e2
          go_wp2_with fail
          go_region_held3 (fun w' => w'.cell? ⟨wo.heap.size, 0, none⟩ = some (.slice (some ⟨g, 0, none⟩) n c1) ∧ w'.cell? ⟨wo.heap.size, 2, none⟩ = some (.int .i64 ((i : Int) + 1))) (first | (exact ⟨s0, s2⟩) | go_keep) (first | (go_at_call 83; refine (mark_calls i (by omega) _).mono ?_; rintro e w2 ⟨rfl, hb2⟩; have s0 := (hb2.cell (p := ⟨wo.heap.size, 0, none⟩) (by exact (Array.getElem?_eq_some_iff.1 hbk).1)).trans b0; have s2 := (hb2.cell (p := ⟨wo.heap.size, 2, none⟩) (by exact (Array.getElem?_eq_some_iff.1 hbk).1)).trans b2; have HK2 := Lib.hid (own_kept HK.out (w' := w2) (fun q hq => hb2.block q (by exact own_lt HK.out q hq))); have q0 := (Pre.of_own HK2.out).cell _ _ E0.out; have q1 := (Pre.of_own HK2.out).cell _ _ E1.out; have q2 := (Pre.of_own HK2.out).cell _ _ E2.out; have f0 := own_frozen HK2.out (k * 3); have f1 := own_frozen HK2.out (k * 3 + 1); have f2 := own_frozen HK2.out (k * 3 + 2)))
          subst hcc
          obtain ⟨hG2, rest2, hK3⟩ := fill_step hkn HG.out hb2 HK2.out
          have HG2 := Lib.hid hG2; have HK3 := Lib.hid hK3
          clear hG2 hK3
          go_wp2_with fail
          exact ⟨⟨k + 1, rest2, by go_num, by omega, HG2, HK3⟩, by simp [intOf]; omega⟩
        · obtain rfl : k = n := by omega
          have hlen := HK.out.1
          have hm3 : (marks (cellsOf (i + 1)) k).length = k * 3 := marks_len _ _
          rw [List.length_append, hm3] at hlen
          obtain rfl : rest = [] := List.eq_nil_of_length_eq_zero (by omega)
          have hgo : wo.grownBy wr (Value.slice A1 k c1).ownBlock := by
            have := HWB.out
            subst this
            exact (World.grownBy_alloc wo _ _).trans HG.out
          have hS2 : S2 wr base i (Value.slice A1 k c1, k) := by
            have := HK.out
            rw [List.append_nil] at this
            exact this
          have HI2 := Lib.hid (HI.out.step HX.out hs hgo (fun q hq => own_base HO.out q hq) hS2)
          clear hgo hS2
          go_wp2_with fail
          exact ⟨⟨i + 1, by go_num, by omega, HI2⟩, by simp [intOf]; omega⟩
    · obtain rfl : i = es.length := by omega
      go_wp2_with fail
      go_end0
      exact ⟨rfl, HI.out⟩
end Go.Proofs.YtgenhcanaoejkaaGreatDoor.B
