/- Book: growToken: walk. -/
import Derived.Test.YtgenhcanaoejkaaGreatDoorBkG
namespace Go.Proofs.YtgenhcanaoejkaaGreatDoor.B
set_option linter.unusedVariables false
set_option linter.unusedSimpArgs false
set_option linter.unusedSectionVars false
open Go.RowKit Go.Proofs.YtgenhcanaoejkaaGreatDoorW.PrintWords Go.Proofs.YtgenhcanaoejkaaGreatDoorW.PrintLast Go.Proofs.YtgenhcanaoejkaaGreatDoorW.PrintMore
open Go.Proofs.YtgenhcanaoejkaaGreatDoor.S
/-- a grown list, and what it grew from. -/
structure S3 (w : World) (base i : Nat) (x : Value × Nat) (l : Value) : Prop where
  pre : Pre w 54 3 x.1 x.2 (marks (cellsOf (i + 1)) x.2)
  own : w.ownsRow base 54 3 l (x.2 + 40) (marks (cellsOf (i + 1)) (x.2 + 40))
  lt : ∀ q, x.1.ownBlock = some q → q < w.heap.size
/-- the blocks of a list and of what it has grown to are not these. -/
def Off (x : Value × Nat) (l : Value) (q : Nat) : Prop := x.1.ownBlock ≠ some q ∧ l.ownBlock ≠ some q
structure GInv (w wr : World) (base kb N : Nat) (tv : Value) (es : List (Value × Nat)) (i : Nat) (lg : Nat → Value) : Prop where
  bel : Below base w wr
  bk : ∃ rows, Bk wr base kb N tv rows ∧ rows.length = es.length ∧ ∀ (j : Nat) (x : Value × Nat), es[j]? = some x → rows[j]? = some (x.1, (if j < i then lg j else nilV), j + 1)
  done : ∀ (j : Nat) (x : Value × Nat), es[j]? = some x → j < i → S3 wr base j x (lg j)
  off : ∀ (j : Nat) (x : Value × Nat), es[j]? = some x → j < i → Off x (lg j) kb ∧ (∀ q, tv.ownBlock = some q → Off x (lg j) q) ∧ (∀ (j' : Nat) (y : Value × Nat), es[j']? = some y → j' ≠ j → ∀ q, y.1.ownBlock = some q → Off x (lg j) q)
  left : ∀ (j : Nat) (x : Value × Nat), es[j]? = some x → i ≤ j → S2 wr base j x
theorem Bk.grown {wo wr : World} {base kb N : Nat} {tv : Value} {rows : List (Value × Value × Nat)} {r : Option Nat} (h : Bk wo base kb N tv rows) (hg : wo.grownBy wr r) (hkb : r ≠ some kb) (htb : ∀ q, tv.ownBlock = some q → r ≠ some q) : Bk wr base kb N tv rows :=
  ⟨by rw [hg.block kb (Array.getElem?_eq_some_iff.1 h.book).1 (fun e => hkb e.symm)]; exact h.book, h.hkb, own_kept h.tok (fun q hq => hg.block q (own_lt h.tok q hq) (fun e => htb q hq e.symm)), h.ne⟩
theorem rowCells_set : ∀ (rows : List (Value × Value × Nat)) (i : Nat) (v l l0 : Value) (n : Nat), rows[i]? = some (v, l0, n) → (rowCells rows).set (i * 3 + 1) l = rowCells (rows.set i (v, l, n))
  | [], i, v, l, l0, n, h => by simp at h
  | x :: rows, 0, v, l, l0, n, h => by
    simp only [List.getElem?_cons_zero, Option.some.injEq] at h
    subst h
    rfl
  | x :: rows, i + 1, v, l, l0, n, h => by
    rw [List.getElem?_cons_succ] at h
    have ih := rowCells_set rows i v l l0 n h
    have e : rowCells (x :: rows) = x.1 :: x.2.1 :: .int .i64 x.2.2 :: rowCells rows := rfl
    have e2 : rowCells ((x :: rows).set (i + 1) (v, l, n)) = x.1 :: x.2.1 :: .int .i64 x.2.2 :: rowCells (rows.set i (v, l, n)) := rfl
    rw [e, e2, show (i + 1) * 3 + 1 = (i * 3 + 1) + 1 + 1 + 1 by omega]
    simp only [List.set_cons_succ]
    rw [ih]
theorem Bk.put {wr : World} {base kb N tb i n m ct : Nat} {v l l0 : Value} {rows : List (Value × Value × Nat)} (h : Bk wr base kb N (.slice (some ⟨tb, 0, none⟩) m ct) rows) (hm : rows.length = m) (hr : rows[i]? = some (v, l0, n)) :
    Bk (wr.setCell ⟨tb, i * 3 + 1, none⟩ l) base kb N (.slice (some ⟨tb, 0, none⟩) m ct) (rows.set i (v, l, n)) := by
  have hne : tb ≠ kb := fun e => h.ne (by rw [e]; rfl)
  refine ⟨by rw [set_other wr tb _ l kb (fun e => hne e.symm)]; exact h.book, h.hkb, ?_, h.ne⟩
  rw [← rowCells_set rows i v l l0 n hr, List.length_set]
  have ht := h.tok
  rw [hm] at ht ⊢
  exact own_set ht (i * 3 + 1) l
theorem GInv.step {w wo wb wr : World} {base kb N tb ct n i : Nat} {v l : Value} {es : List (Value × Nat)} {lg : Nat → Value} (HI : GInv w wo base kb N (.slice (some ⟨tb, 0, none⟩) es.length ct) es i lg) (hx : es[i]? = some (v, n))
    (hs : Sep kb (.slice (some ⟨tb, 0, none⟩) es.length ct) es) (hwb : wo.grownBy wb none) (hlt : wo.heap.size < wb.heap.size) (HG : Gro wb wr base v l n 40 i) (ho : wo.ownsRow base 54 3 v n (marks (cellsOf (i + 1)) n)) :
    GInv w (wr.setCell ⟨tb, i * 3 + 1, none⟩ l) base kb N (.slice (some ⟨tb, 0, none⟩) es.length ct) es (i + 1) (fun j => if j = i then l else lg j) := by
  have hmem := List.mem_of_getElem? hx
  have hgo : wo.grownBy wr v.ownBlock := by
    have h1 : wo.grownBy wb v.ownBlock := ⟨hwb.os, hwb.tape, hwb.output, hwb.size, fun k hk _ => hwb.block k hk (by simp)⟩
    exact h1.trans HG.grown
  obtain ⟨rows, hbk, hrl, hrows⟩ := HI.bk
  have hri := hrows i _ hx
  rw [if_neg (by omega)] at hri
  have hkl : kb < wo.heap.size := (Array.getElem?_eq_some_iff.1 hbk.book).1
  have htl : tb < wo.heap.size := own_lt hbk.tok tb rfl
  have htb : base ≤ tb := own_base hbk.tok tb rfl
  have hvk : v.ownBlock ≠ some kb := hs.book _ hmem
  have hvt : v.ownBlock ≠ some tb := fun e => hs.tok _ hmem tb e rfl
  have hlq : ∀ q, q < wo.heap.size → v.ownBlock ≠ some q → l.ownBlock ≠ some q := by
    intro q hq hv
    rcases HG.loc with e | ⟨p, e, hp⟩
    · rw [e]; exact hv
    · rw [e]; intro f; injection f with f; omega
  have hfr : ∀ q, q < wo.heap.size → v.ownBlock ≠ some q → q ≠ tb → (wr.setCell ⟨tb, i * 3 + 1, none⟩ l).heap[q]? = wo.heap[q]? := by
    intro q hq hv ht
    rw [set_other wr tb _ l q ht]
    exact hgo.block q hq (fun e => hv e.symm)
  have hsz : wo.heap.size ≤ (wr.setCell ⟨tb, i * 3 + 1, none⟩ l).heap.size := by rw [set_size]; exact hgo.size
  have hvl : ∀ q, v.ownBlock = some q → q < wo.heap.size := fun q hq => own_lt ho q hq
  refine ⟨?_, ⟨rows.set i (v, l, i + 1), ?_, by rw [List.length_set]; exact hrl, ?_⟩, ?_, ?_, ?_⟩
  · exact (HI.bel.grown hgo (by have := hbk.hkb; omega) (fun q hq => own_base ho q hq)).setCell (p := ⟨tb, i * 3 + 1, none⟩) htb _
  · exact (hbk.grown hgo hvk (fun q hq e => hvt (by rw [e, ← hq]; rfl))).put hrl hri
  · intro j y hy
    by_cases hji : j = i
    · subst hji
      rw [hx] at hy
      injection hy with hy
      subst hy
      rw [if_pos (by omega), if_pos rfl]
      rw [List.getElem?_set_self (by rw [hrl]; exact (List.getElem?_eq_some_iff.1 hx).1)]
    · rw [List.getElem?_set_ne (fun e => hji e.symm), hrows j y hy]
      simp only [if_neg hji]
      congr 3
      by_cases h1 : j < i
      · rw [if_pos h1, if_pos (by omega)]
      · rw [if_neg h1, if_neg (by omega)]
  · intro j y hy hj
    by_cases hji : j = i
    · subst hji
      rw [hx] at hy
      injection hy with hy
      subst hy
      rw [if_pos rfl]
      refine ⟨HG.pre.kept (fun q hq => set_other wr tb _ l q (fun e => hvt (by rw [hq, e]))), own_kept HG.own (fun q hq => set_other wr tb _ l q (fun e => hlq tb htl hvt (by rw [hq, e]))), fun q hq => by have := hvl q hq; omega⟩
    · rw [if_neg hji]
      have hS := HI.done j y hy (by omega)
      obtain ⟨o1, o2, o3⟩ := HI.off j y hy (by omega)
      have hly : ∀ q, (lg j).ownBlock = some q → q < wo.heap.size := fun q hq => own_lt hS.own q hq
      refine ⟨hS.pre.kept (fun q hq => hfr q (hS.lt q hq) (fun e => hs.each j i y (v, n) hy hx hji q hq e) (fun e => (o2 tb rfl).1 (by rw [hq, e]))), own_kept hS.own (fun q hq => hfr q (hly q hq) (fun e => (o3 i (v, n) hx (fun q => hji q.symm) q e).2 hq) (fun e => (o2 tb rfl).2 (by rw [hq, e]))), fun q hq => by have := hS.lt q hq; omega⟩
  · intro j y hy hj
    by_cases hji : j = i
    · subst hji
      rw [hx] at hy
      injection hy with hy
      subst hy
      rw [if_pos rfl]
      refine ⟨⟨hvk, hlq kb hkl hvk⟩, fun q hq => ?_, fun j' y hy' hne q hq => ?_⟩
      · have e : q = tb := by simpa [Value.ownBlock] using hq.symm
        subst e
        exact ⟨hvt, hlq q htl hvt⟩
      · have hv : v.ownBlock ≠ some q := fun e => hs.each j' j y (v, n) hy' hx hne q hq e
        have hql : q < wo.heap.size := by
          by_cases h1 : j' < j
          · exact (HI.done j' y hy' h1).lt q hq
          · exact own_lt (HI.left j' y hy' (by omega)) q hq
        exact ⟨hv, hlq q hql hv⟩
    · rw [if_neg hji]
      exact HI.off j y hy (by omega)
  · intro j y hy hj
    have hS := HI.left j y hy (by omega)
    exact own_kept hS (fun q hq => hfr q (own_lt hS q hq) (fun e => hs.each i j (v, n) y hx hy (by omega) q e hq) (fun e => hs.tok y (List.mem_of_getElem? hy) q hq (by rw [e]; rfl)))
def GrowPost (base kb N : Nat) (tv : Value) (es : List (Value × Nat)) (w : World) (e : Ending) (w' : World) : Prop :=
  e = .returned (.tuple #[]) ∧ ∃ lg, GInv w w' base kb N tv es es.length lg
set_option maxHeartbeats 4000000 in
set_option maxRecDepth 100000 in
theorem grow_walk (base kb N : Nat) (A : Option Addr) (ct : Nat) (rows : List (Value × Value × Nat)) (es : List (Value × Nat)) (w : World) (h : FInv w w base kb N (.slice A es.length ct) rows es es.length) (hs : Sep kb (.slice A es.length ct) es) (hr : RowsOf es rows)
    (hm : es.length ≤ 50) (hn : ∀ x, x ∈ es → x.2 ≤ 1000000) :
    Calls Tryz.prog 39 #[.pointer (some ⟨kb, 0, none⟩)] w (GrowPost base kb N (.slice A es.length ct) es w) := by
  go_enter Tryz.func39, Tryz.ntmps39
  go_wp2_with fail
  go_loopw [2] (fun iv wr => ∃ (i : Nat) (lg : Nat → Value), iv = .int .i64 i ∧ i ≤ es.length ∧ Hid (GInv w wr base kb N (.slice A es.length ct) es i lg)) (fun iv _ => es.length - (intOf iv).toNat)
  case atStart => exact ⟨0, fun _ => nilV, rfl, Nat.zero_le _, Lib.hid ⟨Below.refl _ _, ⟨rows, h.bk, hr.1, fun j x hx => by rw [if_neg (by omega)]; exact hr.2 j x hx⟩, fun j x _ hj => absurd hj (by omega), fun j x _ hj => absurd hj (by omega), fun j x hx _ => h.done j x hx (by
    exact (List.getElem?_eq_some_iff.1 hx).1)⟩⟩
  case round =>
    obtain ⟨i, lg, rfl, hi, HI⟩ := hrel
    obtain ⟨wo, hwo⟩ : ∃ wo, wo = wr := ⟨_, rfl⟩
    subst hwo
    obtain ⟨rows2, hbk, hrl, hrows⟩ := HI.out.bk
    have c6 := hbk.cell 6
    simp only [bookCells] at c6
    dsimp at c6
    by_cases hlt : i < es.length
    · obtain ⟨x, hx⟩ : ∃ x, es[i]? = some x := ⟨es[i], List.getElem?_eq_getElem hlt⟩
      have hri := hrows i x hx
      rw [if_neg (by omega)] at hri
      obtain ⟨r1, r2, r3⟩ := rowCells_get rows2 i _ hri
      have hpre := Pre.of_own hbk.tok
      rw [hrl] at hpre
      obtain ⟨tb, hA⟩ : ∃ tb, A = some ⟨tb, 0, none⟩ := by
        rcases hpre with ⟨_, h0⟩ | ⟨g, cap, cur, hv, _⟩
        · omega
        · injection hv with h1 h2 h3; exact ⟨g, h1⟩
      subst hA
      have t0 := hpre.cell _ _ r1
      have t1 := hpre.cell _ _ r2
      have t2 := hpre.cell _ _ r3
      simp only [nilV] at t1
      obtain ⟨v, n⟩ := x
      have ho := HI.out.left i _ hx (Nat.le_refl _)
      obtain ⟨A1, c1, hv⟩ := own_slice ho
      simp only at hv
      subst hv
      have hnn := hn _ (List.mem_of_getElem? hx)
      simp only at hnn
      have HX := Lib.hid hx
      have HR := Lib.hid hpre
      have HBK := Lib.hid hbk
      have HRW := Lib.hid hrows
      have HO : Hid (wo.ownsRow base 54 3 (.slice A1 n c1) n (marks (cellsOf (i + 1)) n)) := Lib.hid ho
      clear hpre r1 r2 r3 hx ho hbk hrows hri
      go_wp2_with fail
      obtain ⟨wb, hwb⟩ : ∃ wb, wb = wo.alloc (.cells #[.slice A1 n c1, .slice none 0 0, .int .i64 ((i : Int) + 1)] 67) := ⟨_, rfl⟩
      rw [← hwb]
      have HWB := Lib.hid hwb
      have hbox : wb.heap[wo.heap.size]? = some (.cells #[.slice A1 n c1, .slice none 0 0, .int .i64 ((i : Int) + 1)] 67 (0, 0)) := by rw [hwb]; exact heap_alloc_new wo _
      have HBX := Lib.hid hbox
      have hob : wb.ownsRow base 54 3 (.slice A1 n c1) n (marks (cellsOf (i + 1)) n) := by rw [hwb]; exact HO.out.alloc _
      have HG0 : Hid (Gro wb wb base (.slice A1 n c1) (.slice A1 n c1) n 0 i) := Lib.hid ⟨World.grownBy.refl _ _, hob, Pre.of_own hob, .inl rfl⟩
      have HBS : Hid (base ≤ wb.heap.size) := Lib.hid (by
        have h1 : kb < wo.heap.size := (Array.getElem?_eq_some_iff.1 HBK.out.book).1
        have h2 := HBK.out.hkb
        rw [hwb]
        have h3 : (wo.alloc (.cells #[.slice A1 n c1, .slice none 0 0, .int .i64 ((i : Int) + 1)] 67)).heap.size = wo.heap.size + 1 := by simp
        omega)
      have b0 := blk_cell hbox 0
      dsimp at b0
      clear hwb hbox hob
      go_wp2_with fail
      clear b0
      go_loopw [4, 5] (fun lv kv wk => ∃ (k : Nat) (A2 : Option Addr) (c2 : Nat), lv = .slice A2 (n + k) c2 ∧ kv = .int .i64 k ∧ k ≤ 40 ∧ Hid (Gro wb wk base (.slice A1 n c1) (.slice A2 (n + k) c2) n k i)) (fun _ kv _ => 40 - (intOf kv).toNat)
      case atStart => exact ⟨0, A1, c1, rfl, rfl, by omega, HG0⟩
      case round =>
        clear HG0
        obtain ⟨k, A2, c2, rfl, rfl, hk, HG⟩ := hrel
        have hbw : wo.heap.size < wb.heap.size := (Array.getElem?_eq_some_iff.1 HBX.out).1
        have hoe : some wo.heap.size ≠ (Value.slice A1 n c1).ownBlock := fun e => absurd (own_lt HO.out _ e.symm) (by omega)
        have hbk : wr.heap[wo.heap.size]? = some (.cells #[.slice A1 n c1, .slice none 0 0, .int .i64 ((i : Int) + 1)] 67 (0, 0)) := by rw [HG.out.grown.block _ hbw hoe]; exact HBX.out
        have b2 := blk_cell hbk 2
        dsimp at b2
        by_cases hk40 : k < 40
        · go_wp2_with fail
          refine (mark_calls i (by omega) _).mono ?_
          rintro e w2 ⟨rfl, hb2⟩
          have hgr : wr.grownBy w2 none := grown_of_below hb2 none
          have hown2 := own_kept HG.out.own (w' := w2) (fun q hq => hb2.block q (own_lt HG.out.own q hq))
          have hbs2 : base ≤ w2.heap.size := by have := HBS.out; have := HG.out.grown.size; have := hb2.size; omega
          go_wp2_with (at_builtin; refine wp_append_two (W := w2) base rfl _ _ 22 54 (.agg #[.int .u8 0, .string ⟨#[]⟩, .int .i64 0]) 3 32 rfl Tryz.underlying22 info54 rfl (by decide) (by decide) (.slice A2 (n + k) c2) (n + k) (marks (cellsOf (i + 1)) (n + k)) [.int .u8 0, .string (mk (i + 1)), .int .i64 0] rfl rfl rfl (by simp [Value.oneCell']) hown2 hbs2 (by omega) ?_; intro v1 w3 hown3 hat3; obtain ⟨A3, c3, hv3⟩ := own_slice hown3; subst hv3; have HG2 := Lib.hid (HG.out.step (fun q hq => by have := own_lt HO.out q hq; omega) hgr hown3 hat3); clear hown3 hat3)
          exact ⟨⟨k + 1, A3, c3, rfl, by go_num, by omega, HG2⟩, by simp [intOf]; omega⟩
        · obtain rfl : k = 40 := by omega
          have hgo : wo.grownBy wr (Value.slice A1 n c1).ownBlock := by
            have := HWB.out
            subst this
            exact (World.grownBy_alloc wo _ _).trans HG.out.grown
          have hmem := List.mem_of_getElem? HX.out
          have hbk4 := HBK.out.grown hgo (hs.book _ hmem) (fun q hq e => hs.tok _ hmem q e hq)
          have d6 := hbk4.cell 6
          simp only [bookCells] at d6
          dsimp at d6
          have hri := HRW.out i _ HX.out
          have hp4 := Pre.of_own hbk4.tok
          rw [hrl] at hp4
          have d1 := hp4.cell _ _ (rowCells_get rows2 i _ hri).2.1
          have htk := hbk4.tok
          rw [hrl] at htk
          have df := own_frozen htk (i * 3 + 1)
          have HI2 := Lib.hid (HI.out.step HX.out hs (by have := HWB.out; subst this; exact World.grownBy_alloc wo _ _) (by omega) HG.out HO.out)
          clear hgo hmem hbk4 hp4 htk
          go_wp2_with fail
          exact ⟨⟨i + 1, _, by go_num, by omega, HI2⟩, by simp [intOf]; omega⟩
    · obtain rfl : i = es.length := by omega
      go_wp2_with fail
      go_end0
      exact ⟨rfl, lg, HI.out⟩
end Go.Proofs.YtgenhcanaoejkaaGreatDoor.B
