/- Book, lists of one kind: grow: walk. Printed by bookkind.py (ours). -/
import Derived.Test.YtbdciibbgiphcaaGreatDoorBkExprF
namespace Go.Proofs.YtbdciibbgiphcaaGreatDoor.B
set_option linter.unusedVariables false
set_option linter.unusedSimpArgs false
set_option linter.unusedSectionVars false
open Go.RowKit Go.Proofs.YtbdciibbgiphcaaGreatDoorW.PrintWords Go.Proofs.YtbdciibbgiphcaaGreatDoorW.PrintLast Go.Proofs.YtbdciibbgiphcaaGreatDoorW.PrintMore
open Go.Proofs.YtbdciibbgiphcaaGreatDoor.V (VarT mk)
set_option maxHeartbeats 4000000 in
set_option maxRecDepth 100000 in
theorem grow_Expr (base kb N : Nat) (bc : Array Value) (A : Option Addr) (ct : Nat) (es : List Lst) (w : World) (h : FInv 25 4 cellsExpr w w base kb 50 132 14 bc N (.slice A es.length ct) es es.length) (hs : Sep kb (.slice A es.length ct) es)
    (hm : es.length ≤ 3000000) (hn : ∀ x, x ∈ es → x.2.1 ≤ 3000000) (hb : ∀ x, x ∈ es → x.2.2 ≤ 1000000000) (hvt : VarT w) (h0b : 0 < base) :
    Calls Tryz.prog 50 #[.pointer (some ⟨kb, 0, none⟩)] w (GrowPost 25 4 cellsExpr base kb 50 132 14 bc N (.slice A es.length ct) es w) := by
  have HLM := Lib.hid hm; have HNN := Lib.hid hn; have HBB := Lib.hid hb; have HH := Lib.hid h; have HSP := Lib.hid hs
  clear hm hn hb h hs
  have HV := Lib.hid hvt
  clear hvt
  go_enter Tryz.func50, Tryz.ntmps50
  go_wp2_with fail
  go_loopw [2] (fun iv wr => ∃ (i : Nat) (lg : Nat → Value), iv = .int .i64 i ∧ i ≤ es.length ∧ Hid (GInv 25 4 cellsExpr w wr base kb 50 132 14 bc N (.slice A es.length ct) es i lg)) (fun iv _ => es.length - (intOf iv).toNat)
  case atStart => exact ⟨0, fun _ => nilV, rfl, Nat.zero_le _, Lib.hid ⟨Below.refl _ _, fun _ _ _ _ => rfl, ⟨rowsOf es, HH.out.bk, rowsOf_len es, fun j x hx => by rw [if_neg (by omega)]; exact rowsOf_get hx⟩, fun j x _ hj => absurd hj (by omega), fun j x _ hj => absurd hj (by omega), fun j x _ hj => absurd hj (by omega), fun j x hx _ => HH.out.done j x hx (by
    exact (List.getElem?_eq_some_iff.1 hx).1)⟩⟩
  case round =>
    obtain ⟨i, lg, rfl, hi, HI⟩ := hrel
    obtain ⟨wo, hwo⟩ : ∃ wo, wo = wr := ⟨_, rfl⟩
    subst hwo
    obtain ⟨rows2, hbk, hrl, hrows⟩ := HI.out.bk
    have c6 := hbk.cf
    have hm := HLM.out
    by_cases hlt : i < es.length
    · obtain ⟨x, hx⟩ : ∃ x, es[i]? = some x := ⟨es[i], List.getElem?_eq_getElem hlt⟩
      have hri := hrows i x hx
      rw [if_neg (by omega)] at hri
      obtain ⟨r1, r2, r3⟩ := rowCells_get rows2 i _ hri
      have hpre := Pre.of_own hbk.tok
      rw [hrl] at hpre
      obtain ⟨tb, hA⟩ : ∃ tb, A = some ⟨tb, 0, none⟩ := by
        rcases hpre with ⟨_, h0⟩ | ⟨g, cap, cur, hv, _⟩
        · omega
        · injection hv with h1 h2 h3; exact ⟨g, h1⟩
      subst hA
      have t0 := hpre.cell _ _ r1
      have t1 := hpre.cell _ _ r2
      have t2 := hpre.cell _ _ r3
      simp only [nilV] at t1
      obtain ⟨v, n, nm⟩ := x
      have ho := HI.out.left i _ hx (Nat.le_refl _)
      obtain ⟨A1, c1, hv⟩ := own_slice ho
      simp only at hv
      subst hv
      have hnn := HNN.out _ (List.mem_of_getElem? hx)
      have hbb := HBB.out _ (List.mem_of_getElem? hx)
      simp only at hnn hbb t0 t1 t2
      have HX := Lib.hid hx
      have HR := Lib.hid hpre
      have HBK := Lib.hid hbk
      have HRW := Lib.hid hrows
      have HO : Hid (wo.ownsRow base 25 4 (.slice A1 n c1) n (marks (cellsExpr nm) n)) := Lib.hid ho
      clear hpre r1 r2 r3 hx ho hbk hrows hri
      go_wp2_with fail
      obtain ⟨wb, hwb⟩ : ∃ wb, wb = wo.alloc (.cells #[.slice A1 n c1, .slice none 0 0, .int .i64 (nm : Int)] 132) := ⟨_, rfl⟩
      rw [← hwb]
      have HWB := Lib.hid hwb
      have hbox : wb.heap[wo.heap.size]? = some (.cells #[.slice A1 n c1, .slice none 0 0, .int .i64 (nm : Int)] 132 (0, 0)) := by rw [hwb]; exact heap_alloc_new wo _
      have HBX := Lib.hid hbox
      have hob : wb.ownsRow base 25 4 (.slice A1 n c1) n (marks (cellsExpr nm) n) := by rw [hwb]; exact HO.out.alloc _
      have HG0 : Hid (Gro 25 4 cellsExpr wb wb base (.slice A1 n c1) (.slice A1 n c1) n 0 nm) := Lib.hid ⟨World.grownBy.refl _ _, hob, Pre.of_own hob, .inl rfl⟩
      have HBS : Hid (base ≤ wb.heap.size) := Lib.hid (by
        have h1 : kb < wo.heap.size := (Array.getElem?_eq_some_iff.1 HBK.out.book).1
        have h2 := HBK.out.hkb
        rw [hwb]
        have h3 : (wo.alloc (.cells #[.slice A1 n c1, .slice none 0 0, .int .i64 (nm : Int)] 132)).heap.size = wo.heap.size + 1 := by simp
        omega)
      have b0 := blk_cell hbox 0
      dsimp at b0
      clear hwb hbox hob
      go_wp2_with fail
      clear b0
      go_loopw [4, 5] (fun lv kv wk => ∃ (k : Nat) (A2 : Option Addr) (c2 : Nat), lv = .slice A2 (n + k) c2 ∧ kv = .int .i64 k ∧ k ≤ 40 ∧ Hid (Gro 25 4 cellsExpr wb wk base (.slice A1 n c1) (.slice A2 (n + k) c2) n k nm)) (fun _ kv _ => 40 - (intOf kv).toNat)
      case atStart => exact ⟨0, A1, c1, rfl, rfl, by omega, HG0⟩
      case round =>
        clear HG0
        obtain ⟨k, A2, c2, rfl, rfl, hk, HG⟩ := hrel
        have hbw : wo.heap.size < wb.heap.size := (Array.getElem?_eq_some_iff.1 HBX.out).1
        have hoe : some wo.heap.size ≠ (Value.slice A1 n c1).ownBlock := fun e => absurd (own_lt HO.out _ e.symm) (by omega)
        have hbk : wr.heap[wo.heap.size]? = some (.cells #[.slice A1 n c1, .slice none 0 0, .int .i64 (nm : Int)] 132 (0, 0)) := by rw [HG.out.grown.block _ hbw hoe]; exact HBX.out
        have b2 := blk_cell hbk 2
        dsimp at b2
        by_cases hk40 : k < 40
        · go_wp2_with fail
          have HVT : Hid (VarT wr) := Lib.hid (VarT.grown (base := base) (by have := HWB.out; subst this; exact (HV.out.step HI.out.bel h0b).alloc _) HG.out.grown (fun q hq => own_base HO.out q hq) h0b)
          refine (mark_Expr nm hbb _ (HVT.out)).mono ?_
          rintro e w2 ⟨rfl, hb2⟩
          have hgr : wr.grownBy w2 none := grown_of_below hb2 none
          have hown2 := own_kept HG.out.own (w' := w2) (fun q hq => hb2.block q (own_lt HG.out.own q hq))
          have hbs2 : base ≤ w2.heap.size := by have := HBS.out; have := HG.out.grown.size; have := hb2.size; omega
          go_wp2_with (at_builtin; refine wp_append_two (W := w2) base rfl _ _ 23 25 (.agg #[.int .u8 0, .int .i64 0, .string ⟨#[]⟩, .slice none 0 0]) 4 56 rfl Tryz.underlying23 V.info25 rfl (by decide) (by decide) (.slice A2 (n + k) c2) (n + k) (marks (cellsExpr nm) (n + k)) (cellsExpr nm) rfl rfl rfl (by simp [cellsExpr, Value.oneCell']) hown2 hbs2 (by omega) ?_; intro v1 w3 hown3 hat3; obtain ⟨A3, c3, hv3⟩ := own_slice hown3; subst hv3; have HG2 := Lib.hid (HG.out.step (m := 4) (cf := cellsExpr) rfl (by decide) (fun q hq => by have := own_lt HO.out q hq; omega) hgr hown3 hat3); clear hown3 hat3)
          exact ⟨⟨k + 1, A3, c3, rfl, by go_num, by omega, HG2⟩, by simp [intOf]; omega⟩
        · obtain rfl : k = 40 := by omega
          have hgo : wo.grownBy wr (Value.slice A1 n c1).ownBlock := by
            have := HWB.out
            subst this
            exact (World.grownBy_alloc wo _ _).trans HG.out.grown
          have hmem := List.mem_of_getElem? HX.out
          have hbk4 := HBK.out.grown hgo (fun e => HSP.out.book _ hmem e) (fun q hq e => HSP.out.tok _ hmem q e hq)
          have d6 := hbk4.cf
          have hri := HRW.out i _ HX.out
          have hp4 := Pre.of_own hbk4.tok
          rw [hrl] at hp4
          have d1 := hp4.cell _ _ (rowCells_get rows2 i _ hri).2.1
          have htk := hbk4.tok
          rw [hrl] at htk
          have df := own_frozen htk (i * 3 + 1)
          have HI2 := Lib.hid (HI.out.step HX.out HSP.out (by have := HWB.out; subst this; exact World.grownBy_alloc wo _ _) (by omega) HG.out HO.out)
          clear hgo hmem hbk4 hp4 htk
          go_wp2_with fail
          exact ⟨⟨i + 1, _, by go_num, by omega, HI2⟩, by simp [intOf]; omega⟩
    · obtain rfl : i = es.length := by omega
      go_wp2_with fail
      go_end0
      exact ⟨rfl, lg, HI.out⟩
end Go.Proofs.YtbdciibbgiphcaaGreatDoor.B
