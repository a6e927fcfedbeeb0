/- Book, lists of one kind: fill: walk. Printed by bookkind.py (ours). -/
import Derived.Test.YtbdciibbgiphcaaGreatDoorBkRefW
namespace Go.Proofs.YtbdciibbgiphcaaGreatDoor.B
set_option linter.unusedVariables false
set_option linter.unusedSimpArgs false
set_option linter.unusedSectionVars false
open Go.RowKit Go.Proofs.YtbdciibbgiphcaaGreatDoorW.PrintWords Go.Proofs.YtbdciibbgiphcaaGreatDoorW.PrintLast Go.Proofs.YtbdciibbgiphcaaGreatDoorW.PrintMore
open Go.Proofs.YtbdciibbgiphcaaGreatDoor.V (VarT mk)
set_option maxHeartbeats 4000000 in
set_option maxRecDepth 100000 in
theorem fill_Ref (base kb N : Nat) (bc : Array Value) (A : Option Addr) (ct : Nat) (es : List Lst) (w : World) (h : Bk w base kb 50 66 7 bc N (.slice A es.length ct) (rowsOf es)) (hs : Sep kb (.slice A es.length ct) es)
    (hl : ∀ x, x ∈ es → S1 60 2 w base x) (hm : es.length ≤ 3000000) (hn : ∀ x, x ∈ es → x.2.1 ≤ 3000000) (hb : ∀ x, x ∈ es → x.2.2 ≤ 1000000000) (hvt : VarT w) (h0b : 0 < base) :
    Calls Tryz.prog 26 #[.pointer (some ⟨kb, 0, none⟩)] w (FillPost 60 2 cellsRef base kb 50 66 7 bc N (.slice A es.length ct) es w) := by
  have HLM := Lib.hid hm; have HNN := Lib.hid hn; have HBB := Lib.hid hb; have HH := Lib.hid h; have HSP := Lib.hid hs; have HLL := Lib.hid hl
  clear hm hn hb h hs hl
  have HV := Lib.hid hvt
  clear hvt
  go_enter Tryz.func26, Tryz.ntmps26
  go_wp2_with fail
  go_loopw [2] (fun iv wr => ∃ (i : Nat), iv = .int .i64 i ∧ i ≤ es.length ∧ Hid (FInv 60 2 cellsRef w wr base kb 50 66 7 bc N (.slice A es.length ct) es i)) (fun iv _ => es.length - (intOf iv).toNat)
  case atStart => exact ⟨0, rfl, Nat.zero_le _, Lib.hid ⟨Below.refl _ _, fun _ _ _ _ => rfl, HH.out, fun j x _ hj => absurd hj (by omega), fun j x hx _ => HLL.out x (List.mem_of_getElem? hx)⟩⟩
  case round =>
    obtain ⟨i, rfl, hi, HI⟩ := hrel
    obtain ⟨wo, hwo⟩ : ∃ wo, wo = wr := ⟨_, rfl⟩
    subst hwo
    have c6 := HI.out.bk.cf
    have hm := HLM.out
    by_cases hlt : i < es.length
    · obtain ⟨x, hx⟩ : ∃ x, es[i]? = some x := ⟨es[i], List.getElem?_eq_getElem hlt⟩
      obtain ⟨r1, r2, r3⟩ := rowCells_get (rowsOf es) i _ (rowsOf_get hx)
      have hpre := Pre.of_own HI.out.bk.tok
      rw [rowsOf_len] at hpre
      obtain ⟨tb, hA⟩ : ∃ tb, A = some ⟨tb, 0, none⟩ := by
        rcases hpre with ⟨_, h0⟩ | ⟨g, cap, cur, hv, _⟩
        · omega
        · injection hv with h1 h2 h3; exact ⟨g, h1⟩
      subst hA
      have t0 := hpre.cell _ _ r1
      have t1 := hpre.cell _ _ r2
      have t2 := hpre.cell _ _ r3
      simp only [nilV] at t1
      obtain ⟨v, n, nm⟩ := x
      obtain ⟨xs, ho⟩ := HI.out.left i _ hx (Nat.le_refl _)
      obtain ⟨A1, c1, hv⟩ := own_slice ho
      simp only at hv
      subst hv
      have hnn := HNN.out _ (List.mem_of_getElem? hx)
      have hbb := HBB.out _ (List.mem_of_getElem? hx)
      simp only at hnn hbb t0 t1 t2
      have HX := Lib.hid hx
      have HR := Lib.hid hpre
      have HO : Hid (wo.ownsRow base 60 2 (.slice A1 n c1) n xs) := Lib.hid ho
      clear hpre r1 r2 r3 hx ho
      go_wp2_with fail
      obtain ⟨wb, hwb⟩ : ∃ wb, wb = wo.alloc (.cells #[.slice A1 n c1, .slice none 0 0, .int .i64 (nm : Int)] 66) := ⟨_, rfl⟩
      rw [← hwb]
      have HWB := Lib.hid hwb
      have hbox : wb.heap[wo.heap.size]? = some (.cells #[.slice A1 n c1, .slice none 0 0, .int .i64 (nm : Int)] 66 (0, 0)) := by rw [hwb]; exact heap_alloc_new wo _
      have HBX := Lib.hid hbox
      have HOB : Hid (wb.ownsRow base 60 2 (.slice A1 n c1) n xs) := Lib.hid (by rw [hwb]; exact HO.out.alloc _)
      clear hwb hbox
      go_loopw [4] (fun kv wk => ∃ (k : Nat) (rest : List Value), kv = .int .i64 k ∧ k ≤ n ∧ Hid (wb.grownBy wk (Value.slice A1 n c1).ownBlock) ∧ Hid (wk.ownsRow base 60 2 (.slice A1 n c1) n (marks (cellsRef nm) k ++ rest))) (fun kv _ => n - (intOf kv).toNat)
      case atStart => exact ⟨0, xs, rfl, Nat.zero_le _, World.grownBy.refl _ _, HOB⟩
      case round =>
        obtain ⟨k, rest, rfl, hk, HG, HK⟩ := hrel
        have hbw : wo.heap.size < wb.heap.size := (Array.getElem?_eq_some_iff.1 HBX.out).1
        have hoe : some wo.heap.size ≠ (Value.slice A1 n c1).ownBlock := fun e => absurd (own_lt HO.out _ e.symm) (by omega)
        have hbk : wr.heap[wo.heap.size]? = some (.cells #[.slice A1 n c1, .slice none 0 0, .int .i64 (nm : Int)] 66 (0, 0)) := by rw [HG.out.block _ hbw hoe]; exact HBX.out
        have b0 := blk_cell hbk 0
        have b1 := blk_cell hbk 1
        have b2 := blk_cell hbk 2
        dsimp at b0 b1 b2
        by_cases hkn : k < n
        · obtain ⟨g, cap, hv, hbg, hgl⟩ := HK.out.form (by omega)
          injection hv with hA1 _ hcc
          subst hA1
          have hgb : g ≠ wo.heap.size := fun e => hoe (by rw [← e]; rfl)
          have hkl := HK.out.1
          have HVT : Hid (VarT wr) := Lib.hid (VarT.grown (base := base) (by have := HWB.out; subst this; exact (HV.out.step HI.out.bel h0b).alloc _) HG.out (fun q hq => own_base HO.out q hq) h0b)
          have e0 := List.getElem?_eq_getElem (l := marks (cellsRef nm) k ++ rest) (i := k * 2) (by omega)
          have e1 := List.getElem?_eq_getElem (l := marks (cellsRef nm) k ++ rest) (i := k * 2 + 1) (by omega)
          have E0 := Lib.hid e0
          have E1 := Lib.hid e1
          clear e0 e1
          go_wp2_with fail
          go_region_held3 (fun w' => w'.cell? ⟨wo.heap.size, 0, none⟩ = some (.slice (some ⟨g, 0, none⟩) n c1) ∧ w'.cell? ⟨wo.heap.size, 2, none⟩ = some (.int .i64 (nm : Int))) (first | (exact ⟨s0, s2⟩) | go_keep) (first | (go_at_call 78; refine (mark_Ref nm hbb _ (HVT.out.drew)).mono ?_; rintro e w2 ⟨rfl, hb2⟩; have s0 := (hb2.cell (p := ⟨wo.heap.size, 0, none⟩) (by exact (Array.getElem?_eq_some_iff.1 hbk).1)).trans b0; have s2 := (hb2.cell (p := ⟨wo.heap.size, 2, none⟩) (by exact (Array.getElem?_eq_some_iff.1 hbk).1)).trans b2; have HK2 := Lib.hid (own_kept HK.out (w' := w2) (fun q hq => hb2.block q (by exact own_lt HK.out q hq))); have q0 := (Pre.of_own HK2.out).cell _ _ E0.out; have q1 := (Pre.of_own HK2.out).cell _ _ E1.out; have f0 := own_frozen HK2.out (k * 2); have f1 := own_frozen HK2.out (k * 2 + 1)))
          subst hcc
          obtain ⟨hG2, rest2, hK3⟩ := fill_step (m := 2) (cf := cellsRef) rfl hkn HG.out hb2 HK2.out
          have HG2 : Hid (wb.grownBy ((w2.setCell ⟨g, k * 2, none⟩ (.string (mk nm))).setCell ⟨g, k * 2 + 1, none⟩ (.int .i64 0)) (some g)) := Lib.hid hG2
          have HK3 : Hid (World.ownsRow ((w2.setCell ⟨g, k * 2, none⟩ (.string (mk nm))).setCell ⟨g, k * 2 + 1, none⟩ (.int .i64 0)) base 60 2 (.slice (some ⟨g, 0, none⟩) n c1) n (marks (cellsRef nm) (k + 1) ++ rest2)) := Lib.hid hK3
          clear hG2 hK3
          go_wp2_with fail
          exact ⟨⟨k + 1, rest2, by go_num, by omega, HG2, HK3⟩, by simp [intOf]; omega⟩
        · obtain rfl : k = n := by omega
          have hlen := HK.out.1
          have hm3 : (marks (cellsRef nm) k).length = k * 2 := marks_len _ _
          rw [List.length_append, hm3] at hlen
          obtain rfl : rest = [] := List.eq_nil_of_length_eq_zero (by omega)
          have hgo : wo.grownBy wr (Value.slice A1 k c1).ownBlock := by
            have := HWB.out
            subst this
            exact (World.grownBy_alloc wo _ _).trans HG.out
          have hS2 : S2 60 2 cellsRef wr base (Value.slice A1 k c1, k, nm) := by
            have := HK.out
            rw [List.append_nil] at this
            exact this
          have HI2 := Lib.hid (HI.out.step HX.out HSP.out hgo (fun q hq => own_base HO.out q hq) hS2)
          clear hgo hS2
          go_wp2_with fail
          exact ⟨⟨i + 1, by go_num, by omega, HI2⟩, by simp [intOf]; omega⟩
    · obtain rfl : i = es.length := by omega
      go_wp2_with fail
      go_end0
      exact ⟨rfl, HI.out⟩
end Go.Proofs.YtbdciibbgiphcaaGreatDoor.B
