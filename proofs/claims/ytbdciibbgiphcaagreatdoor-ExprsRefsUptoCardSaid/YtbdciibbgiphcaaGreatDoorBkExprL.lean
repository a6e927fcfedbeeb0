/- Book, lists of one kind: look: walk. Printed by bookkind.py (ours). -/
import Derived.Test.YtbdciibbgiphcaaGreatDoorBkExprG
namespace Go.Proofs.YtbdciibbgiphcaaGreatDoor.B
set_option linter.unusedVariables false
set_option linter.unusedSimpArgs false
set_option linter.unusedSectionVars false
open Go.RowKit Go.Proofs.YtbdciibbgiphcaaGreatDoorW.PrintWords Go.Proofs.YtbdciibbgiphcaaGreatDoorW.PrintLast Go.Proofs.YtbdciibbgiphcaaGreatDoorW.PrintMore
open Go.Proofs.YtbdciibbgiphcaaGreatDoor.V (VarT mk)
theorem mark_cellsExpr {w : World} {g cap n k nm : Nat} (h : Pre w 25 4 (.slice (some ⟨g, 0, none⟩) n cap) n (marks (cellsExpr nm) n)) (hk : k < n) :
    w.cell? ⟨g, k * 4, none⟩ = some (.int .u8 0) ∧ w.cell? ⟨g, k * 4 + 1, none⟩ = some (.int .i64 0) ∧ w.cell? ⟨g, k * 4 + 2, none⟩ = some (.string (mk nm)) ∧ w.cell? ⟨g, k * 4 + 3, none⟩ = some (.slice none 0 0) :=
  ⟨h.cell _ _ (marks_get (cellsExpr nm) n k 0 _ hk rfl), h.cell _ _ (marks_get (cellsExpr nm) n k 1 _ hk rfl), h.cell _ _ (marks_get (cellsExpr nm) n k 2 _ hk rfl), h.cell _ _ (marks_get (cellsExpr nm) n k 3 _ hk rfl)⟩
set_option maxHeartbeats 4000000 in
set_option maxRecDepth 100000 in
theorem look_Expr (base kb N : Nat) (bc : Array Value) (A : Option Addr) (ct : Nat) (es : List Lst) (lg : Nat → Value) (w : World) (hB2 : ∃ rows, Bk w base kb 50 132 14 bc N (.slice A es.length ct) rows ∧ rows.length = es.length ∧ ∀ (j : Nat) (x : Lst), es[j]? = some x → rows[j]? = some (x.1, (if j < es.length then lg j else nilV), x.2.2)) (h : ∀ (j : Nat) (x : Lst), es[j]? = some x → j < es.length → S3 25 4 cellsExpr w base x (lg j))
    (hm : es.length ≤ 3000000) (hn : ∀ x, x ∈ es → x.2.1 ≤ 3000000) (hb : ∀ x, x ∈ es → x.2.2 ≤ 1000000000) (hvt : VarT w) (h0b : 0 < base) :
    Calls Tryz.prog 67 #[.pointer (some ⟨kb, 0, none⟩)] w (LookPost w) := by
  obtain ⟨rows2, hbk, hrl, hrows⟩ := hB2
  have HC6 := Lib.hid hbk.cf
  have HBK := Lib.hid hbk; have HH := Lib.hid h; have HRW := Lib.hid hrows; have HLM := Lib.hid hm; have HNN := Lib.hid hn; have HBB := Lib.hid hb
  clear hbk h hrows hm hn hb
  have HV := Lib.hid hvt
  clear hvt
  go_enter Tryz.func67, Tryz.ntmps67
  go_wp2_with fail
  go_loopw [3] (fun iv wr => ∃ (i : Nat), iv = .int .i64 i ∧ i ≤ es.length ∧ Hid (Below w.heap.size w wr)) (fun iv _ => es.length - (intOf iv).toNat)
  case atStart => exact ⟨0, rfl, Nat.zero_le _, Lib.hid (Below.refl _ _)⟩
  case round =>
    obtain ⟨i, rfl, hi, HB⟩ := hrel
    obtain ⟨wo, hwo⟩ : ∃ wo, wo = wr := ⟨_, rfl⟩
    subst hwo
    have c6 := keep_cell HB.out (Nat.le_refl _) HC6.out
    have hm := HLM.out
    by_cases hlt : i < es.length
    · obtain ⟨x, hx⟩ : ∃ x, es[i]? = some x := ⟨es[i], List.getElem?_eq_getElem hlt⟩
      have hri := HRW.out i x hx
      rw [if_pos hlt] at hri
      obtain ⟨r1, r2, r3⟩ := rowCells_get rows2 i _ hri
      have hpre := Pre.of_own HBK.out.tok
      rw [hrl] at hpre
      obtain ⟨tb, hA⟩ : ∃ tb, A = some ⟨tb, 0, none⟩ := by
        rcases hpre with ⟨_, h0⟩ | ⟨g, cap, cur, hv, _⟩
        · omega
        · injection hv with h1 h2 h3; exact ⟨g, h1⟩
      subst hA
      have t0 := keep_cell HB.out (Nat.le_refl _) (hpre.cell _ _ r1)
      have t1 := keep_cell HB.out (Nat.le_refl _) (hpre.cell _ _ r2)
      have t2 := keep_cell HB.out (Nat.le_refl _) (hpre.cell _ _ r3)
      obtain ⟨v, n, nm⟩ := x
      have hS := HH.out i _ hx hlt
      obtain ⟨A1, c1, hv⟩ : ∃ A1 c1, v = .slice A1 n c1 := by
        rcases hS.pre with ⟨hv, h0⟩ | ⟨g, cap, cur, hv, _⟩
        · simp only at hv h0; subst h0; exact ⟨none, 0, hv⟩
        · exact ⟨_, _, hv⟩
      subst hv
      obtain ⟨gl, cl, hlv, _, _⟩ := hS.own.form (by omega)
      have hown := hS.own
      rw [hlv] at hown t1
      simp only at hown t0 t1 t2
      have hnn := HNN.out _ (List.mem_of_getElem? hx)
      have hbb := HBB.out _ (List.mem_of_getElem? hx)
      simp only at hnn hbb
      have HP : Hid (Pre w 25 4 (.slice A1 n c1) n (marks (cellsExpr nm) n)) := Lib.hid hS.pre
      have HL : Hid (Pre w 25 4 (.slice (some ⟨gl, 0, none⟩) (n + 40) cl) (n + 40) (marks (cellsExpr nm) (n + 40))) := Lib.hid (Pre.of_own hown)
      clear hpre r1 r2 r3 hx hown hS hri
      go_wp2_with fail
      obtain ⟨wb, hwb⟩ : ∃ wb, wb = wo.alloc (.cells #[.slice A1 n c1, .slice (some ⟨gl, 0, none⟩) (n + 40) cl, .int .i64 (nm : Int)] 132) := ⟨_, rfl⟩
      rw [← hwb]
      have hbox : wb.heap[wo.heap.size]? = some (.cells #[.slice A1 n c1, .slice (some ⟨gl, 0, none⟩) (n + 40) cl, .int .i64 (nm : Int)] 132 (0, 0)) := by rw [hwb]; exact heap_alloc_new wo _
      have HBX := Lib.hid hbox
      have HBB2 : Hid (Below w.heap.size w wb) := Lib.hid (by rw [hwb]; exact HB.out.alloc HB.out.size _)
      clear hwb hbox
      go_loopw [5] (fun kv wk => ∃ (k : Nat), kv = .int .i64 k ∧ k ≤ n + 40 ∧ Hid (Below wb.heap.size wb wk)) (fun kv _ => n + 40 - (intOf kv).toNat)
      case atStart => exact ⟨0, rfl, Nat.zero_le _, Lib.hid (Below.refl _ _)⟩
      case round =>
        obtain ⟨k, rfl, hk, HG⟩ := hrel
        have hbl : wo.heap.size < wb.heap.size := (Array.getElem?_eq_some_iff.1 HBX.out).1
        have b0 := keep_cell HG.out (Nat.le_refl _) (blk_cell HBX.out 0)
        have b1 := keep_cell HG.out (Nat.le_refl _) (blk_cell HBX.out 1)
        have b2 := keep_cell HG.out (Nat.le_refl _) (blk_cell HBX.out 2)
        dsimp at b0 b1 b2
        have HBW : Hid (Below w.heap.size w wr) := Lib.hid (HBB2.out.trans (HG.out.mono HBB2.out.size))
        by_cases hkn : k < n + 40
        · obtain ⟨l0, l1, l2, l3⟩ := mark_cellsExpr HL.out hkn
          have m0 := keep_cell HBW.out (Nat.le_refl _) l0
          have m1 := keep_cell HBW.out (Nat.le_refl _) l1
          have m2 := keep_cell HBW.out (Nat.le_refl _) l2
          have m3 := keep_cell HBW.out (Nat.le_refl _) l3
          clear l0 l1 l2 l3
          by_cases hkv : k < n
          · obtain ⟨g, hA1⟩ : ∃ g, A1 = some ⟨g, 0, none⟩ := by
              rcases HP.out with ⟨_, h0⟩ | ⟨g, cap, cur, hv, _⟩
              · omega
              · injection hv with h1 h2 h3; exact ⟨g, h1⟩
            subst hA1
            obtain ⟨l0, l1, l2, l3⟩ := mark_cellsExpr HP.out hkv
            have v0 := keep_cell HBW.out (Nat.le_refl _) l0
            have v1 := keep_cell HBW.out (Nat.le_refl _) l1
            have v2 := keep_cell HBW.out (Nat.le_refl _) l2
            have v3 := keep_cell HBW.out (Nat.le_refl _) l3
            clear l0 l1 l2 l3
            go_wp2_with fail
            go_region_held3 (fun w' => w'.cell? ⟨wo.heap.size, 0, none⟩ = some (.slice (some ⟨g, 0, none⟩) n c1) ∧ w'.cell? ⟨wo.heap.size, 1, none⟩ = some (.slice (some ⟨gl, 0, none⟩) (n + 40) cl) ∧ w'.cell? ⟨wo.heap.size, 2, none⟩ = some (.int .i64 (nm : Int)) ∧ w'.cell? ⟨gl, k * 4, none⟩ = some (.int .u8 0) ∧ w'.cell? ⟨gl, k * 4 + 1, none⟩ = some (.int .i64 0) ∧ w'.cell? ⟨gl, k * 4 + 2, none⟩ = some (.string (mk nm)) ∧ w'.cell? ⟨gl, k * 4 + 3, none⟩ = some (.slice none 0 0) ∧ w'.cell? ⟨g, k * 4, none⟩ = some (.int .u8 0) ∧ w'.cell? ⟨g, k * 4 + 1, none⟩ = some (.int .i64 0) ∧ w'.cell? ⟨g, k * 4 + 2, none⟩ = some (.string (mk nm)) ∧ w'.cell? ⟨g, k * 4 + 3, none⟩ = some (.slice none 0 0)) (first | (exact ⟨sb0, sb1, sb2, sm0, sm1, sm2, sm3, sv0, sv1, sv2, sv3⟩) | go_keep) (first | (go_at_call 102; refine (is_Expr nm hbb _ (HV.out.step (by first | exact HZ.out | exact HBW.out.drew | exact HBW.out) HV.out.pos)).mono ?_; rintro e w2 ⟨rfl, hb2⟩; have sb0 := keep_cell hb2 (Nat.le_refl _) (a := ⟨wo.heap.size, 0, none⟩) (by first | exact sb0 | exact b0); have sb1 := keep_cell hb2 (Nat.le_refl _) (a := ⟨wo.heap.size, 1, none⟩) (by first | exact sb1 | exact b1); have sb2 := keep_cell hb2 (Nat.le_refl _) (a := ⟨wo.heap.size, 2, none⟩) (by first | exact sb2 | exact b2); have sm0 := keep_cell hb2 (Nat.le_refl _) (a := ⟨gl, k * 4, none⟩) (by first | exact sm0 | exact m0); have sm1 := keep_cell hb2 (Nat.le_refl _) (a := ⟨gl, k * 4 + 1, none⟩) (by first | exact sm1 | exact m1); have sm2 := keep_cell hb2 (Nat.le_refl _) (a := ⟨gl, k * 4 + 2, none⟩) (by first | exact sm2 | exact m2); have sm3 := keep_cell hb2 (Nat.le_refl _) (a := ⟨gl, k * 4 + 3, none⟩) (by first | exact sm3 | exact m3); have sv0 := keep_cell hb2 (Nat.le_refl _) (a := ⟨g, k * 4, none⟩) (by first | exact sv0 | exact v0); have sv1 := keep_cell hb2 (Nat.le_refl _) (a := ⟨g, k * 4 + 1, none⟩) (by first | exact sv1 | exact v1); have sv2 := keep_cell hb2 (Nat.le_refl _) (a := ⟨g, k * 4 + 2, none⟩) (by first | exact sv2 | exact v2); have sv3 := keep_cell hb2 (Nat.le_refl _) (a := ⟨g, k * 4 + 3, none⟩) (by first | exact sv3 | exact v3); have HZ := Lib.hid (Below.trans (B := w.heap.size) (by first | exact HZ.out | exact HBW.out.drew) (hb2.mono (by first | exact HZ.out.size | exact HBW.out.size))); have HY := Lib.hid (Below.trans (B := wb.heap.size) (by first | exact HY.out | exact HG.out.drew) (hb2.mono (by first | exact HY.out.size | exact HG.out.size))); clear hb2))
            all_goals (go_wp2_with fail; exact ⟨⟨k + 1, by go_num, by omega, HY⟩, by simp [intOf]; omega⟩)
          · have hd1 : decide ((k : Int) < (n : Int)) = false := decide_eq_false (by omega)
            have hd2 : decide (k < n) = false := decide_eq_false (by omega)
            go_wp2_with fail
            refine wp_region_held_drew (S := fun w' => w'.cell? ⟨wo.heap.size, 0, none⟩ = some (.slice A1 n c1) ∧ w'.cell? ⟨wo.heap.size, 1, none⟩ = some (.slice (some ⟨gl, 0, none⟩) (n + 40) cl) ∧ w'.cell? ⟨wo.heap.size, 2, none⟩ = some (.int .i64 (nm : Int)) ∧ w'.cell? ⟨gl, k * 4, none⟩ = some (.int .u8 0) ∧ w'.cell? ⟨gl, k * 4 + 1, none⟩ = some (.int .i64 0) ∧ w'.cell? ⟨gl, k * 4 + 2, none⟩ = some (.string (mk nm)) ∧ w'.cell? ⟨gl, k * 4 + 3, none⟩ = some (.slice none 0 0)) (by kernel_rfl) ?_ (fun hHeld => ?_)
            · go_keep
            refine wpAnyH_take (i := 0) (oi := ?oi0) (v := ?v0) ?ho0 (by kernel_rfl) (by kernel_rfl) (by kernel_rfl) ?hq0 (Or.inl ⟨?hw0, ?hy0⟩) hHeld ?rest0
            case ho0 => simp only [List.getElem?_toArray, List.getElem?_cons_succ, List.getElem?_cons_zero]; rfl
            case hq0 => exact fun _ _ _ h => h
            case hw0 => rfl
            case hy0 => (intro w hSw; (try dsimp only at hSw); go_simp; try with_reducible rfl)
            try simp only [Act.put, List.setIfInBounds_toArray, List.set_cons_zero, List.set_cons_succ]
            refine wpAnyH_take (i := 1) (oi := ?oi1) (v := ?v1) ?ho1 (by kernel_rfl) (by kernel_rfl) (by kernel_rfl) ?hq1 (Or.inl ⟨?hw1, ?hy1⟩) hHeld ?rest1
            case ho1 => simp only [List.getElem?_toArray, List.getElem?_cons_succ, List.getElem?_cons_zero]; rfl
            case hq1 => exact fun _ _ _ h => h
            case hw1 => rfl
            case hy1 => (intro w hSw; (try dsimp only at hSw); go_simp; try with_reducible rfl)
            try simp only [Act.put, List.setIfInBounds_toArray, List.set_cons_zero, List.set_cons_succ]
            refine wpAnyH_take (i := 2) (oi := ?oi2) (v := ?v2) ?ho2 (by kernel_rfl) (by kernel_rfl) (by kernel_rfl) ?hq2 (Or.inl ⟨?hw2, ?hy2⟩) hHeld ?rest2
            case ho2 => simp only [List.getElem?_toArray, List.getElem?_cons_succ, List.getElem?_cons_zero]; rfl
            case hq2 => exact fun _ _ _ h => h
            case hw2 => rfl
            case hy2 => (intro w hSw; (try dsimp only at hSw); go_simp; try with_reducible rfl)
            try simp only [Act.put, List.setIfInBounds_toArray, List.set_cons_zero, List.set_cons_succ]
            refine wpAnyH_take (i := 3) (oi := ?oi3) (v := ?v3) ?ho3 (by kernel_rfl) (by kernel_rfl) (by kernel_rfl) ?hq3 (Or.inl ⟨?hw3, ?hy3⟩) hHeld ?rest3
            case ho3 => simp only [List.getElem?_toArray, List.getElem?_cons_succ, List.getElem?_cons_zero]; rfl
            case hq3 => exact fun _ _ _ h => h
            case hw3 => rfl
            case hy3 => (intro w hSw; (try dsimp only at hSw); go_simp; try with_reducible rfl)
            try simp only [Act.put, List.setIfInBounds_toArray, List.set_cons_zero, List.set_cons_succ]
            refine wpAnyH_take (i := 4) (oi := ?oi4) (v := ?v4) ?ho4 (by kernel_rfl) (by kernel_rfl) (by kernel_rfl) ?hq4 (Or.inl ⟨?hw4, ?hy4⟩) hHeld ?rest4
            case ho4 => simp only [List.getElem?_toArray, List.getElem?_cons_succ, List.getElem?_cons_zero]; rfl
            case hq4 => exact fun _ _ _ h => h
            case hw4 => rfl
            case hy4 => (intro w hSw; (try dsimp only at hSw); go_simp; try with_reducible rfl)
            try simp only [Act.put, List.setIfInBounds_toArray, List.set_cons_zero, List.set_cons_succ]
            refine wpAnyH_take (i := 5) (oi := ?oi5) (v := ?v5) ?ho5 (by kernel_rfl) (by kernel_rfl) (by kernel_rfl) ?hq5 (Or.inl ⟨?hw5, ?hy5⟩) hHeld ?rest5
            case ho5 => simp only [List.getElem?_toArray, List.getElem?_cons_succ, List.getElem?_cons_zero]; rfl
            case hq5 => exact fun _ _ _ h => h
            case hw5 => rfl
            case hy5 => (intro w hSw; (try dsimp only at hSw); go_simp; try with_reducible rfl)
            try simp only [Act.put, List.setIfInBounds_toArray, List.set_cons_zero, List.set_cons_succ]
            refine wpAnyH_take (i := 6) (oi := ?oi6) (v := ?v6) ?ho6 (by kernel_rfl) (by kernel_rfl) (by kernel_rfl) ?hq6 (Or.inl ⟨?hw6, ?hy6⟩) hHeld ?rest6
            case ho6 => simp only [List.getElem?_toArray, List.getElem?_cons_succ, List.getElem?_cons_zero]; rfl
            case hq6 => exact fun _ _ _ h => h
            case hw6 => rfl
            case hy6 => (intro w hSw; (try dsimp only at hSw); go_simp; try with_reducible rfl)
            try simp only [Act.put, List.setIfInBounds_toArray, List.set_cons_zero, List.set_cons_succ]
            refine wpAnyH_ready (rs := [7]) (by kernel_rfl) (by simp) ?_
            refine AllReadyH.cons (o := ?oi7) ?ho7 (fun K hK => ?step7) AllReadyH.nil
            case ho7 => simp only [List.getElem?_toArray, List.getElem?_cons_succ, List.getElem?_cons_zero]; rfl
            go_simp
            refine (is_Expr nm hbb _ (HV.out.step (by first | exact HZ.out | exact HBW.out.drew | exact HBW.out) HV.out.pos)).mono ?_
            rintro e w2 ⟨rfl, hb2⟩
            have sb0 := keep_cell hb2 (Nat.le_refl _) (a := ⟨wo.heap.size, 0, none⟩) (by first | exact sb0 | exact b0)
            have sb1 := keep_cell hb2 (Nat.le_refl _) (a := ⟨wo.heap.size, 1, none⟩) (by first | exact sb1 | exact b1)
            have sb2 := keep_cell hb2 (Nat.le_refl _) (a := ⟨wo.heap.size, 2, none⟩) (by first | exact sb2 | exact b2)
            have sm0 := keep_cell hb2 (Nat.le_refl _) (a := ⟨gl, k * 4, none⟩) (by first | exact sm0 | exact m0)
            have sm1 := keep_cell hb2 (Nat.le_refl _) (a := ⟨gl, k * 4 + 1, none⟩) (by first | exact sm1 | exact m1)
            have sm2 := keep_cell hb2 (Nat.le_refl _) (a := ⟨gl, k * 4 + 2, none⟩) (by first | exact sm2 | exact m2)
            have sm3 := keep_cell hb2 (Nat.le_refl _) (a := ⟨gl, k * 4 + 3, none⟩) (by first | exact sm3 | exact m3)
            have HZ := Lib.hid (Below.trans (B := w.heap.size) (by first | exact HZ.out | exact HBW.out.drew) (hb2.mono (by first | exact HZ.out.size | exact HBW.out.size)))
            have HY := Lib.hid (Below.trans (B := wb.heap.size) (by first | exact HY.out | exact HG.out.drew) (hb2.mono (by first | exact HY.out.size | exact HG.out.size)))
            clear hb2
            go_wp2_with fail
            refine hK.out _ _ ?_ (fun hHeld2 => ?_)
            · exact ⟨sb0, sb1, sb2, sm0, sm1, sm2, sm3⟩
            clear hK hHeld
            have hHeld := hHeld2
            clear hHeld2
            try simp only [Act.put, List.setIfInBounds_toArray, List.set_cons_zero, List.set_cons_succ]
            refine wpAnyH_take (i := 8) (oi := ?oi8) (v := ?v8) ?ho8 (by kernel_rfl) (by kernel_rfl) (by kernel_rfl) ?hq8 (Or.inl ⟨?hw8, ?hy8⟩) hHeld ?rest8
            case ho8 => simp only [List.getElem?_toArray, List.getElem?_cons_succ, List.getElem?_cons_zero]; rfl
            case hq8 => exact fun _ _ _ h => h
            case hw8 => rfl
            case hy8 => (intro w hSw; (try dsimp only at hSw); go_simp; try with_reducible rfl)
            try simp only [Act.put, List.setIfInBounds_toArray, List.set_cons_zero, List.set_cons_succ]
            refine wpAnyH_take (i := 9) (oi := ?oi9) (v := ?v9) ?ho9 (by kernel_rfl) (by kernel_rfl) (by kernel_rfl) ?hq9 (Or.inl ⟨?hw9, ?hy9⟩) hHeld ?rest9
            case ho9 => simp only [List.getElem?_toArray, List.getElem?_cons_succ, List.getElem?_cons_zero]; rfl
            case hq9 => exact fun _ _ _ h => h
            case hw9 => rfl
            case hy9 => (intro w hSw; (try dsimp only at hSw); go_simp; try with_reducible rfl)
            try simp only [Act.put, List.setIfInBounds_toArray, List.set_cons_zero, List.set_cons_succ]
            refine wpAnyH_take (i := 10) (oi := ?oi10) (v := ?v10) ?ho10 (by kernel_rfl) (by kernel_rfl) (by kernel_rfl) ?hq10 (Or.inl ⟨?hw10, ?hy10⟩) hHeld ?rest10
            case ho10 => simp only [List.getElem?_toArray, List.getElem?_cons_succ, List.getElem?_cons_zero]; rfl
            case hq10 => exact fun _ _ _ h => h
            case hw10 => rfl
            case hy10 => (intro w hSw; (try dsimp only at hSw); go_simp; try with_reducible rfl)
            try simp only [Act.put, List.setIfInBounds_toArray, List.set_cons_zero, List.set_cons_succ]
            refine wpAnyH_take (i := 11) (oi := ?oi11) (v := ?v11) ?ho11 (by kernel_rfl) (by kernel_rfl) (by kernel_rfl) ?hq11 (Or.inl ⟨?hw11, ?hy11⟩) hHeld ?rest11
            case ho11 => simp only [List.getElem?_toArray, List.getElem?_cons_succ, List.getElem?_cons_zero]; rfl
            case hq11 => exact fun _ _ _ h => h
            case hw11 => rfl
            case hy11 => (intro w hSw; (try dsimp only at hSw); go_simp; try with_reducible rfl)
            try simp only [Act.put, List.setIfInBounds_toArray, List.set_cons_zero, List.set_cons_succ]
            refine wpAnyH_take (i := 12) (oi := ?oi12) (v := ?v12) ?ho12 (by kernel_rfl) (by kernel_rfl) (by kernel_rfl) ?hq12 (Or.inl ⟨?hw12, ?hy12⟩) hHeld ?rest12
            case ho12 => simp only [List.getElem?_toArray, List.getElem?_cons_succ, List.getElem?_cons_zero]; rfl
            case hq12 => exact fun _ _ _ h => h
            case hw12 => rfl
            case hy12 => (intro w hSw; (try dsimp only at hSw); go_simp; try with_reducible rfl)
            try simp only [Act.put, List.setIfInBounds_toArray, List.set_cons_zero, List.set_cons_succ]
            refine wpAnyH_take (i := 13) (oi := ?oi13) (v := ?v13) ?ho13 (by kernel_rfl) (by kernel_rfl) (by kernel_rfl) ?hq13 (Or.inl ⟨?hw13, ?hy13⟩) hHeld ?rest13
            case ho13 => simp only [List.getElem?_toArray, List.getElem?_cons_succ, List.getElem?_cons_zero]; rfl
            case hq13 => exact fun _ _ _ h => h
            case hw13 => rfl
            case hy13 => (intro w hSw; (try dsimp only at hSw); go_simp; try with_reducible rfl)
            try simp only [Act.put, List.setIfInBounds_toArray, List.set_cons_zero, List.set_cons_succ]
            refine wpAnyH_take (i := 14) (oi := ?oi14) (v := ?v14) ?ho14 (by kernel_rfl) (by kernel_rfl) (by kernel_rfl) ?hq14 (Or.inl ⟨?hw14, ?hy14⟩) hHeld ?rest14
            case ho14 => simp only [List.getElem?_toArray, List.getElem?_cons_succ, List.getElem?_cons_zero]; rfl
            case hq14 => exact fun _ _ _ h => h
            case hw14 => rfl
            case hy14 => (intro w hSw; (try dsimp only at hSw); go_simp; try with_reducible rfl)
            try simp only [Act.put, List.setIfInBounds_toArray, List.set_cons_zero, List.set_cons_succ]
            refine wpAnyH_take (i := 15) (oi := ?oi15) (v := ?v15) ?ho15 (by kernel_rfl) (by kernel_rfl) (by kernel_rfl) ?hq15 (Or.inl ⟨?hw15, ?hy15⟩) hHeld ?rest15
            case ho15 => simp only [List.getElem?_toArray, List.getElem?_cons_succ, List.getElem?_cons_zero]; rfl
            case hq15 => exact fun _ _ _ h => h
            case hw15 => rfl
            case hy15 => (intro w hSw; (try dsimp only at hSw); go_simp; try with_reducible rfl)
            try simp only [Act.put, List.setIfInBounds_toArray, List.set_cons_zero, List.set_cons_succ]
            refine wpAnyH_take (i := 16) (oi := ?oi16) (v := undef) ?ho16 (by kernel_rfl) (by kernel_rfl) (by kernel_rfl) ?hq16 (Or.inr ⟨?hw16, rfl⟩) hHeld ?rest16
            case ho16 => simp only [List.getElem?_toArray, List.getElem?_cons_succ, List.getElem?_cons_zero]; rfl
            case hq16 => exact fun _ _ _ h => h
            case hw16 => rfl
            try simp only [Act.put, List.setIfInBounds_toArray, List.set_cons_zero, List.set_cons_succ]
            refine wpAnyH_take (i := 17) (oi := ?oi17) (v := undef) ?ho17 (by kernel_rfl) (by kernel_rfl) (by kernel_rfl) ?hq17 (Or.inr ⟨?hw17, rfl⟩) hHeld ?rest17
            case ho17 => simp only [List.getElem?_toArray, List.getElem?_cons_succ, List.getElem?_cons_zero]; rfl
            case hq17 => exact fun _ _ _ h => h
            case hw17 => rfl
            try simp only [Act.put, List.setIfInBounds_toArray, List.set_cons_zero, List.set_cons_succ]
            refine wpAnyH_take (i := 18) (oi := ?oi18) (v := undef) ?ho18 (by kernel_rfl) (by kernel_rfl) (by kernel_rfl) ?hq18 (Or.inr ⟨?hw18, rfl⟩) hHeld ?rest18
            case ho18 => simp only [List.getElem?_toArray, List.getElem?_cons_succ, List.getElem?_cons_zero]; rfl
            case hq18 => exact fun _ _ _ h => h
            case hw18 => rfl
            try simp only [Act.put, List.setIfInBounds_toArray, List.set_cons_zero, List.set_cons_succ]
            refine wpAnyH_take (i := 19) (oi := ?oi19) (v := undef) ?ho19 (by kernel_rfl) (by kernel_rfl) (by kernel_rfl) ?hq19 (Or.inr ⟨?hw19, rfl⟩) hHeld ?rest19
            case ho19 => simp only [List.getElem?_toArray, List.getElem?_cons_succ, List.getElem?_cons_zero]; rfl
            case hq19 => exact fun _ _ _ h => h
            case hw19 => rfl
            try simp only [Act.put, List.setIfInBounds_toArray, List.set_cons_zero, List.set_cons_succ]
            refine wpAnyH_take (i := 20) (oi := ?oi20) (v := undef) ?ho20 (by kernel_rfl) (by kernel_rfl) (by kernel_rfl) ?hq20 (Or.inr ⟨?hw20, rfl⟩) hHeld ?rest20
            case ho20 => simp only [List.getElem?_toArray, List.getElem?_cons_succ, List.getElem?_cons_zero]; rfl
            case hq20 => exact fun _ _ _ h => h
            case hw20 => rfl
            try simp only [Act.put, List.setIfInBounds_toArray, List.set_cons_zero, List.set_cons_succ]
            refine wpAnyH_take (i := 21) (oi := ?oi21) (v := undef) ?ho21 (by kernel_rfl) (by kernel_rfl) (by kernel_rfl) ?hq21 (Or.inr ⟨?hw21, rfl⟩) hHeld ?rest21
            case ho21 => simp only [List.getElem?_toArray, List.getElem?_cons_succ, List.getElem?_cons_zero]; rfl
            case hq21 => exact fun _ _ _ h => h
            case hw21 => rfl
            try simp only [Act.put, List.setIfInBounds_toArray, List.set_cons_zero, List.set_cons_succ]
            refine wpAnyH_take (i := 22) (oi := ?oi22) (v := undef) ?ho22 (by kernel_rfl) (by kernel_rfl) (by kernel_rfl) ?hq22 (Or.inr ⟨?hw22, rfl⟩) hHeld ?rest22
            case ho22 => simp only [List.getElem?_toArray, List.getElem?_cons_succ, List.getElem?_cons_zero]; rfl
            case hq22 => exact fun _ _ _ h => h
            case hw22 => rfl
            try simp only [Act.put, List.setIfInBounds_toArray, List.set_cons_zero, List.set_cons_succ]
            refine wpAnyH_take (i := 23) (oi := ?oi23) (v := undef) ?ho23 (by kernel_rfl) (by kernel_rfl) (by kernel_rfl) ?hq23 (Or.inr ⟨?hw23, rfl⟩) hHeld ?rest23
            case ho23 => simp only [List.getElem?_toArray, List.getElem?_cons_succ, List.getElem?_cons_zero]; rfl
            case hq23 => exact fun _ _ _ h => h
            case hw23 => rfl
            try simp only [Act.put, List.setIfInBounds_toArray, List.set_cons_zero, List.set_cons_succ]
            refine wpAnyH_take (i := 24) (oi := ?oi24) (v := undef) ?ho24 (by kernel_rfl) (by kernel_rfl) (by kernel_rfl) ?hq24 (Or.inr ⟨?hw24, rfl⟩) hHeld ?rest24
            case ho24 => simp only [List.getElem?_toArray, List.getElem?_cons_succ, List.getElem?_cons_zero]; rfl
            case hq24 => exact fun _ _ _ h => h
            case hw24 => rfl
            try simp only [Act.put, List.setIfInBounds_toArray, List.set_cons_zero, List.set_cons_succ]
            refine wpAnyH_take (i := 25) (oi := ?oi25) (v := ?v25) ?ho25 (by kernel_rfl) (by kernel_rfl) (by kernel_rfl) ?hq25 (Or.inl ⟨?hw25, ?hy25⟩) hHeld ?rest25
            case ho25 => simp only [List.getElem?_toArray, List.getElem?_cons_succ, List.getElem?_cons_zero]; rfl
            case hq25 => exact fun _ _ _ h => h
            case hw25 => rfl
            case hy25 => (intro w hSw; (try dsimp only at hSw); go_simp; try with_reducible rfl)
            try simp only [Act.put, List.setIfInBounds_toArray, List.set_cons_zero, List.set_cons_succ]
            refine wpAnyH_take (i := 26) (oi := ?oi26) (v := ?v26) ?ho26 (by kernel_rfl) (by kernel_rfl) (by kernel_rfl) ?hq26 (Or.inl ⟨?hw26, ?hy26⟩) hHeld ?rest26
            case ho26 => simp only [List.getElem?_toArray, List.getElem?_cons_succ, List.getElem?_cons_zero]; rfl
            case hq26 => exact fun _ _ _ h => h
            case hw26 => rfl
            case hy26 => (intro w hSw; (try dsimp only at hSw); go_simp; try with_reducible rfl)
            try simp only [Act.put, List.setIfInBounds_toArray, List.set_cons_zero, List.set_cons_succ]
            refine wpAnyH_done (by kernel_rfl) ?_ _
            all_goals (go_wp2_with fail; exact ⟨⟨k + 1, by go_num, by omega, HY⟩, by simp [intOf]; omega⟩)
        · obtain rfl : k = n + 40 := by omega
          go_wp2_with fail
          exact ⟨⟨i + 1, by go_num, by omega, HBW⟩, by simp [intOf]; omega⟩
    · obtain rfl : i = es.length := by omega
      go_wp2_with fail
      go_ret
      exact ⟨rfl, HB.out⟩
end Go.Proofs.YtbdciibbgiphcaaGreatDoor.B
