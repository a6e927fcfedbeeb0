/- Book, lists of one kind: what the kind is; keep: walk. Printed by bookkind.py (ours). -/
import Derived.Test.YtbdciibbgiphcaaGreatDoorBkK
import Derived.Test.YtbdciibbgiphcaaGreatDoorMkZ
import Derived.Deep.RegionHeld3
import Derived.Deep.RegionLaw
import Derived.LoopTactic
import Derived.Lib.Hide
namespace Go.Proofs.YtbdciibbgiphcaaGreatDoor.B
set_option linter.unusedVariables false
set_option linter.unusedSimpArgs false
set_option linter.unusedSectionVars false
open Go.RowKit Go.Proofs.YtbdciibbgiphcaaGreatDoorW.PrintWords Go.Proofs.YtbdciibbgiphcaaGreatDoorW.PrintLast Go.Proofs.YtbdciibbgiphcaaGreatDoorW.PrintMore
open Go.Proofs.YtbdciibbgiphcaaGreatDoor.V (VarT mk)
theorem info66 : (Tryz.prog.info? 66).map (fun i => (i.zero, i.size, i.bytes)) = some (some (.agg #[.slice none 0 0, .slice none 0 0, .int .i64 0]), 3, 56) := by kernel_rfl
/-- the cells of a mark. -/
def cellsRef (n : Nat) : List Value := [.string (mk n), .int .i64 0]
theorem bump0Ref {bc : Array Value} {N : Nat} {u : Value} (h : bc[0]? = some u) : (bump bc N)[0]? = some (.int .i64 ((N : Int) + 1)) := by
  unfold bump
  rw [Array.getElem?_setIfInBounds_self_of_lt (Array.getElem?_eq_some_iff.1 h).1]
theorem bumpfRef {bc : Array Value} {N : Nat} : (bump bc N)[7]? = bc[7]? := by
  unfold bump
  rw [Array.getElem?_setIfInBounds_ne (by omega)]
set_option maxHeartbeats 4000000 in
set_option maxRecDepth 100000 in
theorem keep_Ref (base kb N : Nat) (bc : Array Value) (tv : Value) (rows : List (Value × Value × Nat)) (A : Option Addr) (n c : Nat) (w : World) (h : Bk w base kb 50 66 7 bc N tv rows) (hN : N < 3000000) (hr : rows.length ≤ 3000000) :
    Calls Tryz.prog 19 #[.pointer (some ⟨kb, 0, none⟩), .slice A n c] w (KeepPost base kb 50 66 7 bc N tv (.slice A n c) rows w) := by
  have c0 := h.c0
  have hf := blk_frozen h.book 0
  have hk1 := blk_set h.book 0 (.int .i64 ((N : Int) + 1))
  change (w.setCell ⟨kb, 0, none⟩ (.int .i64 ((N : Int) + 1))).heap[kb]? = some (.cells (bump bc N) 50 (0, 0)) at hk1
  have hs1 := set_size w kb 0 (.int .i64 ((N : Int) + 1))
  have ho1 := set_other w kb 0 (.int .i64 ((N : Int) + 1))
  have hb1 : Below base w (w.setCell ⟨kb, 0, none⟩ (.int .i64 ((N : Int) + 1))) := (Below.refl base w).setCell (p := ⟨kb, 0, none⟩) h.hkb _
  have ht1 := own_kept h.tok (w' := w.setCell ⟨kb, 0, none⟩ (.int .i64 ((N : Int) + 1))) (fun k hk => ho1 k (fun e => h.ne (by rw [hk, e])))
  have hbase : base ≤ (w.setCell ⟨kb, 0, none⟩ (.int .i64 ((N : Int) + 1))).heap.size := by
    have : kb < w.heap.size := (Array.getElem?_eq_some_iff.1 h.book).1
    have := h.hkb
    omega
  have HK1 := Lib.hid hk1; have HS1 := Lib.hid hs1; have HO1 := Lib.hid ho1; have HB1 := Lib.hid hb1; have HT1 := Lib.hid ht1; have HBA := Lib.hid hbase; have HH := Lib.hid h
  clear hk1 hs1 ho1 hb1 ht1 hbase h
  go_enter Tryz.func19, Tryz.ntmps19
  go_wp2_with fail
  generalize w.setCell ⟨kb, 0, none⟩ (.int .i64 ((N : Int) + 1)) = w1 at *
  have d0 := (blk_cell HK1.out 0).trans (bump0Ref HH.out.n0)
  have d6 := (blk_cell HK1.out 7).trans (bumpfRef.trans HH.out.nf)
  have df := blk_frozen HK1.out 7
  have hlt : kb < w1.heap.size := (Array.getElem?_eq_some_iff.1 HK1.out).1
  have hne := HH.out.ne
  have fa : ∀ o : Obj, (w1.alloc o).drew.frozen? ⟨kb, 7, none⟩ = false := fun o => by rw [World.frozen?_of_block (w := w1) (Below.heap_alloc w1 o kb hlt)]; exact df
  have fb : ∀ o : Obj, (w1.drew.alloc o).frozen? ⟨kb, 7, none⟩ = false := fun o => by rw [World.frozen?_of_block (w := w1) (Below.heap_alloc w1.drew o kb hlt)]; exact df
  go_region_law (first | (refine step_append_cells (w0 := w1) (W := w1.drew) base rfl (.tmp 15) (.tmp 22) 38 66 (.agg #[.slice none 0 0, .slice none 0 0, .int .i64 0]) 3 56 rfl Tryz.underlying38 info66 rfl (by decide) (by decide) tv rows.length (rowCells rows) [.slice A n c, .slice none 0 0, .int .i64 ((N : Int) + 1)] rfl rfl rfl (by simp [Value.oneCell']) HT1.out (Below.refl base w1).drew HBA.out (by omega) ?_; intro v1 w2 hown hB hg hat; obtain ⟨A1, c1, hv1⟩ := own_slice hown; subst hv1; have k0 := hg.cell (a := ⟨kb, 0, none⟩) (by simpa using d0) (fun e => hne e.symm); have k6 := hg.cell (a := ⟨kb, 7, none⟩) (by simpa using d6) (fun e => hne e.symm); have kf : w2.frozen? ⟨kb, 7, none⟩ = false := by rw [World.frozen?_of_block (w := w1.drew) (hg.block kb hlt (fun e => hne e.symm))]; exact df))
  all_goals (go_end0; exact keep_end (by omega) HH.out HK1 HS1 HO1 HB1 hB hg hown hat)
end Go.Proofs.YtbdciibbgiphcaaGreatDoor.B
