/- Marks of a tree's part and of a ref: what they are, and whether something is one. -/
import Derived.Test.YtbdciibbgiphcaaGreatDoorMkV
import Derived.Test.YtbdciibbgiphcaaGreatDoorBkK
namespace Go.Proofs.YtbdciibbgiphcaaGreatDoor.B
set_option linter.unusedVariables false
set_option linter.unusedSimpArgs false
open Go.RowKit Go.Proofs.YtbdciibbgiphcaaGreatDoorW.PrintWords Go.Proofs.YtbdciibbgiphcaaGreatDoorW.PrintLast Go.Proofs.YtbdciibbgiphcaaGreatDoorW.PrintMore
open Go.Proofs.YtbdciibbgiphcaaGreatDoor.V (VarT mk word_walk)
theorem results_c2 {fn : Func} {p : Tmp} (h : fn.results = #[.cell p 25]) (tmps : Array Value) (w : World) (g : Nat) (a0 a1 a2 a3 : Value)
    (hp : tmps.getD p undef = .pointer (some ⟨g, 0, none⟩)) (hg : w.heap[g]? = some (.cells #[a0, a1, a2, a3] 25 (0, 0))) :
    (results fn tmps).run Tryz.prog w = .ok (.agg #[a0, a1, a2, a3]) w := by
  have hp' : tmps[p]?.getD undef = .pointer (some ⟨g, 0, none⟩) := by simpa using hp
  simp [results, h, hp', asAddr, run_loadVar_row w g 25 25 #[a0, a1, a2, a3] (0, 0) _ hg Tryz.underlying25 rfl (by kernel_rfl)]
theorem results_r2 {fn : Func} {p : Tmp} (h : fn.results = #[.cell p 60]) (tmps : Array Value) (w : World) (g : Nat) (a0 a1 : Value)
    (hp : tmps.getD p undef = .pointer (some ⟨g, 0, none⟩)) (hg : w.heap[g]? = some (.cells #[a0, a1] 60 (0, 0))) :
    (results fn tmps).run Tryz.prog w = .ok (.agg #[a0, a1]) w := by
  have hp' : tmps[p]?.getD undef = .pointer (some ⟨g, 0, none⟩) := by simpa using hp
  simp [results, h, hp', asAddr, run_loadVar_row w g 60 60 #[a0, a1] (0, 0) _ hg Tryz.underlying60 rfl (by kernel_rfl)]
set_option maxHeartbeats 2000000 in
set_option maxRecDepth 100000 in
theorem mark_Expr (n : Nat) (h : n ≤ 1000000000) (w : World) (hv : VarT w) : Calls Tryz.prog 85 #[.int .i64 (n : Int)] w (fun e w' => e = .returned (.agg #[.int .u8 0, .int .i64 0, .string (mk n), .slice none 0 0]) ∧ Below w.heap.size w w') := by
  have HP := hv.pos
  have HB0 := Lib.hid ((Below.refl w.heap.size w).alloc (Nat.le_refl _) (.cells #[.int .u8 0, .int .i64 0, .string ⟨#[]⟩, .slice none 0 0] 25))
  have HX0 := Lib.hid (heap_alloc_new w (.cells #[.int .u8 0, .int .i64 0, .string ⟨#[]⟩, .slice none 0 0] 25))
  have HV := Lib.hid hv
  clear hv
  go_enter Tryz.func85, Tryz.ntmps85
  go_wp2_with fail
  refine (word_walk n h _ (HV.out.step HB0.out HP)).mono ?_
  rintro _ w1 ⟨rfl, hb⟩
  have HB := Lib.hid (HB0.out.trans (hb.mono HB0.out.size))
  have HX := Lib.hid ((hb.block _ (Array.getElem?_eq_some_iff.1 HX0.out).1).trans HX0.out)
  clear hb HX0 HB0
  have x0 := blk_cell HX.out 0; have f0 := blk_frozen HX.out 0
  have x1 := blk_cell HX.out 1; have f1 := blk_frozen HX.out 1
  have x2 := blk_cell HX.out 2; have f2 := blk_frozen HX.out 2
  have x3 := blk_cell HX.out 3; have f3 := blk_frozen HX.out 3
  dsimp at x0 x1 x2 x3
  go_wp2_with fail
  have h0 := blk_set HX.out 0 (.int .u8 0)
  have h1 := blk_set h0 1 (.int .i64 0)
  have h2 := blk_set h1 2 (.string (mk n))
  have h3 := blk_set h2 3 (.slice none 0 0)
  refine bodyPost_ret (results_c2 rfl _ _ w.heap.size _ _ _ _ rfl h3) rfl ⟨rfl, ((((HB.out.setCell (p := ⟨w.heap.size, 0, none⟩) (Nat.le_refl _) _).setCell (p := ⟨w.heap.size, 1, none⟩) (Nat.le_refl _) _).setCell (p := ⟨w.heap.size, 2, none⟩) (Nat.le_refl _) _).setCell (p := ⟨w.heap.size, 3, none⟩) (Nat.le_refl _) _)⟩
theorem is_Expr (n : Nat) (h : n ≤ 1000000000) (w : World) (hv : VarT w) : Calls Tryz.prog 102 #[.agg #[.int .u8 0, .int .i64 0, .string (mk n), .slice none 0 0], .int .i64 (n : Int)] w (fun e w' => e = .returned (.bool true) ∧ Below w.heap.size w w') := by
  have hf : V.belfrylaw01_word.f (n : Int) = some (mk n) := by
    unfold V.belfrylaw01_word.f
    rw [if_pos ⟨by omega, by omega⟩, Int.toNat_natCast]
  refine V.belfrylaw01_isExpr.calls 0 0 (mk n) none 0 [] (n : Int) true w hv (Kd.C_nil _ _) (Nat.le_refl _) ?_
  unfold V.belfrylaw01_isExpr.f
  rw [hf]
  simp
set_option maxHeartbeats 2000000 in
set_option maxRecDepth 100000 in
theorem mark_Ref (n : Nat) (h : n ≤ 1000000000) (w : World) (hv : VarT w) : Calls Tryz.prog 78 #[.int .i64 (n : Int)] w (fun e w' => e = .returned (.agg #[.string (mk n), .int .i64 0]) ∧ Below w.heap.size w w') := by
  have HP := hv.pos
  have HB0 := Lib.hid ((Below.refl w.heap.size w).alloc (Nat.le_refl _) (.cells #[.string ⟨#[]⟩, .int .i64 0] 60))
  have HX0 := Lib.hid (heap_alloc_new w (.cells #[.string ⟨#[]⟩, .int .i64 0] 60))
  have HV := Lib.hid hv
  clear hv
  go_enter Tryz.func78, Tryz.ntmps78
  go_wp2_with fail
  refine (word_walk n h _ (HV.out.step HB0.out HP)).mono ?_
  rintro _ w1 ⟨rfl, hb⟩
  have HB := Lib.hid (HB0.out.trans (hb.mono HB0.out.size))
  have HX := Lib.hid ((hb.block _ (Array.getElem?_eq_some_iff.1 HX0.out).1).trans HX0.out)
  clear hb HX0 HB0
  have x0 := blk_cell HX.out 0; have f0 := blk_frozen HX.out 0
  have x1 := blk_cell HX.out 1; have f1 := blk_frozen HX.out 1
  dsimp at x0 x1
  go_wp2_with fail
  have h0 := blk_set HX.out 0 (.string (mk n))
  have h1 := blk_set h0 1 (.int .i64 0)
  refine bodyPost_ret (results_r2 rfl _ _ w.heap.size _ _ rfl h1) rfl ⟨rfl, ((HB.out.setCell (p := ⟨w.heap.size, 0, none⟩) (Nat.le_refl _) _).setCell (p := ⟨w.heap.size, 1, none⟩) (Nat.le_refl _) _)⟩
theorem is_Ref (n : Nat) (h : n ≤ 1000000000) (w : World) (hv : VarT w) : Calls Tryz.prog 95 #[.agg #[.string (mk n), .int .i64 0], .int .i64 (n : Int)] w (fun e w' => e = .returned (.bool true) ∧ Below w.heap.size w w') := by
  have hf : V.belfrylaw01_word.f (n : Int) = some (mk n) := by
    unfold V.belfrylaw01_word.f
    rw [if_pos ⟨by omega, by omega⟩, Int.toNat_natCast]
  refine V.belfrylaw01_isRef.calls (mk n) 0 (n : Int) true w hv ?_
  unfold V.belfrylaw01_isRef.f
  rw [hf]
  simp
end Go.Proofs.YtbdciibbgiphcaaGreatDoor.B
