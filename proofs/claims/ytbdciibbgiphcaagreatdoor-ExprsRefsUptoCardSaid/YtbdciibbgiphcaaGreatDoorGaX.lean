/- The document's own Refs; refs are the same as themselves. -/
import Derived.Test.YtbdciibbgiphcaaGreatDoorGaW
import Derived.Test.YtbdciibbgiphcaaGreatDoorSrE
namespace Go.Proofs.YtbdciibbgiphcaaGreatDoor.V
set_option linter.unusedVariables false
set_option linter.unusedSimpArgs false
set_option linter.unusedSectionVars false
open Go.RowKit Go.Proofs.YtbdciibbgiphcaaGreatDoorW.PrintWords Go.Proofs.YtbdciibbgiphcaaGreatDoorW.PrintLast Go.Proofs.YtbdciibbgiphcaaGreatDoorW.PrintMore
theorem gather_all {x : S25} (h : WfE x) : GaIs x := by
  induction h with
  | mk o n s xs h1 h2 h3 h4 h5 h6 hk ih => exact gather_walk _ ih
set_option maxHeartbeats 4000000 in
set_option maxRecDepth 100000 in
theorem rrefs_walk (x : S25) (hwf : WfE x) (m : Nat) (hm : Nodes x m) (hle : m ≤ 2000000) (A : Option Addr) (c : Nat) (w : World) (hc : x.f3.length ≤ c) (hC : Kd.C k25 w A x.f3.length x.f3) :
    Calls Tryz.prog 8 #[.agg #[.int .u8 x.f0, .int .i64 x.f1, .string x.f2, .slice A x.f3.length c]] w fun e w' => ∃ v, e = .returned v ∧ w'.ownsRow w.heap.size 60 2 v (go1 x 0 []).length (rfCells (go1 x 0 [])) ∧ (go1 x 0 []).length ≤ m ∧ Below w.heap.size w w' := by
  have HB0 := Lib.hid ((Below.refl w.heap.size w).alloc (Nat.le_refl _) (.cells #[.int .u8 x.f0, .int .i64 x.f1, .string x.f2, .slice A x.f3.length c] 25))
  have HY := Lib.hid (gather_all hwf hwf m hm A c 0 [] w (w.alloc (.cells #[.int .u8 x.f0, .int .i64 x.f1, .string x.f2, .slice A x.f3.length c] 25)) (.slice none 0 0) (by decide) (by decide) (by simpa using hle) hc hC (World.ownsRow_nil _ _ _ _) HB0.out)
  have HX0 := Lib.hid (heap_alloc_new w (.cells #[.int .u8 x.f0, .int .i64 x.f1, .string x.f2, .slice A x.f3.length c] 25))
  obtain ⟨b0, b1, b2, b3⟩ := box_cells HX0.out
  clear hwf hm hC
  go_enter Tryz.func8, Tryz.ntmps8
  go_wp2_with fail
  refine HY.out.mono ?_
  rintro e w2 ⟨v, rfl, hO, hl, hg, hat⟩
  have HO := Lib.hid hO
  have HLN := Lib.hid (show (go1 x 0 []).length ≤ m by simpa using hl)
  have HB2 := Lib.hid (Below.grown HB0.out hg HB0.out.size (fun k hk => by simp [Value.ownBlock] at hk))
  clear hO hl hg hat HY b0 b1 b2 b3
  go_wp2_with fail
  go_ret
  exact ⟨_, rfl, HO.out, HLN.out, HB2.out⟩
theorem sameR_l0 (xs : List S60) (hx : xs.length ≤ 140737488351232) : ∀ (m i : Nat), i + m = xs.length → Ev (fun k => belfrylaw01_SameRefs.l0 k xs xs (i : Int)) true
  | 0, i, h => by
    refine Ev.step (fun k => ?_) (Ev.now _)
    simp only [belfrylaw01_SameRefs.l0]
    rw [if_neg (by omega)]
  | m + 1, i, h => by
    have hi : i < xs.length := by omega
    have ih := sameR_l0 xs hx m (i + 1) (by omega)
    refine Ev.step (fun k => ?_) ih
    simp only [belfrylaw01_SameRefs.l0]
    rw [if_pos (by omega), if_pos (by omega), if_pos (by omega)]
    rw [if_neg (by simp)]
    congr 1
    have : wrap64 ((i : Int) + 1) = (i : Int) + 1 := by unfold wrap64; omega
    rw [this]
    omega
/-- refs that are the same. -/
theorem sameR_calls (L : List Rf) (hL : L.length ≤ 2000000) {b1 b2 : Nat} {v1 v2 : Value} (W : World) (h1 : W.ownsRow b1 60 2 v1 L.length (rfCells L)) (h2 : W.ownsRow b2 60 2 v2 L.length (rfCells L)) :
    Calls Tryz.prog 7 #[v1, v2] W fun e w' => e = .returned (.bool true) ∧ Below W.heap.size W w' := by
  obtain ⟨A, c, rfl, hc, hC⟩ := refs_read h1
  obtain ⟨B, d, rfl, hd, hD⟩ := refs_read h2
  have hl : (L.map toR).length ≤ 140737488351232 := by rw [List.length_map]; omega
  have hf : Ev (fun k => belfrylaw01_SameRefs.f k (L.map toR) (L.map toR)) true := Ev.congr (fun k => by unfold belfrylaw01_SameRefs.f; rw [if_pos rfl]; rfl) (sameR_l0 _ hl (L.map toR).length 0 (by omega))
  obtain ⟨k, hk⟩ := hf.rounds
  refine (belfrylaw01_SameRefs.calls k A c _ B d _ true W hC hc hD hd hk).mono ?_
  rintro e w' ⟨rfl, hdr⟩
  exact ⟨rfl, hdr.below⟩
end Go.Proofs.YtbdciibbgiphcaaGreatDoor.V
