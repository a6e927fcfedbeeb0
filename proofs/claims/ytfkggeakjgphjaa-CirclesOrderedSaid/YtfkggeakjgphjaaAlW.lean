/- alive: walked. -/
import Derived.Test.YtfkggeakjgphjaaJF
namespace Go.Proofs.Ytfkggeakjgphjaa.C
set_option linter.unusedVariables false
set_option linter.unusedSimpArgs false
set_option linter.unusedSectionVars false
open Go.RowKit Go.Shelf Go.Proofs.YtfkggeakjgphjaaW.PrintWords Go.Proofs.YtfkggeakjgphjaaW.PrintLast Go.Proofs.YtfkggeakjgphjaaW.PrintMore
open Go.Proofs.RngT Go.Proofs.Circ
theorem rowsIn_of (n : Nat) (a : List (List Int)) (hn : n ≤ 64) (hl : a.length ≤ n) (h : ∀ l ∈ a, l.length ≤ 10 ∧ ∀ x ∈ l, 0 ≤ x ∧ x < (n : Int)) : RowsIn n a := by
  refine ⟨hn, fun i => ?_, hl⟩
  by_cases hi : i < a.length
  · rw [List.getD_eq_getElem?_getD, List.getElem?_eq_getElem hi]
    exact h _ (List.getElem_mem hi)
  · rw [List.getD_eq_getElem?_getD, List.getElem?_eq_none (by omega)]
    simp
theorem ri1 : RowsIn 2 [[1], [0]] := rowsIn_of _ _ (by omega) (by decide) (by simp)
theorem ri2 : RowsIn 3 [[1], [2], [1]] := rowsIn_of _ _ (by omega) (by decide) (by simp)
theorem ri3 : RowsIn 1 [[]] := rowsIn_of _ _ (by omega) (by decide) (by simp)
theorem ri4 : RowsIn 1 [[0]] := rowsIn_of _ _ (by omega) (by decide) (by simp)
theorem riN (n : Nat) (h : n ≤ 64) : RowsIn n [] := rowsIn_of _ _ h (by simp) (by simp)
theorem lit2 (w : World) (x y : Int) : Kd.C kL (al w [.cells #[.int .i64 x] 3, .cells #[.int .i64 y] 3, .cells #[.slice (some ⟨w.heap.size, 0, none⟩) 1 1, .slice (some ⟨w.heap.size + 1, 0, none⟩) 1 1] 35]) (some ⟨w.heap.size + 2, 0, none⟩) 2 [[x], [y]] :=
  rows_lit (vs := [.slice (some ⟨w.heap.size, 0, none⟩) 1 1, .slice (some ⟨w.heap.size + 1, 0, none⟩) 1 1]) (l := [[x], [y]]) (al_get w _ 2 _ rfl) (by simp) (Reps.one (row_K (xs := [x]) (al_get w _ 0 _ rfl) (by simp)) (Reps.one (row_K (xs := [y]) (al_get w _ 1 _ rfl) (by simp)) (Reps.none _ _))) rfl
theorem lit3 (w : World) (x y z : Int) : Kd.C kL (al w [.cells #[.int .i64 x] 3, .cells #[.int .i64 y] 3, .cells #[.int .i64 z] 3, .cells #[.slice (some ⟨w.heap.size, 0, none⟩) 1 1, .slice (some ⟨w.heap.size + 1, 0, none⟩) 1 1, .slice (some ⟨w.heap.size + 2, 0, none⟩) 1 1] 35]) (some ⟨w.heap.size + 3, 0, none⟩) 3 [[x], [y], [z]] :=
  rows_lit (vs := [.slice (some ⟨w.heap.size, 0, none⟩) 1 1, .slice (some ⟨w.heap.size + 1, 0, none⟩) 1 1, .slice (some ⟨w.heap.size + 2, 0, none⟩) 1 1]) (l := [[x], [y], [z]]) (al_get w _ 3 _ rfl) (by simp) (Reps.one (row_K (xs := [x]) (al_get w _ 0 _ rfl) (by simp)) (Reps.one (row_K (xs := [y]) (al_get w _ 1 _ rfl) (by simp)) (Reps.one (row_K (xs := [z]) (al_get w _ 2 _ rfl) (by simp)) (Reps.none _ _)))) rfl
theorem lit1 (w : World) (x : Int) : Kd.C kL (al w [.cells #[.int .i64 x] 3, .cells #[.slice (some ⟨w.heap.size, 0, none⟩) 1 1] 35]) (some ⟨w.heap.size + 1, 0, none⟩) 1 [[x]] :=
  rows_lit (vs := [.slice (some ⟨w.heap.size, 0, none⟩) 1 1]) (l := [[x]]) (al_get w _ 1 _ rfl) (by simp) (Reps.one (row_K (xs := [x]) (al_get w _ 0 _ rfl) (by simp)) (Reps.none _ _)) rfl
theorem lit01 (w : World) (x : Int) : Kd.C kL (al w [.cells #[] 3, .cells #[.slice (some ⟨w.heap.size, 0, none⟩) 0 0] 35, .cells #[.int .i64 x] 3, .cells #[.slice (some ⟨w.heap.size + 2, 0, none⟩) 1 1] 35]) (some ⟨w.heap.size + 1, 0, none⟩) 1 [[]] ∧ Kd.C kL (al w [.cells #[] 3, .cells #[.slice (some ⟨w.heap.size, 0, none⟩) 0 0] 35, .cells #[.int .i64 x] 3, .cells #[.slice (some ⟨w.heap.size + 2, 0, none⟩) 1 1] 35]) (some ⟨w.heap.size + 3, 0, none⟩) 1 [[x]] :=
  ⟨rows_lit (vs := [.slice (some ⟨w.heap.size, 0, none⟩) 0 0]) (l := [[]]) (al_get w _ 1 _ rfl) (by simp) (Reps.one (row_K (xs := []) (al_get w _ 0 _ rfl) (by simp)) (Reps.none _ _)) rfl,
   rows_lit (vs := [.slice (some ⟨w.heap.size + 2, 0, none⟩) 1 1]) (l := [[x]]) (al_get w _ 3 _ rfl) (by simp) (Reps.one (row_K (xs := [x]) (al_get w _ 2 _ rfl) (by simp)) (Reps.none _ _)) rfl⟩
theorem rokN : RowsOk [] := (riN 1 (by omega)).ok
theorem texts_lit {w : World} {b : Nat} {xs : List ByteArray} (hb : w.heap[b]? = some (.cells (xs.map Value.string).toArray 9 (0, 0))) (hl : xs.length ≤ 100000) : Kd.C Kd.string w (some ⟨b, 0, none⟩) xs.length xs := by
  have h2 : w.ownsRow b 9 1 (.slice (some ⟨b, 0, none⟩) xs.length xs.length) xs.length (xs.map Value.string) :=
    ⟨by simp, .inr ⟨b, xs.length, (xs.map Value.string).toArray, rfl, Nat.le_refl _, hb, Nat.le_refl _, by unfold maxLen; omega, by simp, by simp [List.take_of_length_le]⟩⟩
  obtain ⟨A, c, he, _, hr⟩ := Kd.R_reads (ownS_R h2)
  injection he with e1 _ _
  subst e1
  exact hr
/-- the circles of these four. -/
theorem circ_eq {n : Nat} {a b : List (List Int)} {f : Nat → List Nat} (hn : n = a.length) (h : ∀ i, allN (needR [] (ofF a b)) i = f i) : circN [] (ofF a b) = circ f n := by
  unfold circN
  rw [ofF_len, ← hn, show allN (needR [] (ofF a b)) = f from funext h]
def g1 : Nat → List Nat | 0 => [1] | 1 => [0] | _ => []
def g2 : Nat → List Nat | 0 => [1] | 1 => [2] | 2 => [1] | _ => []
def g3 : Nat → List Nat | _ => []
def g4 : Nat → List Nat | 0 => [0] | _ => []
theorem cN1 : circN [] (ofF [[1], [0]] []) = [0, 1] := by
  rw [circ_eq (n := 2) (f := g1) rfl (fun i => by
    match i with
    | 0 => exact allOne ri1 rfl 0 1 rfl rfl
    | 1 => exact allOne ri1 rfl 1 0 rfl rfl
    | i + 2 => exact allNil ri1 (riN 2 (by omega)) rfl (i + 2) rfl)]
  kernel_rfl
theorem cN2 : circN [] (ofF [[1], [2], [1]] []) = [1, 2] := by
  rw [circ_eq (n := 3) (f := g2) rfl (fun i => by
    match i with
    | 0 => exact allOne ri2 rfl 0 1 rfl rfl
    | 1 => exact allOne ri2 rfl 1 2 rfl rfl
    | 2 => exact allOne ri2 rfl 2 1 rfl rfl
    | i + 3 => exact allNil ri2 (riN 3 (by omega)) rfl (i + 3) rfl)]
  kernel_rfl
theorem cN3 : circN [] (ofF [[]] [[0]]) = [] := by
  rw [circ_eq (n := 1) (f := g3) rfl (fun i => by
    match i with
    | 0 => exact allNil ri3 ri4 rfl 0 rfl
    | i + 1 => exact allNil ri3 ri4 rfl (i + 1) rfl)]
  kernel_rfl
theorem cN4 : circN [] (ofF [[0]] []) = [0] := by
  rw [circ_eq (n := 1) (f := g4) rfl (fun i => by
    match i with
    | 0 => exact allOne ri4 rfl 0 0 rfl rfl
    | i + 1 => exact allNil ri4 (riN 1 (by omega)) rfl (i + 1) rfl)]
  kernel_rfl
theorem cT1 : circT [] (ofF [[1], [0]] []) = [wordB 0, wordB 1] := by unfold circT; rw [cN1, nmsOfF _ _ _ (by simp)]; rfl
theorem cT2 : circT [] (ofF [[1], [2], [1]] []) = [wordB 1, wordB 2] := by unfold circT; rw [cN2, nmsOfF _ _ _ (by simp)]; rfl
theorem cT3 : circT [] (ofF [[]] [[0]]) = [] := by unfold circT; rw [cN3, nmsOfF _ _ _ (by simp)]; rfl
theorem cT4 : circT [] (ofF [[0]] []) = [wordB 0] := by unfold circT; rw [cN4, nmsOfF _ _ _ (by simp)]; rfl
theorem ck1 : ckOf [[1], [0]] [] = 8 := by unfold ckOf; rw [cN1]; simp
theorem ck3 : ckOf [[]] [[0]] = 0 := by unfold ckOf; rw [cN3]; simp
theorem ck4 : ckOf [[0]] [] = 8 := by unfold ckOf; rw [cN4]; simp
set_option maxHeartbeats 4000000 in
set_option maxRecDepth 100000 in
theorem alive_any (w : World) : Calls Try.prog 8 #[] w fun e w' => e = .returned (.bool true) ∧ Below w.heap.size w w' := by
  have H1 := Lib.hid (of_any (n := 2) (m := 0) rfl rfl ri1.ok rokN _ 2 none 0 _ (lit2 w 1 0) (Nat.le_refl _) (Kd.C_nil _ _) (Nat.le_refl _))
  have HB0 := Lib.hid (al_below w [.cells #[.int .i64 1] 3, .cells #[.int .i64 0] 3, .cells #[.slice (some ⟨w.heap.size, 0, none⟩) 1 1, .slice (some ⟨w.heap.size + 1, 0, none⟩) 1 1] 35])
  go_enter Try.func8, Try.ntmps8
  go_wp2_with fail
  refine H1.out.mono ?_
  rintro e w1 ⟨B1, d1, B2, d2, B3, d3, rfl, hx, h5⟩
  clear H1
  obtain ⟨v1, hv1⟩ : ∃ v1, v1 = w1.alloc (.cells #[.int .i64 1, .slice B1 0 d1, .slice B2 2 d2, .slice B3 0 d3] 26) := ⟨_, rfl⟩
  have hs1 : v1.heap.size = w1.heap.size + 1 := by rw [hv1]; simp
  rw [← hv1] at hx
  have X1 := Lib.hid hx
  have Y1 : Hid (Below w.heap.size w v1) := Lib.hid (by rw [hv1]; exact (HB0.out.trans (h5.mono HB0.out.size)).alloc (Nat.le_trans HB0.out.size h5.size) _)
  clear hx h5 HB0
  have hb0 := al_below v1 [.cells #[.int .i64 1] 3, .cells #[.int .i64 2] 3, .cells #[.int .i64 1] 3, .cells #[.slice (some ⟨v1.heap.size, 0, none⟩) 1 1, .slice (some ⟨v1.heap.size + 1, 0, none⟩) 1 1, .slice (some ⟨v1.heap.size + 2, 0, none⟩) 1 1] 35]
  have h2 := of_any (n := 3) (m := 0) rfl rfl ri2.ok rokN _ 3 none 0 _ (lit3 v1 1 2 1) (Nat.le_refl _) (Kd.C_nil _ _) (Nat.le_refl _)
  rw [hs1, hv1] at h2
  rw [hs1] at hb0
  have HB0 := Lib.hid hb0
  have H2 := Lib.hid h2
  have HV1 := Lib.hid hv1
  clear h2 hb0 hv1
  go_wp2_with fail
  refine H2.out.mono ?_
  rintro e w2 ⟨C1, i1, C2, i2, C3, i3, rfl, hx, h5⟩
  rw [← HV1.out] at h5
  obtain ⟨v2, hv2⟩ : ∃ v2, v2 = w2.alloc (.cells #[.int .i64 1, .slice C1 0 i1, .slice C2 3 i2, .slice C3 0 i3] 26) := ⟨_, rfl⟩
  have hs2 : v2.heap.size = w2.heap.size + 1 := by rw [hv2]; simp
  rw [← hv2] at hx
  have hz2 : Below v1.heap.size v1 w2 := by rw [hs1]; exact HB0.out.trans (h5.mono (by have h9 := HB0.out.size; rw [hs1] at h9; exact h9))
  have Z2 : Hid (Below v1.heap.size v1 v2) := Lib.hid (by rw [hv2]; exact hz2.alloc hz2.size _)
  have X2 := Lib.hid hx
  have U2 := Lib.hid hz2
  clear hx h5 HB0 H2 hz2
  have hb0 := al_below v2 [.cells #[] 3, .cells #[.slice (some ⟨v2.heap.size, 0, none⟩) 0 0] 35, .cells #[.int .i64 0] 3, .cells #[.slice (some ⟨v2.heap.size + 2, 0, none⟩) 1 1] 35]
  have h2 := of_any (n := 1) (m := 1) rfl rfl ri3.ok ri4.ok _ 1 _ 1 _ (lit01 v2 0).1 (Nat.le_refl _) (lit01 v2 0).2 (Nat.le_refl _)
  rw [hs2, hv2] at h2
  rw [hs2] at hb0
  have HB0 := Lib.hid hb0
  have H2 := Lib.hid h2
  have HV2 := Lib.hid hv2
  clear h2 hb0 hv2
  go_wp2_with fail
  refine H2.out.mono ?_
  rintro e w3 ⟨E1, j1, E2, j2, E3, j3, rfl, hx, h5⟩
  rw [← HV2.out] at h5
  obtain ⟨v3, hv3⟩ : ∃ v3, v3 = w3.alloc (.cells #[.int .i64 1, .slice E1 0 j1, .slice E2 1 j2, .slice E3 0 j3] 26) := ⟨_, rfl⟩
  have hs3 : v3.heap.size = w3.heap.size + 1 := by rw [hv3]; simp
  rw [← hv3] at hx
  have hz3 : Below v2.heap.size v2 w3 := by rw [hs2]; exact HB0.out.trans (h5.mono (by have h9 := HB0.out.size; rw [hs2] at h9; exact h9))
  have Z3 : Hid (Below v2.heap.size v2 v3) := Lib.hid (by rw [hv3]; exact hz3.alloc hz3.size _)
  have X3 := Lib.hid hx
  have U3 := Lib.hid hz3
  clear hx h5 HB0 H2 hz3
  have hb0 := al_below v3 [.cells #[.int .i64 0] 3, .cells #[.slice (some ⟨v3.heap.size, 0, none⟩) 1 1] 35]
  have h2 := of_any (n := 1) (m := 0) rfl rfl ri4.ok rokN _ 1 none 0 _ (lit1 v3 0) (Nat.le_refl _) (Kd.C_nil _ _) (Nat.le_refl _)
  rw [hs3, hv3] at h2
  rw [hs3] at hb0
  have HB0 := Lib.hid hb0
  have H2 := Lib.hid h2
  have HV3 := Lib.hid hv3
  clear h2 hb0 hv3
  go_wp2_with fail
  refine H2.out.mono ?_
  rintro e w4 ⟨F1, l1, F2, l2, F3, l3, rfl, hx, h5⟩
  rw [← HV3.out] at h5
  obtain ⟨v4, hv4⟩ : ∃ v4, v4 = w4.alloc (.cells #[.int .i64 1, .slice F1 0 l1, .slice F2 1 l2, .slice F3 0 l3] 26) := ⟨_, rfl⟩
  have hs4 : v4.heap.size = w4.heap.size + 1 := by rw [hv4]; simp
  rw [← hv4] at hx
  have hz4 : Below v3.heap.size v3 w4 := by rw [hs3]; exact HB0.out.trans (h5.mono (by have h9 := HB0.out.size; rw [hs3] at h9; exact h9))
  have Z4 : Hid (Below v3.heap.size v3 v4) := Lib.hid (by rw [hv4]; exact hz4.alloc hz4.size _)
  have X4 := Lib.hid hx
  have U4 := Lib.hid hz4
  clear hx h5 HB0 H2 hz4
  have X1w := Lib.hid ((X1.out.stay Z2.out).stay Z3.out |>.stay U4.out)
  obtain ⟨PK, hst, hbl, hp, hq, hr, hss, h0⟩ : ∃ PK : World → Prop, (∀ W W', PK W → Below W.heap.size W W' → PK W') ∧ (∀ W, PK W → Below w.heap.size w W) ∧ (∀ W, PK W → Bx w1.heap.size B1 d1 B2 d2 B3 d3 2 [[1], [0]] [] W) ∧ (∀ W, PK W → Bx w2.heap.size C1 i1 C2 i2 C3 i3 3 [[1], [2], [1]] [] W) ∧ (∀ W, PK W → Bx w3.heap.size E1 j1 E2 j2 E3 j3 1 [[]] [[0]] W) ∧ (∀ W, PK W → Bx w4.heap.size F1 l1 F2 l2 F3 l3 1 [[0]] [] W) ∧ PK v4 :=
    ⟨fun W => Below w.heap.size w W ∧ Bx w1.heap.size B1 d1 B2 d2 B3 d3 2 [[1], [0]] [] W ∧ Bx w2.heap.size C1 i1 C2 i2 C3 i3 3 [[1], [2], [1]] [] W ∧ Bx w3.heap.size E1 j1 E2 j2 E3 j3 1 [[]] [[0]] W ∧ Bx w4.heap.size F1 l1 F2 l2 F3 l3 1 [[0]] [] W,
      fun W W' h hb => ⟨h.1.trans (hb.mono h.1.size), h.2.1.stay hb, h.2.2.1.stay hb, h.2.2.2.1.stay hb, h.2.2.2.2.stay hb⟩, fun W h => h.1, fun W h => h.2.1, fun W h => h.2.2.1, fun W h => h.2.2.2.1, fun W h => h.2.2.2.2,
      ((Y1.out.trans (Z2.out.mono Y1.out.size)).trans (Z3.out.mono (Nat.le_trans Y1.out.size Z2.out.size))).trans (Z4.out.mono (Nat.le_trans (Nat.le_trans Y1.out.size Z2.out.size) Z3.out.size)), (X1.out.stay Z2.out).stay Z3.out |>.stay Z4.out, (X2.out.stay Z3.out).stay Z4.out, X3.out.stay Z4.out, X4.out⟩
  have HST := Lib.hid hst; have HBL := Lib.hid hbl; have HP := Lib.hid hp; have HQ := Lib.hid hq; have HR := Lib.hid hr; have HS := Lib.hid hss; have K0 := Lib.hid h0
  have HV4 := Lib.hid hv4
  obtain ⟨t0, t1, t2, t3⟩ := box4 X1w.out.box
  have hlt := X1w.out.lt
  clear hst hbl hp hq hr hss h0 hv4 hs1 hs2 hs3 hs4
  go_wp2_with fail
  rw [← HV4.out]
  have hc := check_of ri1 (riN 2 (by omega)) rfl (HP.out _ K0.out)
  rw [ck1] at hc
  refine hc.mono ?_
  rintro e w5 ⟨rfl, hb5⟩
  clear hc t0 t1 t2 t3 hlt X1w X1 X2 X3 X4 Z2 Z3 Z4 U2 U3 U4 Y1
  have KN := Lib.hid (HST.out _ _ K0.out hb5)
  obtain ⟨t0, t1, t2, t3⟩ := box4 (HP.out _ KN.out).box
  have hlt := (HP.out _ KN.out).lt
  clear hb5
  go_wp2_with fail
  have hc := find_of ri1 (riN 2 (by omega)) rfl (HP.out _ KN.out)
  rw [cT1] at hc
  refine hc.mono ?_
  rintro e x1 ⟨A, c, rfl, hlc, hcc, hb5⟩
  have HCC := Lib.hid hcc
  have KC := Lib.hid (HST.out _ _ KN.out hb5)
  clear hc hb5 hcc KN t0 t1 t2 t3 hlt
  go_wp2_with fail
  refine (word_any 0 (by omega) (by omega) _).mono ?_
  rintro e w7 ⟨rfl, nd, rfl⟩
  go_wp2_with fail
  refine (word_any 1 (by omega) (by omega) _).mono ?_
  rintro e w7 ⟨rfl, nd2, rfl⟩
  go_wp2_with fail
  have hs := same_any A c [wordB 0, wordB 1] (some ⟨x1.heap.size, 0, none⟩) 2 [wordB 0, wordB 1] ((x1.drewN (nd + nd2)).alloc (.cells #[.string (wordB 0), .string (wordB 1)] 9)) (Kd.C_alloc (Kd.C_drewN HCC.out _) _) hlc (texts_lit (xs := [wordB 0, wordB 1]) (World.alloc_heap_new _ _) (by simp)) (Nat.le_refl _) (by simp)
  rw [decide_eq_true rfl] at hs
  refine hs.mono ?_
  rintro e w9 ⟨rfl, nd9, rfl⟩
  have KN := Lib.hid (HST.out _ _ (HST.out _ _ (HST.out _ _ KC.out (pw_below_drewN (Below.refl _ _) (nd + nd2))) (below_alloc (Below.refl _ _) (.cells #[.string (wordB 0), .string (wordB 1)] 9))) (pw_below_drewN (Below.refl _ _) nd9))
  clear hs HCC hlc KC
  obtain ⟨y1, hy1⟩ : ∃ y1, y1 = ((x1.drewN (nd + nd2)).alloc (.cells #[.string (wordB 0), .string (wordB 1)] 9)).drewN nd9 := ⟨_, rfl⟩
  rw [← hy1] at KN ⊢
  clear hy1
  obtain ⟨t0, t1, t2, t3⟩ := box4 (HQ.out _ KN.out).box
  have hlt := (HQ.out _ KN.out).lt
  go_wp2_with fail
  have hc := find_of ri2 (riN 3 (by omega)) rfl (HQ.out _ KN.out)
  rw [cT2] at hc
  refine hc.mono ?_
  rintro e x2 ⟨A, c, rfl, hlc, hcc, hb5⟩
  have HCC := Lib.hid hcc
  have KC := Lib.hid (HST.out _ _ KN.out hb5)
  clear hc hb5 hcc KN t0 t1 t2 t3 hlt
  go_wp2_with fail
  refine (word_any 1 (by omega) (by omega) _).mono ?_
  rintro e w7 ⟨rfl, nd, rfl⟩
  go_wp2_with fail
  refine (word_any 2 (by omega) (by omega) _).mono ?_
  rintro e w7 ⟨rfl, nd2, rfl⟩
  go_wp2_with fail
  have hs := same_any A c [wordB 1, wordB 2] (some ⟨x2.heap.size, 0, none⟩) 2 [wordB 1, wordB 2] ((x2.drewN (nd + nd2)).alloc (.cells #[.string (wordB 1), .string (wordB 2)] 9)) (Kd.C_alloc (Kd.C_drewN HCC.out _) _) hlc (texts_lit (xs := [wordB 1, wordB 2]) (World.alloc_heap_new _ _) (by simp)) (Nat.le_refl _) (by simp)
  rw [decide_eq_true rfl] at hs
  refine hs.mono ?_
  rintro e w9 ⟨rfl, nd9, rfl⟩
  have KN := Lib.hid (HST.out _ _ (HST.out _ _ (HST.out _ _ KC.out (pw_below_drewN (Below.refl _ _) (nd + nd2))) (below_alloc (Below.refl _ _) (.cells #[.string (wordB 1), .string (wordB 2)] 9))) (pw_below_drewN (Below.refl _ _) nd9))
  clear hs HCC hlc KC
  obtain ⟨y2, hy2⟩ : ∃ y2, y2 = ((x2.drewN (nd + nd2)).alloc (.cells #[.string (wordB 1), .string (wordB 2)] 9)).drewN nd9 := ⟨_, rfl⟩
  rw [← hy2] at KN ⊢
  clear hy2
  obtain ⟨t0, t1, t2, t3⟩ := box4 (HR.out _ KN.out).box
  have hlt := (HR.out _ KN.out).lt
  go_wp2_with fail
  have hc := check_of ri3 ri4 rfl (HR.out _ KN.out)
  rw [ck3] at hc
  refine hc.mono ?_
  rintro e x3 ⟨rfl, hb5⟩
  have KC := Lib.hid (HST.out _ _ KN.out hb5)
  clear hc hb5 KN t0 t1 t2 t3 hlt
  have KN := KC
  clear KC
  obtain ⟨t0, t1, t2, t3⟩ := box4 (HR.out _ KN.out).box
  have hlt := (HR.out _ KN.out).lt
  go_wp2_with fail
  have hc := find_of ri3 ri4 rfl (HR.out _ KN.out)
  rw [cT3] at hc
  refine hc.mono ?_
  rintro e x4 ⟨A, c, rfl, hlc, hcc, hb5⟩
  have HCC := Lib.hid hcc
  have KC := Lib.hid (HST.out _ _ KN.out hb5)
  clear hc hb5 hcc KN t0 t1 t2 t3 hlt
  have KN := KC
  clear KC HCC hlc
  obtain ⟨t0, t1, t2, t3⟩ := box4 (HS.out _ KN.out).box
  have hlt := (HS.out _ KN.out).lt
  go_wp2_with fail
  have hc := check_of ri4 (riN 1 (by omega)) rfl (HS.out _ KN.out)
  rw [ck4] at hc
  refine hc.mono ?_
  rintro e x5 ⟨rfl, hb5⟩
  have KC := Lib.hid (HST.out _ _ KN.out hb5)
  clear hc hb5 KN t0 t1 t2 t3 hlt
  have KN := KC
  clear KC
  obtain ⟨t0, t1, t2, t3⟩ := box4 (HS.out _ KN.out).box
  have hlt := (HS.out _ KN.out).lt
  go_wp2_with fail
  have hc := find_of ri4 (riN 1 (by omega)) rfl (HS.out _ KN.out)
  rw [cT4] at hc
  refine hc.mono ?_
  rintro e x6 ⟨A, c, rfl, hlc, hcc, hb5⟩
  have HCC := Lib.hid hcc
  have KC := Lib.hid (HST.out _ _ KN.out hb5)
  clear hc hb5 hcc KN t0 t1 t2 t3 hlt
  go_wp2_with fail
  refine (word_any 0 (by omega) (by omega) _).mono ?_
  rintro e w7 ⟨rfl, nd, rfl⟩
  go_wp2_with fail
  have hs := same_any A c [wordB 0] (some ⟨x6.heap.size, 0, none⟩) 1 [wordB 0] ((x6.drewN nd).alloc (.cells #[.string (wordB 0)] 9)) (Kd.C_alloc (Kd.C_drewN HCC.out _) _) hlc (texts_lit (xs := [wordB 0]) (World.alloc_heap_new _ _) (by simp)) (Nat.le_refl _) (by simp)
  rw [decide_eq_true rfl] at hs
  refine hs.mono ?_
  rintro e w9 ⟨rfl, nd9, rfl⟩
  have KN := Lib.hid (HST.out _ _ (HST.out _ _ (HST.out _ _ KC.out (pw_below_drewN (Below.refl _ _) nd)) (below_alloc (Below.refl _ _) (.cells #[.string (wordB 0)] 9))) (pw_below_drewN (Below.refl _ _) nd9))
  clear hs HCC hlc KC
  have HB9 := Lib.hid (HBL.out _ KN.out)
  clear KN
  go_wp2_with fail
  go_ret
  exact ⟨rfl, HB9.out⟩
def belfrylaw09_alive.f  : Option (Bool) := some true
theorem belfrylaw09_alive.calls  (r : Bool) (w : World) (h : belfrylaw09_alive.f  = some r) :
    Calls Try.prog 8 #[] w fun e w' => e = .returned (.bool r) ∧ Below w.heap.size w w' := by
  injection h with h
  subst h
  exact alive_any w
end Go.Proofs.Ytfkggeakjgphjaa.C
