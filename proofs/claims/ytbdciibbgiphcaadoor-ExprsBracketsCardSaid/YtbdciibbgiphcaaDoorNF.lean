/- exprs.Parse walked; the laws' read and is. Joined by wip/merge.py (ours) from several texts of this seat. -/
import Derived.Test.YtbdciibbgiphcaaDoorND
import Derived.Test.YtbdciibbgiphcaaDoorNE
import Derived.Test.YtbdciibbgiphcaaDoorNB
import Derived.Deep.RegionHeld2
import Derived.Test.YtbdciibbgiphcaaDoorNA
import Derived.Test.YtbdciibbgiphcaaDoorNC
/- exprs' reader: all its parts; Parse. -/
namespace Go.Proofs.YtbdciibbgiphcaaDoor.V
set_option linter.unusedVariables false
set_option linter.unusedSimpArgs false
set_option linter.unusedSectionVars false
open Go.RowKit Go.Proofs.YtbdciibbgiphcaaDoorW.PrintWords Go.Proofs.YtbdciibbgiphcaaDoorW.PrintLast Go.Proofs.YtbdciibbgiphcaaDoorW.PrintMore
theorem name_is : NameIs nameOk := fun s w => tokens_Name.calls s _ w rfl
theorem go_ok {o : Option PR} {k : S25 → Int → Option PR} {x : S25} {b : Int} (h : PR.go o k = some (.ok x b)) : ∃ y c, o = some (.ok y c) ∧ k y c = some (.ok x b) := by
 rcases PR.go_some h with ⟨e, c, _, h2⟩ | ⟨y, c, h1, h2⟩
 ·cases h2
 ·exact ⟨y, c, h1, h2⟩
section
variable {nm : ByteArray → Bool} {num : ByteArray → Option (Int × Int)} {T : List S45}
theorem atom_mono {a b : Int} {x : S25} (h : atomP nm num T a = some (.ok x b)) : a ≤ b := by
 unfold atomP at h
 repeat' (split at h)
 all_goals (first | (simp only [Option.some.injEq, PR.ok.injEq] at h; omega) | (simp at h))
theorem rk_mono_all (f : Nat) : (∀ n a x b, rk nm num T f n a = some (.ok x b) → a ≤ b) ∧ (∀ n y a x b, lp nm num T f n y a = some (.ok x b) → a ≤ b) ∧ (∀ a x b, ch nm num T f a = some (.ok x b) → a ≤ b) ∧ (∀ a x b, pf nm num T f a = some (.ok x b) → a ≤ b) := by
 induction f with
 | zero => refine ⟨fun n a x b h => ?_, fun n y a x b h => ?_, fun a x b h => ?_, fun a x b h => ?_⟩ <;> simp [rk, lp, ch, pf] at h
 | succ f ih =>
  obtain ⟨i1, i2, i3, i4⟩ := ih
  refine ⟨fun n a x b h => ?_, fun n y a x b h => ?_, fun a x b h => ?_, fun a x b h => ?_⟩
  ·unfold rk at h
   split at h
   ·exact i4 _ _ _ h
   ·split at h
    ·have := i3 _ _ _ h; omega
    ·obtain ⟨y, c, h1, h2⟩ := go_ok h
     have := i1 _ _ _ _ h1; have := i2 _ _ _ _ _ h2; omega
  ·unfold lp at h
   split at h
   ·simp only [Option.some.injEq, PR.ok.injEq] at h; omega
   ·obtain ⟨z, c, h1, h2⟩ := go_ok h
    have := i1 _ _ _ _ h1
    split at h2
    ·simp only [Option.some.injEq, PR.ok.injEq] at h2; omega
    ·have := i2 _ _ _ _ _ h2; omega
  ·unfold ch at h
   obtain ⟨y, c, h1, h2⟩ := go_ok h
   have := i1 _ _ _ _ h1
   split at h2
   ·obtain ⟨z, d, h3, h4⟩ := go_ok h2
    have := i1 _ _ _ _ h3
    split at h4
    ·obtain ⟨u, e, h5, h6⟩ := go_ok h4
     have := i1 _ _ _ _ h5
     simp only [Option.some.injEq, PR.ok.injEq] at h6; omega
    ·simp at h4
   ·simp at h2
  ·unfold pf at h
   split at h
   ·obtain ⟨y, c, h1, h2⟩ := go_ok h
    have := i4 _ _ _ h1
    simp only [Option.some.injEq, PR.ok.injEq] at h2; omega
   ·split at h
    ·obtain ⟨y, c, h1, h2⟩ := go_ok h
     have := i1 _ _ _ _ h1
     split at h2
     ·simp only [Option.some.injEq, PR.ok.injEq] at h2; omega
     ·simp at h2
    ·exact atom_mono h
end
section
variable {T : List S45}
abbrev numT := tokens_Number.f
theorem read_all (f : Nat) : (∀ k, k ≤ f → RkIs (PV T) nameOk numT T k) ∧ PfIs (PV T) nameOk numT T f ∧ ChIs (PV T) nameOk numT T f := by
 induction f with
 | zero =>
  refine ⟨fun k hk => ?_, fun a r g w0 W h => by simp [pf] at h, fun a r g w0 W h => by simp [ch] at h⟩
  obtain rfl : k = 0 := by omega
  exact fun n a r g w0 W h => by simp [rk] at h
 | succ f ih =>
  obtain ⟨i1, i2, i3⟩ := ih
  have hr : RkIs (PV T) nameOk numT T (f + 1) := by
   intro n a r g w0 W H h0 hS hv
   unfold rk at H
   by_cases h6 : 6 ≤ n
   ·rw [if_pos h6] at H
    exact rk_high f i2 n a r g w0 W H h6 hS hv
   ·rw [if_neg h6] at H
    by_cases hif : n = 0 ∧ atK T a 1 ifS = true
    ·rw [if_pos hif] at H
     obtain ⟨rfl, hat⟩ := hif
     exact rk_if f i3 a r g w0 W H hat hS hv
    ·rw [if_neg hif] at H
     exact rk_main f i1 (fun k n a x b h => (rk_mono_all k).1 n a x b h) n a r g w0 W H h0 h6 hif hS hv
  refine ⟨fun k hk => ?_, ?_, ch_walk f (i1 f (Nat.le_refl _))⟩
  ·rcases Nat.lt_or_ge f k with h | h
   ·obtain rfl : k = f + 1 := by omega
    exact hr
   ·exact i1 k h
  ·intro a r g w0 W H hS hv
   unfold pf at H
   cases hp : pfx T a with
   | some fm =>
    rw [hp] at H
    exact pf_pre f i2 a r g w0 W hS hv fm hp H
   | none =>
    rw [hp] at H
    cases hop : atK T a 3 opS with
    | true =>
     rw [hop] at H
     exact pf_par f (i1 f (Nat.le_refl _)) a r g w0 W hS hv hp hop (by simpa using H)
    | false =>
     rw [hop] at H
     exact pf_atom a r g w0 W hS hv hp hop (by simpa using H)
end
end Go.Proofs.YtbdciibbgiphcaaDoor.V

/- exprs.Parse. -/
namespace Go.Proofs.YtbdciibbgiphcaaDoor.V
set_option linter.unusedVariables false
set_option linter.unusedSimpArgs false
open Go.RowKit Go.Proofs.YtbdciibbgiphcaaDoorW.PrintWords Go.Proofs.YtbdciibbgiphcaaDoorW.PrintLast Go.Proofs.YtbdciibbgiphcaaDoorW.PrintMore
theorem ta_nil (w : World) : (Instr.typeAssert .nilIface 20 77 true).run Tryd.prog w = .ok (.tuple #[.agg #[.int .i64 0], .bool false]) w := by kernel_rfl
theorem ta_wrong (er : Int) (w : World) : (Instr.typeAssert (.iface 77 (.agg #[.int .i64 er])) 20 77 true).run Tryd.prog w = .ok (.tuple #[.agg #[.int .i64 er], .bool true]) w := by kernel_rfl
set_option maxHeartbeats 1000000 in
set_option maxRecDepth 100000 in
theorem catch_idle (k7 k4 k5 k6 : Nat) (w : World) :
  CallsD Tryd.prog 41 #[.pointer (some ⟨k7, 0, none⟩), .pointer (some ⟨k4, 0, none⟩), .pointer (some ⟨k5, 0, none⟩), .pointer (some ⟨k6, 0, none⟩)] .returning w fun e u' w' => e = .returned (.tuple #[]) ∧ u' = .returning ∧ w' = w.alloc (.cells #[.int .i64 0] 77) := by
 refine callsD_of_wpS Tryd.func41 rfl fun c₀ cs hu => ?_
 rw [show (#[Value.pointer (some ⟨k7, 0, none⟩), .pointer (some ⟨k4, 0, none⟩), .pointer (some ⟨k5, 0, none⟩), .pointer (some ⟨k6, 0, none⟩)] ++ Array.replicate (Tryd.f41.ntmps - (#[Value.pointer (some ⟨k7, 0, none⟩), .pointer (some ⟨k4, 0, none⟩), .pointer (some ⟨k5, 0, none⟩), .pointer (some ⟨k6, 0, none⟩)] : Array Value).size) undef : Array Value) = #[Value.pointer (some ⟨k7, 0, none⟩), .pointer (some ⟨k4, 0, none⟩), .pointer (some ⟨k5, 0, none⟩), .pointer (some ⟨k6, 0, none⟩), undef, undef, undef, undef, undef, undef, undef, undef, undef, undef, undef, undef, undef, undef, undef] from rfl]
 apply wpS_seq
 apply wpS_region
 simp [wpOpsS, go_sem, recoverD, hu, ta_nil, Exit.thenS]
 apply wpS_seq
 apply wpS_region
 simp [wpOpsS, go_sem, Exit.thenS]
 refine wpS_cond (t := false) (by simp [Act.eval]) ?_
 simp only [Bool.false_eq_true, if_false]
 refine wpS_of_wp (wp_skip ?_)
 cases c₀
 simp_all [bodyPostS, results, Tryd.results41]
theorem cell_o1 {w : World} {b : Nat} {v : Value} {t : TypeId} (h : w.heap[b]? = some (.cells #[v] t (0, 0))) : w.cell? ⟨b, 0, none⟩ = some v := by simp [World.cell?, h]
set_option maxHeartbeats 4000000 in
set_option maxRecDepth 100000 in
theorem catch_wrong (k7 k4 k5 k6 g : Nat) (a er : Int) (b0 b1 b2 b3 b5 b6 : Value) (older : List PanicEntry) (w : World)
  (h7 : w.heap[k7]? = some (.cells #[.pointer (some ⟨g, 0, none⟩)] 73 (0, 0))) (hg : w.cell? ⟨g, 1, none⟩ = some (.int .i64 a))
  (h4 : w.heap[k4]? = some (.cells #[b0, b1, b2, b3] 25 (0, 0))) (h5 : w.heap[k5]? = some (.cells #[b5] 3 (0, 0))) (h6 : w.heap[k6]? = some (.cells #[b6] 28 (0, 0)))
  (n1 : k4 ≠ k5) (n2 : k4 ≠ k6) (n3 : k5 ≠ k6) (n4 : k7 ≠ k4) (n5 : k7 ≠ k5) (n6 : k7 ≠ k6) (n7 : g ≠ k4) (n8 : g ≠ k5) (n9 : g ≠ k6) :
  CallsD Tryd.prog 41 #[.pointer (some ⟨k7, 0, none⟩), .pointer (some ⟨k4, 0, none⟩), .pointer (some ⟨k5, 0, none⟩), .pointer (some ⟨k6, 0, none⟩)] (.panicking ({ v := .iface 77 (.agg #[.int .i64 er]), recovered := false } :: older)) w fun e u' w' =>
   e = .returned (.tuple #[]) ∧ u' = .panicking ({ v := .iface 77 (.agg #[.int .i64 er]), recovered := true } :: older) ∧ w'.heap[k4]? = some (.cells #[.int .u8 0, .int .i64 0, .string ⟨#[]⟩, .slice none 0 0] 25 (0, 0)) ∧
    w'.heap[k5]? = some (.cells #[.int .i64 a] 3 (0, 0)) ∧ w'.heap[k6]? = some (.cells #[.int .i64 er] 28 (0, 0)) ∧ ∀ B, B ≤ k4 → B ≤ k5 → B ≤ k6 → B ≤ w.heap.size → Below B w w' := by
 have l7 := blk_lt h7; have l4 := blk_lt h4; have l5 := blk_lt h5; have l6 := blk_lt h6; have lg := cell_lt hg
 refine callsD_of_wpS Tryd.func41 rfl fun c₀ cs hu => ?_
 rw [show (#[Value.pointer (some ⟨k7, 0, none⟩), .pointer (some ⟨k4, 0, none⟩), .pointer (some ⟨k5, 0, none⟩), .pointer (some ⟨k6, 0, none⟩)] ++ Array.replicate (Tryd.f41.ntmps - (#[Value.pointer (some ⟨k7, 0, none⟩), .pointer (some ⟨k4, 0, none⟩), .pointer (some ⟨k5, 0, none⟩), .pointer (some ⟨k6, 0, none⟩)] : Array Value).size) undef : Array Value) = #[Value.pointer (some ⟨k7, 0, none⟩), .pointer (some ⟨k4, 0, none⟩), .pointer (some ⟨k5, 0, none⟩), .pointer (some ⟨k6, 0, none⟩), undef, undef, undef, undef, undef, undef, undef, undef, undef, undef, undef, undef, undef, undef, undef] from rfl]
 apply wpS_seq
 apply wpS_region
 simp [wpOpsS, go_sem, recoverD, hu, ta_wrong, Exit.thenS]
 apply wpS_seq
 apply wpS_region
 simp [wpOpsS, go_sem, Exit.thenS]
 refine wpS_cond (t := true) (by simp [Act.eval]) ?_
 simp only [if_true]
 have H4 := Lib.hid (blk_alloc h4 (.cells #[.int .i64 er] 77)); have H5 := Lib.hid (blk_alloc h5 (.cells #[.int .i64 er] 77)); have H6 := Lib.hid (blk_alloc h6 (.cells #[.int .i64 er] 77)); have H7 := Lib.hid (blk_alloc h7 (.cells #[.int .i64 er] 77))
 have hB := Lib.hid ((Below.refl w.heap.size w).alloc (Nat.le_refl _) (.cells #[.int .i64 er] 77))
 have HE := Lib.hid (heap_alloc_new w (.cells #[.int .i64 er] 77))
 have hgA : (w.alloc (.cells #[.int .i64 er] 77)).cell? ⟨g, 1, none⟩ = some (.int .i64 a) := by rw [World.cell?_alloc_some _ _ _ (by rw [hg]; rfl)]; exact hg
 refine wpS_of_wp ?_
 have m1 : w.heap.size ≠ k4 := by omega
 have m2 : w.heap.size ≠ k5 := by omega
 have m3 : w.heap.size ≠ k6 := by omega
 have l7' := (cell_o1 H7.out); have le := cell_o1 HE.out
 generalize w.alloc (.cells #[.int .i64 er] 77) = w1 at *
 generalize w.heap.size = kE at *
 have r0 := blk_cell H4.out 0; have r1 := blk_cell H4.out 1; have r2 := blk_cell H4.out 2; have r3 := blk_cell H4.out 3
 have f0 := blk_frozen H4.out 0; have f1 := blk_frozen H4.out 1; have f2 := blk_frozen H4.out 2; have f3 := blk_frozen H4.out 3
 have s0 := cell_o1 H5.out; have s1 := blk_frozen H5.out 0
 have t0 := cell_o1 H6.out; have t1 := blk_frozen H6.out 0
 dsimp at r0 r1 r2 r3
 have N1 := n1.symm; have N2 := n2.symm; have N3 := n3.symm; have N4 := n4.symm; have N5 := n5.symm; have N6 := n6.symm; have N7 := n7.symm; have N8 := n8.symm; have N9 := n9.symm; have M1 := m1.symm; have M2 := m2.symm; have M3 := m3.symm
 clear h7 h4 h5 h6 hg HE H7 hu
 go_region_held2 (fun w' => w'.cell? ⟨k7, 0, none⟩ = some (.pointer (some ⟨g, 0, none⟩)) ∧ w'.cell? ⟨g, 1, none⟩ = some (.int .i64 a) ∧ w'.cell? ⟨kE, 0, none⟩ = some (.int .i64 er)) (go_keep) (fail)
 have far : ∀ (V : World) (b p : Nat) (j : Nat) (o : Obj) (u : Value), b ≠ p → V.heap[b]? = some o → (V.setCell ⟨p, j, none⟩ u).heap[b]? = some o := fun V b p j o u hb hV => (Below.heap_setCell V ⟨p, j, none⟩ u b hb).trans hV
 have F4 := far _ k4 k6 0 _ (.int .i64 er) n2 (far _ k4 k5 0 _ (.int .i64 a) n1 (put4 H4.out (.int .u8 0) (.int .i64 0) (.string ⟨#[]⟩) (.slice none 0 0)))
 have F5 := far _ k5 k6 0 _ (.int .i64 er) n3 (blk_put (blk_far4 H5.out N1 (.int .u8 0) (.int .i64 0) (.string ⟨#[]⟩) (.slice none 0 0)) 0 (.int .i64 a) rfl)
 have F6 := blk_put (far _ k6 k5 0 _ (.int .i64 a) N3 (blk_far4 H6.out N2 (.int .u8 0) (.int .i64 0) (.string ⟨#[]⟩) (.slice none 0 0))) 0 (.int .i64 er) rfl
 have FB : ∀ (B : Nat), B ≤ k4 → B ≤ k5 → B ≤ k6 → B ≤ kE → Below B w ((((((w1.setCell ⟨k4, 0, none⟩ (.int .u8 0)).setCell ⟨k4, 1, none⟩ (.int .i64 0)).setCell ⟨k4, 2, none⟩ (.string ⟨#[]⟩)).setCell ⟨k4, 3, none⟩ (.slice none 0 0)).setCell ⟨k5, 0, none⟩ (.int .i64 a)).setCell ⟨k6, 0, none⟩ (.int .i64 er)) := fun B e4 e5 e6 eE =>
  ((((((hB.out.mono eE).setCell (p := ⟨k4, 0, none⟩) e4 _).setCell (p := ⟨k4, 1, none⟩) e4 _).setCell (p := ⟨k4, 2, none⟩) e4 _).setCell (p := ⟨k4, 3, none⟩) e4 _).setCell (p := ⟨k5, 0, none⟩) e5 _).setCell (p := ⟨k6, 0, none⟩) e6 _
 generalize ((((((w1.setCell ⟨k4, 0, none⟩ (.int .u8 0)).setCell ⟨k4, 1, none⟩ (.int .i64 0)).setCell ⟨k4, 2, none⟩ (.string ⟨#[]⟩)).setCell ⟨k4, 3, none⟩ (.slice none 0 0)).setCell ⟨k5, 0, none⟩ (.int .i64 a)).setCell ⟨k6, 0, none⟩ (.int .i64 er)) = wf at *
 clear far r0 r1 r2 r3 f0 f1 f2 f3 s0 s1 t0 t1
 simp only [bodyPostS, results, Tryd.results41]
 exact ⟨trivial, _, rfl, .tuple #[], by simp, rfl, rfl, F4, F5, F6, fun B e4 e5 e6 eE => (FB B e4 e5 e6 eE).drew⟩
end Go.Proofs.YtbdciibbgiphcaaDoor.V

/- exprs.Parse: walk. -/
namespace Go.Proofs.YtbdciibbgiphcaaDoor.V
set_option linter.unusedVariables false
set_option linter.unusedSimpArgs false
set_option linter.unusedSectionVars false
open Go.RowKit Go.Proofs.YtbdciibbgiphcaaDoorW.PrintWords Go.Proofs.YtbdciibbgiphcaaDoorW.PrintLast Go.Proofs.YtbdciibbgiphcaaDoorW.PrintMore
variable {T : List S45}
/-- behind Parse. -/
def ParsePost (W : World) (x : S25) (n e : Int) (er : Ending) (W' : World) : Prop :=
 ∃ A c, er = .returned (.tuple #[.agg #[.int .u8 x.f0, .int .i64 x.f1, .string x.f2, .slice A x.f3.length c], .int .i64 n, .int .i64 e]) ∧ x.f3.length ≤ c ∧ Kd.F k25 W' (fun k => W.heap.size ≤ k) A x.f3.length x.f3 ∧ Below W.heap.size W W'
theorem st_start {A : Option Addr} {c : Nat} {fr : Int} {W : World} (hC : Kd.C k45 W A T.length T) (h0 : 0 ≤ fr) (h1 : fr ≤ (T.length : Int)) (o4 o5 o6 : Obj) (u : Value) (t : TypeId) :
  St W (((W.alloc o4).alloc o5).alloc o6).heap.size T (((((W.alloc o4).alloc o5).alloc o6).alloc (.cells #[.slice A T.length c, .int .i64 fr] 75)).alloc (.cells #[u] t)) (((((W.alloc o4).alloc o5).alloc o6).alloc (.cells #[.slice A T.length c, .int .i64 fr] 75)).alloc (.cells #[u] t)) fr := by
 have hB : Below W.heap.size W (((W.alloc o4).alloc o5).alloc o6) := (((Below.refl _ _).alloc (Nat.le_refl _) _).alloc (by simp) _).alloc (by simp; omega) _
 have hI := (IsS75.new W (((W.alloc o4).alloc o5).alloc o6) A c T fr hB hC).alloc (.cells #[u] t)
 exact ⟨hI, (hB.alloc hB.size _).alloc (by simp; omega) _, KeepBut.refl _ _ _, h0, h1⟩
theorem start_blocks (A : Option Addr) (c : Nat) (fr : Int) (W : World) :
  (((((W.alloc (.cells #[.int .u8 0, .int .i64 0, .string ⟨#[]⟩, .slice none 0 0] 25)).alloc (.cells #[.int .i64 0] 3)).alloc (.cells #[.int .i64 0] 28)).alloc (.cells #[.slice A T.length c, .int .i64 fr] 75)).alloc (.cells #[.pointer (some ⟨W.heap.size + 1 + 1 + 1, 0, none⟩)] 73)).heap[W.heap.size]? = some (.cells #[.int .u8 0, .int .i64 0, .string ⟨#[]⟩, .slice none 0 0] 25 (0, 0)) ∧ (((((W.alloc (.cells #[.int .u8 0, .int .i64 0, .string ⟨#[]⟩, .slice none 0 0] 25)).alloc (.cells #[.int .i64 0] 3)).alloc (.cells #[.int .i64 0] 28)).alloc (.cells #[.slice A T.length c, .int .i64 fr] 75)).alloc (.cells #[.pointer (some ⟨W.heap.size + 1 + 1 + 1, 0, none⟩)] 73)).heap[W.heap.size + 1]? = some (.cells #[.int .i64 0] 3 (0, 0)) ∧ (((((W.alloc (.cells #[.int .u8 0, .int .i64 0, .string ⟨#[]⟩, .slice none 0 0] 25)).alloc (.cells #[.int .i64 0] 3)).alloc (.cells #[.int .i64 0] 28)).alloc (.cells #[.slice A T.length c, .int .i64 fr] 75)).alloc (.cells #[.pointer (some ⟨W.heap.size + 1 + 1 + 1, 0, none⟩)] 73)).heap[W.heap.size + 1 + 1]? = some (.cells #[.int .i64 0] 28 (0, 0)) ∧
   (((((W.alloc (.cells #[.int .u8 0, .int .i64 0, .string ⟨#[]⟩, .slice none 0 0] 25)).alloc (.cells #[.int .i64 0] 3)).alloc (.cells #[.int .i64 0] 28)).alloc (.cells #[.slice A T.length c, .int .i64 fr] 75)).alloc (.cells #[.pointer (some ⟨W.heap.size + 1 + 1 + 1, 0, none⟩)] 73)).heap[W.heap.size + 1 + 1 + 1 + 1]? = some (.cells #[.pointer (some ⟨W.heap.size + 1 + 1 + 1, 0, none⟩)] 73 (0, 0)) := by
 refine ⟨?_, ?_, ?_, ?_⟩
 ·exact blk_alloc (blk_alloc (blk_alloc (blk_alloc (heap_alloc_new W _) _) _) _) _
 ·have := heap_alloc_new (W.alloc (.cells #[.int .u8 0, .int .i64 0, .string ⟨#[]⟩, .slice none 0 0] 25)) (.cells #[.int .i64 0] 3)
  rw [show (W.alloc (.cells #[.int .u8 0, .int .i64 0, .string ⟨#[]⟩, .slice none 0 0] 25)).heap.size = W.heap.size + 1 by simp] at this
  exact blk_alloc (blk_alloc (blk_alloc this _) _) _
 ·have := heap_alloc_new ((W.alloc (.cells #[.int .u8 0, .int .i64 0, .string ⟨#[]⟩, .slice none 0 0] 25)).alloc (.cells #[.int .i64 0] 3)) (.cells #[.int .i64 0] 28)
  rw [show ((W.alloc (.cells #[.int .u8 0, .int .i64 0, .string ⟨#[]⟩, .slice none 0 0] 25)).alloc (.cells #[.int .i64 0] 3)).heap.size = W.heap.size + 1 + 1 by simp] at this
  exact blk_alloc (blk_alloc this _) _
 ·have := heap_alloc_new ((((W.alloc (.cells #[.int .u8 0, .int .i64 0, .string ⟨#[]⟩, .slice none 0 0] 25)).alloc (.cells #[.int .i64 0] 3)).alloc (.cells #[.int .i64 0] 28)).alloc (.cells #[.slice A T.length c, .int .i64 fr] 75)) (.cells #[.pointer (some ⟨W.heap.size + 1 + 1 + 1, 0, none⟩)] 73)
  rw [show ((((W.alloc (.cells #[.int .u8 0, .int .i64 0, .string ⟨#[]⟩, .slice none 0 0] 25)).alloc (.cells #[.int .i64 0] 3)).alloc (.cells #[.int .i64 0] 28)).alloc (.cells #[.slice A T.length c, .int .i64 fr] 75)).heap.size = W.heap.size + 1 + 1 + 1 + 1 by simp] at this
  exact this
theorem st_start2 {A : Option Addr} {c : Nat} {fr : Int} {W : World} (hC : Kd.C k45 W A T.length T) (h0 : 0 ≤ fr) (h1 : fr ≤ (T.length : Int)) : St W (W.heap.size + 1 + 1 + 1) T (((((W.alloc (.cells #[.int .u8 0, .int .i64 0, .string ⟨#[]⟩, .slice none 0 0] 25)).alloc (.cells #[.int .i64 0] 3)).alloc (.cells #[.int .i64 0] 28)).alloc (.cells #[.slice A T.length c, .int .i64 fr] 75)).alloc (.cells #[.pointer (some ⟨W.heap.size + 1 + 1 + 1, 0, none⟩)] 73)) (((((W.alloc (.cells #[.int .u8 0, .int .i64 0, .string ⟨#[]⟩, .slice none 0 0] 25)).alloc (.cells #[.int .i64 0] 3)).alloc (.cells #[.int .i64 0] 28)).alloc (.cells #[.slice A T.length c, .int .i64 fr] 75)).alloc (.cells #[.pointer (some ⟨W.heap.size + 1 + 1 + 1, 0, none⟩)] 73)) fr := by
 have := st_start (c := c) hC h0 h1 (.cells #[.int .u8 0, .int .i64 0, .string ⟨#[]⟩, .slice none 0 0] 25) (.cells #[.int .i64 0] 3) (.cells #[.int .i64 0] 28) (.pointer (some ⟨W.heap.size + 1 + 1 + 1, 0, none⟩)) 73
 rwa [show (((W.alloc (.cells #[.int .u8 0, .int .i64 0, .string ⟨#[]⟩, .slice none 0 0] 25)).alloc (.cells #[.int .i64 0] 3)).alloc (.cells #[.int .i64 0] 28)).heap.size = W.heap.size + 1 + 1 + 1 by simp] at this
set_option maxHeartbeats 4000000 in
set_option maxRecDepth 100000 in
theorem parse_bad (A : Option Addr) (c : Nat) (fr : Int) (W : World) (hC : Kd.C k45 W A T.length T) (hv : PV T W) (h0 : 0 ≤ fr) (h1 : fr ≤ (T.length : Int)) (f : Nat) (er a : Int) (hr : rk nameOk numT T f 0 fr = some (.bad er a)) :
  Calls Tryd.prog 22 #[.slice A T.length c, .int .i64 fr] W (ParsePost W z25 a er) := by
 have g1 : decide (fr < 0) = false := decide_eq_false (by omega)
 have g2 : decide ((T.length : Int) < fr) = false := decide_eq_false (by omega)
 have HC := Lib.hid hC; have HV := Lib.hid hv; have HR := Lib.hid hr
 have hmf : ∀ (fn : Fn) (first cap : Array Value) (w : World), (Instr.makeFunc fn first cap).run Tryd.prog w = .ok (.func fn first cap) w := fun _ _ _ _ => rfl
 clear hC hv hr
 go_enter_defers Tryd.func22, Tryd.ntmps22
 go_wp2_with fail
 have hS := st_start2 (c := c) HC.out h0 h1
 obtain ⟨e4, e5, e6, e7⟩ := start_blocks (T := T) A c fr W
 refine ((read_all f).1 f (Nat.le_refl _) 0 fr _ (W.heap.size + 1 + 1 + 1) W _ HR.out (by omega) hS HV.out).mono ?_
 rintro e w6 ⟨hs6, rfl⟩
 have q4 := kb_blk hs6.K e4 (by omega)
 have q5 := kb_blk hs6.K e5 (by omega)
 have q6 := kb_blk hs6.K e6 (by omega)
 have q7 := kb_blk hs6.K e7 (by omega)
 obtain ⟨A1, c1, hgb, _, _⟩ := hs6.I
 have hB := hs6.B
 have hz := blk_lt q7
 clear hS e4 e5 e6 e7 hs6
 refine leaves_cons (f := 41) (args := #[.pointer (some ⟨W.heap.size + 1 + 1 + 1 + 1, 0, none⟩), .pointer (some ⟨W.heap.size, 0, none⟩), .pointer (some ⟨W.heap.size + 1, 0, none⟩), .pointer (some ⟨W.heap.size + 1 + 1, 0, none⟩)]) (by simp) (by simp [go_sem]) ?_
 refine (catch_wrong _ _ _ _ _ a er _ _ _ _ _ _ [] w6 q7 (cellS75_1 hgb) q4 q5 q6 (by omega) (by omega) (by omega) (by omega) (by omega) (by omega) (by omega) (by omega) (by omega)).mono ?_
 rintro e u' w7 ⟨rfl, rfl, k4, k5, k6, kB⟩
 have hB7 := hB.trans (kB W.heap.size (by omega) (by omega) (by omega) (by omega))
 have c0 := blk_cell k4 0; have c1 := blk_cell k4 1; have c2 := blk_cell k4 2; have c3 := blk_cell k4 3
 dsimp at c0 c1 c2 c3
 have c5 := cell_o1 k5; have c6 := cell_o1 k6
 simp [Leaves, settle, results, Tryd.results22, go_sem, c0, c1, c2, c3, c5, c6]
 exact ⟨none, 0, rfl, Nat.le_refl _, Kd.F_nil _ _ _, hB7⟩
set_option maxHeartbeats 4000000 in
set_option maxRecDepth 100000 in
theorem parse_ok (A : Option Addr) (c : Nat) (fr : Int) (W : World) (hC : Kd.C k45 W A T.length T) (hv : PV T W) (h0 : 0 ≤ fr) (h1 : fr ≤ (T.length : Int)) (f : Nat) (x : S25) (a : Int) (hr : rk nameOk numT T f 0 fr = some (.ok x a)) (hk : okE nameOk x = true) :
  Calls Tryd.prog 22 #[.slice A T.length c, .int .i64 fr] W (ParsePost W x a 0) := by
 have g1 : decide (fr < 0) = false := decide_eq_false (by omega)
 have g2 : decide ((T.length : Int) < fr) = false := decide_eq_false (by omega)
 have HC := Lib.hid hC; have HV := Lib.hid hv; have HR := Lib.hid hr; have HKE := Lib.hid hk
 have hmf : ∀ (fn : Fn) (first cap : Array Value) (w : World), (Instr.makeFunc fn first cap).run Tryd.prog w = .ok (.func fn first cap) w := fun _ _ _ _ => rfl
 clear hC hv hr hk
 go_enter_defers Tryd.func22, Tryd.ntmps22
 go_wp2_with fail
 have hS := st_start2 (c := c) HC.out h0 h1
 obtain ⟨e4, e5, e6, e7⟩ := start_blocks (T := T) A c fr W
 refine ((read_all f).1 f (Nat.le_refl _) 0 fr _ (W.heap.size + 1 + 1 + 1) W _ HR.out (by omega) hS HV.out).mono ?_
 rintro e w6 ⟨hs6, A1, c1, rfl, hl, hF⟩
 have q4 := kb_blk hs6.K e4 (by omega)
 have q5 := kb_blk hs6.K e5 (by omega)
 have q6 := kb_blk hs6.K e6 (by omega)
 have q7 := kb_blk hs6.K e7 (by omega)
 obtain ⟨A2, c2, hgb, _, _⟩ := hs6.I
 have HB := Lib.hid hs6.B; have HF := Lib.hid hF
 have HGB := Lib.hid hgb; have H5 := Lib.hid q5; have H6 := Lib.hid q6; have H7 := Lib.hid q7
 have hz := blk_lt q7
 have hz5 : W.heap.size + 1 + 1 + 1 + 1 + 1 ≤ w6.heap.size := by omega
 have HK := Lib.hid hs6.K
 have r0 := blk_cell q4 0; have r1 := blk_cell q4 1; have r2 := blk_cell q4 2; have r3 := blk_cell q4 3
 have f0 := blk_frozen q4 0; have f1 := blk_frozen q4 1; have f2 := blk_frozen q4 2; have f3 := blk_frozen q4 3
 dsimp at r0 r1 r2 r3
 have H4 := Lib.hid q4
 clear hS e4 e5 e6 e7 hs6 q5 q6 q7 hgb hF q4
 go_wp2_with fail
 have Q4 := put4 H4.out (.int .u8 x.f0) (.int .i64 x.f1) (.string x.f2) (.slice A1 x.f3.length c1)
 have Q5 := blk_far4 (p := W.heap.size) H5.out (by omega) (.int .u8 x.f0) (.int .i64 x.f1) (.string x.f2) (.slice A1 x.f3.length c1)
 have Q6 := blk_far4 (p := W.heap.size) H6.out (by omega) (.int .u8 x.f0) (.int .i64 x.f1) (.string x.f2) (.slice A1 x.f3.length c1)
 have Q7 := blk_far4 (p := W.heap.size) H7.out (by omega) (.int .u8 x.f0) (.int .i64 x.f1) (.string x.f2) (.slice A1 x.f3.length c1)
 have QG := blk_far4 (p := W.heap.size) HGB.out (by omega) (.int .u8 x.f0) (.int .i64 x.f1) (.string x.f2) (.slice A1 x.f3.length c1)
 have QF := F_set4 HF.out (p := W.heap.size) (fun k hk => by simp only [World.size_alloc] at hk; omega) (.int .u8 x.f0) (.int .i64 x.f1) (.string x.f2) (.slice A1 x.f3.length c1)
 have QB : Below W.heap.size W ((((w6.setCell ⟨W.heap.size, 0, none⟩ (.int .u8 x.f0)).setCell ⟨W.heap.size, 1, none⟩ (.int .i64 x.f1)).setCell ⟨W.heap.size, 2, none⟩ (.string x.f2)).setCell ⟨W.heap.size, 3, none⟩ (.slice A1 x.f3.length c1)) := (((HB.out.setCell (p := ⟨W.heap.size, 0, none⟩) (Nat.le_refl _) _).setCell (p := ⟨W.heap.size, 1, none⟩) (Nat.le_refl _) _).setCell (p := ⟨W.heap.size, 2, none⟩) (Nat.le_refl _) _).setCell (p := ⟨W.heap.size, 3, none⟩) (Nat.le_refl _) _
 clear HB HF HGB H4 H5 H6 H7 HK r0 r1 r2 r3 f0 f1 f2 f3
 generalize ((((w6.setCell ⟨W.heap.size, 0, none⟩ (.int .u8 x.f0)).setCell ⟨W.heap.size, 1, none⟩ (.int .i64 x.f1)).setCell ⟨W.heap.size, 2, none⟩ (.string x.f2)).setCell ⟨W.heap.size, 3, none⟩ (.slice A1 x.f3.length c1)) = w7 at *
 refine (Check_walk nameOk name_is x A1 c1 w7 hl (Kd.F_now QF)).mono ?_
 rintro e w8 ⟨rfl, hb8⟩
 rw [HKE.out]
 have P4 := (hb8.block _ (blk_lt Q4)).trans Q4
 have P5 := (hb8.block _ (blk_lt Q5)).trans Q5
 have P6 := (hb8.block _ (blk_lt Q6)).trans Q6
 have P7 := (hb8.block _ (blk_lt Q7)).trans Q7
 have PG := (hb8.block _ (blk_lt QG)).trans QG
 have PF := Kd.F_below QF hb8
 have PB := QB.trans (hb8.mono QB.size)
 have H4 := Lib.hid P4; have H5 := Lib.hid P5; have H6 := Lib.hid P6; have H7 := Lib.hid P7; have HG := Lib.hid PG; have HF := Lib.hid PF; have HB := Lib.hid PB
 clear Q4 Q5 Q6 Q7 QG QF QB hb8 PG PF PB
 have r0 := blk_cell P4 0; have r1 := blk_cell P4 1; have r2 := blk_cell P4 2; have r3 := blk_cell P4 3
 have f0 := blk_frozen P4 0; have f1 := blk_frozen P4 1; have f2 := blk_frozen P4 2; have f3 := blk_frozen P4 3
 dsimp at r0 r1 r2 r3
 have s0 := cell_o1 P5; have s1 := blk_frozen P5 0
 have t0 := cell_o1 P6; have t1 := blk_frozen P6 0
 have l7 := cell_o1 P7
 have lg := cellS75_1 HG.out
 clear P4 P5 P6 P7
 have N1 : W.heap.size ≠ W.heap.size + 1 := by omega
 have N2 : W.heap.size ≠ W.heap.size + 1 + 1 := by omega
 have N3 : W.heap.size + 1 ≠ W.heap.size + 1 + 1 := by omega
 have N4 : W.heap.size ≠ W.heap.size + 1 + 1 + 1 := by omega
 have N5 : W.heap.size ≠ W.heap.size + 1 + 1 + 1 + 1 := by omega
 have N6 : W.heap.size + 1 ≠ W.heap.size + 1 + 1 + 1 := by omega
 have N7 : W.heap.size + 1 ≠ W.heap.size + 1 + 1 + 1 + 1 := by omega
 have N8 : W.heap.size + 1 + 1 ≠ W.heap.size + 1 + 1 + 1 := by omega
 have N9 : W.heap.size + 1 + 1 ≠ W.heap.size + 1 + 1 + 1 + 1 := by omega
 go_wp2_with fail
 go_region_held3 (fun w' => w'.cell? ⟨W.heap.size + 1 + 1 + 1 + 1, 0, none⟩ = some (.pointer (some ⟨W.heap.size + 1 + 1 + 1, 0, none⟩)) ∧ w'.cell? ⟨W.heap.size + 1 + 1 + 1, 1, none⟩ = some (.int .i64 a) ∧ w'.cell? ⟨W.heap.size, 0, none⟩ = some (.int .u8 x.f0) ∧ w'.cell? ⟨W.heap.size, 1, none⟩ = some (.int .i64 x.f1) ∧ w'.cell? ⟨W.heap.size, 2, none⟩ = some (.string x.f2) ∧ w'.cell? ⟨W.heap.size, 3, none⟩ = some (.slice A1 x.f3.length c1)) (first | (go_keep; done) | (refine ⟨?_, ?_, ?_, ?_, ?_, ?_⟩ <;> first | (go_keep; done) | (simp [*, World.cell?_setCell_far, World.cell?_setCell_same, World.cell?_setCell_other]; done))) (fail)
 have far : ∀ (V : World) (b p : Nat) (j : Nat) (o : Obj) (u : Value), b ≠ p → V.heap[b]? = some o → (V.setCell ⟨p, j, none⟩ u).heap[b]? = some o := fun V b p j o u hb hV => (Below.heap_setCell V ⟨p, j, none⟩ u b hb).trans hV
 have E4 : ((((((w8.setCell ⟨W.heap.size, 0, none⟩ (.int .u8 x.f0)).setCell ⟨W.heap.size, 1, none⟩ (.int .i64 x.f1)).setCell ⟨W.heap.size, 2, none⟩ (.string x.f2)).setCell ⟨W.heap.size, 3, none⟩ (.slice A1 x.f3.length c1)).setCell ⟨W.heap.size + 1, 0, none⟩ (.int .i64 a)).setCell ⟨W.heap.size + 1 + 1, 0, none⟩ (.int .i64 0)).heap[W.heap.size]? = some (.cells #[.int .u8 x.f0, .int .i64 x.f1, .string x.f2, .slice A1 x.f3.length c1] 25 (0, 0)) := far _ _ _ 0 _ _ N2 (far _ _ _ 0 _ _ N1 (put4 H4.out _ _ _ _))
 have E5 : ((((((w8.setCell ⟨W.heap.size, 0, none⟩ (.int .u8 x.f0)).setCell ⟨W.heap.size, 1, none⟩ (.int .i64 x.f1)).setCell ⟨W.heap.size, 2, none⟩ (.string x.f2)).setCell ⟨W.heap.size, 3, none⟩ (.slice A1 x.f3.length c1)).setCell ⟨W.heap.size + 1, 0, none⟩ (.int .i64 a)).setCell ⟨W.heap.size + 1 + 1, 0, none⟩ (.int .i64 0)).heap[W.heap.size + 1]? = some (.cells #[.int .i64 a] 3 (0, 0)) := far _ _ _ 0 _ _ N3 (blk_put (blk_far4 H5.out N1.symm _ _ _ _) 0 _ rfl)
 have E6 : ((((((w8.setCell ⟨W.heap.size, 0, none⟩ (.int .u8 x.f0)).setCell ⟨W.heap.size, 1, none⟩ (.int .i64 x.f1)).setCell ⟨W.heap.size, 2, none⟩ (.string x.f2)).setCell ⟨W.heap.size, 3, none⟩ (.slice A1 x.f3.length c1)).setCell ⟨W.heap.size + 1, 0, none⟩ (.int .i64 a)).setCell ⟨W.heap.size + 1 + 1, 0, none⟩ (.int .i64 0)).heap[W.heap.size + 1 + 1]? = some (.cells #[.int .i64 0] 28 (0, 0)) := blk_put (far _ _ _ 0 _ _ N3.symm (blk_far4 H6.out N2.symm _ _ _ _)) 0 _ rfl
 have EB : Below W.heap.size W ((((((w8.setCell ⟨W.heap.size, 0, none⟩ (.int .u8 x.f0)).setCell ⟨W.heap.size, 1, none⟩ (.int .i64 x.f1)).setCell ⟨W.heap.size, 2, none⟩ (.string x.f2)).setCell ⟨W.heap.size, 3, none⟩ (.slice A1 x.f3.length c1)).setCell ⟨W.heap.size + 1, 0, none⟩ (.int .i64 a)).setCell ⟨W.heap.size + 1 + 1, 0, none⟩ (.int .i64 0)) := ((((((HB.out.setCell (p := ⟨W.heap.size, 0, none⟩) (Nat.le_refl _) _).setCell (p := ⟨W.heap.size, 1, none⟩) (Nat.le_refl _) _).setCell (p := ⟨W.heap.size, 2, none⟩) (Nat.le_refl _) _).setCell (p := ⟨W.heap.size, 3, none⟩) (Nat.le_refl _) _).setCell (p := ⟨W.heap.size + 1, 0, none⟩) (by show W.heap.size ≤ W.heap.size + 1; omega) _).setCell (p := ⟨W.heap.size + 1 + 1, 0, none⟩) (by show W.heap.size ≤ W.heap.size + 1 + 1; omega) _)
 have EF := (Kd.F_far (Kd.F_far (F_set4 HF.out (p := W.heap.size) (fun k hk => by simp only [World.size_alloc] at hk; omega) (.int .u8 x.f0) (.int .i64 x.f1) (.string x.f2) (.slice A1 x.f3.length c1)) (p := ⟨W.heap.size + 1, 0, none⟩) (fun k hk => by simp only [World.size_alloc] at hk; show k ≠ W.heap.size + 1; omega) (.int .i64 a)) (p := ⟨W.heap.size + 1 + 1, 0, none⟩) (fun k hk => by simp only [World.size_alloc] at hk; show k ≠ W.heap.size + 1 + 1; omega) (.int .i64 0))
 clear r0 r1 r2 r3 f0 f1 f2 f3 s0 s1 t0 t1 l7 lg far
 generalize ((((((w8.setCell ⟨W.heap.size, 0, none⟩ (.int .u8 x.f0)).setCell ⟨W.heap.size, 1, none⟩ (.int .i64 x.f1)).setCell ⟨W.heap.size, 2, none⟩ (.string x.f2)).setCell ⟨W.heap.size, 3, none⟩ (.slice A1 x.f3.length c1)).setCell ⟨W.heap.size + 1, 0, none⟩ (.int .i64 a)).setCell ⟨W.heap.size + 1 + 1, 0, none⟩ (.int .i64 0)) = wv at *
 replace E4 : wv.drew.heap[W.heap.size]? = some (.cells #[.int .u8 x.f0, .int .i64 x.f1, .string x.f2, .slice A1 x.f3.length c1] 25 (0, 0)) := E4
 replace E5 : wv.drew.heap[W.heap.size + 1]? = some (.cells #[.int .i64 a] 3 (0, 0)) := E5
 replace E6 : wv.drew.heap[W.heap.size + 1 + 1]? = some (.cells #[.int .i64 0] 28 (0, 0)) := E6
 replace EB := EB.drew
 replace EF := Kd.F_drew EF
 generalize wv.drew = wf at *
 go_wp2_with fail
 refine leaves_cons (f := 41) (args := #[.pointer (some ⟨W.heap.size + 1 + 1 + 1 + 1, 0, none⟩), .pointer (some ⟨W.heap.size, 0, none⟩), .pointer (some ⟨W.heap.size + 1, 0, none⟩), .pointer (some ⟨W.heap.size + 1 + 1, 0, none⟩)]) (by simp) (by simp [go_sem]) ?_
 refine (catch_idle _ _ _ _ wf).mono ?_
 rintro e u' w9 ⟨rfl, rfl, rfl⟩
 have k4 := blk_alloc E4 (.cells #[.int .i64 0] 77); have k5 := blk_alloc E5 (.cells #[.int .i64 0] 77); have k6 := blk_alloc E6 (.cells #[.int .i64 0] 77)
 have c0 := blk_cell k4 0; have c11 := blk_cell k4 1; have c2 := blk_cell k4 2; have c3 := blk_cell k4 3
 dsimp at c0 c11 c2 c3
 have c5 := cell_o1 k5; have c6 := cell_o1 k6
 have hC9 := Kd.F_mono (Kd.F_alloc EF (.cells #[.int .i64 0] 77)) (ok' := fun k => W.heap.size ≤ k) (fun k hk => by simp only [World.size_alloc] at hk; omega)
 have hB9 := EB.alloc EB.size (.cells #[.int .i64 0] 77)
 generalize wf.alloc (.cells #[.int .i64 0] 77) = w9 at *
 simp [Leaves, settle, results, Tryd.results22, go_sem, c0, c11, c2, c3, c5, c6]
 exact ⟨A1, c1, rfl, hl, hC9, hB9⟩
set_option maxHeartbeats 4000000 in
set_option maxRecDepth 100000 in
theorem parse_deep (A : Option Addr) (c : Nat) (fr : Int) (W : World) (hC : Kd.C k45 W A T.length T) (hv : PV T W) (h0 : 0 ≤ fr) (h1 : fr ≤ (T.length : Int)) (f : Nat) (x : S25) (a : Int) (hr : rk nameOk numT T f 0 fr = some (.ok x a)) (hk : okE nameOk x = false) :
  Calls Tryd.prog 22 #[.slice A T.length c, .int .i64 fr] W (ParsePost W z25 fr 3) := by
 have g1 : decide (fr < 0) = false := decide_eq_false (by omega)
 have g2 : decide ((T.length : Int) < fr) = false := decide_eq_false (by omega)
 have HC := Lib.hid hC; have HV := Lib.hid hv; have HR := Lib.hid hr; have HKE := Lib.hid hk
 have hmf : ∀ (fn : Fn) (first cap : Array Value) (w : World), (Instr.makeFunc fn first cap).run Tryd.prog w = .ok (.func fn first cap) w := fun _ _ _ _ => rfl
 clear hC hv hr hk
 go_enter_defers Tryd.func22, Tryd.ntmps22
 go_wp2_with fail
 have hS := st_start2 (c := c) HC.out h0 h1
 obtain ⟨e4, e5, e6, e7⟩ := start_blocks (T := T) A c fr W
 refine ((read_all f).1 f (Nat.le_refl _) 0 fr _ (W.heap.size + 1 + 1 + 1) W _ HR.out (by omega) hS HV.out).mono ?_
 rintro e w6 ⟨hs6, A1, c1, rfl, hl, hF⟩
 have q4 := kb_blk hs6.K e4 (by omega)
 have q5 := kb_blk hs6.K e5 (by omega)
 have q6 := kb_blk hs6.K e6 (by omega)
 have q7 := kb_blk hs6.K e7 (by omega)
 obtain ⟨A2, c2, hgb, _, _⟩ := hs6.I
 have HB := Lib.hid hs6.B; have HF := Lib.hid hF
 have HGB := Lib.hid hgb; have H5 := Lib.hid q5; have H6 := Lib.hid q6; have H7 := Lib.hid q7
 have hz := blk_lt q7
 have hz5 : W.heap.size + 1 + 1 + 1 + 1 + 1 ≤ w6.heap.size := by omega
 have HK := Lib.hid hs6.K
 have r0 := blk_cell q4 0; have r1 := blk_cell q4 1; have r2 := blk_cell q4 2; have r3 := blk_cell q4 3
 have f0 := blk_frozen q4 0; have f1 := blk_frozen q4 1; have f2 := blk_frozen q4 2; have f3 := blk_frozen q4 3
 dsimp at r0 r1 r2 r3
 have H4 := Lib.hid q4
 clear hS e4 e5 e6 e7 hs6 q5 q6 q7 hgb hF q4
 go_wp2_with fail
 have Q4 := put4 H4.out (.int .u8 x.f0) (.int .i64 x.f1) (.string x.f2) (.slice A1 x.f3.length c1)
 have Q5 := blk_far4 (p := W.heap.size) H5.out (by omega) (.int .u8 x.f0) (.int .i64 x.f1) (.string x.f2) (.slice A1 x.f3.length c1)
 have Q6 := blk_far4 (p := W.heap.size) H6.out (by omega) (.int .u8 x.f0) (.int .i64 x.f1) (.string x.f2) (.slice A1 x.f3.length c1)
 have Q7 := blk_far4 (p := W.heap.size) H7.out (by omega) (.int .u8 x.f0) (.int .i64 x.f1) (.string x.f2) (.slice A1 x.f3.length c1)
 have QG := blk_far4 (p := W.heap.size) HGB.out (by omega) (.int .u8 x.f0) (.int .i64 x.f1) (.string x.f2) (.slice A1 x.f3.length c1)
 have QF := F_set4 HF.out (p := W.heap.size) (fun k hk => by simp only [World.size_alloc] at hk; omega) (.int .u8 x.f0) (.int .i64 x.f1) (.string x.f2) (.slice A1 x.f3.length c1)
 have QB : Below W.heap.size W ((((w6.setCell ⟨W.heap.size, 0, none⟩ (.int .u8 x.f0)).setCell ⟨W.heap.size, 1, none⟩ (.int .i64 x.f1)).setCell ⟨W.heap.size, 2, none⟩ (.string x.f2)).setCell ⟨W.heap.size, 3, none⟩ (.slice A1 x.f3.length c1)) := (((HB.out.setCell (p := ⟨W.heap.size, 0, none⟩) (Nat.le_refl _) _).setCell (p := ⟨W.heap.size, 1, none⟩) (Nat.le_refl _) _).setCell (p := ⟨W.heap.size, 2, none⟩) (Nat.le_refl _) _).setCell (p := ⟨W.heap.size, 3, none⟩) (Nat.le_refl _) _
 clear HB HF HGB H4 H5 H6 H7 HK r0 r1 r2 r3 f0 f1 f2 f3
 generalize ((((w6.setCell ⟨W.heap.size, 0, none⟩ (.int .u8 x.f0)).setCell ⟨W.heap.size, 1, none⟩ (.int .i64 x.f1)).setCell ⟨W.heap.size, 2, none⟩ (.string x.f2)).setCell ⟨W.heap.size, 3, none⟩ (.slice A1 x.f3.length c1)) = w7 at *
 refine (Check_walk nameOk name_is x A1 c1 w7 hl (Kd.F_now QF)).mono ?_
 rintro e w8 ⟨rfl, hb8⟩
 rw [HKE.out]
 have P4 := (hb8.block _ (blk_lt Q4)).trans Q4
 have P5 := (hb8.block _ (blk_lt Q5)).trans Q5
 have P6 := (hb8.block _ (blk_lt Q6)).trans Q6
 have P7 := (hb8.block _ (blk_lt Q7)).trans Q7
 have PG := (hb8.block _ (blk_lt QG)).trans QG
 have PF := Kd.F_below QF hb8
 have PB := QB.trans (hb8.mono QB.size)
 have H4 := Lib.hid P4; have H5 := Lib.hid P5; have H6 := Lib.hid P6; have H7 := Lib.hid P7; have HG := Lib.hid PG; have HF := Lib.hid PF; have HB := Lib.hid PB
 clear Q4 Q5 Q6 Q7 QG QF QB hb8 PG PF PB
 have r0 := blk_cell P4 0; have r1 := blk_cell P4 1; have r2 := blk_cell P4 2; have r3 := blk_cell P4 3
 have f0 := blk_frozen P4 0; have f1 := blk_frozen P4 1; have f2 := blk_frozen P4 2; have f3 := blk_frozen P4 3
 dsimp at r0 r1 r2 r3
 have s0 := cell_o1 P5; have s1 := blk_frozen P5 0
 have t0 := cell_o1 P6; have t1 := blk_frozen P6 0
 have l7 := cell_o1 P7
 have lg := cellS75_1 HG.out
 clear P4 P5 P6 P7
 have N1 : W.heap.size ≠ W.heap.size + 1 := by omega
 have N2 : W.heap.size ≠ W.heap.size + 1 + 1 := by omega
 have N3 : W.heap.size + 1 ≠ W.heap.size + 1 + 1 := by omega
 have N4 : W.heap.size ≠ W.heap.size + 1 + 1 + 1 := by omega
 have N5 : W.heap.size ≠ W.heap.size + 1 + 1 + 1 + 1 := by omega
 have N6 : W.heap.size + 1 ≠ W.heap.size + 1 + 1 + 1 := by omega
 have N7 : W.heap.size + 1 ≠ W.heap.size + 1 + 1 + 1 + 1 := by omega
 have N8 : W.heap.size + 1 + 1 ≠ W.heap.size + 1 + 1 + 1 := by omega
 have N9 : W.heap.size + 1 + 1 ≠ W.heap.size + 1 + 1 + 1 + 1 := by omega
 go_wp2_with fail
 have far : ∀ (V : World) (b p : Nat) (j : Nat) (o : Obj) (u : Value), b ≠ p → V.heap[b]? = some o → (V.setCell ⟨p, j, none⟩ u).heap[b]? = some o := fun V b p j o u hb hV => (Below.heap_setCell V ⟨p, j, none⟩ u b hb).trans hV
 have E4 : ((((((w8.setCell ⟨W.heap.size, 0, none⟩ (.int .u8 0)).setCell ⟨W.heap.size, 1, none⟩ (.int .i64 0)).setCell ⟨W.heap.size, 2, none⟩ (.string ⟨#[]⟩)).setCell ⟨W.heap.size, 3, none⟩ (.slice none 0 0)).setCell ⟨W.heap.size + 1, 0, none⟩ (.int .i64 fr)).setCell ⟨W.heap.size + 1 + 1, 0, none⟩ (.int .i64 3)).heap[W.heap.size]? = some (.cells #[.int .u8 0, .int .i64 0, .string ⟨#[]⟩, .slice none 0 0] 25 (0, 0)) := far _ _ _ 0 _ _ N2 (far _ _ _ 0 _ _ N1 (put4 H4.out _ _ _ _))
 have E5 : ((((((w8.setCell ⟨W.heap.size, 0, none⟩ (.int .u8 0)).setCell ⟨W.heap.size, 1, none⟩ (.int .i64 0)).setCell ⟨W.heap.size, 2, none⟩ (.string ⟨#[]⟩)).setCell ⟨W.heap.size, 3, none⟩ (.slice none 0 0)).setCell ⟨W.heap.size + 1, 0, none⟩ (.int .i64 fr)).setCell ⟨W.heap.size + 1 + 1, 0, none⟩ (.int .i64 3)).heap[W.heap.size + 1]? = some (.cells #[.int .i64 fr] 3 (0, 0)) := far _ _ _ 0 _ _ N3 (blk_put (blk_far4 H5.out N1.symm _ _ _ _) 0 _ rfl)
 have E6 : ((((((w8.setCell ⟨W.heap.size, 0, none⟩ (.int .u8 0)).setCell ⟨W.heap.size, 1, none⟩ (.int .i64 0)).setCell ⟨W.heap.size, 2, none⟩ (.string ⟨#[]⟩)).setCell ⟨W.heap.size, 3, none⟩ (.slice none 0 0)).setCell ⟨W.heap.size + 1, 0, none⟩ (.int .i64 fr)).setCell ⟨W.heap.size + 1 + 1, 0, none⟩ (.int .i64 3)).heap[W.heap.size + 1 + 1]? = some (.cells #[.int .i64 3] 28 (0, 0)) := blk_put (far _ _ _ 0 _ _ N3.symm (blk_far4 H6.out N2.symm _ _ _ _)) 0 _ rfl
 have EB : Below W.heap.size W ((((((w8.setCell ⟨W.heap.size, 0, none⟩ (.int .u8 0)).setCell ⟨W.heap.size, 1, none⟩ (.int .i64 0)).setCell ⟨W.heap.size, 2, none⟩ (.string ⟨#[]⟩)).setCell ⟨W.heap.size, 3, none⟩ (.slice none 0 0)).setCell ⟨W.heap.size + 1, 0, none⟩ (.int .i64 fr)).setCell ⟨W.heap.size + 1 + 1, 0, none⟩ (.int .i64 3)) := ((((((HB.out.setCell (p := ⟨W.heap.size, 0, none⟩) (Nat.le_refl _) _).setCell (p := ⟨W.heap.size, 1, none⟩) (Nat.le_refl _) _).setCell (p := ⟨W.heap.size, 2, none⟩) (Nat.le_refl _) _).setCell (p := ⟨W.heap.size, 3, none⟩) (Nat.le_refl _) _).setCell (p := ⟨W.heap.size + 1, 0, none⟩) (by show W.heap.size ≤ W.heap.size + 1; omega) _).setCell (p := ⟨W.heap.size + 1 + 1, 0, none⟩) (by show W.heap.size ≤ W.heap.size + 1 + 1; omega) _)
 clear r0 r1 r2 r3 f0 f1 f2 f3 s0 s1 t0 t1 l7 lg far
 generalize ((((((w8.setCell ⟨W.heap.size, 0, none⟩ (.int .u8 0)).setCell ⟨W.heap.size, 1, none⟩ (.int .i64 0)).setCell ⟨W.heap.size, 2, none⟩ (.string ⟨#[]⟩)).setCell ⟨W.heap.size, 3, none⟩ (.slice none 0 0)).setCell ⟨W.heap.size + 1, 0, none⟩ (.int .i64 fr)).setCell ⟨W.heap.size + 1 + 1, 0, none⟩ (.int .i64 3)) = wf at *
 refine leaves_cons (f := 41) (args := #[.pointer (some ⟨W.heap.size + 1 + 1 + 1 + 1, 0, none⟩), .pointer (some ⟨W.heap.size, 0, none⟩), .pointer (some ⟨W.heap.size + 1, 0, none⟩), .pointer (some ⟨W.heap.size + 1 + 1, 0, none⟩)]) (by simp) (by simp [go_sem]) ?_
 refine (catch_idle _ _ _ _ wf).mono ?_
 rintro e u' w9 ⟨rfl, rfl, rfl⟩
 have k4 := blk_alloc E4 (.cells #[.int .i64 0] 77); have k5 := blk_alloc E5 (.cells #[.int .i64 0] 77); have k6 := blk_alloc E6 (.cells #[.int .i64 0] 77)
 have c0 := blk_cell k4 0; have c11 := blk_cell k4 1; have c2 := blk_cell k4 2; have c3 := blk_cell k4 3
 dsimp at c0 c11 c2 c3
 have c5 := cell_o1 k5; have c6 := cell_o1 k6
 have hB9 := EB.alloc EB.size (.cells #[.int .i64 0] 77)
 generalize wf.alloc (.cells #[.int .i64 0] 77) = w9 at *
 simp [Leaves, settle, results, Tryd.results22, go_sem, c0, c11, c2, c3, c5, c6]
 exact ⟨none, 0, rfl, Nat.le_refl _, Kd.F_nil _ _ _, hB9⟩
end Go.Proofs.YtbdciibbgiphcaaDoor.V

/- The laws' own 'read': a text, all of it. -/
namespace Go.Proofs.YtbdciibbgiphcaaDoor.V
set_option linter.unusedVariables false
set_option linter.unusedSimpArgs false
set_option linter.unusedSectionVars false
open Go.RowKit Go.Proofs.YtbdciibbgiphcaaDoorW.PrintWords Go.Proofs.YtbdciibbgiphcaaDoorW.PrintLast Go.Proofs.YtbdciibbgiphcaaDoorW.PrintMore
theorem head_kind (l : List Int) : (Tok.head l).1 = 1 ∨ (Tok.head l).1 = 2 ∨ (Tok.head l).1 = 3 := by
 unfold Tok.head
 split
 ·exact .inl rfl
 ·split
  ·exact .inr (.inl rfl)
  ·exact .inr (.inr rfl)
theorem read_kinds : ∀ (f : Nat) (l : List Int) (p : Nat) (ts : List Tok.T) (q : Nat), Tok.read f l p = (some ts, q) → ∀ t ∈ ts, t.kind = 1 ∨ t.kind = 2 ∨ t.kind = 3 := by
 intro f
 induction f with
 | zero =>
  intro l p ts q h t ht
  cases l with
  | nil => simp [Tok.read] at h; obtain ⟨rfl, _⟩ := h; cases ht
  | cons c r => simp [Tok.read] at h
 | succ f ih =>
  intro l p ts q h t ht
  cases l with
  | nil => simp [Tok.read] at h; obtain ⟨rfl, _⟩ := h; cases ht
  | cons c r =>
   simp only [Tok.read] at h
   split at h
   ·exact ih _ _ _ _ h t ht
   ·split at h
    ·split at h
     ·rename_i ts2 q2 h2
      injection h with h3 h4
      injection h3 with h3
      subst h3
      rcases List.mem_cons.1 ht with rfl | ht
      ·exact head_kind _
      ·exact ih _ _ _ _ h2 t ht
     ·simp at h
    ·simp at h
theorem readTok_ok {s : ByteArray} {T : List S45} {p e : Int} (h : tokens_Read.f s = some (T, p, e)) : TokOk T := by
 unfold tokens_Read.f at h
 injection h with h
 split at h
 ·unfold readOf at h
  split at h
  ·rename_i ts q hq
   injection h with h1 h2
   subst h1
   intro t ht
   obtain ⟨u, hu, rfl⟩ := List.mem_map.1 ht
   have := read_kinds _ _ _ _ _ hq u hu
   show 0 ≤ u.kind ∧ u.kind ≤ 255
   omega
  ·injection h with h1 h2
   subst h1
   exact fun t ht => by cases ht
 ·injection h with h1 h2
  subst h1
  exact fun t ht => by cases ht
/-- Parse, wherever it begins. -/
theorem parse_walk {T : List S45} (A : Option Addr) (c : Nat) (fr : Int) (W : World) (hC : Kd.C k45 W A T.length T) (hv : PV T W) (h0 : 0 ≤ fr) (h1 : fr ≤ (T.length : Int)) (x : S25) (n e : Int) (h : parseT nameOk numT T fr = some (x, n, e)) :
  Calls Tryd.prog 22 #[.slice A T.length c, .int .i64 fr] W (ParsePost W x n e) := by
 unfold parseT at h
 rw [if_neg (by omega)] at h
 cases hr : rk nameOk numT T (10 * (T.length + 1)) 0 fr with
 | none => rw [hr] at h; simp at h
 | some r =>
  rw [hr] at h
  cases r with
  | bad er a =>
   simp only [Option.some.injEq, Prod.mk.injEq] at h
   obtain ⟨rfl, rfl, rfl⟩ := h
   exact parse_bad A c fr W hC hv h0 h1 _ _ _ hr
  | ok y a =>
   dsimp only at h
   cases hk : okE nameOk y with
   | true =>
    rw [hk, if_pos rfl] at h
    simp only [Option.some.injEq, Prod.mk.injEq] at h
    obtain ⟨rfl, rfl, rfl⟩ := h
    exact parse_ok A c fr W hC hv h0 h1 _ _ _ hr hk
   | false =>
    rw [hk, if_neg (by simp)] at h
    simp only [Option.some.injEq, Prod.mk.injEq] at h
    obtain ⟨rfl, rfl, rfl⟩ := h
    exact parse_deep A c fr W hC hv h0 h1 _ _ _ hr hk
def readP (s : ByteArray) : Option (S25 × Bool) := (tokens_Read.f s).bind fun r => (parseT nameOk numT r.1 0).bind fun q => some (q.1, decide (r.2.2 = 0) && (decide (q.2.2 = 0) && decide (q.2.1 = (r.1.length : Int))))
set_option maxHeartbeats 4000000 in
set_option maxRecDepth 100000 in
theorem read_law (s : ByteArray) (x : S25) (b : Bool) (W : World) (hv : VarOk W) (h : readP s = some (x, b)) :
  Calls Tryd.prog 18 #[.string s] W fun e W' => ∃ A c, e = .returned (.tuple #[.agg #[.int .u8 x.f0, .int .i64 x.f1, .string x.f2, .slice A x.f3.length c], .bool b]) ∧ x.f3.length ≤ c ∧ Kd.F k25 W' (fun k => W.heap.size ≤ k) A x.f3.length x.f3 ∧ Below W.heap.size W W' := by
 obtain ⟨⟨T, p, e⟩, h1, h2⟩ := Option.bind_eq_some_iff.1 h
 obtain ⟨⟨y, n, f⟩, h3, h4⟩ := Option.bind_eq_some_iff.1 h2
 simp only [Option.some.injEq, Prod.mk.injEq] at h4
 obtain ⟨rfl, rfl⟩ := h4
 have HV := Lib.hid hv; have H1 := Lib.hid h1; have H3 := Lib.hid h3
 have hB0 : Below W.heap.size W (W.alloc (.cells #[.int .u8 0, .int .i64 0, .string ⟨#[]⟩, .slice none 0 0] 25)) := (Below.refl _ _).alloc (Nat.le_refl _) _
 have HB0 := Lib.hid hB0
 have HZ0 := Lib.hid (heap_alloc_new W (.cells #[.int .u8 0, .int .i64 0, .string ⟨#[]⟩, .slice none 0 0] 25))
 clear h hv h1 h2 h3 hB0
 go_enter Tryd.func18, Tryd.ntmps18
 go_wp2_with fail
 refine (tokens_Read.calls s T p e _ H1.out).mono ?_
 rintro er w1 ⟨v0, rfl, hR, hb1⟩
 obtain ⟨A1, c1, rfl, hl1, hC1⟩ := Kd.R_reads hR
 have HB1 := Lib.hid (HB0.out.trans (hb1.mono (by simp)))
 have HZ1 := Lib.hid ((hb1.block _ (blk_lt HZ0.out)).trans HZ0.out)
 have HC1 := Lib.hid hC1
 clear hR hb1 hC1 HZ0 HB0
 go_wp2_with fail
 refine (parse_walk A1 c1 0 w1 HC1.out ⟨HV.out.step HB1.out, readTok_ok H1.out⟩ (Int.le_refl _) (by omega) _ _ _ H3.out).mono ?_
 have hz1 := blk_lt HZ1.out
 rintro er w2 ⟨A2, c2, rfl, hl2, hF2, hb2⟩
 have HB2 := Lib.hid (HB1.out.trans (hb2.mono HB1.out.size))
 have HZ2 := Lib.hid ((hb2.block _ (blk_lt HZ1.out)).trans HZ1.out)
 have HF2 := Lib.hid (Kd.F_mono hF2 (ok' := fun k => W.heap.size + 1 ≤ k) (fun k hk => by omega))
 have hz2 := blk_lt HZ2.out
 clear hb2 hF2 HZ1 HB1 HC1
 have r0 := blk_cell HZ2.out 0; have r1 := blk_cell HZ2.out 1; have r2 := blk_cell HZ2.out 2; have r3 := blk_cell HZ2.out 3
 have f0 := blk_frozen HZ2.out 0; have f1 := blk_frozen HZ2.out 1; have f2 := blk_frozen HZ2.out 2; have f3 := blk_frozen HZ2.out 3
 dsimp at r0 r1 r2 r3
 clear HV H1 H3
 have qd : ∀ a b : Int, (a == b) = decide (a = b) := fun a b => by by_cases h : a = b <;> simp [h]
 by_cases he : e = 0
 ·subst he
  by_cases hf : f = 0
  ·subst hf
   go_wp2_with fail
   refine bodyPost_ret (results_ct rfl _ _ W.heap.size 25 _ (0, 0) _ rfl (blk_alloc (put4 HZ2.out _ _ _ _) _) Tryd.underlying25 rfl (by kernel_rfl)) rfl ⟨A2, c2, by show Ending.returned (.tuple #[_, .bool (n == (T.length : Int))]) = _; rw [qd], hl2, Kd.F_mono (Kd.F_alloc (F_set4 HF2.out (fun k hk => by omega) _ _ _ _) _) (fun k hk => by omega), ((((HB2.out.setCell (p := ⟨W.heap.size, 0, none⟩) (Nat.le_refl _) _).setCell (p := ⟨W.heap.size, 1, none⟩) (Nat.le_refl _) _).setCell (p := ⟨W.heap.size, 2, none⟩) (Nat.le_refl _) _).setCell (p := ⟨W.heap.size, 3, none⟩) (Nat.le_refl _) _).alloc (by simp [World.setCell]; omega) _⟩

  ·have g1 : (f == 0) = false := by simpa using hf
   go_wp2_with fail
   refine bodyPost_ret (results_ct rfl _ _ W.heap.size 25 _ (0, 0) _ rfl (blk_alloc (put4 HZ2.out _ _ _ _) _) Tryd.underlying25 rfl (by kernel_rfl)) rfl ⟨A2, c2, by simp [hf], hl2, Kd.F_mono (Kd.F_alloc (F_set4 HF2.out (fun k hk => by omega) _ _ _ _) _) (fun k hk => by omega), ((((HB2.out.setCell (p := ⟨W.heap.size, 0, none⟩) (Nat.le_refl _) _).setCell (p := ⟨W.heap.size, 1, none⟩) (Nat.le_refl _) _).setCell (p := ⟨W.heap.size, 2, none⟩) (Nat.le_refl _) _).setCell (p := ⟨W.heap.size, 3, none⟩) (Nat.le_refl _) _).alloc (by simp [World.setCell]; omega) _⟩

 ·have g1 : (e == 0) = false := by simpa using he
  go_wp2_with fail
  refine bodyPost_ret (results_ct rfl _ _ W.heap.size 25 _ (0, 0) _ rfl (blk_alloc (put4 HZ2.out _ _ _ _) _) Tryd.underlying25 rfl (by kernel_rfl)) rfl ⟨A2, c2, by simp [he], hl2, Kd.F_mono (Kd.F_alloc (F_set4 HF2.out (fun k hk => by omega) _ _ _ _) _) (fun k hk => by omega), ((((HB2.out.setCell (p := ⟨W.heap.size, 0, none⟩) (Nat.le_refl _) _).setCell (p := ⟨W.heap.size, 1, none⟩) (Nat.le_refl _) _).setCell (p := ⟨W.heap.size, 2, none⟩) (Nat.le_refl _) _).setCell (p := ⟨W.heap.size, 3, none⟩) (Nat.le_refl _) _).alloc (by simp [World.setCell]; omega) _⟩

end Go.Proofs.YtbdciibbgiphcaaDoor.V

-- Written for this claim by wip/myprint.py (a program of this session over the kit's printer).
namespace Go.Proofs.YtbdciibbgiphcaaDoor.V
open Go.RowKit Go.Proofs.YtbdciibbgiphcaaDoorW.PrintWords Go.Proofs.YtbdciibbgiphcaaDoorW.PrintLast Go.Proofs.YtbdciibbgiphcaaDoorW.PrintMore
attribute [local go_sem] max2_int min2_int max_two min_two max_three min_three max_four min_four   -- for this text's walks alone
set_option linter.unusedVariables false
set_option linter.unusedSimpArgs false


/-! ### a group: belfrylaw01_SameExprs, belfrylaw01_SameExpr -/
mutual
def belfrylaw01_SameExprs.l0 : Nat → List (S25) → List (S25) → Int → Option (Bool)
 | 0, _, _, _ => none
 | k + 1, x0, x1, x5 => if x5 < (x0.length : Int) then (if 0 ≤ x5 then (if x5 < (x1.length : Int) then ((belfrylaw01_SameExpr.f k ((rd_T25 x0 x5).f0) ((rd_T25 x0 x5).f1) ((rd_T25 x0 x5).f2) ((rd_T25 x0 x5).f3) ((rd_T25 x1 x5).f0) ((rd_T25 x1 x5).f1) ((rd_T25 x1 x5).f2) ((rd_T25 x1 x5).f3)).bind fun t331 => (if t331 = true then (belfrylaw01_SameExprs.l0 k x0 x1 (wrap64 (x5 + 1))) else (some false))) else (none)) else (none)) else (some true)
def belfrylaw01_SameExprs.f : Nat → List (S25) → List (S25) → Option (Bool)
 | 0, _, _ => none
 | k + 1, l0, l1 => if (l0.length : Int) = (l1.length : Int) then (belfrylaw01_SameExprs.l0 k l0 l1 0) else (some false)
def belfrylaw01_SameExpr.f : Nat → Int → Int → ByteArray → List (S25) → Int → Int → ByteArray → List (S25) → Option (Bool)
 | 0, _, _, _, _, _, _, _, _ => none
 | k + 1, a0_0, a0_1, a0_2, l0_3, a1_0, a1_1, a1_2, l1_3 => if a0_0 = a1_0 then (if a0_1 = a1_1 then (if a0_2.toList = a1_2.toList then ((belfrylaw01_SameExprs.f k l0_3 l1_3).bind fun t334 => (some t334)) else (some false)) else (some false)) else (some false)
end
theorem belfrylaw01_SameExprs.mono_g : ∀ k, (∀ y0 y1, LeO (belfrylaw01_SameExprs.f k y0 y1) (belfrylaw01_SameExprs.f (k + 1) y0 y1)) ∧ (∀ y0 y1 y2, LeO (belfrylaw01_SameExprs.l0 k y0 y1 y2) (belfrylaw01_SameExprs.l0 (k + 1) y0 y1 y2)) ∧ (∀ y0 y1 y2 y3 y4 y5 y6 y7, LeO (belfrylaw01_SameExpr.f k y0 y1 y2 y3 y4 y5 y6 y7) (belfrylaw01_SameExpr.f (k + 1) y0 y1 y2 y3 y4 y5 y6 y7))
 | 0 => ⟨fun _ _ r h => by simp [belfrylaw01_SameExprs.f] at h, fun _ _ _ r h => by simp [belfrylaw01_SameExprs.l0] at h, fun _ _ _ _ _ _ _ _ r h => by simp [belfrylaw01_SameExpr.f] at h⟩
 | k + 1 => by
  obtain ⟨ih0, ih1, ih2⟩ := belfrylaw01_SameExprs.mono_g k
  refine ⟨?_, ?_, ?_⟩
  ·intro y0 y1
   unfold belfrylaw01_SameExprs.f
   repeat' first
   | (with_reducible exact ih0 _ _)
   | (with_reducible exact ih1 _ _ _)
   | (with_reducible exact ih2 _ _ _ _ _ _ _ _)
   | (with_reducible exact LeO.refl _)
   | (with_reducible exact LeO.none _)
   | (with_reducible refine LeO.ite ?_ ?_)
   | (with_reducible refine LeO.bind ?_ (fun _ => ?_))
   | exact ih0 _ _
   | exact ih1 _ _ _
   | exact ih2 _ _ _ _ _ _ _ _
   | exact LeO.none _
   | refine LeO.ite ?_ ?_
   | refine LeO.bind ?_ (fun _ => ?_)
  ·intro y0 y1 y2
   unfold belfrylaw01_SameExprs.l0
   repeat' first
   | (with_reducible exact ih0 _ _)
   | (with_reducible exact ih1 _ _ _)
   | (with_reducible exact ih2 _ _ _ _ _ _ _ _)
   | (with_reducible exact LeO.refl _)
   | (with_reducible exact LeO.none _)
   | (with_reducible refine LeO.ite ?_ ?_)
   | (with_reducible refine LeO.bind ?_ (fun _ => ?_))
   | exact ih0 _ _
   | exact ih1 _ _ _
   | exact ih2 _ _ _ _ _ _ _ _
   | exact LeO.none _
   | refine LeO.ite ?_ ?_
   | refine LeO.bind ?_ (fun _ => ?_)
  ·intro y0 y1 y2 y3 y4 y5 y6 y7
   unfold belfrylaw01_SameExpr.f
   repeat' first
   | (with_reducible exact ih0 _ _)
   | (with_reducible exact ih1 _ _ _)
   | (with_reducible exact ih2 _ _ _ _ _ _ _ _)
   | (with_reducible exact LeO.refl _)
   | (with_reducible exact LeO.none _)
   | (with_reducible refine LeO.ite ?_ ?_)
   | (with_reducible refine LeO.bind ?_ (fun _ => ?_))
   | exact ih0 _ _
   | exact ih1 _ _ _
   | exact ih2 _ _ _ _ _ _ _ _
   | exact LeO.none _
   | refine LeO.ite ?_ ?_
   | refine LeO.bind ?_ (fun _ => ?_)
theorem belfrylaw01_SameExprs.mono : ∀ a0 a1 k, LeO (belfrylaw01_SameExprs.f k a0 a1) (belfrylaw01_SameExprs.f (k + 1) a0 a1) := by
 intro a0 a1 k
 obtain ⟨ih0, ih1, ih2⟩ := belfrylaw01_SameExprs.mono_g k
 exact ih0 a0 a1
theorem belfrylaw01_SameExpr.mono : ∀ a0 a1 a2 a3 a4 a5 a6 a7 k, LeO (belfrylaw01_SameExpr.f k a0 a1 a2 a3 a4 a5 a6 a7) (belfrylaw01_SameExpr.f (k + 1) a0 a1 a2 a3 a4 a5 a6 a7) := by
 intro a0 a1 a2 a3 a4 a5 a6 a7 k
 obtain ⟨ih0, ih1, ih2⟩ := belfrylaw01_SameExprs.mono_g k
 exact ih2 a0 a1 a2 a3 a4 a5 a6 a7
/-! ### belfrylaw01_SameExprs: function 36 -/
def belfrylaw01_SameExprs.T6 : Bool × List (List Nat × List Nat) := (true, [([], []), ([], []), ([0, 1], [0, 1]), ([2], [2]), ([], []), ([], []), ([4, 5], [4, 5]), ([6], [6]), ([3, 7], [3, 7]), ([8], [8])])
def belfrylaw01_SameExprs.B6 : List Nat := [0, 0, 3, 7, 0, 0, 48, 112, 255, 511]
theorem belfrylaw01_SameExprs.tab6 : rtab .any (opsOf Tryd.f36 6) = belfrylaw01_SameExprs.T6 := by kernel_rfl
theorem belfrylaw01_SameExprs.bits6 : waitsOk belfrylaw01_SameExprs.T6.2 belfrylaw01_SameExprs.B6 = true := by kernel_rfl
set_option maxHeartbeats 8000000 in
set_option maxRecDepth 100000 in
theorem belfrylaw01_SameExprs.step (k : Nat) (ih36 : ∀ k', k' < k → ∀ (A0 : Option Addr) (c0 : Nat) (l0 : List (S25)) (A1 : Option Addr) (c1 : Nat) (l1 : List (S25)) (r : Bool) (w : World) (hr0 : Kd.C k25 w A0 l0.length l0) (hc0 : l0.length ≤ c0) (hr1 : Kd.C k25 w A1 l1.length l1) (hc1 : l1.length ≤ c1) (h : belfrylaw01_SameExprs.f k' l0 l1 = some r), Calls Tryd.prog 36 #[.slice A0 l0.length c0, .slice A1 l1.length c1] w fun e w' => e = .returned (.bool r) ∧ Below w.heap.size w w') (ih19 : ∀ k', k' < k → ∀ (a0_0 : Int) (a0_1 : Int) (a0_2 : ByteArray) (A0_3 : Option Addr) (c0_3 : Nat) (l0_3 : List (S25)) (a1_0 : Int) (a1_1 : Int) (a1_2 : ByteArray) (A1_3 : Option Addr) (c1_3 : Nat) (l1_3 : List (S25)) (r : Bool) (w : World) (hr0_3 : Kd.C k25 w A0_3 l0_3.length l0_3) (hc0_3 : l0_3.length ≤ c0_3) (hr1_3 : Kd.C k25 w A1_3 l1_3.length l1_3) (hc1_3 : l1_3.length ≤ c1_3) (h : belfrylaw01_SameExpr.f k' a0_0 a0_1 a0_2 l0_3 a1_0 a1_1 a1_2 l1_3 = some r), Calls Tryd.prog 19 #[.agg #[.int .u8 a0_0, .int .i64 a0_1, .string a0_2, .slice A0_3 l0_3.length c0_3], .agg #[.int .u8 a1_0, .int .i64 a1_1, .string a1_2, .slice A1_3 l1_3.length c1_3]] w fun e w' => e = .returned (.bool r) ∧ Below w.heap.size w w') : ∀ (A0 : Option Addr) (c0 : Nat) (l0 : List (S25)) (A1 : Option Addr) (c1 : Nat) (l1 : List (S25)) (r : Bool) (w : World) (hr0 : Kd.C k25 w A0 l0.length l0) (hc0 : l0.length ≤ c0) (hr1 : Kd.C k25 w A1 l1.length l1) (hc1 : l1.length ≤ c1) (h : belfrylaw01_SameExprs.f k l0 l1 = some r),
  Calls Tryd.prog 36 #[.slice A0 l0.length c0, .slice A1 l1.length c1] w fun e w' => e = .returned (.bool r) ∧ Below w.heap.size w w' := by
 intro A0 c0 l0 A1 c1 l1 r w hr0 hc0 hr1 hc1 h
 cases k with
 | zero => exact absurd h (by simp [belfrylaw01_SameExprs.f])
 | succ k =>
 simp only [belfrylaw01_SameExprs.f] at h
 have hu25 := Tryd.underlying25
 have HR0 := Aside0.mk hr0
 have HC0 := Aside0.mk hc0
 clear hr0 hc0
 have HR1 := Aside0.mk hr1
 have HC1 := Aside0.mk hc1
 clear hr1 hc1
 have HB := Aside0.mk (Below.refl w.heap.size w)
 have H : (if (l0.length : Int) = (l1.length : Int) then (belfrylaw01_SameExprs.l0 k l0 l1 0) else (some false)) = some r := h
 clear h
 by_cases c3 : (l0.length : Int) = (l1.length : Int)
 ·rw [if_pos c3] at H
  have c3b0 : ((l0.length : Int) == (l1.length : Int)) = true := beq_iff_eq.mpr c3
  have c3b1 : ((l0.length : Int) != (l1.length : Int)) = false := bne_eq_false_iff_eq.mpr c3
  have c3b2 : (l0.length == l1.length) = true := by first | simpa using c3 | (simp at c3 ⊢; omega)
  clear c3
  have H' := Aside0.mk H
  clear H
  go_enter Tryd.func36, Tryd.ntmps36
  go_wp2
  go_loopg [5] k (fun kq v5 w' => ∃ (x5_1 : Int), v5 = .int .i64 x5_1 ∧ Aside0 (belfrylaw01_SameExprs.l0 kq l0 l1 x5_1 = some r) ∧ Aside0 (kq ≤ k) ∧ Aside0 (Below w.heap.size w w'))
  case atStart => exact ⟨(0), (by first | rfl | (simp; done) | (simp [*]; done)), H', ⟨Nat.le_refl _⟩, ⟨by repeat (first | (with_reducible first | exact HB.out | apply below_alloc | apply pw_below_drewN | apply below_drew1) | exact HB.out)⟩⟩
  case round =>
   clear H'
   try clear c1
   try clear p2
   try clear c3
   try clear c3b0
   try clear c3b1
   try clear c3b2
   obtain ⟨x5_1, rfl, HA, HK1, HB⟩ := hrel
   cases gk with
   | zero => exact absurd HA.out (by simp [belfrylaw01_SameExprs.l0])
   | succ k1 =>
    have H := HA.out
    clear HA
    simp only [belfrylaw01_SameExprs.l0] at H
    by_cases c4 : x5_1 < (l0.length : Int)
    ·rw [if_pos c4] at H
     have c4b0 : decide (x5_1 < (l0.length : Int)) = true := decide_eq_true c4
     clear c4
     by_cases c5 : 0 ≤ x5_1
     ·rw [if_pos c5] at H
      have c5b0 : decide (0 ≤ x5_1) = true := decide_eq_true c5
      clear c5
      by_cases c6 : x5_1 < (l1.length : Int)
      ·rw [if_pos c6] at H
       have c6b0 : decide (x5_1 < (l1.length : Int)) = true := decide_eq_true c6
       clear c6
       replace H := Option.bind_eq_some_iff.mp H
       obtain ⟨t331, A70, H⟩ := H
       replace H : (if t331 = true then (belfrylaw01_SameExprs.l0 k1 l0 l1 (wrap64 (x5_1 + 1))) else (some false)) = some r := H
       have A7 := Aside0.mk A70
       clear A70
       by_cases c8 : t331 = true
       ·subst c8
        have H1 : (belfrylaw01_SameExprs.l0 k1 l0 l1 (wrap64 (x5_1 + 1))) = some r := by rw [if_pos rfl] at H; exact H
        clear H
        have H := H1
        clear H1
        have H' := Aside0.mk H
        clear H
        try go_wp2
        have n0_ := Aside0.mk (below_drew1 HB.out)
        clear HB
        have HB := n0_
        clear n0_
        have p329 : 0 ≤ (x5_1 : Int) := of_decide_eq_true (by first | (with_reducible assumption) | assumption)
        have q329 : x5_1 < (l0.length : Int) := of_decide_eq_true (by first | (with_reducible assumption) | assumption)
        obtain ⟨ad329, A329_3, c329_3, e329, hx329_0, hx329_1, hx329_2, hx329_3, hl329_3, hi329_3⟩ := at_T25 HR0.out x5_1 p329 q329
        have hw329_3 := hx329_3
        have hw329_2 := hx329_2
        have hw329_1 := hx329_1
        have hw329_0 := hx329_0
        cases e329
        replace hx329_0 := (HB.out.cell (World.block_lt_of_cell? w _ hx329_0)).trans hx329_0
        replace hx329_1 := (HB.out.cell (World.block_lt_of_cell? w _ hx329_1)).trans hx329_1
        replace hx329_2 := (HB.out.cell (World.block_lt_of_cell? w _ hx329_2)).trans hx329_2
        replace hx329_3 := (HB.out.cell (World.block_lt_of_cell? w _ hx329_3)).trans hx329_3
        have HR329_3 := Aside0.mk hi329_3
        have HC329_3 := Aside0.mk hl329_3
        clear hi329_3 hl329_3
        replace p329 := eq_true p329
        replace q329 := eq_true q329
        have p330 : 0 ≤ (x5_1 : Int) := of_decide_eq_true (by first | (with_reducible assumption) | assumption)
        have q330 : x5_1 < (l1.length : Int) := of_decide_eq_true (by first | (with_reducible assumption) | assumption)
        obtain ⟨ad330, A330_3, c330_3, e330, hx330_0, hx330_1, hx330_2, hx330_3, hl330_3, hi330_3⟩ := at_T25 HR1.out x5_1 p330 q330
        have hw330_3 := hx330_3
        have hw330_2 := hx330_2
        have hw330_1 := hx330_1
        have hw330_0 := hx330_0
        cases e330
        replace hx330_0 := (HB.out.cell (World.block_lt_of_cell? w _ hx330_0)).trans hx330_0
        replace hx330_1 := (HB.out.cell (World.block_lt_of_cell? w _ hx330_1)).trans hx330_1
        replace hx330_2 := (HB.out.cell (World.block_lt_of_cell? w _ hx330_2)).trans hx330_2
        replace hx330_3 := (HB.out.cell (World.block_lt_of_cell? w _ hx330_3)).trans hx330_3
        have HR330_3 := Aside0.mk hi330_3
        have HC330_3 := Aside0.mk hl330_3
        clear hi330_3 hl330_3
        replace p330 := eq_true p330
        replace q330 := eq_true q330
        refine start_ (n := 10) (S := fun w' => w'.cell? (ad329.add ((x5_1).toNat * 4)) = some (.int .u8 ((rd_T25 l0 x5_1).f0)) ∧ w'.cell? ⟨(ad329.add ((x5_1).toNat * 4)).block, (ad329.add ((x5_1).toNat * 4)).off + 1, none⟩ = some (.int .i64 ((rd_T25 l0 x5_1).f1)) ∧ w'.cell? ⟨(ad329.add ((x5_1).toNat * 4)).block, (ad329.add ((x5_1).toNat * 4)).off + 2, none⟩ = some (.string ((rd_T25 l0 x5_1).f2)) ∧ w'.cell? ⟨(ad329.add ((x5_1).toNat * 4)).block, (ad329.add ((x5_1).toNat * 4)).off + 3, none⟩ = some (.slice A329_3 ((rd_T25 l0 x5_1).f3).length c329_3) ∧ w'.cell? (ad330.add ((x5_1).toNat * 4)) = some (.int .u8 ((rd_T25 l1 x5_1).f0)) ∧ w'.cell? ⟨(ad330.add ((x5_1).toNat * 4)).block, (ad330.add ((x5_1).toNat * 4)).off + 1, none⟩ = some (.int .i64 ((rd_T25 l1 x5_1).f1)) ∧ w'.cell? ⟨(ad330.add ((x5_1).toNat * 4)).block, (ad330.add ((x5_1).toNat * 4)).off + 2, none⟩ = some (.string ((rd_T25 l1 x5_1).f2)) ∧ w'.cell? ⟨(ad330.add ((x5_1).toNat * 4)).block, (ad330.add ((x5_1).toNat * 4)).off + 3, none⟩ = some (.slice A330_3 ((rd_T25 l1 x5_1).f3).length c330_3)) (ds := []) #[false, false, false, false, false, false, false, false, false, false] (by kernel_rfl) rfl rfl ⟨((HB.out.cell (World.block_lt_of_cell? w _ hw329_0)).trans hw329_0), ((HB.out.cell (World.block_lt_of_cell? w _ hw329_1)).trans hw329_1), ((HB.out.cell (World.block_lt_of_cell? w _ hw329_2)).trans hw329_2), ((HB.out.cell (World.block_lt_of_cell? w _ hw329_3)).trans hw329_3), ((HB.out.cell (World.block_lt_of_cell? w _ hw330_0)).trans hw330_0), ((HB.out.cell (World.block_lt_of_cell? w _ hw330_1)).trans hw330_1), ((HB.out.cell (World.block_lt_of_cell? w _ hw330_2)).trans hw330_2), ((HB.out.cell (World.block_lt_of_cell? w _ hw330_3)).trans hw330_3)⟩ (fun hHeld => ?_); refine with_tabW belfrylaw01_SameExprs.tab6 belfrylaw01_SameExprs.bits6 (fun HT_ HW_ => ?_)
        generalize wr.drew = w9 at HB HR329_3 HR330_3 hx329_0 hx329_1 hx329_2 hx329_3 hx330_0 hx330_1 hx330_2 hx330_3 hHeld ⊢
        refine pure_ (i := 0) (N := some 17) (v := ?_) (a' := ?_) #[true, false, false, false, false, false, false, false, false, false] rfl rfl (any_of HT_.out (by kernel_rfl)) (fun _ _ _ h => h) (Or.inl ⟨by rfl, ?_⟩) ?_ ?_
        rotate_left
        ·intro w'
         go_simp
         with_reducible rfl
        rotate_left
        ·simp only [Act.put, List.setIfInBounds_toArray, List.set_cons_zero, List.set_cons_succ, i64_w, i32_w]
         rfl
        refine pure_ (i := 1) (N := some 18) (v := ?_) (a' := ?_) #[true, true, false, false, false, false, false, false, false, false] rfl rfl (any_of HT_.out (by kernel_rfl)) (fun _ _ _ h => h) (Or.inl ⟨by rfl, ?_⟩) ?_ ?_
        rotate_left
        ·intro w'
         go_simp
         with_reducible rfl
        rotate_left
        ·simp only [Act.put, List.setIfInBounds_toArray, List.set_cons_zero, List.set_cons_succ, i64_w, i32_w]
         rfl
        refine pure_ (i := 2) (N := some 19) (v := ?_) (a' := ?_) #[true, true, true, false, false, false, false, false, false, false] rfl rfl (any_of HT_.out (by kernel_rfl)) (fun _ _ _ h => h) (Or.inl ⟨by rfl, ?_⟩) ?_ ?_
        rotate_left
        ·intro w'
         go_simp
         with_reducible rfl
        rotate_left
        ·simp only [Act.put, List.setIfInBounds_toArray, List.set_cons_zero, List.set_cons_succ, i64_w, i32_w]
         rfl
        refine pure_ (i := 4) (N := some 21) (v := ?_) (a' := ?_) #[true, true, true, false, true, false, false, false, false, false] rfl rfl (any_of HT_.out (by kernel_rfl)) (fun _ _ _ h => h) (Or.inl ⟨by rfl, ?_⟩) ?_ ?_
        rotate_left
        ·intro w'
         go_simp
         with_reducible rfl
        rotate_left
        ·simp only [Act.put, List.setIfInBounds_toArray, List.set_cons_zero, List.set_cons_succ, i64_w, i32_w]
         rfl
        refine pure_ (i := 5) (N := some 22) (v := ?_) (a' := ?_) #[true, true, true, false, true, true, false, false, false, false] rfl rfl (any_of HT_.out (by kernel_rfl)) (fun _ _ _ h => h) (Or.inl ⟨by rfl, ?_⟩) ?_ ?_
        rotate_left
        ·intro w'
         go_simp
         with_reducible rfl
        rotate_left
        ·simp only [Act.put, List.setIfInBounds_toArray, List.set_cons_zero, List.set_cons_succ, i64_w, i32_w]
         rfl
        refine pure_ (i := 6) (N := some 23) (v := ?_) (a' := ?_) #[true, true, true, false, true, true, true, false, false, false] rfl rfl (any_of HT_.out (by kernel_rfl)) (fun _ _ _ h => h) (Or.inl ⟨by rfl, ?_⟩) ?_ ?_
        rotate_left
        ·intro w'
         go_simp
         with_reducible rfl
        rotate_left
        ·simp only [Act.put, List.setIfInBounds_toArray, List.set_cons_zero, List.set_cons_succ, i64_w, i32_w]
         rfl
        refine take_ (i := 3) (N := some 20) (v := ?_) (a' := ?_) #[true, true, true, true, true, true, true, false, false, false] rfl rfl (take_ofW HT_.out HW_.out (by kernel_rfl)) (fun _ _ _ h => h) (Or.inl ⟨by rfl, ?_⟩) hHeld ?_ ?_
        rotate_left
        ·rintro w' ⟨s0, s1, s2, s3, s4, s5, s6, s7⟩
         go_simp
         with_reducible rfl
        rotate_left
        ·simp only [Act.put, List.setIfInBounds_toArray, List.set_cons_zero, List.set_cons_succ, i64_w, i32_w]
         rfl
        refine take_ (i := 7) (N := some 24) (v := ?_) (a' := ?_) #[true, true, true, true, true, true, true, true, false, false] rfl rfl (take_ofW HT_.out HW_.out (by kernel_rfl)) (fun _ _ _ h => h) (Or.inl ⟨by rfl, ?_⟩) hHeld ?_ ?_
        rotate_left
        ·rintro w' ⟨s0, s1, s2, s3, s4, s5, s6, s7⟩
         go_simp
         with_reducible rfl
        rotate_left
        ·simp only [Act.put, List.setIfInBounds_toArray, List.set_cons_zero, List.set_cons_succ, i64_w, i32_w]
         rfl
        refine one_ (i := 8) (N := some 25) #[true, true, true, true, true, true, true, true, true, false] rfl rfl (one_of HT_.out (by kernel_rfl)) (by decide) (fun K hK => ?_)
        refine goes_ Tryd.func19 (by kernel_rfl) rfl #[.agg #[.int .u8 ((rd_T25 l0 x5_1).f0), .int .i64 ((rd_T25 l0 x5_1).f1), .string ((rd_T25 l0 x5_1).f2), .slice A329_3 ((rd_T25 l0 x5_1).f3).length c329_3], .agg #[.int .u8 ((rd_T25 l1 x5_1).f0), .int .i64 ((rd_T25 l1 x5_1).f1), .string ((rd_T25 l1 x5_1).f2), .slice A330_3 ((rd_T25 l1 x5_1).f3).length c330_3]] (by rfl) rfl rfl (by (try simp only [List.map_toArray, List.map_cons, List.map_nil]); first | done | rfl | (simp only [List.length_drop, List.length_take]; rfl)) ?_
        with_reducible refine (ih19 k1 (by have := HK1.out; omega) ((rd_T25 l0 x5_1).f0) ((rd_T25 l0 x5_1).f1) ((rd_T25 l0 x5_1).f2) _ _ ((rd_T25 l0 x5_1).f3) ((rd_T25 l1 x5_1).f0) ((rd_T25 l1 x5_1).f1) ((rd_T25 l1 x5_1).f2) _ _ ((rd_T25 l1 x5_1).f3) true _ ?side1 ?side2 ?side3 ?side4 A7.out).mono ?_
        (case side1 => repeat (first | exact (Kd.C_below HR329_3.out HB.out) | (with_reducible refine Kd.C_alloc ?_ _) | (with_reducible refine Kd.C_drewN ?_ _) | (with_reducible refine Kd.C_drew ?_)))
        (case side2 => exact HC329_3.out)
        (case side3 => repeat (first | exact (Kd.C_below HR330_3.out HB.out) | (with_reducible refine Kd.C_alloc ?_ _) | (with_reducible refine Kd.C_drewN ?_ _) | (with_reducible refine Kd.C_drew ?_)))
        (case side4 => exact HC330_3.out)
        rintro e w10 ⟨rfl, hb⟩
        refine ⟨_, rfl, ?_⟩
        have n0_ := Aside0.mk (below_step (by repeat (first | (with_reducible first | exact HB.out | apply below_alloc | apply pw_below_drewN | apply below_drew1) | exact HB.out)) hb)
        clear HB
        have HB := n0_
        clear n0_
        (try clear hb)
        (try clear hb2)
        (try clear hk)
        (try clear hi)
        refine hK.out _ _ ⟨((HB.out.cell (World.block_lt_of_cell? w _ hw329_0)).trans hw329_0), ((HB.out.cell (World.block_lt_of_cell? w _ hw329_1)).trans hw329_1), ((HB.out.cell (World.block_lt_of_cell? w _ hw329_2)).trans hw329_2), ((HB.out.cell (World.block_lt_of_cell? w _ hw329_3)).trans hw329_3), ((HB.out.cell (World.block_lt_of_cell? w _ hw330_0)).trans hw330_0), ((HB.out.cell (World.block_lt_of_cell? w _ hw330_1)).trans hw330_1), ((HB.out.cell (World.block_lt_of_cell? w _ hw330_2)).trans hw330_2), ((HB.out.cell (World.block_lt_of_cell? w _ hw330_3)).trans hw330_3)⟩ (fun hHeld => ?_)
        clear hK K
        refine norm_ (a' := ?_) ?_ ?_
        rotate_left
        ·show Act.put _ (some 25) _ = _
         simp only [Act.put, List.setIfInBounds_toArray, List.set_cons_zero, List.set_cons_succ, i64_w, i32_w]
         rfl
        refine pure_ (i := 9) (N := some 26) (v := ?_) (a' := ?_) #[true, true, true, true, true, true, true, true, true, true] rfl rfl (any_of HT_.out (by kernel_rfl)) (fun _ _ _ h => h) (Or.inl ⟨by rfl, ?_⟩) ?_ ?_
        rotate_left
        ·intro w'
         go_simp
         with_reducible rfl
        rotate_left
        ·simp only [Act.put, List.setIfInBounds_toArray, List.set_cons_zero, List.set_cons_succ, i64_w, i32_w]
         rfl
        refine done_ (done_of HT_.out (by kernel_rfl)) ?_
        try go_wp2
        go_roundg k1
        case measure => have := HK1.out; omega
        case rel => exact ⟨(wrap64 (x5_1 + 1)), (by first | rfl | (simp; done) | (simp [*]; done)), H', ⟨by have := HK1.out; omega⟩, ⟨by repeat (first | (with_reducible first | exact HB.out | apply below_alloc | apply pw_below_drewN | apply below_drew1) | exact HB.out)⟩⟩
       ·replace c8 := Bool.eq_false_iff.mpr c8
        subst c8
        have H1 : (some false) = some r := by rw [if_neg (show ¬ (false = true) by decide)] at H; exact H
        clear H
        have H := H1
        clear H1
        obtain rfl := Option.some.inj H
        try go_wp2
        have n0_ := Aside0.mk (below_drew1 HB.out)
        clear HB
        have HB := n0_
        clear n0_
        have p329 : 0 ≤ (x5_1 : Int) := of_decide_eq_true (by first | (with_reducible assumption) | assumption)
        have q329 : x5_1 < (l0.length : Int) := of_decide_eq_true (by first | (with_reducible assumption) | assumption)
        obtain ⟨ad329, A329_3, c329_3, e329, hx329_0, hx329_1, hx329_2, hx329_3, hl329_3, hi329_3⟩ := at_T25 HR0.out x5_1 p329 q329
        have hw329_3 := hx329_3
        have hw329_2 := hx329_2
        have hw329_1 := hx329_1
        have hw329_0 := hx329_0
        cases e329
        replace hx329_0 := (HB.out.cell (World.block_lt_of_cell? w _ hx329_0)).trans hx329_0
        replace hx329_1 := (HB.out.cell (World.block_lt_of_cell? w _ hx329_1)).trans hx329_1
        replace hx329_2 := (HB.out.cell (World.block_lt_of_cell? w _ hx329_2)).trans hx329_2
        replace hx329_3 := (HB.out.cell (World.block_lt_of_cell? w _ hx329_3)).trans hx329_3
        have HR329_3 := Aside0.mk hi329_3
        have HC329_3 := Aside0.mk hl329_3
        clear hi329_3 hl329_3
        replace p329 := eq_true p329
        replace q329 := eq_true q329
        have p330 : 0 ≤ (x5_1 : Int) := of_decide_eq_true (by first | (with_reducible assumption) | assumption)
        have q330 : x5_1 < (l1.length : Int) := of_decide_eq_true (by first | (with_reducible assumption) | assumption)
        obtain ⟨ad330, A330_3, c330_3, e330, hx330_0, hx330_1, hx330_2, hx330_3, hl330_3, hi330_3⟩ := at_T25 HR1.out x5_1 p330 q330
        have hw330_3 := hx330_3
        have hw330_2 := hx330_2
        have hw330_1 := hx330_1
        have hw330_0 := hx330_0
        cases e330
        replace hx330_0 := (HB.out.cell (World.block_lt_of_cell? w _ hx330_0)).trans hx330_0
        replace hx330_1 := (HB.out.cell (World.block_lt_of_cell? w _ hx330_1)).trans hx330_1
        replace hx330_2 := (HB.out.cell (World.block_lt_of_cell? w _ hx330_2)).trans hx330_2
        replace hx330_3 := (HB.out.cell (World.block_lt_of_cell? w _ hx330_3)).trans hx330_3
        have HR330_3 := Aside0.mk hi330_3
        have HC330_3 := Aside0.mk hl330_3
        clear hi330_3 hl330_3
        replace p330 := eq_true p330
        replace q330 := eq_true q330
        refine start_ (n := 10) (S := fun w' => w'.cell? (ad329.add ((x5_1).toNat * 4)) = some (.int .u8 ((rd_T25 l0 x5_1).f0)) ∧ w'.cell? ⟨(ad329.add ((x5_1).toNat * 4)).block, (ad329.add ((x5_1).toNat * 4)).off + 1, none⟩ = some (.int .i64 ((rd_T25 l0 x5_1).f1)) ∧ w'.cell? ⟨(ad329.add ((x5_1).toNat * 4)).block, (ad329.add ((x5_1).toNat * 4)).off + 2, none⟩ = some (.string ((rd_T25 l0 x5_1).f2)) ∧ w'.cell? ⟨(ad329.add ((x5_1).toNat * 4)).block, (ad329.add ((x5_1).toNat * 4)).off + 3, none⟩ = some (.slice A329_3 ((rd_T25 l0 x5_1).f3).length c329_3) ∧ w'.cell? (ad330.add ((x5_1).toNat * 4)) = some (.int .u8 ((rd_T25 l1 x5_1).f0)) ∧ w'.cell? ⟨(ad330.add ((x5_1).toNat * 4)).block, (ad330.add ((x5_1).toNat * 4)).off + 1, none⟩ = some (.int .i64 ((rd_T25 l1 x5_1).f1)) ∧ w'.cell? ⟨(ad330.add ((x5_1).toNat * 4)).block, (ad330.add ((x5_1).toNat * 4)).off + 2, none⟩ = some (.string ((rd_T25 l1 x5_1).f2)) ∧ w'.cell? ⟨(ad330.add ((x5_1).toNat * 4)).block, (ad330.add ((x5_1).toNat * 4)).off + 3, none⟩ = some (.slice A330_3 ((rd_T25 l1 x5_1).f3).length c330_3)) (ds := []) #[false, false, false, false, false, false, false, false, false, false] (by kernel_rfl) rfl rfl ⟨((HB.out.cell (World.block_lt_of_cell? w _ hw329_0)).trans hw329_0), ((HB.out.cell (World.block_lt_of_cell? w _ hw329_1)).trans hw329_1), ((HB.out.cell (World.block_lt_of_cell? w _ hw329_2)).trans hw329_2), ((HB.out.cell (World.block_lt_of_cell? w _ hw329_3)).trans hw329_3), ((HB.out.cell (World.block_lt_of_cell? w _ hw330_0)).trans hw330_0), ((HB.out.cell (World.block_lt_of_cell? w _ hw330_1)).trans hw330_1), ((HB.out.cell (World.block_lt_of_cell? w _ hw330_2)).trans hw330_2), ((HB.out.cell (World.block_lt_of_cell? w _ hw330_3)).trans hw330_3)⟩ (fun hHeld => ?_); refine with_tabW belfrylaw01_SameExprs.tab6 belfrylaw01_SameExprs.bits6 (fun HT_ HW_ => ?_)
        generalize wr.drew = w11 at HB HR329_3 HR330_3 hx329_0 hx329_1 hx329_2 hx329_3 hx330_0 hx330_1 hx330_2 hx330_3 hHeld ⊢
        refine pure_ (i := 0) (N := some 17) (v := ?_) (a' := ?_) #[true, false, false, false, false, false, false, false, false, false] rfl rfl (any_of HT_.out (by kernel_rfl)) (fun _ _ _ h => h) (Or.inl ⟨by rfl, ?_⟩) ?_ ?_
        rotate_left
        ·intro w'
         go_simp
         with_reducible rfl
        rotate_left
        ·simp only [Act.put, List.setIfInBounds_toArray, List.set_cons_zero, List.set_cons_succ, i64_w, i32_w]
         rfl
        refine pure_ (i := 1) (N := some 18) (v := ?_) (a' := ?_) #[true, true, false, false, false, false, false, false, false, false] rfl rfl (any_of HT_.out (by kernel_rfl)) (fun _ _ _ h => h) (Or.inl ⟨by rfl, ?_⟩) ?_ ?_
        rotate_left
        ·intro w'
         go_simp
         with_reducible rfl
        rotate_left
        ·simp only [Act.put, List.setIfInBounds_toArray, List.set_cons_zero, List.set_cons_succ, i64_w, i32_w]
         rfl
        refine pure_ (i := 2) (N := some 19) (v := ?_) (a' := ?_) #[true, true, true, false, false, false, false, false, false, false] rfl rfl (any_of HT_.out (by kernel_rfl)) (fun _ _ _ h => h) (Or.inl ⟨by rfl, ?_⟩) ?_ ?_
        rotate_left
        ·intro w'
         go_simp
         with_reducible rfl
        rotate_left
        ·simp only [Act.put, List.setIfInBounds_toArray, List.set_cons_zero, List.set_cons_succ, i64_w, i32_w]
         rfl
        refine pure_ (i := 4) (N := some 21) (v := ?_) (a' := ?_) #[true, true, true, false, true, false, false, false, false, false] rfl rfl (any_of HT_.out (by kernel_rfl)) (fun _ _ _ h => h) (Or.inl ⟨by rfl, ?_⟩) ?_ ?_
        rotate_left
        ·intro w'
         go_simp
         with_reducible rfl
        rotate_left
        ·simp only [Act.put, List.setIfInBounds_toArray, List.set_cons_zero, List.set_cons_succ, i64_w, i32_w]
         rfl
        refine pure_ (i := 5) (N := some 22) (v := ?_) (a' := ?_) #[true, true, true, false, true, true, false, false, false, false] rfl rfl (any_of HT_.out (by kernel_rfl)) (fun _ _ _ h => h) (Or.inl ⟨by rfl, ?_⟩) ?_ ?_
        rotate_left
        ·intro w'
         go_simp
         with_reducible rfl
        rotate_left
        ·simp only [Act.put, List.setIfInBounds_toArray, List.set_cons_zero, List.set_cons_succ, i64_w, i32_w]
         rfl
        refine pure_ (i := 6) (N := some 23) (v := ?_) (a' := ?_) #[true, true, true, false, true, true, true, false, false, false] rfl rfl (any_of HT_.out (by kernel_rfl)) (fun _ _ _ h => h) (Or.inl ⟨by rfl, ?_⟩) ?_ ?_
        rotate_left
        ·intro w'
         go_simp
         with_reducible rfl
        rotate_left
        ·simp only [Act.put, List.setIfInBounds_toArray, List.set_cons_zero, List.set_cons_succ, i64_w, i32_w]
         rfl
        refine take_ (i := 3) (N := some 20) (v := ?_) (a' := ?_) #[true, true, true, true, true, true, true, false, false, false] rfl rfl (take_ofW HT_.out HW_.out (by kernel_rfl)) (fun _ _ _ h => h) (Or.inl ⟨by rfl, ?_⟩) hHeld ?_ ?_
        rotate_left
        ·rintro w' ⟨s0, s1, s2, s3, s4, s5, s6, s7⟩
         go_simp
         with_reducible rfl
        rotate_left
        ·simp only [Act.put, List.setIfInBounds_toArray, List.set_cons_zero, List.set_cons_succ, i64_w, i32_w]
         rfl
        refine take_ (i := 7) (N := some 24) (v := ?_) (a' := ?_) #[true, true, true, true, true, true, true, true, false, false] rfl rfl (take_ofW HT_.out HW_.out (by kernel_rfl)) (fun _ _ _ h => h) (Or.inl ⟨by rfl, ?_⟩) hHeld ?_ ?_
        rotate_left
        ·rintro w' ⟨s0, s1, s2, s3, s4, s5, s6, s7⟩
         go_simp
         with_reducible rfl
        rotate_left
        ·simp only [Act.put, List.setIfInBounds_toArray, List.set_cons_zero, List.set_cons_succ, i64_w, i32_w]
         rfl
        refine one_ (i := 8) (N := some 25) #[true, true, true, true, true, true, true, true, true, false] rfl rfl (one_of HT_.out (by kernel_rfl)) (by decide) (fun K hK => ?_)
        refine goes_ Tryd.func19 (by kernel_rfl) rfl #[.agg #[.int .u8 ((rd_T25 l0 x5_1).f0), .int .i64 ((rd_T25 l0 x5_1).f1), .string ((rd_T25 l0 x5_1).f2), .slice A329_3 ((rd_T25 l0 x5_1).f3).length c329_3], .agg #[.int .u8 ((rd_T25 l1 x5_1).f0), .int .i64 ((rd_T25 l1 x5_1).f1), .string ((rd_T25 l1 x5_1).f2), .slice A330_3 ((rd_T25 l1 x5_1).f3).length c330_3]] (by rfl) rfl rfl (by (try simp only [List.map_toArray, List.map_cons, List.map_nil]); first | done | rfl | (simp only [List.length_drop, List.length_take]; rfl)) ?_
        with_reducible refine (ih19 k1 (by have := HK1.out; omega) ((rd_T25 l0 x5_1).f0) ((rd_T25 l0 x5_1).f1) ((rd_T25 l0 x5_1).f2) _ _ ((rd_T25 l0 x5_1).f3) ((rd_T25 l1 x5_1).f0) ((rd_T25 l1 x5_1).f1) ((rd_T25 l1 x5_1).f2) _ _ ((rd_T25 l1 x5_1).f3) false _ ?side1 ?side2 ?side3 ?side4 A7.out).mono ?_
        (case side1 => repeat (first | exact (Kd.C_below HR329_3.out HB.out) | (with_reducible refine Kd.C_alloc ?_ _) | (with_reducible refine Kd.C_drewN ?_ _) | (with_reducible refine Kd.C_drew ?_)))
        (case side2 => exact HC329_3.out)
        (case side3 => repeat (first | exact (Kd.C_below HR330_3.out HB.out) | (with_reducible refine Kd.C_alloc ?_ _) | (with_reducible refine Kd.C_drewN ?_ _) | (with_reducible refine Kd.C_drew ?_)))
        (case side4 => exact HC330_3.out)
        rintro e w12 ⟨rfl, hb⟩
        refine ⟨_, rfl, ?_⟩
        have n0_ := Aside0.mk (below_step (by repeat (first | (with_reducible first | exact HB.out | apply below_alloc | apply pw_below_drewN | apply below_drew1) | exact HB.out)) hb)
        clear HB
        have HB := n0_
        clear n0_
        (try clear hb)
        (try clear hb2)
        (try clear hk)
        (try clear hi)
        refine hK.out _ _ ⟨((HB.out.cell (World.block_lt_of_cell? w _ hw329_0)).trans hw329_0), ((HB.out.cell (World.block_lt_of_cell? w _ hw329_1)).trans hw329_1), ((HB.out.cell (World.block_lt_of_cell? w _ hw329_2)).trans hw329_2), ((HB.out.cell (World.block_lt_of_cell? w _ hw329_3)).trans hw329_3), ((HB.out.cell (World.block_lt_of_cell? w _ hw330_0)).trans hw330_0), ((HB.out.cell (World.block_lt_of_cell? w _ hw330_1)).trans hw330_1), ((HB.out.cell (World.block_lt_of_cell? w _ hw330_2)).trans hw330_2), ((HB.out.cell (World.block_lt_of_cell? w _ hw330_3)).trans hw330_3)⟩ (fun hHeld => ?_)
        clear hK K
        refine norm_ (a' := ?_) ?_ ?_
        rotate_left
        ·show Act.put _ (some 25) _ = _
         simp only [Act.put, List.setIfInBounds_toArray, List.set_cons_zero, List.set_cons_succ, i64_w, i32_w]
         rfl
        refine pure_ (i := 9) (N := some 26) (v := ?_) (a' := ?_) #[true, true, true, true, true, true, true, true, true, true] rfl rfl (any_of HT_.out (by kernel_rfl)) (fun _ _ _ h => h) (Or.inl ⟨by rfl, ?_⟩) ?_ ?_
        rotate_left
        ·intro w'
         go_simp
         with_reducible rfl
        rotate_left
        ·simp only [Act.put, List.setIfInBounds_toArray, List.set_cons_zero, List.set_cons_succ, i64_w, i32_w]
         rfl
        refine done_ (done_of HT_.out (by kernel_rfl)) ?_
        try go_wp2
        go_ret
        exact ⟨by first | rfl | (simp [errW_none, errW_some] <;> rfl) | (simp [*, errW_none, errW_some] <;> rfl), by repeat (first | (with_reducible first | exact HB.out | apply below_alloc | apply pw_below_drewN | apply below_drew1) | exact HB.out)⟩
      ·rw [if_neg c6] at H
       exact absurd H (by simp)
     ·rw [if_neg c5] at H
      exact absurd H (by simp)
    ·rw [if_neg c4] at H
     have c4b0 : decide (x5_1 < (l0.length : Int)) = false := decide_eq_false c4
     clear c4
     obtain rfl := Option.some.inj H
     go_wp2
     go_ret
     exact ⟨by first | rfl | (simp [errW_none, errW_some] <;> rfl) | (simp [*, errW_none, errW_some] <;> rfl), by repeat (first | (with_reducible first | exact HB.out | apply below_alloc | apply pw_below_drewN | apply below_drew1) | exact HB.out)⟩
 ·rw [if_neg c3] at H
  have c3b0 : ((l0.length : Int) == (l1.length : Int)) = false := beq_eq_false_iff_ne.mpr c3
  have c3b1 : ((l0.length : Int) != (l1.length : Int)) = true := bne_iff_ne.mpr c3
  have c3b2 : (l0.length == l1.length) = false := by first | simpa using c3 | (simp at c3 ⊢; omega)
  obtain rfl := Option.some.inj H
  go_enter Tryd.func36, Tryd.ntmps36
  go_wp2
  go_ret
  exact ⟨by first | rfl | (simp [errW_none, errW_some] <;> rfl) | (simp [*, errW_none, errW_some] <;> rfl), by repeat (first | (with_reducible first | exact HB.out | apply below_alloc | apply pw_below_drewN | apply below_drew1) | exact HB.out)⟩

/-! ### belfrylaw01_SameExpr: function 19 -/
set_option maxHeartbeats 8000000 in
set_option maxRecDepth 100000 in
theorem belfrylaw01_SameExpr.step (k : Nat) (ih36 : ∀ k', k' < k → ∀ (A0 : Option Addr) (c0 : Nat) (l0 : List (S25)) (A1 : Option Addr) (c1 : Nat) (l1 : List (S25)) (r : Bool) (w : World) (hr0 : Kd.C k25 w A0 l0.length l0) (hc0 : l0.length ≤ c0) (hr1 : Kd.C k25 w A1 l1.length l1) (hc1 : l1.length ≤ c1) (h : belfrylaw01_SameExprs.f k' l0 l1 = some r), Calls Tryd.prog 36 #[.slice A0 l0.length c0, .slice A1 l1.length c1] w fun e w' => e = .returned (.bool r) ∧ Below w.heap.size w w') (ih19 : ∀ k', k' < k → ∀ (a0_0 : Int) (a0_1 : Int) (a0_2 : ByteArray) (A0_3 : Option Addr) (c0_3 : Nat) (l0_3 : List (S25)) (a1_0 : Int) (a1_1 : Int) (a1_2 : ByteArray) (A1_3 : Option Addr) (c1_3 : Nat) (l1_3 : List (S25)) (r : Bool) (w : World) (hr0_3 : Kd.C k25 w A0_3 l0_3.length l0_3) (hc0_3 : l0_3.length ≤ c0_3) (hr1_3 : Kd.C k25 w A1_3 l1_3.length l1_3) (hc1_3 : l1_3.length ≤ c1_3) (h : belfrylaw01_SameExpr.f k' a0_0 a0_1 a0_2 l0_3 a1_0 a1_1 a1_2 l1_3 = some r), Calls Tryd.prog 19 #[.agg #[.int .u8 a0_0, .int .i64 a0_1, .string a0_2, .slice A0_3 l0_3.length c0_3], .agg #[.int .u8 a1_0, .int .i64 a1_1, .string a1_2, .slice A1_3 l1_3.length c1_3]] w fun e w' => e = .returned (.bool r) ∧ Below w.heap.size w w') : ∀ (a0_0 : Int) (a0_1 : Int) (a0_2 : ByteArray) (A0_3 : Option Addr) (c0_3 : Nat) (l0_3 : List (S25)) (a1_0 : Int) (a1_1 : Int) (a1_2 : ByteArray) (A1_3 : Option Addr) (c1_3 : Nat) (l1_3 : List (S25)) (r : Bool) (w : World) (hr0_3 : Kd.C k25 w A0_3 l0_3.length l0_3) (hc0_3 : l0_3.length ≤ c0_3) (hr1_3 : Kd.C k25 w A1_3 l1_3.length l1_3) (hc1_3 : l1_3.length ≤ c1_3) (h : belfrylaw01_SameExpr.f k a0_0 a0_1 a0_2 l0_3 a1_0 a1_1 a1_2 l1_3 = some r),
  Calls Tryd.prog 19 #[.agg #[.int .u8 a0_0, .int .i64 a0_1, .string a0_2, .slice A0_3 l0_3.length c0_3], .agg #[.int .u8 a1_0, .int .i64 a1_1, .string a1_2, .slice A1_3 l1_3.length c1_3]] w fun e w' => e = .returned (.bool r) ∧ Below w.heap.size w w' := by
 intro a0_0 a0_1 a0_2 A0_3 c0_3 l0_3 a1_0 a1_1 a1_2 A1_3 c1_3 l1_3 r w hr0_3 hc0_3 hr1_3 hc1_3 h
 cases k with
 | zero => exact absurd h (by simp [belfrylaw01_SameExpr.f])
 | succ k =>
 simp only [belfrylaw01_SameExpr.f] at h
 have hu25 := Tryd.underlying25
 have HR0_3 := Aside0.mk hr0_3
 have HC0_3 := Aside0.mk hc0_3
 clear hr0_3 hc0_3
 have HR1_3 := Aside0.mk hr1_3
 have HC1_3 := Aside0.mk hc1_3
 clear hr1_3 hc1_3
 have HB := Aside0.mk (Below.refl w.heap.size w)
 have H : (if a0_0 = a1_0 then (if a0_1 = a1_1 then (if a0_2.toList = a1_2.toList then ((belfrylaw01_SameExprs.f k l0_3 l1_3).bind fun t334 => (some t334)) else (some false)) else (some false)) else (some false)) = some r := h
 clear h
 by_cases c3 : a0_0 = a1_0
 ·rw [if_pos c3] at H
  have c3b0 : (a0_0 == a1_0) = true := beq_iff_eq.mpr c3
  have c3b1 : (a0_0 != a1_0) = false := bne_eq_false_iff_eq.mpr c3
  clear c3
  by_cases c4 : a0_1 = a1_1
  ·rw [if_pos c4] at H
   have c4b0 : (a0_1 == a1_1) = true := beq_iff_eq.mpr c4
   have c4b1 : (a0_1 != a1_1) = false := bne_eq_false_iff_eq.mpr c4
   clear c4
   by_cases c5 : a0_2.toList = a1_2.toList
   ·rw [if_pos c5] at H
    have c5b0 : (a0_2.toList == a1_2.toList) = true := beq_iff_eq.mpr c5
    have c5b1 : (a0_2.toList != a1_2.toList) = false := bne_eq_false_iff_eq.mpr c5
    clear c5
    replace H := Option.bind_eq_some_iff.mp H
    obtain ⟨t334, A60, H⟩ := H
    replace H : (some t334) = some r := H
    have A6 := Aside0.mk A60
    clear A60
    obtain rfl := Option.some.inj H
    go_enter Tryd.func19, Tryd.ntmps19
    go_wp2_with (first | ((with_reducible refine gate_dst (N := 2) rfl ?_); refine box_event ?hg (N := 2) ?hd (cs := #[.int .u8 a0_0, .int .i64 a0_1, .string a0_2, .slice A0_3 l0_3.length c0_3]) (t := 25) ?hr ?_; (case hd => rfl); (case hg => rfl); (case hr => first | (go_simp; done) | (go_simp; rfl)); intro gb332 hg w7 hbox hb; have n0_ := Aside0.mk (below_step (by repeat (first | (with_reducible first | exact HB.out | apply below_alloc | apply pw_below_drewN | apply below_drew1) | exact HB.out)) hb); have n1_ := Aside0.mk (hbox); have n2_ := Aside0.mk ((by rw [hg]; exact (below_size (by repeat (first | (with_reducible first | exact HB.out | apply below_alloc | apply pw_below_drewN | apply below_drew1) | exact HB.out))) : w.heap.size ≤ gb332)); have n3_ := Aside0.mk ((by rw [hg]; exact (below_size (by repeat (first | (with_reducible first | exact HB.out | apply below_alloc | apply pw_below_drewN | apply below_drew1) | exact HB.out))) : w.heap.size ≤ gb332)); clear HB; have HB := n0_; have BK332 := n1_; have GW332 := n2_; have GE332 := n3_; clear n0_ n1_ n2_ n3_; clear hb hbox hg) | ((with_reducible refine gate_dst (N := 3) rfl ?_); refine box_event ?hg (N := 3) ?hd (cs := #[.int .u8 a1_0, .int .i64 a1_1, .string a1_2, .slice A1_3 l1_3.length c1_3]) (t := 25) ?hr ?_; (case hd => rfl); (case hg => rfl); (case hr => first | (go_simp; done) | (go_simp; rfl)); intro gb333 hg w8 hbox hb; have n0_ := Aside0.mk (blk_below (g := gb332) (o := .cells #[.int .u8 a0_0, .int .i64 a0_1, .string a0_2, .slice A0_3 l0_3.length c0_3] 25 (0, 0)) (by (with_reducible repeat (first | refine blk_drewN ?_ _ | refine blk_drew ?_ | refine blk_alloc ?_ _)); exact BK332.out) hb); have n1_ := Aside0.mk (below_step (by repeat (first | (with_reducible first | exact HB.out | apply below_alloc | apply pw_below_drewN | apply below_drew1 | refine below_set ?_ GE332.out) | exact HB.out)) hb); have n2_ := Aside0.mk (hbox); have n3_ := Aside0.mk ((by rw [hg]; exact (below_size (by repeat (first | (with_reducible first | exact HB.out | apply below_alloc | apply pw_below_drewN | apply below_drew1 | refine below_set ?_ GE332.out) | exact HB.out))) : w.heap.size ≤ gb333)); have n4_ := Aside0.mk ((by rw [hg]; exact (below_size (by repeat (first | (with_reducible first | exact HB.out | apply below_alloc | apply pw_below_drewN | apply below_drew1 | refine below_set ?_ GE332.out) | exact HB.out))) : w.heap.size ≤ gb333)); have n5_ := Aside0.mk ((by rw [hg]; exact Nat.ne_of_lt (blk_lt (g := gb332) (o := .cells #[.int .u8 a0_0, .int .i64 a0_1, .string a0_2, .slice A0_3 l0_3.length c0_3] 25 (0, 0)) (by (with_reducible repeat (first | refine blk_drewN ?_ _ | refine blk_drew ?_ | refine blk_alloc ?_ _)); exact BK332.out)) : gb332 ≠ gb333)); have n6_ := Aside0.mk ((by rw [hg]; exact Nat.ne_of_gt (blk_lt (g := gb332) (o := .cells #[.int .u8 a0_0, .int .i64 a0_1, .string a0_2, .slice A0_3 l0_3.length c0_3] 25 (0, 0)) (by (with_reducible repeat (first | refine blk_drewN ?_ _ | refine blk_drew ?_ | refine blk_alloc ?_ _)); exact BK332.out)) : gb333 ≠ gb332)); clear BK332; clear HB; have BK332 := n0_; have HB := n1_; have BK333 := n2_; have GW333 := n3_; have GE333 := n4_; have NB332_333 := n5_; have NB333_332 := n6_; clear n0_ n1_ n2_ n3_ n4_ n5_ n6_; clear hb hbox hg; have hnb9 := NB332_333.out; have hnc9 := NB333_332.out; have hcz10_0 : w8.cell? ⟨gb332, 0, none⟩ = some (.int .u8 a0_0) := (blk_cell BK332.out 0).trans rfl; have hcz10_1 : w8.cell? ⟨gb332, 1, none⟩ = some (.int .i64 a0_1) := (blk_cell BK332.out 1).trans rfl; have hcz10_2 : w8.cell? ⟨gb332, 2, none⟩ = some (.string a0_2) := (blk_cell BK332.out 2).trans rfl; have hcz10_3 : w8.cell? ⟨gb332, 3, none⟩ = some (.slice A0_3 l0_3.length c0_3) := (blk_cell BK332.out 3).trans rfl; have hfz10_0 := blk_frozen BK332.out 0; have hfz10_1 := blk_frozen BK332.out 1; have hfz10_2 := blk_frozen BK332.out 2; have hfz10_3 := blk_frozen BK332.out 3; have hcz11_0 : w8.cell? ⟨gb333, 0, none⟩ = some (.int .u8 a1_0) := (blk_cell BK333.out 0).trans rfl; have hcz11_1 : w8.cell? ⟨gb333, 1, none⟩ = some (.int .i64 a1_1) := (blk_cell BK333.out 1).trans rfl; have hcz11_2 : w8.cell? ⟨gb333, 2, none⟩ = some (.string a1_2) := (blk_cell BK333.out 2).trans rfl; have hcz11_3 : w8.cell? ⟨gb333, 3, none⟩ = some (.slice A1_3 l1_3.length c1_3) := (blk_cell BK333.out 3).trans rfl; have hfz11_0 := blk_frozen BK333.out 0; have hfz11_1 := blk_frozen BK333.out 1; have hfz11_2 := blk_frozen BK333.out 2; have hfz11_3 := blk_frozen BK333.out 3) | (go_at_call 36; (with_reducible refine (ih36 k (by omega) _ _ l0_3 _ _ l1_3 t334 _ ?side1 ?side2 ?side3 ?side4 A6.out).mono ?_); (case side1 => repeat (first | exact (Kd.C_below HR0_3.out HB.out) | (with_reducible refine Kd.C_alloc ?_ _) | (with_reducible refine Kd.C_drewN ?_ _) | (with_reducible refine Kd.C_drew ?_))); (case side2 => exact HC0_3.out); (case side3 => repeat (first | exact (Kd.C_below HR1_3.out HB.out) | (with_reducible refine Kd.C_alloc ?_ _) | (with_reducible refine Kd.C_drewN ?_ _) | (with_reducible refine Kd.C_drew ?_))); (case side4 => exact HC1_3.out); rintro e w12 ⟨rfl, hb⟩; have n0_ := Aside0.mk (blk_below (g := gb332) (o := .cells #[.int .u8 a0_0, .int .i64 a0_1, .string a0_2, .slice A0_3 l0_3.length c0_3] 25 (0, 0)) (by (with_reducible repeat (first | refine blk_drewN ?_ _ | refine blk_drew ?_ | refine blk_alloc ?_ _)); exact BK332.out) hb); have n1_ := Aside0.mk (blk_below (g := gb333) (o := .cells #[.int .u8 a1_0, .int .i64 a1_1, .string a1_2, .slice A1_3 l1_3.length c1_3] 25 (0, 0)) (by (with_reducible repeat (first | refine blk_drewN ?_ _ | refine blk_drew ?_ | refine blk_alloc ?_ _)); exact BK333.out) hb); have n2_ := Aside0.mk (below_step (by repeat (first | (with_reducible first | exact HB.out | apply below_alloc | apply pw_below_drewN | apply below_drew1 | refine below_set ?_ GE332.out | refine below_set ?_ GE333.out) | exact HB.out)) hb); clear BK332; clear BK333; clear HB; have BK332 := n0_; have BK333 := n1_; have HB := n2_; clear n0_ n1_ n2_; (try clear hb); (try clear hb2); (try clear hk); (try clear hi)))
    go_ret
    exact ⟨by first | rfl | (simp [errW_none, errW_some] <;> rfl) | (simp [*, errW_none, errW_some] <;> rfl), by repeat (first | (with_reducible first | exact HB.out | apply below_alloc | apply pw_below_drewN | apply below_drew1 | refine below_set ?_ GE332.out | refine below_set ?_ GE333.out) | exact HB.out)⟩
   ·rw [if_neg c5] at H
    have c5b0 : (a0_2.toList == a1_2.toList) = false := beq_eq_false_iff_ne.mpr c5
    have c5b1 : (a0_2.toList != a1_2.toList) = true := bne_iff_ne.mpr c5
    obtain rfl := Option.some.inj H
    go_enter Tryd.func19, Tryd.ntmps19
    go_wp2_with (first | ((with_reducible refine gate_dst (N := 2) rfl ?_); refine box_event ?hg (N := 2) ?hd (cs := #[.int .u8 a0_0, .int .i64 a0_1, .string a0_2, .slice A0_3 l0_3.length c0_3]) (t := 25) ?hr ?_; (case hd => rfl); (case hg => rfl); (case hr => first | (go_simp; done) | (go_simp; rfl)); intro gb332 hg w13 hbox hb; have n0_ := Aside0.mk (below_step (by repeat (first | (with_reducible first | exact HB.out | apply below_alloc | apply pw_below_drewN | apply below_drew1) | exact HB.out)) hb); have n1_ := Aside0.mk (hbox); have n2_ := Aside0.mk ((by rw [hg]; exact (below_size (by repeat (first | (with_reducible first | exact HB.out | apply below_alloc | apply pw_below_drewN | apply below_drew1) | exact HB.out))) : w.heap.size ≤ gb332)); have n3_ := Aside0.mk ((by rw [hg]; exact (below_size (by repeat (first | (with_reducible first | exact HB.out | apply below_alloc | apply pw_below_drewN | apply below_drew1) | exact HB.out))) : w.heap.size ≤ gb332)); clear HB; have HB := n0_; have BK332 := n1_; have GW332 := n2_; have GE332 := n3_; clear n0_ n1_ n2_ n3_; clear hb hbox hg) | ((with_reducible refine gate_dst (N := 3) rfl ?_); refine box_event ?hg (N := 3) ?hd (cs := #[.int .u8 a1_0, .int .i64 a1_1, .string a1_2, .slice A1_3 l1_3.length c1_3]) (t := 25) ?hr ?_; (case hd => rfl); (case hg => rfl); (case hr => first | (go_simp; done) | (go_simp; rfl)); intro gb333 hg w14 hbox hb; have n0_ := Aside0.mk (blk_below (g := gb332) (o := .cells #[.int .u8 a0_0, .int .i64 a0_1, .string a0_2, .slice A0_3 l0_3.length c0_3] 25 (0, 0)) (by (with_reducible repeat (first | refine blk_drewN ?_ _ | refine blk_drew ?_ | refine blk_alloc ?_ _)); exact BK332.out) hb); have n1_ := Aside0.mk (below_step (by repeat (first | (with_reducible first | exact HB.out | apply below_alloc | apply pw_below_drewN | apply below_drew1 | refine below_set ?_ GE332.out) | exact HB.out)) hb); have n2_ := Aside0.mk (hbox); have n3_ := Aside0.mk ((by rw [hg]; exact (below_size (by repeat (first | (with_reducible first | exact HB.out | apply below_alloc | apply pw_below_drewN | apply below_drew1 | refine below_set ?_ GE332.out) | exact HB.out))) : w.heap.size ≤ gb333)); have n4_ := Aside0.mk ((by rw [hg]; exact (below_size (by repeat (first | (with_reducible first | exact HB.out | apply below_alloc | apply pw_below_drewN | apply below_drew1 | refine below_set ?_ GE332.out) | exact HB.out))) : w.heap.size ≤ gb333)); have n5_ := Aside0.mk ((by rw [hg]; exact Nat.ne_of_lt (blk_lt (g := gb332) (o := .cells #[.int .u8 a0_0, .int .i64 a0_1, .string a0_2, .slice A0_3 l0_3.length c0_3] 25 (0, 0)) (by (with_reducible repeat (first | refine blk_drewN ?_ _ | refine blk_drew ?_ | refine blk_alloc ?_ _)); exact BK332.out)) : gb332 ≠ gb333)); have n6_ := Aside0.mk ((by rw [hg]; exact Nat.ne_of_gt (blk_lt (g := gb332) (o := .cells #[.int .u8 a0_0, .int .i64 a0_1, .string a0_2, .slice A0_3 l0_3.length c0_3] 25 (0, 0)) (by (with_reducible repeat (first | refine blk_drewN ?_ _ | refine blk_drew ?_ | refine blk_alloc ?_ _)); exact BK332.out)) : gb333 ≠ gb332)); clear BK332; clear HB; have BK332 := n0_; have HB := n1_; have BK333 := n2_; have GW333 := n3_; have GE333 := n4_; have NB332_333 := n5_; have NB333_332 := n6_; clear n0_ n1_ n2_ n3_ n4_ n5_ n6_; clear hb hbox hg; have hnb15 := NB332_333.out; have hnc15 := NB333_332.out; have hcz16_0 : w14.cell? ⟨gb332, 0, none⟩ = some (.int .u8 a0_0) := (blk_cell BK332.out 0).trans rfl; have hcz16_1 : w14.cell? ⟨gb332, 1, none⟩ = some (.int .i64 a0_1) := (blk_cell BK332.out 1).trans rfl; have hcz16_2 : w14.cell? ⟨gb332, 2, none⟩ = some (.string a0_2) := (blk_cell BK332.out 2).trans rfl; have hcz16_3 : w14.cell? ⟨gb332, 3, none⟩ = some (.slice A0_3 l0_3.length c0_3) := (blk_cell BK332.out 3).trans rfl; have hfz16_0 := blk_frozen BK332.out 0; have hfz16_1 := blk_frozen BK332.out 1; have hfz16_2 := blk_frozen BK332.out 2; have hfz16_3 := blk_frozen BK332.out 3; have hcz17_0 : w14.cell? ⟨gb333, 0, none⟩ = some (.int .u8 a1_0) := (blk_cell BK333.out 0).trans rfl; have hcz17_1 : w14.cell? ⟨gb333, 1, none⟩ = some (.int .i64 a1_1) := (blk_cell BK333.out 1).trans rfl; have hcz17_2 : w14.cell? ⟨gb333, 2, none⟩ = some (.string a1_2) := (blk_cell BK333.out 2).trans rfl; have hcz17_3 : w14.cell? ⟨gb333, 3, none⟩ = some (.slice A1_3 l1_3.length c1_3) := (blk_cell BK333.out 3).trans rfl; have hfz17_0 := blk_frozen BK333.out 0; have hfz17_1 := blk_frozen BK333.out 1; have hfz17_2 := blk_frozen BK333.out 2; have hfz17_3 := blk_frozen BK333.out 3))
    go_ret
    exact ⟨by first | rfl | (simp [errW_none, errW_some] <;> rfl) | (simp [*, errW_none, errW_some] <;> rfl), by repeat (first | (with_reducible first | exact HB.out | apply below_alloc | apply pw_below_drewN | apply below_drew1 | refine below_set ?_ GE332.out | refine below_set ?_ GE333.out) | exact HB.out)⟩
  ·rw [if_neg c4] at H
   have c4b0 : (a0_1 == a1_1) = false := beq_eq_false_iff_ne.mpr c4
   have c4b1 : (a0_1 != a1_1) = true := bne_iff_ne.mpr c4
   obtain rfl := Option.some.inj H
   go_enter Tryd.func19, Tryd.ntmps19
   go_wp2_with (first | ((with_reducible refine gate_dst (N := 2) rfl ?_); refine box_event ?hg (N := 2) ?hd (cs := #[.int .u8 a0_0, .int .i64 a0_1, .string a0_2, .slice A0_3 l0_3.length c0_3]) (t := 25) ?hr ?_; (case hd => rfl); (case hg => rfl); (case hr => first | (go_simp; done) | (go_simp; rfl)); intro gb332 hg w18 hbox hb; have n0_ := Aside0.mk (below_step (by repeat (first | (with_reducible first | exact HB.out | apply below_alloc | apply pw_below_drewN | apply below_drew1) | exact HB.out)) hb); have n1_ := Aside0.mk (hbox); have n2_ := Aside0.mk ((by rw [hg]; exact (below_size (by repeat (first | (with_reducible first | exact HB.out | apply below_alloc | apply pw_below_drewN | apply below_drew1) | exact HB.out))) : w.heap.size ≤ gb332)); have n3_ := Aside0.mk ((by rw [hg]; exact (below_size (by repeat (first | (with_reducible first | exact HB.out | apply below_alloc | apply pw_below_drewN | apply below_drew1) | exact HB.out))) : w.heap.size ≤ gb332)); clear HB; have HB := n0_; have BK332 := n1_; have GW332 := n2_; have GE332 := n3_; clear n0_ n1_ n2_ n3_; clear hb hbox hg) | ((with_reducible refine gate_dst (N := 3) rfl ?_); refine box_event ?hg (N := 3) ?hd (cs := #[.int .u8 a1_0, .int .i64 a1_1, .string a1_2, .slice A1_3 l1_3.length c1_3]) (t := 25) ?hr ?_; (case hd => rfl); (case hg => rfl); (case hr => first | (go_simp; done) | (go_simp; rfl)); intro gb333 hg w19 hbox hb; have n0_ := Aside0.mk (blk_below (g := gb332) (o := .cells #[.int .u8 a0_0, .int .i64 a0_1, .string a0_2, .slice A0_3 l0_3.length c0_3] 25 (0, 0)) (by (with_reducible repeat (first | refine blk_drewN ?_ _ | refine blk_drew ?_ | refine blk_alloc ?_ _)); exact BK332.out) hb); have n1_ := Aside0.mk (below_step (by repeat (first | (with_reducible first | exact HB.out | apply below_alloc | apply pw_below_drewN | apply below_drew1 | refine below_set ?_ GE332.out) | exact HB.out)) hb); have n2_ := Aside0.mk (hbox); have n3_ := Aside0.mk ((by rw [hg]; exact (below_size (by repeat (first | (with_reducible first | exact HB.out | apply below_alloc | apply pw_below_drewN | apply below_drew1 | refine below_set ?_ GE332.out) | exact HB.out))) : w.heap.size ≤ gb333)); have n4_ := Aside0.mk ((by rw [hg]; exact (below_size (by repeat (first | (with_reducible first | exact HB.out | apply below_alloc | apply pw_below_drewN | apply below_drew1 | refine below_set ?_ GE332.out) | exact HB.out))) : w.heap.size ≤ gb333)); have n5_ := Aside0.mk ((by rw [hg]; exact Nat.ne_of_lt (blk_lt (g := gb332) (o := .cells #[.int .u8 a0_0, .int .i64 a0_1, .string a0_2, .slice A0_3 l0_3.length c0_3] 25 (0, 0)) (by (with_reducible repeat (first | refine blk_drewN ?_ _ | refine blk_drew ?_ | refine blk_alloc ?_ _)); exact BK332.out)) : gb332 ≠ gb333)); have n6_ := Aside0.mk ((by rw [hg]; exact Nat.ne_of_gt (blk_lt (g := gb332) (o := .cells #[.int .u8 a0_0, .int .i64 a0_1, .string a0_2, .slice A0_3 l0_3.length c0_3] 25 (0, 0)) (by (with_reducible repeat (first | refine blk_drewN ?_ _ | refine blk_drew ?_ | refine blk_alloc ?_ _)); exact BK332.out)) : gb333 ≠ gb332)); clear BK332; clear HB; have BK332 := n0_; have HB := n1_; have BK333 := n2_; have GW333 := n3_; have GE333 := n4_; have NB332_333 := n5_; have NB333_332 := n6_; clear n0_ n1_ n2_ n3_ n4_ n5_ n6_; clear hb hbox hg; have hnb20 := NB332_333.out; have hnc20 := NB333_332.out; have hcz21_0 : w19.cell? ⟨gb332, 0, none⟩ = some (.int .u8 a0_0) := (blk_cell BK332.out 0).trans rfl; have hcz21_1 : w19.cell? ⟨gb332, 1, none⟩ = some (.int .i64 a0_1) := (blk_cell BK332.out 1).trans rfl; have hcz21_2 : w19.cell? ⟨gb332, 2, none⟩ = some (.string a0_2) := (blk_cell BK332.out 2).trans rfl; have hcz21_3 : w19.cell? ⟨gb332, 3, none⟩ = some (.slice A0_3 l0_3.length c0_3) := (blk_cell BK332.out 3).trans rfl; have hfz21_0 := blk_frozen BK332.out 0; have hfz21_1 := blk_frozen BK332.out 1; have hfz21_2 := blk_frozen BK332.out 2; have hfz21_3 := blk_frozen BK332.out 3; have hcz22_0 : w19.cell? ⟨gb333, 0, none⟩ = some (.int .u8 a1_0) := (blk_cell BK333.out 0).trans rfl; have hcz22_1 : w19.cell? ⟨gb333, 1, none⟩ = some (.int .i64 a1_1) := (blk_cell BK333.out 1).trans rfl; have hcz22_2 : w19.cell? ⟨gb333, 2, none⟩ = some (.string a1_2) := (blk_cell BK333.out 2).trans rfl; have hcz22_3 : w19.cell? ⟨gb333, 3, none⟩ = some (.slice A1_3 l1_3.length c1_3) := (blk_cell BK333.out 3).trans rfl; have hfz22_0 := blk_frozen BK333.out 0; have hfz22_1 := blk_frozen BK333.out 1; have hfz22_2 := blk_frozen BK333.out 2; have hfz22_3 := blk_frozen BK333.out 3))
   go_ret
   exact ⟨by first | rfl | (simp [errW_none, errW_some] <;> rfl) | (simp [*, errW_none, errW_some] <;> rfl), by repeat (first | (with_reducible first | exact HB.out | apply below_alloc | apply pw_below_drewN | apply below_drew1 | refine below_set ?_ GE332.out | refine below_set ?_ GE333.out) | exact HB.out)⟩
 ·rw [if_neg c3] at H
  have c3b0 : (a0_0 == a1_0) = false := beq_eq_false_iff_ne.mpr c3
  have c3b1 : (a0_0 != a1_0) = true := bne_iff_ne.mpr c3
  obtain rfl := Option.some.inj H
  go_enter Tryd.func19, Tryd.ntmps19
  go_wp2_with (first | ((with_reducible refine gate_dst (N := 2) rfl ?_); refine box_event ?hg (N := 2) ?hd (cs := #[.int .u8 a0_0, .int .i64 a0_1, .string a0_2, .slice A0_3 l0_3.length c0_3]) (t := 25) ?hr ?_; (case hd => rfl); (case hg => rfl); (case hr => first | (go_simp; done) | (go_simp; rfl)); intro gb332 hg w23 hbox hb; have n0_ := Aside0.mk (below_step (by repeat (first | (with_reducible first | exact HB.out | apply below_alloc | apply pw_below_drewN | apply below_drew1) | exact HB.out)) hb); have n1_ := Aside0.mk (hbox); have n2_ := Aside0.mk ((by rw [hg]; exact (below_size (by repeat (first | (with_reducible first | exact HB.out | apply below_alloc | apply pw_below_drewN | apply below_drew1) | exact HB.out))) : w.heap.size ≤ gb332)); have n3_ := Aside0.mk ((by rw [hg]; exact (below_size (by repeat (first | (with_reducible first | exact HB.out | apply below_alloc | apply pw_below_drewN | apply below_drew1) | exact HB.out))) : w.heap.size ≤ gb332)); clear HB; have HB := n0_; have BK332 := n1_; have GW332 := n2_; have GE332 := n3_; clear n0_ n1_ n2_ n3_; clear hb hbox hg) | ((with_reducible refine gate_dst (N := 3) rfl ?_); refine box_event ?hg (N := 3) ?hd (cs := #[.int .u8 a1_0, .int .i64 a1_1, .string a1_2, .slice A1_3 l1_3.length c1_3]) (t := 25) ?hr ?_; (case hd => rfl); (case hg => rfl); (case hr => first | (go_simp; done) | (go_simp; rfl)); intro gb333 hg w24 hbox hb; have n0_ := Aside0.mk (blk_below (g := gb332) (o := .cells #[.int .u8 a0_0, .int .i64 a0_1, .string a0_2, .slice A0_3 l0_3.length c0_3] 25 (0, 0)) (by (with_reducible repeat (first | refine blk_drewN ?_ _ | refine blk_drew ?_ | refine blk_alloc ?_ _)); exact BK332.out) hb); have n1_ := Aside0.mk (below_step (by repeat (first | (with_reducible first | exact HB.out | apply below_alloc | apply pw_below_drewN | apply below_drew1 | refine below_set ?_ GE332.out) | exact HB.out)) hb); have n2_ := Aside0.mk (hbox); have n3_ := Aside0.mk ((by rw [hg]; exact (below_size (by repeat (first | (with_reducible first | exact HB.out | apply below_alloc | apply pw_below_drewN | apply below_drew1 | refine below_set ?_ GE332.out) | exact HB.out))) : w.heap.size ≤ gb333)); have n4_ := Aside0.mk ((by rw [hg]; exact (below_size (by repeat (first | (with_reducible first | exact HB.out | apply below_alloc | apply pw_below_drewN | apply below_drew1 | refine below_set ?_ GE332.out) | exact HB.out))) : w.heap.size ≤ gb333)); have n5_ := Aside0.mk ((by rw [hg]; exact Nat.ne_of_lt (blk_lt (g := gb332) (o := .cells #[.int .u8 a0_0, .int .i64 a0_1, .string a0_2, .slice A0_3 l0_3.length c0_3] 25 (0, 0)) (by (with_reducible repeat (first | refine blk_drewN ?_ _ | refine blk_drew ?_ | refine blk_alloc ?_ _)); exact BK332.out)) : gb332 ≠ gb333)); have n6_ := Aside0.mk ((by rw [hg]; exact Nat.ne_of_gt (blk_lt (g := gb332) (o := .cells #[.int .u8 a0_0, .int .i64 a0_1, .string a0_2, .slice A0_3 l0_3.length c0_3] 25 (0, 0)) (by (with_reducible repeat (first | refine blk_drewN ?_ _ | refine blk_drew ?_ | refine blk_alloc ?_ _)); exact BK332.out)) : gb333 ≠ gb332)); clear BK332; clear HB; have BK332 := n0_; have HB := n1_; have BK333 := n2_; have GW333 := n3_; have GE333 := n4_; have NB332_333 := n5_; have NB333_332 := n6_; clear n0_ n1_ n2_ n3_ n4_ n5_ n6_; clear hb hbox hg; have hnb25 := NB332_333.out; have hnc25 := NB333_332.out; have hcz26_0 : w24.cell? ⟨gb332, 0, none⟩ = some (.int .u8 a0_0) := (blk_cell BK332.out 0).trans rfl; have hcz26_1 : w24.cell? ⟨gb332, 1, none⟩ = some (.int .i64 a0_1) := (blk_cell BK332.out 1).trans rfl; have hcz26_2 : w24.cell? ⟨gb332, 2, none⟩ = some (.string a0_2) := (blk_cell BK332.out 2).trans rfl; have hcz26_3 : w24.cell? ⟨gb332, 3, none⟩ = some (.slice A0_3 l0_3.length c0_3) := (blk_cell BK332.out 3).trans rfl; have hfz26_0 := blk_frozen BK332.out 0; have hfz26_1 := blk_frozen BK332.out 1; have hfz26_2 := blk_frozen BK332.out 2; have hfz26_3 := blk_frozen BK332.out 3; have hcz27_0 : w24.cell? ⟨gb333, 0, none⟩ = some (.int .u8 a1_0) := (blk_cell BK333.out 0).trans rfl; have hcz27_1 : w24.cell? ⟨gb333, 1, none⟩ = some (.int .i64 a1_1) := (blk_cell BK333.out 1).trans rfl; have hcz27_2 : w24.cell? ⟨gb333, 2, none⟩ = some (.string a1_2) := (blk_cell BK333.out 2).trans rfl; have hcz27_3 : w24.cell? ⟨gb333, 3, none⟩ = some (.slice A1_3 l1_3.length c1_3) := (blk_cell BK333.out 3).trans rfl; have hfz27_0 := blk_frozen BK333.out 0; have hfz27_1 := blk_frozen BK333.out 1; have hfz27_2 := blk_frozen BK333.out 2; have hfz27_3 := blk_frozen BK333.out 3))
  go_ret
  exact ⟨by first | rfl | (simp [errW_none, errW_some] <;> rfl) | (simp [*, errW_none, errW_some] <;> rfl), by repeat (first | (with_reducible first | exact HB.out | apply below_alloc | apply pw_below_drewN | apply below_drew1 | refine below_set ?_ GE332.out | refine below_set ?_ GE333.out) | exact HB.out)⟩

theorem belfrylaw01_SameExprs.calls_g (k : Nat) : (∀ (A0 : Option Addr) (c0 : Nat) (l0 : List (S25)) (A1 : Option Addr) (c1 : Nat) (l1 : List (S25)) (r : Bool) (w : World) (hr0 : Kd.C k25 w A0 l0.length l0) (hc0 : l0.length ≤ c0) (hr1 : Kd.C k25 w A1 l1.length l1) (hc1 : l1.length ≤ c1) (h : belfrylaw01_SameExprs.f k l0 l1 = some r), Calls Tryd.prog 36 #[.slice A0 l0.length c0, .slice A1 l1.length c1] w fun e w' => e = .returned (.bool r) ∧ Below w.heap.size w w') ∧ (∀ (a0_0 : Int) (a0_1 : Int) (a0_2 : ByteArray) (A0_3 : Option Addr) (c0_3 : Nat) (l0_3 : List (S25)) (a1_0 : Int) (a1_1 : Int) (a1_2 : ByteArray) (A1_3 : Option Addr) (c1_3 : Nat) (l1_3 : List (S25)) (r : Bool) (w : World) (hr0_3 : Kd.C k25 w A0_3 l0_3.length l0_3) (hc0_3 : l0_3.length ≤ c0_3) (hr1_3 : Kd.C k25 w A1_3 l1_3.length l1_3) (hc1_3 : l1_3.length ≤ c1_3) (h : belfrylaw01_SameExpr.f k a0_0 a0_1 a0_2 l0_3 a1_0 a1_1 a1_2 l1_3 = some r), Calls Tryd.prog 19 #[.agg #[.int .u8 a0_0, .int .i64 a0_1, .string a0_2, .slice A0_3 l0_3.length c0_3], .agg #[.int .u8 a1_0, .int .i64 a1_1, .string a1_2, .slice A1_3 l1_3.length c1_3]] w fun e w' => e = .returned (.bool r) ∧ Below w.heap.size w w') := by
 induction k using Nat.strongRecOn with
 | _ k ih =>
 exact ⟨belfrylaw01_SameExprs.step k (fun m hm => (ih m hm).1) (fun m hm => (ih m hm).2), belfrylaw01_SameExpr.step k (fun m hm => (ih m hm).1) (fun m hm => (ih m hm).2)⟩
theorem belfrylaw01_SameExprs.calls (k : Nat) : ∀ (A0 : Option Addr) (c0 : Nat) (l0 : List (S25)) (A1 : Option Addr) (c1 : Nat) (l1 : List (S25)) (r : Bool) (w : World) (hr0 : Kd.C k25 w A0 l0.length l0) (hc0 : l0.length ≤ c0) (hr1 : Kd.C k25 w A1 l1.length l1) (hc1 : l1.length ≤ c1) (h : belfrylaw01_SameExprs.f k l0 l1 = some r),
  Calls Tryd.prog 36 #[.slice A0 l0.length c0, .slice A1 l1.length c1] w fun e w' => e = .returned (.bool r) ∧ Below w.heap.size w w' := (belfrylaw01_SameExprs.calls_g k).1
theorem belfrylaw01_SameExpr.calls (k : Nat) : ∀ (a0_0 : Int) (a0_1 : Int) (a0_2 : ByteArray) (A0_3 : Option Addr) (c0_3 : Nat) (l0_3 : List (S25)) (a1_0 : Int) (a1_1 : Int) (a1_2 : ByteArray) (A1_3 : Option Addr) (c1_3 : Nat) (l1_3 : List (S25)) (r : Bool) (w : World) (hr0_3 : Kd.C k25 w A0_3 l0_3.length l0_3) (hc0_3 : l0_3.length ≤ c0_3) (hr1_3 : Kd.C k25 w A1_3 l1_3.length l1_3) (hc1_3 : l1_3.length ≤ c1_3) (h : belfrylaw01_SameExpr.f k a0_0 a0_1 a0_2 l0_3 a1_0 a1_1 a1_2 l1_3 = some r),
  Calls Tryd.prog 19 #[.agg #[.int .u8 a0_0, .int .i64 a0_1, .string a0_2, .slice A0_3 l0_3.length c0_3], .agg #[.int .u8 a1_0, .int .i64 a1_1, .string a1_2, .slice A1_3 l1_3.length c1_3]] w fun e w' => e = .returned (.bool r) ∧ Below w.heap.size w w' := (belfrylaw01_SameExprs.calls_g k).2

end Go.Proofs.YtbdciibbgiphcaaDoor.V

/- Something is the same as itself: SameExpr. -/
namespace Go.Proofs.YtbdciibbgiphcaaDoor.V
set_option linter.unusedVariables false
set_option linter.unusedSimpArgs false
set_option linter.unusedSectionVars false
open Go.RowKit Go.Proofs.YtbdciibbgiphcaaDoorW.PrintWords Go.Proofs.YtbdciibbgiphcaaDoorW.PrintLast Go.Proofs.YtbdciibbgiphcaaDoorW.PrintMore
theorem same_l0 (xs : List S25) (hx : xs.length ≤ 140737488351232) (hy : ∀ y ∈ xs, Ev (fun k => belfrylaw01_SameExpr.f k y.f0 y.f1 y.f2 y.f3 y.f0 y.f1 y.f2 y.f3) true) :
  ∀ (m i : Nat), i + m = xs.length → Ev (fun k => belfrylaw01_SameExprs.l0 k xs xs (i : Int)) true
 | 0, i, h => by
  refine Ev.step (fun k => ?_) (Ev.now _)
  simp only [belfrylaw01_SameExprs.l0]
  rw [if_neg (by omega)]
 | m + 1, i, h => by
  have hi : i < xs.length := by omega
  have ih := same_l0 xs hx hy m (i + 1) (by omega)
  refine Ev.step (f := fun k => (belfrylaw01_SameExpr.f k xs[i].f0 xs[i].f1 xs[i].f2 xs[i].f3 xs[i].f0 xs[i].f1 xs[i].f2 xs[i].f3).bind fun t => (if t = true then (belfrylaw01_SameExprs.l0 k xs xs (wrap64 ((i : Int) + 1))) else (some false))) (fun k => ?_) ?_
  ·simp only [belfrylaw01_SameExprs.l0]
   rw [if_pos (by omega), if_pos (by omega), if_pos (by omega), rdT25 xs i hi]
  ·refine Ev.bind (f := fun k t => (if t = true then (belfrylaw01_SameExprs.l0 k xs xs (wrap64 ((i : Int) + 1))) else (some false))) (hy _ (List.getElem_mem hi)) ?_
   rw [w64 (by omega) (by omega)]
   refine Ev.congr (fun k => if_pos rfl) ?_
   exact_mod_cast ih
theorem same_refl {x : S25} (h : WfE x) : Ev (fun k => belfrylaw01_SameExpr.f k x.f0 x.f1 x.f2 x.f3 x.f0 x.f1 x.f2 x.f3) true := by
 induction h with
 | mk o n s xs h1 h2 h3 h4 h5 h6 hk ih =>
  have h0 := same_l0 xs h6 ih xs.length 0 (by omega)
  have hf : Ev (fun k => belfrylaw01_SameExprs.f k xs xs) true := Ev.step (fun k => by simp only [belfrylaw01_SameExprs.f, if_true]; rfl) h0
  refine Ev.step (f := fun k => (belfrylaw01_SameExprs.f k xs xs).bind fun t => some t) (fun k => ?_) (Ev.bind (f := fun k t => some t) hf (Ev.now _))
  simp only [belfrylaw01_SameExpr.f, if_true]
end Go.Proofs.YtbdciibbgiphcaaDoor.V

/- The laws' own 'is': where a text is read as that, and that is written so. -/
namespace Go.Proofs.YtbdciibbgiphcaaDoor.V
set_option linter.unusedVariables false
set_option linter.unusedSimpArgs false
set_option linter.unusedSectionVars false
open Go.RowKit Go.Proofs.YtbdciibbgiphcaaDoorW.PrintWords Go.Proofs.YtbdciibbgiphcaaDoorW.PrintLast Go.Proofs.YtbdciibbgiphcaaDoorW.PrintMore
theorem nameOk40 (s : ByteArray) (h : nameOk s = true) : s.size ≤ 40 := by
 unfold nameOk at h
 simp only [Bool.and_eq_true, decide_eq_true_eq] at h
 exact h.2.1
set_option maxHeartbeats 4000000 in
set_option maxRecDepth 100000 in
theorem is_law (s : ByteArray) (x : S25) (A : Option Addr) (c : Nat) (W : World) (hv : VarOk W) (ht : VarT W) (hwf : WfE x) (hc : x.f3.length ≤ c) (hC : Kd.C k25 W A x.f3.length x.f3) (hr : readP s = some (x, true)) (hw : textE nameOk x = (s, 0)) :
  Calls Tryd.prog 28 #[.string s, .agg #[.int .u8 x.f0, .int .i64 x.f1, .string x.f2, .slice A x.f3.length c]] W fun e W' => e = .returned (.bool true) ∧ Below W.heap.size W W' := by
 have HV := Lib.hid hv; have HT := Lib.hid ht; have HC := Lib.hid hC; have HR := Lib.hid hr; have HW := Lib.hid hw; have HWF := Lib.hid hwf
 obtain ⟨K, hK⟩ := (same_refl hwf).rounds
 have HK := Lib.hid hK
 have HB0 := Lib.hid ((Below.refl W.heap.size W).alloc (Nat.le_refl _) (.cells #[.int .u8 x.f0, .int .i64 x.f1, .string x.f2, .slice A x.f3.length c] 25))
 have HX0 := Lib.hid (heap_alloc_new W (.cells #[.int .u8 x.f0, .int .i64 x.f1, .string x.f2, .slice A x.f3.length c] 25))
 clear hv ht hC hr hw hwf hK
 go_enter Tryd.func28, Tryd.ntmps28
 go_wp2_with fail
 refine (read_law s x true _ (HV.out.step HB0.out) HR.out).mono ?_
 rintro e w1 ⟨A1, c1, rfl, hl1, hF1, hb1⟩
 have HB1 := Lib.hid (HB0.out.trans (hb1.mono HB0.out.size))
 have HX1 := Lib.hid ((hb1.block _ (blk_lt HX0.out)).trans HX0.out)
 have HF1 := Lib.hid (Kd.F_alloc hF1 (.cells #[.int .u8 x.f0, .int .i64 x.f1, .string x.f2, .slice A1 x.f3.length c1] 25))
 have HY1 := Lib.hid (heap_alloc_new w1 (.cells #[.int .u8 x.f0, .int .i64 x.f1, .string x.f2, .slice A1 x.f3.length c1] 25))
 have HX2 := Lib.hid (blk_alloc HX1.out (.cells #[.int .u8 x.f0, .int .i64 x.f1, .string x.f2, .slice A1 x.f3.length c1] 25))
 have HB2 := Lib.hid (HB1.out.alloc HB1.out.size (.cells #[.int .u8 x.f0, .int .i64 x.f1, .string x.f2, .slice A1 x.f3.length c1] 25))
 clear hb1 hF1 HX0 HB0 HX1
 have x0 := blk_cell HX2.out 0; have x1 := blk_cell HX2.out 1; have x2 := blk_cell HX2.out 2; have x3 := blk_cell HX2.out 3
 dsimp at x0 x1 x2 x3
 go_wp2_with fail
 refine (Text_walk nameOk name_is nameOk40 x A c _ HWF.out hc (Kd.C_below HC.out HB2.out) (HT.out.step HB2.out)).mono ?_
 rintro e w2 ⟨rfl, hb2⟩
 rw [HW.out]
 have HB3 := Lib.hid (HB2.out.trans (hb2.mono HB2.out.size))
 have HX3 := Lib.hid ((hb2.block _ (blk_lt HX2.out)).trans HX2.out)
 have HY3 := Lib.hid ((hb2.block _ (blk_lt HY1.out)).trans HY1.out)
 have HF3 := Lib.hid (Kd.F_below HF1.out hb2)
 clear hb2 HX2 HB2 HF1 HY1 x0 x1 x2 x3
 have x0 := blk_cell HX3.out 0; have x1 := blk_cell HX3.out 1; have x2 := blk_cell HX3.out 2; have x3 := blk_cell HX3.out 3
 have y0 := blk_cell HY3.out 0; have y1 := blk_cell HY3.out 1; have y2 := blk_cell HY3.out 2; have y3 := blk_cell HY3.out 3
 dsimp at x0 x1 x2 x3 y0 y1 y2 y3
 go_wp2_with fail
 refine (belfrylaw01_SameExpr.calls K _ _ _ _ _ _ _ _ _ _ _ _ _ _ (Kd.F_now HF3.out) hl1 (Kd.C_below HC.out HB3.out) hc HK.out).mono ?_
 rintro e w3 ⟨rfl, hb3⟩
 have HB4 := Lib.hid (HB3.out.trans (hb3.mono HB3.out.size))
 clear hb3
 go_wp2_with fail
 go_ret
 exact ⟨by simp, HB4.out⟩
end Go.Proofs.YtbdciibbgiphcaaDoor.V
