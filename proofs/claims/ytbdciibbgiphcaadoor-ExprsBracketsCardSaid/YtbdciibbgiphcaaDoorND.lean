/- The reader of tokens: what it computes; its smaller walks. Joined by wip/merge.py (ours) from several texts of this seat. -/
import Derived.Test.YtbdciibbgiphcaaDoorNA
import Derived.Test.YtbdciibbgiphcaaDoorNB
import Derived.Deep.RegionHeld3
import Derived.LoopTactic
import Derived.Lib.Hide
import Derived.Recover
import Derived.Defers
import Derived.WalkSmall
import Derived.Deep.RegionHeld2
import Derived.Test.YtbdciibbgiphcaaDoorNC
import Derived.ScopeJumps
import Derived.WalkMore
-- Written for this claim by wip/myprint.py (a program of this session over the kit's printer).
namespace Go.Proofs.YtbdciibbgiphcaaDoor.V
open Go.RowKit Go.Proofs.YtbdciibbgiphcaaDoorW.PrintWords Go.Proofs.YtbdciibbgiphcaaDoorW.PrintLast Go.Proofs.YtbdciibbgiphcaaDoorW.PrintMore
attribute [local go_sem] max2_int min2_int max_two min_two max_three min_three max_four min_four   -- for this text's walks alone
set_option linter.unusedVariables false
set_option linter.unusedSimpArgs false


/-- A state of type 75 at block g of W; what its slices lead to came in by w0. -/
def IsS75 (w0 W : World) (g : Nat) (f0 : List (S45)) (f1 : Int) : Prop := ∃ A0 c0, W.heap[g]? = some (.cells #[.slice A0 f0.length c0, .int .i64 f1] 75 (0, 0)) ∧ w0.heap.size ≤ g ∧ Kd.C k45 w0 A0 f0.length f0
theorem IsS75.grown {w0 W : World} {g : Nat} {f0 : List (S45)} {f1 : Int} {W1 : World} {row : Option Nat} (h : IsS75 w0 W g f0 f1) (hw : W.grownBy W1 row) (hne : some g ≠ row) : IsS75 w0 W1 g f0 f1 := by
 obtain ⟨A0, c0, hb, hg, hr0⟩ := h
 exact ⟨A0, c0, blk_grown hb hw hne, hg, hr0⟩
theorem IsS75.kept {w0 W : World} {g : Nat} {f0 : List (S45)} {f1 : Int} {W1 : World} {S : Nat → Prop} (h : IsS75 w0 W g f0 f1) (hk : Kept W W1 S) (hne : ¬ S g) : IsS75 w0 W1 g f0 f1 := by
 obtain ⟨A0, c0, hb, hg, hr0⟩ := h
 exact ⟨A0, c0, blk_kept hb hk hne, hg, hr0⟩
theorem IsS75.below {w0 W : World} {g : Nat} {f0 : List (S45)} {f1 : Int} {W1 : World} (h : IsS75 w0 W g f0 f1) (hw : Below W.heap.size W W1) : IsS75 w0 W1 g f0 f1 := h.grown (grown_of_below hw none) (by simp)
theorem IsS75.alloc {w0 W : World} {g : Nat} {f0 : List (S45)} {f1 : Int} (h : IsS75 w0 W g f0 f1) (o : Obj) : IsS75 w0 (W.alloc o) g f0 f1 := h.below (below_alloc (Below.refl _ _) o)
theorem IsS75.drewN {w0 W : World} {g : Nat} {f0 : List (S45)} {f1 : Int} (h : IsS75 w0 W g f0 f1) (m : Nat) : IsS75 w0 (W.drewN m) g f0 f1 := h
theorem IsS75.drew {w0 W : World} {g : Nat} {f0 : List (S45)} {f1 : Int} (h : IsS75 w0 W g f0 f1) : IsS75 w0 W.drew g f0 f1 := h
theorem IsS75.apart {w0 W : World} {g : Nat} {f0 : List (S45)} {f1 : Int} {α : Type} {d : Kd α} {e : Nat} {base : Nat} {ok : Nat → Prop} {v : Value} {xs : List α} (h : IsS75 w0 W g f0 f1) (ho : d.R e W base ok v xs) (ht : ∀ q, q ∈ e :: d.E → q ≠ 75) : d.R e W base (fun k => ok k ∧ k ≠ g) v xs := by
 obtain ⟨A0, c0, hb, hg, hr0⟩ := h
 exact Kd.R_types ho hb ht
theorem IsS75.own_ne {w0 W : World} {g : Nat} {f0 : List (S45)} {f1 : Int} {α : Type} {d : Kd α} {e : Nat} {base : Nat} {ok : Nat → Prop} {v : Value} {xs : List α} (h : IsS75 w0 W g f0 f1) (ho : d.R e W base ok v xs) (ht : e ≠ 75) : some g ≠ v.ownBlock := by
 obtain ⟨A0, c0, hb, hg, hr0⟩ := h
 exact Kd.R_ne ho hb ht
theorem IsS75.lt {w0 W : World} {g : Nat} {f0 : List (S45)} {f1 : Int} (h : IsS75 w0 W g f0 f1) : g < W.heap.size := by
 obtain ⟨A0, c0, hb, hg, hr0⟩ := h
 exact blk_lt hb
theorem IsS75.ge {w0 W : World} {g : Nat} {f0 : List (S45)} {f1 : Int} (h : IsS75 w0 W g f0 f1) : w0.heap.size ≤ g := by
 obtain ⟨A0, c0, hb, hg, hr0⟩ := h
 exact hg
theorem IsS75.far {w0 W : World} {g : Nat} {f0 : List (S45)} {f1 : Int} {p : Addr} (h : IsS75 w0 W g f0 f1) (hne : g ≠ p.block) (u : Value) : IsS75 w0 (W.setCell p u) g f0 f1 := by
 obtain ⟨A0, c0, hb, hg, hr0⟩ := h
 exact ⟨A0, c0, blk_far hb hne u, hg, hr0⟩
theorem cellS75_0 {W : World} {g : Nat} {A0 : Option Addr} {c0 : Nat} {f0 : List (S45)} {f1 : Int} (h : W.heap[g]? = some (.cells #[.slice A0 f0.length c0, .int .i64 f1] 75 (0, 0))) : W.cell? ⟨g, 0, none⟩ = some (.slice A0 f0.length c0) := (blk_cell h 0).trans rfl
theorem cellS75_1 {W : World} {g : Nat} {A0 : Option Addr} {c0 : Nat} {f0 : List (S45)} {f1 : Int} (h : W.heap[g]? = some (.cells #[.slice A0 f0.length c0, .int .i64 f1] 75 (0, 0))) : W.cell? ⟨g, 1, none⟩ = some (.int .i64 f1) := (blk_cell h 1).trans rfl
theorem IsS75.set_1 {w0 W : World} {g : Nat} {f0 : List (S45)} {f1 : Int} (h : IsS75 w0 W g f0 f1) (x : Int) : IsS75 w0 (W.setCell ⟨g, 1, none⟩ (.int .i64 x)) g f0 x := by
 obtain ⟨A0, c0, hb, hg, hr0⟩ := h
 exact ⟨A0, c0, by simpa using blk_set hb 1 (.int .i64 x), hg, hr0⟩
theorem IsS75.new (w0 W : World) (A0 : Option Addr) (c0 : Nat) (f0 : List (S45)) (f1 : Int) (hB : Below w0.heap.size w0 W) (hr0 : Kd.C k45 w0 A0 f0.length f0) : IsS75 w0 (W.alloc (.cells #[.slice A0 f0.length c0, .int .i64 f1] 75)) W.heap.size f0 f1 := ⟨A0, c0, by simpa using heap_alloc_new W _, hB.size, hr0⟩

/-! ### exprs_reader_takes: function 68 -/
def exprs_reader_takes.f (s0_0 : List (S45)) (s0_1 : Int) (a1 : Int) (a2 : ByteArray) : Option (Bool × Int) := if s0_1 < (s0_0.length : Int) then (if 0 ≤ s0_1 then (if ((rd_T45 s0_0 s0_1).f0) = a1 then (if ((rd_T45 s0_0 s0_1).f1).toList = a2.toList then (some ((((rd_T45 s0_0 s0_1).f1).toList == a2.toList), wrap64 (s0_1 + 1))) else (some ((((rd_T45 s0_0 s0_1).f1).toList == a2.toList), s0_1))) else (some (false, s0_1))) else (none)) else (some (false, s0_1))
set_option maxHeartbeats 8000000 in
set_option maxRecDepth 100000 in
theorem exprs_reader_takes.calls (g : Nat) (s0_0 : List (S45)) (s0_1 : Int) (a1 : Int) (a2 : ByteArray) (r1 : Bool) (r2 : Int) (w0 w : World) (hI : IsS75 w0 w g s0_0 s0_1) (hB : Below w0.heap.size w0 w) (h : exprs_reader_takes.f s0_0 s0_1 a1 a2 = some (r1, r2)) :
  Calls Tryd.prog 68 #[.pointer (some ⟨g, 0, none⟩), .int .u8 a1, .string a2] w fun e w' => e = .returned (.bool r1) ∧ IsS75 w0 w' g s0_0 r2 ∧ Below w0.heap.size w0 w' ∧ KeepBut w w' g none := by
 have HI0 := Aside0.mk hI
 have HK := Aside0.mk (KeepBut.refl w g none)
 have HL := Aside0.mk hB.size
 clear hI
 have HW0 := Aside0.mk hB.size
 have HB := Aside0.mk hB
 clear hB
 have H : (if s0_1 < (s0_0.length : Int) then (if 0 ≤ s0_1 then (if ((rd_T45 s0_0 s0_1).f0) = a1 then (if ((rd_T45 s0_0 s0_1).f1).toList = a2.toList then (some ((((rd_T45 s0_0 s0_1).f1).toList == a2.toList), wrap64 (s0_1 + 1))) else (some ((((rd_T45 s0_0 s0_1).f1).toList == a2.toList), s0_1))) else (some (false, s0_1))) else (none)) else (some (false, s0_1))) = some (r1, r2) := h
 clear h
 by_cases c4 : s0_1 < (s0_0.length : Int)
 ·rw [if_pos c4] at H
  have c4b0 : decide (s0_1 < (s0_0.length : Int)) = true := decide_eq_true c4
  clear c4
  by_cases c5 : 0 ≤ s0_1
  ·rw [if_pos c5] at H
   have c5b0 : decide (0 ≤ s0_1) = true := decide_eq_true c5
   clear c5
   by_cases c6 : ((rd_T45 s0_0 s0_1).f0) = a1
   ·rw [if_pos c6] at H
    have c6b0 : (((rd_T45 s0_0 s0_1).f0) == a1) = true := beq_iff_eq.mpr c6
    have c6b1 : (((rd_T45 s0_0 s0_1).f0) != a1) = false := bne_eq_false_iff_eq.mpr c6
    clear c6
    by_cases c7 : ((rd_T45 s0_0 s0_1).f1).toList = a2.toList
    ·rw [if_pos c7] at H
     have c7b0 : (((rd_T45 s0_0 s0_1).f1).toList == a2.toList) = true := beq_iff_eq.mpr c7
     have c7b1 : (((rd_T45 s0_0 s0_1).f1).toList != a2.toList) = false := bne_eq_false_iff_eq.mpr c7
     clear c7
     simp only [Option.some.injEq, Prod.mk.injEq] at H
     obtain ⟨rfl, rfl⟩ := H
     obtain ⟨ASz8_0, cSz8_0, HGz8, hgz8, HSz8_0⟩ := HI0.out
     have hcz8_0 := cellS75_0 HGz8
     have hcz8_1 := cellS75_1 HGz8
     have hfz8_1 := blk_frozen HGz8 1
     clear HGz8 hgz8
     have p271 : 0 ≤ (s0_1 : Int) := of_decide_eq_true (by first | (with_reducible assumption) | assumption)
     have q271 : s0_1 < (s0_0.length : Int) := of_decide_eq_true (by first | (with_reducible assumption) | assumption)
     obtain ⟨ad271, e271, hx271_0, hx271_1, hx271_2⟩ := at_T45 HSz8_0 s0_1 p271 q271
     cases e271
     replace hx271_0 := pw_cell_below HB.out hx271_0
     replace hx271_1 := pw_cell_below HB.out hx271_1
     replace hx271_2 := pw_cell_below HB.out hx271_2
     replace p271 := eq_true p271
     replace q271 := eq_true q271
     have p272 : 0 ≤ (s0_1 : Int) := of_decide_eq_true (by first | (with_reducible assumption) | assumption)
     have q272 : s0_1 < (s0_0.length : Int) := of_decide_eq_true (by first | (with_reducible assumption) | assumption)
     obtain ⟨ad272, e272, hx272_0, hx272_1, hx272_2⟩ := at_T45 HSz8_0 s0_1 p272 q272
     obtain rfl : ad271 = ad272 := (by injection e272)
     replace hx272_0 := pw_cell_below HB.out hx272_0
     replace hx272_1 := pw_cell_below HB.out hx272_1
     replace hx272_2 := pw_cell_below HB.out hx272_2
     replace p272 := eq_true p272
     replace q272 := eq_true q272
     go_enter Tryd.func68, Tryd.ntmps68
     go_wp2
     repeat (go_quiet (fail); try go_wp2)
     go_ret
     exact ⟨by first | rfl | (simp [errW_none, errW_some] <;> rfl) | (simp [*, errW_none, errW_some] <;> rfl), by repeat (first | (with_reducible first | exact HI0.out | apply IsS75.alloc | apply IsS75.drewN | apply IsS75.drew | apply IsS75.set_1) | exact HI0.out), by repeat (first | (with_reducible first | exact HB.out | apply below_alloc | apply pw_below_drewN | apply below_drew1 | refine below_set ?_ (IsS75.ge HI0.out)) | exact HB.out), by repeat (first | (with_reducible first | exact HK.out | apply KeepBut.set_ | apply keep_drewN | apply keep_drew | apply keep_alloc) | exact HK.out)⟩
    ·rw [if_neg c7] at H
     have c7b0 : (((rd_T45 s0_0 s0_1).f1).toList == a2.toList) = false := beq_eq_false_iff_ne.mpr c7
     have c7b1 : (((rd_T45 s0_0 s0_1).f1).toList != a2.toList) = true := bne_iff_ne.mpr c7
     simp only [Option.some.injEq, Prod.mk.injEq] at H
     obtain ⟨rfl, rfl⟩ := H
     obtain ⟨ASz9_0, cSz9_0, HGz9, hgz9, HSz9_0⟩ := HI0.out
     have hcz9_0 := cellS75_0 HGz9
     have hcz9_1 := cellS75_1 HGz9
     have hfz9_1 := blk_frozen HGz9 1
     clear HGz9 hgz9
     have p271 : 0 ≤ (s0_1 : Int) := of_decide_eq_true (by first | (with_reducible assumption) | assumption)
     have q271 : s0_1 < (s0_0.length : Int) := of_decide_eq_true (by first | (with_reducible assumption) | assumption)
     obtain ⟨ad271, e271, hx271_0, hx271_1, hx271_2⟩ := at_T45 HSz9_0 s0_1 p271 q271
     cases e271
     replace hx271_0 := pw_cell_below HB.out hx271_0
     replace hx271_1 := pw_cell_below HB.out hx271_1
     replace hx271_2 := pw_cell_below HB.out hx271_2
     replace p271 := eq_true p271
     replace q271 := eq_true q271
     have p272 : 0 ≤ (s0_1 : Int) := of_decide_eq_true (by first | (with_reducible assumption) | assumption)
     have q272 : s0_1 < (s0_0.length : Int) := of_decide_eq_true (by first | (with_reducible assumption) | assumption)
     obtain ⟨ad272, e272, hx272_0, hx272_1, hx272_2⟩ := at_T45 HSz9_0 s0_1 p272 q272
     obtain rfl : ad271 = ad272 := (by injection e272)
     replace hx272_0 := pw_cell_below HB.out hx272_0
     replace hx272_1 := pw_cell_below HB.out hx272_1
     replace hx272_2 := pw_cell_below HB.out hx272_2
     replace p272 := eq_true p272
     replace q272 := eq_true q272
     go_enter Tryd.func68, Tryd.ntmps68
     go_wp2
     repeat (go_quiet (fail); try go_wp2)
     go_ret
     exact ⟨by first | rfl | (simp [errW_none, errW_some] <;> rfl) | (simp [*, errW_none, errW_some] <;> rfl), by repeat (first | (with_reducible first | exact HI0.out | apply IsS75.alloc | apply IsS75.drewN | apply IsS75.drew | apply IsS75.set_1) | exact HI0.out), by repeat (first | (with_reducible first | exact HB.out | apply below_alloc | apply pw_below_drewN | apply below_drew1 | refine below_set ?_ (IsS75.ge HI0.out)) | exact HB.out), by repeat (first | (with_reducible first | exact HK.out | apply KeepBut.set_ | apply keep_drewN | apply keep_drew | apply keep_alloc) | exact HK.out)⟩
   ·rw [if_neg c6] at H
    have c6b0 : (((rd_T45 s0_0 s0_1).f0) == a1) = false := beq_eq_false_iff_ne.mpr c6
    have c6b1 : (((rd_T45 s0_0 s0_1).f0) != a1) = true := bne_iff_ne.mpr c6
    simp only [Option.some.injEq, Prod.mk.injEq] at H
    obtain ⟨rfl, rfl⟩ := H
    obtain ⟨ASz10_0, cSz10_0, HGz10, hgz10, HSz10_0⟩ := HI0.out
    have hcz10_0 := cellS75_0 HGz10
    have hcz10_1 := cellS75_1 HGz10
    have hfz10_1 := blk_frozen HGz10 1
    clear HGz10 hgz10
    have p271 : 0 ≤ (s0_1 : Int) := of_decide_eq_true (by first | (with_reducible assumption) | assumption)
    have q271 : s0_1 < (s0_0.length : Int) := of_decide_eq_true (by first | (with_reducible assumption) | assumption)
    obtain ⟨ad271, e271, hx271_0, hx271_1, hx271_2⟩ := at_T45 HSz10_0 s0_1 p271 q271
    cases e271
    replace hx271_0 := pw_cell_below HB.out hx271_0
    replace hx271_1 := pw_cell_below HB.out hx271_1
    replace hx271_2 := pw_cell_below HB.out hx271_2
    replace p271 := eq_true p271
    replace q271 := eq_true q271
    go_enter Tryd.func68, Tryd.ntmps68
    go_wp2
    repeat (go_quiet (fail); try go_wp2)
    go_ret
    exact ⟨by first | rfl | (simp [errW_none, errW_some] <;> rfl) | (simp [*, errW_none, errW_some] <;> rfl), by repeat (first | (with_reducible first | exact HI0.out | apply IsS75.alloc | apply IsS75.drewN | apply IsS75.drew | apply IsS75.set_1) | exact HI0.out), by repeat (first | (with_reducible first | exact HB.out | apply below_alloc | apply pw_below_drewN | apply below_drew1 | refine below_set ?_ (IsS75.ge HI0.out)) | exact HB.out), by repeat (first | (with_reducible first | exact HK.out | apply KeepBut.set_ | apply keep_drewN | apply keep_drew | apply keep_alloc) | exact HK.out)⟩
  ·rw [if_neg c5] at H
   exact absurd H (by simp)
 ·rw [if_neg c4] at H
  have c4b0 : decide (s0_1 < (s0_0.length : Int)) = false := decide_eq_false c4
  clear c4
  simp only [Option.some.injEq, Prod.mk.injEq] at H
  obtain ⟨rfl, rfl⟩ := H
  obtain ⟨ASz11_0, cSz11_0, HGz11, hgz11, HSz11_0⟩ := HI0.out
  have hcz11_0 := cellS75_0 HGz11
  have hcz11_1 := cellS75_1 HGz11
  have hfz11_1 := blk_frozen HGz11 1
  clear HGz11 hgz11
  go_enter Tryd.func68, Tryd.ntmps68
  go_wp2
  repeat (go_quiet (fail); try go_wp2)
  go_ret
  exact ⟨by first | rfl | (simp [errW_none, errW_some] <;> rfl) | (simp [*, errW_none, errW_some] <;> rfl), by repeat (first | (with_reducible first | exact HI0.out | apply IsS75.alloc | apply IsS75.drewN | apply IsS75.drew | apply IsS75.set_1) | exact HI0.out), by repeat (first | (with_reducible first | exact HB.out | apply below_alloc | apply pw_below_drewN | apply below_drew1 | refine below_set ?_ (IsS75.ge HI0.out)) | exact HB.out), by repeat (first | (with_reducible first | exact HK.out | apply KeepBut.set_ | apply keep_drewN | apply keep_drew | apply keep_alloc) | exact HK.out)⟩

end Go.Proofs.YtbdciibbgiphcaaDoor.V

-- Written for this claim by wip/myprint.py (a program of this session over the kit's printer).
namespace Go.Proofs.YtbdciibbgiphcaaDoor.V
open Go.RowKit Go.Proofs.YtbdciibbgiphcaaDoorW.PrintWords Go.Proofs.YtbdciibbgiphcaaDoorW.PrintLast Go.Proofs.YtbdciibbgiphcaaDoorW.PrintMore
attribute [local go_sem] max2_int min2_int max_two min_two max_three min_three max_four min_four   -- for this text's walks alone
set_option linter.unusedVariables false
set_option linter.unusedSimpArgs false


/-! ### exprs_ofWord: function 83 -/
def exprs_ofWord.f (a0 : ByteArray) : Option (Int × Int × ByteArray × (List (S25)) × Int) := if a0.toList = ([116, 114, 117, 101] : List UInt8) then (some (2, 1, (⟨#[]⟩ : ByteArray), ([] : List (S25)), 0)) else (if a0.toList = ([102, 97, 108, 115, 101] : List UInt8) then (some (2, 0, (⟨#[]⟩ : ByteArray), ([] : List (S25)), 0)) else ((tokens_Name.f a0).bind fun t274 => (if t274 = true then (some (3, 0, a0, ([] : List (S25)), 0)) else (some (0, 0, (⟨#[]⟩ : ByteArray), ([] : List (S25)), 5)))))
set_option maxHeartbeats 8000000 in
set_option maxRecDepth 100000 in
theorem exprs_ofWord.calls (a0 : ByteArray) (r1 : Int) (r2 : Int) (r3 : ByteArray) (r4 : List (S25)) (r5 : Int) (w : World) (h : exprs_ofWord.f a0 = some (r1, r2, r3, r4, r5)) :
  Calls Tryd.prog 83 #[.string a0] w fun e w' => ∃ v3_ : Value, e = .returned (.tuple #[.agg #[.int .u8 r1, .int .i64 r2, .string r3, v3_], .int .i64 r5]) ∧ Kd.R k25 25 w' w.heap.size (fun _ => True) v3_ r4 ∧ Below w.heap.size w w' := by
 have hu25 := Tryd.underlying25
 have HB := Aside0.mk (Below.refl w.heap.size w)
 have H : (if a0.toList = ([116, 114, 117, 101] : List UInt8) then (some (2, 1, (⟨#[]⟩ : ByteArray), ([] : List (S25)), 0)) else (if a0.toList = ([102, 97, 108, 115, 101] : List UInt8) then (some (2, 0, (⟨#[]⟩ : ByteArray), ([] : List (S25)), 0)) else ((tokens_Name.f a0).bind fun t274 => (if t274 = true then (some (3, 0, a0, ([] : List (S25)), 0)) else (some (0, 0, (⟨#[]⟩ : ByteArray), ([] : List (S25)), 5)))))) = some (r1, r2, r3, r4, r5) := h
 clear h
 by_cases c2 : a0.toList = ([116, 114, 117, 101] : List UInt8)
 ·rw [if_pos c2] at H
  have c2b0 : (a0.toList == ([116, 114, 117, 101] : List UInt8)) = true := beq_iff_eq.mpr c2
  have c2b1 : (a0.toList != ([116, 114, 117, 101] : List UInt8)) = false := bne_eq_false_iff_eq.mpr c2
  clear c2
  simp only [Option.some.injEq, Prod.mk.injEq] at H
  obtain ⟨rfl, rfl, rfl, rfl, rfl⟩ := H
  go_enter Tryd.func83, Tryd.ntmps83
  go_wp2_with (first | ((with_reducible refine gate_dst (N := 2) rfl ?_); refine box_event ?hg (N := 2) ?hd (cs := #[.int .u8 0, .int .i64 0, .string (⟨#[]⟩ : ByteArray), .slice none 0 0]) (t := 25) ?hr ?_; (case hd => rfl); (case hg => rfl); (case hr => first | (go_simp; done) | (go_simp; rfl)); intro gb273 hg w3 hbox hb; have n0_ := Aside0.mk (below_step (by repeat (first | (with_reducible first | exact HB.out | apply below_alloc | apply pw_below_drewN | apply below_drew1) | exact HB.out)) hb); have n1_ := Aside0.mk (hbox); have n2_ := Aside0.mk ((by rw [hg]; exact (below_size (by repeat (first | (with_reducible first | exact HB.out | apply below_alloc | apply pw_below_drewN | apply below_drew1) | exact HB.out))) : w.heap.size ≤ gb273)); have n3_ := Aside0.mk ((by rw [hg]; exact (below_size (by repeat (first | (with_reducible first | exact HB.out | apply below_alloc | apply pw_below_drewN | apply below_drew1) | exact HB.out))) : w.heap.size ≤ gb273)); clear HB; have HB := n0_; have BK273 := n1_; have GW273 := n2_; have GE273 := n3_; clear n0_ n1_ n2_ n3_; clear hb hbox hg; have hcz4_0 : w3.cell? ⟨gb273, 0, none⟩ = some (.int .u8 0) := (blk_cell BK273.out 0).trans rfl; have hcz4_1 : w3.cell? ⟨gb273, 1, none⟩ = some (.int .i64 0) := (blk_cell BK273.out 1).trans rfl; have hcz4_2 : w3.cell? ⟨gb273, 2, none⟩ = some (.string (⟨#[]⟩ : ByteArray)) := (blk_cell BK273.out 2).trans rfl; have hcz4_3 : w3.cell? ⟨gb273, 3, none⟩ = some (.slice none 0 0) := (blk_cell BK273.out 3).trans rfl; have hfz4_0 := blk_frozen BK273.out 0; have hfz4_1 := blk_frozen BK273.out 1; have hfz4_2 := blk_frozen BK273.out 2; have hfz4_3 := blk_frozen BK273.out 3))
  refine bodyPost_ret (results_ct rfl _ _ gb273 25 #[.int .u8 2, .int .i64 1, .string (⟨#[]⟩ : ByteArray), .slice none 0 0] (0, 0) _ rfl (by (with_reducible repeat (first | refine blk_drewN ?_ _ | refine blk_drew ?_ | refine blk_alloc ?_ _)); refine blk_put (cs := #[.int .u8 2, .int .i64 1, .string (⟨#[]⟩ : ByteArray), .slice none 0 0]) ?_ 3 _ rfl; (with_reducible repeat (first | refine blk_drewN ?_ _ | refine blk_drew ?_ | refine blk_alloc ?_ _)); refine blk_put (cs := #[.int .u8 2, .int .i64 1, .string (⟨#[]⟩ : ByteArray), .slice none 0 0]) ?_ 2 _ rfl; (with_reducible repeat (first | refine blk_drewN ?_ _ | refine blk_drew ?_ | refine blk_alloc ?_ _)); refine blk_put (cs := #[.int .u8 2, .int .i64 0, .string (⟨#[]⟩ : ByteArray), .slice none 0 0]) ?_ 1 _ rfl; (with_reducible repeat (first | refine blk_drewN ?_ _ | refine blk_drew ?_ | refine blk_alloc ?_ _)); refine blk_put (cs := #[.int .u8 0, .int .i64 0, .string (⟨#[]⟩ : ByteArray), .slice none 0 0]) ?_ 0 _ rfl; (with_reducible repeat (first | refine blk_drewN ?_ _ | refine blk_drew ?_ | refine blk_alloc ?_ _)); exact BK273.out) Tryd.underlying25 rfl (by kernel_rfl)) rfl ?_
  exact ⟨_, by first | rfl | (simp [errW_none, errW_some] <;> rfl) | (simp [*, errW_none, errW_some] <;> rfl), by first | exact Kd.R_nil _ _ _ _ _ | exact Kd.N_nil _ _ _ _ _ | exact Kd.V_nil _ _ _ _ _ | exact Kd.Q_nil _ _ _ _ _ | exact Kd.S_nil _ _ _ _ _, by repeat (first | (with_reducible first | exact HB.out | apply below_alloc | apply pw_below_drewN | apply below_drew1 | refine below_set ?_ GE273.out) | exact HB.out)⟩
 ·rw [if_neg c2] at H
  have c2b0 : (a0.toList == ([116, 114, 117, 101] : List UInt8)) = false := beq_eq_false_iff_ne.mpr c2
  have c2b1 : (a0.toList != ([116, 114, 117, 101] : List UInt8)) = true := bne_iff_ne.mpr c2
  by_cases c5 : a0.toList = ([102, 97, 108, 115, 101] : List UInt8)
  ·rw [if_pos c5] at H
   have c5b0 : (a0.toList == ([102, 97, 108, 115, 101] : List UInt8)) = true := beq_iff_eq.mpr c5
   have c5b1 : (a0.toList != ([102, 97, 108, 115, 101] : List UInt8)) = false := bne_eq_false_iff_eq.mpr c5
   clear c5
   simp only [Option.some.injEq, Prod.mk.injEq] at H
   obtain ⟨rfl, rfl, rfl, rfl, rfl⟩ := H
   go_enter Tryd.func83, Tryd.ntmps83
   go_wp2_with (first | ((with_reducible refine gate_dst (N := 2) rfl ?_); refine box_event ?hg (N := 2) ?hd (cs := #[.int .u8 0, .int .i64 0, .string (⟨#[]⟩ : ByteArray), .slice none 0 0]) (t := 25) ?hr ?_; (case hd => rfl); (case hg => rfl); (case hr => first | (go_simp; done) | (go_simp; rfl)); intro gb273 hg w6 hbox hb; have n0_ := Aside0.mk (below_step (by repeat (first | (with_reducible first | exact HB.out | apply below_alloc | apply pw_below_drewN | apply below_drew1) | exact HB.out)) hb); have n1_ := Aside0.mk (hbox); have n2_ := Aside0.mk ((by rw [hg]; exact (below_size (by repeat (first | (with_reducible first | exact HB.out | apply below_alloc | apply pw_below_drewN | apply below_drew1) | exact HB.out))) : w.heap.size ≤ gb273)); have n3_ := Aside0.mk ((by rw [hg]; exact (below_size (by repeat (first | (with_reducible first | exact HB.out | apply below_alloc | apply pw_below_drewN | apply below_drew1) | exact HB.out))) : w.heap.size ≤ gb273)); clear HB; have HB := n0_; have BK273 := n1_; have GW273 := n2_; have GE273 := n3_; clear n0_ n1_ n2_ n3_; clear hb hbox hg; have hcz7_0 : w6.cell? ⟨gb273, 0, none⟩ = some (.int .u8 0) := (blk_cell BK273.out 0).trans rfl; have hcz7_1 : w6.cell? ⟨gb273, 1, none⟩ = some (.int .i64 0) := (blk_cell BK273.out 1).trans rfl; have hcz7_2 : w6.cell? ⟨gb273, 2, none⟩ = some (.string (⟨#[]⟩ : ByteArray)) := (blk_cell BK273.out 2).trans rfl; have hcz7_3 : w6.cell? ⟨gb273, 3, none⟩ = some (.slice none 0 0) := (blk_cell BK273.out 3).trans rfl; have hfz7_0 := blk_frozen BK273.out 0; have hfz7_1 := blk_frozen BK273.out 1; have hfz7_2 := blk_frozen BK273.out 2; have hfz7_3 := blk_frozen BK273.out 3))
   refine bodyPost_ret (results_ct rfl _ _ gb273 25 #[.int .u8 2, .int .i64 0, .string (⟨#[]⟩ : ByteArray), .slice none 0 0] (0, 0) _ rfl (by (with_reducible repeat (first | refine blk_drewN ?_ _ | refine blk_drew ?_ | refine blk_alloc ?_ _)); refine blk_put (cs := #[.int .u8 2, .int .i64 0, .string (⟨#[]⟩ : ByteArray), .slice none 0 0]) ?_ 3 _ rfl; (with_reducible repeat (first | refine blk_drewN ?_ _ | refine blk_drew ?_ | refine blk_alloc ?_ _)); refine blk_put (cs := #[.int .u8 2, .int .i64 0, .string (⟨#[]⟩ : ByteArray), .slice none 0 0]) ?_ 2 _ rfl; (with_reducible repeat (first | refine blk_drewN ?_ _ | refine blk_drew ?_ | refine blk_alloc ?_ _)); refine blk_put (cs := #[.int .u8 2, .int .i64 0, .string (⟨#[]⟩ : ByteArray), .slice none 0 0]) ?_ 1 _ rfl; (with_reducible repeat (first | refine blk_drewN ?_ _ | refine blk_drew ?_ | refine blk_alloc ?_ _)); refine blk_put (cs := #[.int .u8 0, .int .i64 0, .string (⟨#[]⟩ : ByteArray), .slice none 0 0]) ?_ 0 _ rfl; (with_reducible repeat (first | refine blk_drewN ?_ _ | refine blk_drew ?_ | refine blk_alloc ?_ _)); exact BK273.out) Tryd.underlying25 rfl (by kernel_rfl)) rfl ?_
   exact ⟨_, by first | rfl | (simp [errW_none, errW_some] <;> rfl) | (simp [*, errW_none, errW_some] <;> rfl), by first | exact Kd.R_nil _ _ _ _ _ | exact Kd.N_nil _ _ _ _ _ | exact Kd.V_nil _ _ _ _ _ | exact Kd.Q_nil _ _ _ _ _ | exact Kd.S_nil _ _ _ _ _, by repeat (first | (with_reducible first | exact HB.out | apply below_alloc | apply pw_below_drewN | apply below_drew1 | refine below_set ?_ GE273.out) | exact HB.out)⟩
  ·rw [if_neg c5] at H
   have c5b0 : (a0.toList == ([102, 97, 108, 115, 101] : List UInt8)) = false := beq_eq_false_iff_ne.mpr c5
   have c5b1 : (a0.toList != ([102, 97, 108, 115, 101] : List UInt8)) = true := bne_iff_ne.mpr c5
   replace H := Option.bind_eq_some_iff.mp H
   obtain ⟨t274, A80, H⟩ := H
   replace H : (if t274 = true then (some (3, 0, a0, ([] : List (S25)), 0)) else (some (0, 0, (⟨#[]⟩ : ByteArray), ([] : List (S25)), 5))) = some (r1, r2, r3, r4, r5) := H
   have A8 := Aside0.mk A80
   clear A80
   by_cases c9 : t274 = true
   ·subst c9
    have H1 : (some (3, 0, a0, ([] : List (S25)), 0)) = some (r1, r2, r3, r4, r5) := by rw [if_pos rfl] at H; exact H
    clear H
    have H := H1
    clear H1
    simp only [Option.some.injEq, Prod.mk.injEq] at H
    obtain ⟨rfl, rfl, rfl, rfl, rfl⟩ := H
    go_enter Tryd.func83, Tryd.ntmps83
    go_wp2_with (first | ((with_reducible refine gate_dst (N := 2) rfl ?_); refine box_event ?hg (N := 2) ?hd (cs := #[.int .u8 0, .int .i64 0, .string (⟨#[]⟩ : ByteArray), .slice none 0 0]) (t := 25) ?hr ?_; (case hd => rfl); (case hg => rfl); (case hr => first | (go_simp; done) | (go_simp; rfl)); intro gb273 hg w10 hbox hb; have n0_ := Aside0.mk (below_step (by repeat (first | (with_reducible first | exact HB.out | apply below_alloc | apply pw_below_drewN | apply below_drew1) | exact HB.out)) hb); have n1_ := Aside0.mk (hbox); have n2_ := Aside0.mk ((by rw [hg]; exact (below_size (by repeat (first | (with_reducible first | exact HB.out | apply below_alloc | apply pw_below_drewN | apply below_drew1) | exact HB.out))) : w.heap.size ≤ gb273)); have n3_ := Aside0.mk ((by rw [hg]; exact (below_size (by repeat (first | (with_reducible first | exact HB.out | apply below_alloc | apply pw_below_drewN | apply below_drew1) | exact HB.out))) : w.heap.size ≤ gb273)); clear HB; have HB := n0_; have BK273 := n1_; have GW273 := n2_; have GE273 := n3_; clear n0_ n1_ n2_ n3_; clear hb hbox hg) | ((with_reducible refine gate_callee (f := 57) rfl ?_); refine goesL_ (some 14) rfl rfl Tryd.func57 (by kernel_rfl) rfl #[.string a0] rfl (by (try simp only [List.map_toArray, List.map_cons, List.map_nil]); first | done | rfl | (simp only [List.length_drop, List.length_take]; rfl)) ?_; (with_reducible refine (tokens_Name.calls a0 true _ A8.out).mono ?_); rintro e w11 ⟨rfl, hb⟩; refine ⟨_, rfl, ?_⟩; have n0_ := Aside0.mk (blk_below (g := gb273) (o := .cells #[.int .u8 0, .int .i64 0, .string (⟨#[]⟩ : ByteArray), .slice none 0 0] 25 (0, 0)) (by (with_reducible repeat (first | refine blk_drewN ?_ _ | refine blk_drew ?_ | refine blk_alloc ?_ _)); exact BK273.out) hb); have n1_ := Aside0.mk (below_step (by repeat (first | (with_reducible first | exact HB.out | apply below_alloc | apply pw_below_drewN | apply below_drew1 | refine below_set ?_ GE273.out) | exact HB.out)) hb); clear BK273; clear HB; have BK273 := n0_; have HB := n1_; clear n0_ n1_; (try clear hb); (try clear hb2); (try clear hk); (try clear hi); have hcz12_0 : w11.cell? ⟨gb273, 0, none⟩ = some (.int .u8 0) := (blk_cell BK273.out 0).trans rfl; have hcz12_1 : w11.cell? ⟨gb273, 1, none⟩ = some (.int .i64 0) := (blk_cell BK273.out 1).trans rfl; have hcz12_2 : w11.cell? ⟨gb273, 2, none⟩ = some (.string (⟨#[]⟩ : ByteArray)) := (blk_cell BK273.out 2).trans rfl; have hcz12_3 : w11.cell? ⟨gb273, 3, none⟩ = some (.slice none 0 0) := (blk_cell BK273.out 3).trans rfl; have hfz12_0 := blk_frozen BK273.out 0; have hfz12_1 := blk_frozen BK273.out 1; have hfz12_2 := blk_frozen BK273.out 2; have hfz12_3 := blk_frozen BK273.out 3))
    refine bodyPost_ret (results_ct rfl _ _ gb273 25 #[.int .u8 3, .int .i64 0, .string a0, .slice none 0 0] (0, 0) _ rfl (by (with_reducible repeat (first | refine blk_drewN ?_ _ | refine blk_drew ?_ | refine blk_alloc ?_ _)); refine blk_put (cs := #[.int .u8 3, .int .i64 0, .string a0, .slice none 0 0]) ?_ 3 _ rfl; (with_reducible repeat (first | refine blk_drewN ?_ _ | refine blk_drew ?_ | refine blk_alloc ?_ _)); refine blk_put (cs := #[.int .u8 3, .int .i64 0, .string (⟨#[]⟩ : ByteArray), .slice none 0 0]) ?_ 2 _ rfl; (with_reducible repeat (first | refine blk_drewN ?_ _ | refine blk_drew ?_ | refine blk_alloc ?_ _)); refine blk_put (cs := #[.int .u8 3, .int .i64 0, .string (⟨#[]⟩ : ByteArray), .slice none 0 0]) ?_ 1 _ rfl; (with_reducible repeat (first | refine blk_drewN ?_ _ | refine blk_drew ?_ | refine blk_alloc ?_ _)); refine blk_put (cs := #[.int .u8 0, .int .i64 0, .string (⟨#[]⟩ : ByteArray), .slice none 0 0]) ?_ 0 _ rfl; (with_reducible repeat (first | refine blk_drewN ?_ _ | refine blk_drew ?_ | refine blk_alloc ?_ _)); exact BK273.out) Tryd.underlying25 rfl (by kernel_rfl)) rfl ?_
    exact ⟨_, by first | rfl | (simp [errW_none, errW_some] <;> rfl) | (simp [*, errW_none, errW_some] <;> rfl), by first | exact Kd.R_nil _ _ _ _ _ | exact Kd.N_nil _ _ _ _ _ | exact Kd.V_nil _ _ _ _ _ | exact Kd.Q_nil _ _ _ _ _ | exact Kd.S_nil _ _ _ _ _, by repeat (first | (with_reducible first | exact HB.out | apply below_alloc | apply pw_below_drewN | apply below_drew1 | refine below_set ?_ GE273.out) | exact HB.out)⟩
   ·replace c9 := Bool.eq_false_iff.mpr c9
    subst c9
    have H1 : (some (0, 0, (⟨#[]⟩ : ByteArray), ([] : List (S25)), 5)) = some (r1, r2, r3, r4, r5) := by rw [if_neg (show ¬ (false = true) by decide)] at H; exact H
    clear H
    have H := H1
    clear H1
    simp only [Option.some.injEq, Prod.mk.injEq] at H
    obtain ⟨rfl, rfl, rfl, rfl, rfl⟩ := H
    go_enter Tryd.func83, Tryd.ntmps83
    go_wp2_with (first | ((with_reducible refine gate_dst (N := 2) rfl ?_); refine box_event ?hg (N := 2) ?hd (cs := #[.int .u8 0, .int .i64 0, .string (⟨#[]⟩ : ByteArray), .slice none 0 0]) (t := 25) ?hr ?_; (case hd => rfl); (case hg => rfl); (case hr => first | (go_simp; done) | (go_simp; rfl)); intro gb273 hg w13 hbox hb; have n0_ := Aside0.mk (below_step (by repeat (first | (with_reducible first | exact HB.out | apply below_alloc | apply pw_below_drewN | apply below_drew1) | exact HB.out)) hb); have n1_ := Aside0.mk (hbox); have n2_ := Aside0.mk ((by rw [hg]; exact (below_size (by repeat (first | (with_reducible first | exact HB.out | apply below_alloc | apply pw_below_drewN | apply below_drew1) | exact HB.out))) : w.heap.size ≤ gb273)); have n3_ := Aside0.mk ((by rw [hg]; exact (below_size (by repeat (first | (with_reducible first | exact HB.out | apply below_alloc | apply pw_below_drewN | apply below_drew1) | exact HB.out))) : w.heap.size ≤ gb273)); clear HB; have HB := n0_; have BK273 := n1_; have GW273 := n2_; have GE273 := n3_; clear n0_ n1_ n2_ n3_; clear hb hbox hg) | ((with_reducible refine gate_callee (f := 57) rfl ?_); refine goesL_ (some 14) rfl rfl Tryd.func57 (by kernel_rfl) rfl #[.string a0] rfl (by (try simp only [List.map_toArray, List.map_cons, List.map_nil]); first | done | rfl | (simp only [List.length_drop, List.length_take]; rfl)) ?_; (with_reducible refine (tokens_Name.calls a0 false _ A8.out).mono ?_); rintro e w14 ⟨rfl, hb⟩; refine ⟨_, rfl, ?_⟩; have n0_ := Aside0.mk (blk_below (g := gb273) (o := .cells #[.int .u8 0, .int .i64 0, .string (⟨#[]⟩ : ByteArray), .slice none 0 0] 25 (0, 0)) (by (with_reducible repeat (first | refine blk_drewN ?_ _ | refine blk_drew ?_ | refine blk_alloc ?_ _)); exact BK273.out) hb); have n1_ := Aside0.mk (below_step (by repeat (first | (with_reducible first | exact HB.out | apply below_alloc | apply pw_below_drewN | apply below_drew1 | refine below_set ?_ GE273.out) | exact HB.out)) hb); clear BK273; clear HB; have BK273 := n0_; have HB := n1_; clear n0_ n1_; (try clear hb); (try clear hb2); (try clear hk); (try clear hi); have hcz15_0 : w14.cell? ⟨gb273, 0, none⟩ = some (.int .u8 0) := (blk_cell BK273.out 0).trans rfl; have hcz15_1 : w14.cell? ⟨gb273, 1, none⟩ = some (.int .i64 0) := (blk_cell BK273.out 1).trans rfl; have hcz15_2 : w14.cell? ⟨gb273, 2, none⟩ = some (.string (⟨#[]⟩ : ByteArray)) := (blk_cell BK273.out 2).trans rfl; have hcz15_3 : w14.cell? ⟨gb273, 3, none⟩ = some (.slice none 0 0) := (blk_cell BK273.out 3).trans rfl; have hfz15_0 := blk_frozen BK273.out 0; have hfz15_1 := blk_frozen BK273.out 1; have hfz15_2 := blk_frozen BK273.out 2; have hfz15_3 := blk_frozen BK273.out 3))
    refine bodyPost_ret (results_ct rfl _ _ gb273 25 #[.int .u8 0, .int .i64 0, .string (⟨#[]⟩ : ByteArray), .slice none 0 0] (0, 0) _ rfl (by (with_reducible repeat (first | refine blk_drewN ?_ _ | refine blk_drew ?_ | refine blk_alloc ?_ _)); refine blk_put (cs := #[.int .u8 0, .int .i64 0, .string (⟨#[]⟩ : ByteArray), .slice none 0 0]) ?_ 3 _ rfl; (with_reducible repeat (first | refine blk_drewN ?_ _ | refine blk_drew ?_ | refine blk_alloc ?_ _)); refine blk_put (cs := #[.int .u8 0, .int .i64 0, .string (⟨#[]⟩ : ByteArray), .slice none 0 0]) ?_ 2 _ rfl; (with_reducible repeat (first | refine blk_drewN ?_ _ | refine blk_drew ?_ | refine blk_alloc ?_ _)); refine blk_put (cs := #[.int .u8 0, .int .i64 0, .string (⟨#[]⟩ : ByteArray), .slice none 0 0]) ?_ 1 _ rfl; (with_reducible repeat (first | refine blk_drewN ?_ _ | refine blk_drew ?_ | refine blk_alloc ?_ _)); refine blk_put (cs := #[.int .u8 0, .int .i64 0, .string (⟨#[]⟩ : ByteArray), .slice none 0 0]) ?_ 0 _ rfl; (with_reducible repeat (first | refine blk_drewN ?_ _ | refine blk_drew ?_ | refine blk_alloc ?_ _)); exact BK273.out) Tryd.underlying25 rfl (by kernel_rfl)) rfl ?_
    exact ⟨_, by first | rfl | (simp [errW_none, errW_some] <;> rfl) | (simp [*, errW_none, errW_some] <;> rfl), by first | exact Kd.R_nil _ _ _ _ _ | exact Kd.N_nil _ _ _ _ _ | exact Kd.V_nil _ _ _ _ _ | exact Kd.Q_nil _ _ _ _ _ | exact Kd.S_nil _ _ _ _ _, by repeat (first | (with_reducible first | exact HB.out | apply below_alloc | apply pw_below_drewN | apply below_drew1 | refine below_set ?_ GE273.out) | exact HB.out)⟩

/-! ### exprs_ofNumber: function 84 -/
def exprs_ofNumber.f (a0 : ByteArray) : Option (Int × Int × ByteArray × (List (S25)) × Int) := (tokens_Number.f a0).bind fun bt276 => (some (1, bt276.1, (⟨#[]⟩ : ByteArray), ([] : List (S25)), bt276.2))
set_option maxHeartbeats 8000000 in
set_option maxRecDepth 100000 in
theorem exprs_ofNumber.calls (a0 : ByteArray) (r1 : Int) (r2 : Int) (r3 : ByteArray) (r4 : List (S25)) (r5 : Int) (w : World) (hvw : VarOk w) (h : exprs_ofNumber.f a0 = some (r1, r2, r3, r4, r5)) :
  Calls Tryd.prog 84 #[.string a0] w fun e w' => ∃ v3_ : Value, e = .returned (.tuple #[.agg #[.int .u8 r1, .int .i64 r2, .string r3, v3_], .int .i64 r5]) ∧ Kd.R k25 25 w' w.heap.size (fun _ => True) v3_ r4 ∧ Below w.heap.size w w' := by
 have hu25 := Tryd.underlying25
 have HB := Aside0.mk (Below.refl w.heap.size w)
 have H : ((tokens_Number.f a0).bind fun bt276 => (some (1, bt276.1, (⟨#[]⟩ : ByteArray), ([] : List (S25)), bt276.2))) = some (r1, r2, r3, r4, r5) := h
 clear h
 replace H := Option.bind_eq_some_iff.mp H
 obtain ⟨⟨t276, t277⟩, A20, H⟩ := H
 replace H : (some (1, t276, (⟨#[]⟩ : ByteArray), ([] : List (S25)), t277)) = some (r1, r2, r3, r4, r5) := H
 have A2 := Aside0.mk A20
 clear A20
 simp only [Option.some.injEq, Prod.mk.injEq] at H
 obtain ⟨rfl, rfl, rfl, rfl, rfl⟩ := H
 go_enter Tryd.func84, Tryd.ntmps84
 go_wp2_with (first | ((with_reducible refine gate_dst (N := 2) rfl ?_); refine box_event ?hg (N := 2) ?hd (cs := #[.int .u8 0, .int .i64 0, .string (⟨#[]⟩ : ByteArray), .slice none 0 0]) (t := 25) ?hr ?_; (case hd => rfl); (case hg => rfl); (case hr => first | (go_simp; done) | (go_simp; rfl)); intro gb275 hg w3 hbox hb; have n0_ := Aside0.mk (below_step (by repeat (first | (with_reducible first | exact HB.out | apply below_alloc | apply pw_below_drewN | apply below_drew1) | exact HB.out)) hb); have n1_ := Aside0.mk (hbox); have n2_ := Aside0.mk ((by rw [hg]; exact (below_size (by repeat (first | (with_reducible first | exact HB.out | apply below_alloc | apply pw_below_drewN | apply below_drew1) | exact HB.out))) : w.heap.size ≤ gb275)); have n3_ := Aside0.mk ((by rw [hg]; exact (below_size (by repeat (first | (with_reducible first | exact HB.out | apply below_alloc | apply pw_below_drewN | apply below_drew1) | exact HB.out))) : w.heap.size ≤ gb275)); clear HB; have HB := n0_; have BK275 := n1_; have GW275 := n2_; have GE275 := n3_; clear n0_ n1_ n2_ n3_; clear hb hbox hg) | ((with_reducible refine gate_callee (f := 96) rfl ?_); refine goesL_ (some 8) rfl rfl Tryd.func96 (by kernel_rfl) rfl #[.string a0] rfl (by (try simp only [List.map_toArray, List.map_cons, List.map_nil]); first | done | rfl | (simp only [List.length_drop, List.length_take]; rfl)) ?_; (refine (tokens_Number.callsB a0 t276 t277 _ hvw (by repeat (first | (with_reducible first | exact HB.out | apply below_alloc | apply pw_below_drewN | apply below_drew1) | exact HB.out)) A2.out).mono ?_); rintro e w4 ⟨rfl, hb⟩; refine ⟨_, rfl, ?_⟩; have n0_ := Aside0.mk (blk_below (g := gb275) (o := .cells #[.int .u8 0, .int .i64 0, .string (⟨#[]⟩ : ByteArray), .slice none 0 0] 25 (0, 0)) (by (with_reducible repeat (first | refine blk_drewN ?_ _ | refine blk_drew ?_ | refine blk_alloc ?_ _)); exact BK275.out) hb); have n1_ := Aside0.mk (below_step (by repeat (first | (with_reducible first | exact HB.out | apply below_alloc | apply pw_below_drewN | apply below_drew1 | refine below_set ?_ GE275.out) | exact HB.out)) hb); clear BK275; clear HB; have BK275 := n0_; have HB := n1_; clear n0_ n1_; (try clear hb); (try clear hb2); (try clear hk); (try clear hi); have hcz5_0 : w4.cell? ⟨gb275, 0, none⟩ = some (.int .u8 0) := (blk_cell BK275.out 0).trans rfl; have hcz5_1 : w4.cell? ⟨gb275, 1, none⟩ = some (.int .i64 0) := (blk_cell BK275.out 1).trans rfl; have hcz5_2 : w4.cell? ⟨gb275, 2, none⟩ = some (.string (⟨#[]⟩ : ByteArray)) := (blk_cell BK275.out 2).trans rfl; have hcz5_3 : w4.cell? ⟨gb275, 3, none⟩ = some (.slice none 0 0) := (blk_cell BK275.out 3).trans rfl; have hfz5_0 := blk_frozen BK275.out 0; have hfz5_1 := blk_frozen BK275.out 1; have hfz5_2 := blk_frozen BK275.out 2; have hfz5_3 := blk_frozen BK275.out 3))
 refine bodyPost_ret (results_ct rfl _ _ gb275 25 #[.int .u8 1, .int .i64 t276, .string (⟨#[]⟩ : ByteArray), .slice none 0 0] (0, 0) _ rfl (by (with_reducible repeat (first | refine blk_drewN ?_ _ | refine blk_drew ?_ | refine blk_alloc ?_ _)); refine blk_put (cs := #[.int .u8 1, .int .i64 t276, .string (⟨#[]⟩ : ByteArray), .slice none 0 0]) ?_ 3 _ rfl; (with_reducible repeat (first | refine blk_drewN ?_ _ | refine blk_drew ?_ | refine blk_alloc ?_ _)); refine blk_put (cs := #[.int .u8 1, .int .i64 t276, .string (⟨#[]⟩ : ByteArray), .slice none 0 0]) ?_ 2 _ rfl; (with_reducible repeat (first | refine blk_drewN ?_ _ | refine blk_drew ?_ | refine blk_alloc ?_ _)); refine blk_put (cs := #[.int .u8 1, .int .i64 0, .string (⟨#[]⟩ : ByteArray), .slice none 0 0]) ?_ 1 _ rfl; (with_reducible repeat (first | refine blk_drewN ?_ _ | refine blk_drew ?_ | refine blk_alloc ?_ _)); refine blk_put (cs := #[.int .u8 0, .int .i64 0, .string (⟨#[]⟩ : ByteArray), .slice none 0 0]) ?_ 0 _ rfl; (with_reducible repeat (first | refine blk_drewN ?_ _ | refine blk_drew ?_ | refine blk_alloc ?_ _)); exact BK275.out) Tryd.underlying25 rfl (by kernel_rfl)) rfl ?_
 exact ⟨_, by first | rfl | (simp [errW_none, errW_some] <;> rfl) | (simp [*, errW_none, errW_some] <;> rfl), by first | exact Kd.R_nil _ _ _ _ _ | exact Kd.N_nil _ _ _ _ _ | exact Kd.V_nil _ _ _ _ _ | exact Kd.Q_nil _ _ _ _ _ | exact Kd.S_nil _ _ _ _ _, by repeat (first | (with_reducible first | exact HB.out | apply below_alloc | apply pw_below_drewN | apply below_drew1 | refine below_set ?_ GE275.out) | exact HB.out)⟩

end Go.Proofs.YtbdciibbgiphcaaDoor.V

/- What tokens say, read from some place on: plain Lean. -/
namespace Go.Proofs.YtbdciibbgiphcaaDoor.V
set_option linter.unusedVariables false
set_option linter.unusedSimpArgs false
set_option linter.unusedSectionVars false
open Go.RowKit Go.Proofs.YtbdciibbgiphcaaDoorW.PrintWords Go.Proofs.YtbdciibbgiphcaaDoorW.PrintLast Go.Proofs.YtbdciibbgiphcaaDoorW.PrintMore
/-- what comes of reading: something, and the place behind it; or why not, and where. -/
inductive PR
 | ok (x : S25) (a : Int)
 | bad (e : Int) (a : Int)
def PR.go (o : Option PR) (k : S25 → Int → Option PR) : Option PR := match o with
 | none => none
 | some (.bad e b) => some (.bad e b)
 | some (.ok x b) => k x b
def ifS : ByteArray := ⟨#[105, 102]⟩
def thenS : ByteArray := ⟨#[116, 104, 101, 110]⟩
def elseS : ByteArray := ⟨#[101, 108, 115, 101]⟩
def opS : ByteArray := ⟨#[40]⟩
def clS : ByteArray := ⟨#[41]⟩
def trueS : ByteArray := ⟨#[116, 114, 117, 101]⟩
def falseS : ByteArray := ⟨#[102, 97, 108, 115, 101]⟩
/-- does that token stand there? -/
def atK (T : List S45) (a : Int) (k : Int) (s : ByteArray) : Bool := decide (a < (T.length : Int)) && (decide ((rd_T45 T a).f0 = k) && decide ((rd_T45 T a).f1.toList = s.toList))
def frm (T : List S45) (n a : Int) : Option S83 := pairsL.find? fun f => decide (f.f1 = n) && atK T a f.f2 f.f3
def pfx (T : List S45) (a : Int) : Option S83 := prefL.find? fun f => atK T a f.f2 f.f3
/-- a word, a number. -/
def atomP (nm : ByteArray → Bool) (num : ByteArray → Option (Int × Int)) (T : List S45) (a : Int) : Option PR :=
 if a < (T.length : Int) then
  if (rd_T45 T a).f0 = 1 then
   if (rd_T45 T a).f1.toList = trueS.toList then some (.ok ⟨2, 1, ⟨#[]⟩, []⟩ (a + 1))
   else if (rd_T45 T a).f1.toList = falseS.toList then some (.ok ⟨2, 0, ⟨#[]⟩, []⟩ (a + 1))
   else if nm (rd_T45 T a).f1 = true then some (.ok ⟨3, 0, (rd_T45 T a).f1, []⟩ (a + 1))
   else some (.bad 5 a)
  else if (rd_T45 T a).f0 = 2 then
   match num (rd_T45 T a).f1 with
   | none => none
   | some (n, e) => if e = 0 then some (.ok ⟨1, n, ⟨#[]⟩, []⟩ (a + 1)) else some (.bad e a)
  else some (.bad 5 a)
 else some (.bad 5 a)
section
variable (nm : ByteArray → Bool) (num : ByteArray → Option (Int × Int)) (T : List S45)
mutual
def rk : Nat → Int → Int → Option PR
 | 0, _, _ => none
 | f + 1, n, a => if 6 ≤ n then pf f a else if n = 0 ∧ atK T a 1 ifS = true then ch f (a + 1)
  else PR.go (rk f (n + 1) a) fun x b => lp f n x b
def lp : Nat → Int → S25 → Int → Option PR
 | 0, _, _, _ => none
 | f + 1, n, x, a => match frm T n a with
  | none => some (.ok x a)
  | some g => PR.go (rk f (asksOf g).2 (a + 1)) fun y b => if n = 0 ∨ n = 3 then some (.ok ⟨g.f0, 0, ⟨#[]⟩, [x, y]⟩ b) else lp f n ⟨g.f0, 0, ⟨#[]⟩, [x, y]⟩ b
def ch : Nat → Int → Option PR
 | 0, _ => none
 | f + 1, a => PR.go (rk f 0 a) fun x b => if atK T b 1 thenS = true then PR.go (rk f 0 (b + 1)) fun y c => if atK T c 1 elseS = true then PR.go (rk f 0 (c + 1)) fun z d => some (.ok ⟨17, 0, ⟨#[]⟩, [x, y, z]⟩ d) else some (.bad 5 c) else some (.bad 5 b)
def pf : Nat → Int → Option PR
 | 0, _ => none
 | f + 1, a => match pfx T a with
  | some g => PR.go (pf f (a + 1)) fun x b => some (.ok ⟨g.f0, 0, ⟨#[]⟩, [x]⟩ b)
  | none => if atK T a 3 opS = true then PR.go (rk f 0 (a + 1)) fun x b => if atK T b 3 clS = true then some (.ok x (b + 1)) else some (.bad 5 b)
   else atomP nm num T a
end
/-- what tokens say from a place on. -/
def parseT (fr : Int) : Option (S25 × Int × Int) :=
 if fr < 0 ∨ (T.length : Int) < fr then some (z25, 0, 1)
 else match rk nm num T (10 * (T.length + 1)) 0 fr with
  | none => none
  | some (.bad e a) => some (z25, a, e)
  | some (.ok x a) => if okE nm x = true then some (x, a, 0) else some (z25, fr, 3)
end
end Go.Proofs.YtbdciibbgiphcaaDoor.V

/- Reading tokens: what lies in memory; the smaller walks. -/
namespace Go.Proofs.YtbdciibbgiphcaaDoor.V
set_option linter.unusedVariables false
set_option linter.unusedSimpArgs false
set_option linter.unusedSectionVars false
open Go.RowKit Go.Proofs.YtbdciibbgiphcaaDoorW.PrintWords Go.Proofs.YtbdciibbgiphcaaDoorW.PrintLast Go.Proofs.YtbdciibbgiphcaaDoorW.PrintMore
def wrongE (e : Int) : Ending := .panicked [{ v := .iface 77 (.agg #[.int .i64 e]), recovered := false }]
theorem must_ok (g : Nat) (w : World) : Calls Tryd.prog 82 #[.pointer (some ⟨g, 0, none⟩), .bool true] w fun e w' => e = .returned (.tuple #[]) ∧ w' = w := by
 go_enter Tryd.func82, Tryd.ntmps82
 go_wp2
 go_end0
 exact ⟨rfl, rfl⟩
theorem must_bad (g : Nat) (w : World) : Calls Tryd.prog 82 #[.pointer (some ⟨g, 0, none⟩), .bool false] w fun e w' => e = wrongE 5 ∧ w' = w := by
 go_enter Tryd.func82, Tryd.ntmps82
 go_wp2
 exact ⟨rfl, rfl, rfl⟩
theorem takes_is (T : List S45) (a k : Int) (s : ByteArray) (h0 : 0 ≤ a) (h1 : a ≤ T.length) (hT : (T.length : Int) ≤ 9223372036854775807) : exprs_reader_takes.f T a k s = some (atK T a k s, if atK T a k s = true then a + 1 else a) := by
 unfold exprs_reader_takes.f atK
 by_cases c1 : a < (T.length : Int)
 ·rw [if_pos c1, if_pos h0]
  by_cases c2 : (rd_T45 T a).f0 = k
  ·rw [if_pos c2]
   by_cases c3 : (rd_T45 T a).f1.toList = s.toList
   ·rw [if_pos c3]; simp [c1, c2, c3, w64 (n := a + 1) (by omega) (by omega)]
   ·rw [if_neg c3]; simp [c1, c2, c3]
  ·rw [if_neg c2]; simp [c1, c2]
 ·rw [if_neg c1]; simp [c1]
theorem IsS75.max {w0 W : World} {g : Nat} {T : List S45} {a : Int} (h : IsS75 w0 W g T a) : (T.length : Int) ≤ 9223372036854775807 := by
 obtain ⟨A, c, _, _, hC⟩ := h
 have := hC.2.1
 omega
/-- the reader stands at a; nothing else that was there at W0 is other. -/
structure St (w0 : World) (g : Nat) (T : List S45) (W0 W : World) (a : Int) : Prop where
 I : IsS75 w0 W g T a
 B : Below w0.heap.size w0 W
 K : KeepBut W0 W g none
 a0 : 0 ≤ a
 a1 : a ≤ (T.length : Int)
theorem St.alloc {w0 : World} {g : Nat} {T : List S45} {W0 W : World} {a : Int} (h : St w0 g T W0 W a) (o : Obj) : St w0 g T W0 (W.alloc o) a := ⟨h.I.alloc o, h.B.alloc h.B.size o, keep_alloc h.K o, h.a0, h.a1⟩
theorem St.drew {w0 : World} {g : Nat} {T : List S45} {W0 W : World} {a : Int} (h : St w0 g T W0 W a) : St w0 g T W0 W.drew a := ⟨h.I.drew, h.B.drew, keep_drew h.K, h.a0, h.a1⟩
theorem St.trans {w0 : World} {g : Nat} {T : List S45} {W0 W1 W2 : World} {a b : Int} (h : St w0 g T W0 W1 a) (k : St w0 g T W1 W2 b) : St w0 g T W0 W2 b := ⟨k.I, k.B, h.K.trans k.K (.inl rfl), k.a0, k.a1⟩
theorem St.self {w0 : World} {g : Nat} {T : List S45} {W0 W : World} {a : Int} (h : St w0 g T W0 W a) : St w0 g T W W a := ⟨h.I, h.B, KeepBut.refl _ _ _, h.a0, h.a1⟩
theorem kb_cell {w W : World} {g : Nat} (h : KeepBut w W g none) {p : Addr} {v : Value} (hc : w.cell? p = some v) (hne : p.block ≠ g) : W.cell? p = some v := Go.Proofs.YtbdciibbgiphcaaDoorW.PrintWords.keep_cell h hc hne
/-- a block that holds something, beside the reader. -/
theorem kb_blk {w W : World} {g b : Nat} {o : Obj} (h : KeepBut w W g none) (hb : w.heap[b]? = some o) (hne : b ≠ g) : W.heap[b]? = some o := h.blk hb hne (by simp)
theorem far4 {w : World} {p b i : Nat} {u : Value} (h : w.cell? ⟨b, i, none⟩ = some u) (hne : b ≠ p) (o : Obj) (a0 a1 a2 a3 : Value) :
  (((((w.alloc o).setCell ⟨p, 0, none⟩ a0).setCell ⟨p, 1, none⟩ a1).setCell ⟨p, 2, none⟩ a2).setCell ⟨p, 3, none⟩ a3).cell? ⟨b, i, none⟩ = some u := by
 have h0 : (w.alloc o).cell? ⟨b, i, none⟩ = some u := by rw [World.cell?_alloc_some _ _ _ (by rw [h]; rfl)]; exact h
 have far : ∀ (W : World) (j : Nat) (v : Value), W.cell? ⟨b, i, none⟩ = some u → (W.setCell ⟨p, j, none⟩ v).cell? ⟨b, i, none⟩ = some u := fun W j v hW => by
  have e : (W.setCell ⟨p, j, none⟩ v).heap[b]? = W.heap[b]? := by
   simp only [World.setCell]
   rw [Array.getElem?_modify, if_neg (fun e => hne e.symm)]
  rw [← hW]
  unfold World.cell?
  simp only
  rw [e]
 exact far _ _ _ (far _ _ _ (far _ _ _ (far _ _ _ h0)))
theorem St.far4 {w0 : World} {g : Nat} {T : List S45} {W W1 : World} {a : Int} (h : St w0 g T W W1 a) {p : Nat} (hp : p ≠ g) (h0 : W.heap.size ≤ p) (hw : w0.heap.size ≤ W.heap.size) (o : Obj) (a0 a1 a2 a3 : Value) :
  St w0 g T W (((((W1.alloc o).setCell ⟨p, 0, none⟩ a0).setCell ⟨p, 1, none⟩ a1).setCell ⟨p, 2, none⟩ a2).setCell ⟨p, 3, none⟩ a3) a := by
 have h1 := h.alloc o
 have far : ∀ (V : World) (j : Nat) (v : Value), St w0 g T W V a → St w0 g T W (V.setCell ⟨p, j, none⟩ v) a := fun V j v hV =>
  ⟨hV.I.far (fun e => hp e.symm) v, hV.B.setCell (p := ⟨p, j, none⟩) (Nat.le_trans hw h0) v, keep_far hV.K (p := ⟨p, j, none⟩) h0 v, hV.a0, hV.a1⟩
 exact far _ _ _ (far _ _ _ (far _ _ _ (far _ _ _ h1)))
theorem blk_far4 {W : World} {p b : Nat} {o : Obj} (h : W.heap[b]? = some o) (hne : b ≠ p) (a0 a1 a2 a3 : Value) :
  ((((W.setCell ⟨p, 0, none⟩ a0).setCell ⟨p, 1, none⟩ a1).setCell ⟨p, 2, none⟩ a2).setCell ⟨p, 3, none⟩ a3).heap[b]? = some o := by
 have far : ∀ (V : World) (j : Nat) (v : Value), V.heap[b]? = some o → (V.setCell ⟨p, j, none⟩ v).heap[b]? = some o := fun V j v hV => by
  simp only [World.setCell]
  rw [Array.getElem?_modify, if_neg (fun e => hne e.symm)]
  exact hV
 exact far _ _ _ (far _ _ _ (far _ _ _ (far _ _ _ h)))
theorem F_far4 {W : World} {ok : Nat → Prop} {A : Option Addr} {n : Nat} {xs : List S25} (h : Kd.F k25 W ok A n xs) {p : Nat} (hp : ∀ k, ok k → k ≠ p) (o : Obj) (a0 a1 a2 a3 : Value) :
  Kd.F k25 (((((W.alloc o).setCell ⟨p, 0, none⟩ a0).setCell ⟨p, 1, none⟩ a1).setCell ⟨p, 2, none⟩ a2).setCell ⟨p, 3, none⟩ a3) ok A n xs :=
 Kd.F_far (Kd.F_far (Kd.F_far (Kd.F_far (Kd.F_alloc h o) (p := ⟨p, 0, none⟩) hp a0) (p := ⟨p, 1, none⟩) hp a1) (p := ⟨p, 2, none⟩) hp a2) (p := ⟨p, 3, none⟩) hp a3
def tv (p : S25 × Option Addr × Nat) : List Value := [.int .u8 p.1.f0, .int .i64 p.1.f1, .string p.1.f2, .slice p.2.1 p.1.f3.length p.2.2]
theorem tv_len : ∀ (ps : List (S25 × Option Addr × Nat)), (ps.flatMap tv).length = ps.length * 4
 | [] => rfl
 | p :: r => by
  simp only [List.flatMap_cons, List.length_append, List.length_cons]
  rw [tv_len r]
  simp only [tv, List.length_cons, List.length_nil]
  omega
theorem tv_drop : ∀ (ps : List (S25 × Option Addr × Nat)) (j : Nat) (p : S25 × Option Addr × Nat), ps[j]? = some p → ((ps.flatMap tv).drop (j * 4)).take 4 = tv p
 | [], j, p, h => by simp at h
 | q :: r, 0, p, h => by
  simp only [List.getElem?_cons_zero, Option.some.injEq] at h
  subst h
  rfl
 | q :: r, j + 1, p, h => by
  simp only [List.getElem?_cons_succ] at h
  have := tv_drop r j p h
  rw [show (j + 1) * 4 = j * 4 + 1 + 1 + 1 + 1 by omega]
  exact this
/-- a list of parts that is written out. -/
theorem lit_F {W : World} {ok : Nat → Prop} {b : Nat} (ps : List (S25 × Option Addr × Nat)) (cs : Array Value) (hcs : cs.toList = ps.flatMap tv) (hb : W.heap[b]? = some (.cells cs 25 (0, 0))) (hbg : ok b)
  (hl : ∀ p ∈ ps, p.1.f3.length ≤ p.2.2 ∧ Kd.F k25 W ok p.2.1 p.1.f3.length p.1.f3) (hn : ps.length ≤ maxLen) : Kd.F k25 W ok (some ⟨b, 0, none⟩) (ps.map (·.1)).length (ps.map (·.1)) := by
 intro W' hW
 have hb' : W'.heap[b]? = some (.cells cs 25 (0, 0)) := (hW b hbg (blk_lt hb)).trans hb
 have hlen := tv_len ps
 have hsz : cs.size = ps.length * 4 := by rw [← Array.length_toList, hcs, hlen]
 have ho : W'.ownsRow 0 25 4 (.slice (some ⟨b, 0, none⟩) ps.length ps.length) ps.length (ps.flatMap tv) :=
  ⟨hlen, .inr ⟨b, ps.length, cs, rfl, Nat.zero_le _, hb', Nat.le_refl _, hn, hsz, by rw [hcs, List.take_of_length_le (by omega)]⟩⟩
 have hR : Reps (k25.K W') 4 (ps.map (·.1)) (ps.flatMap tv) := by
  refine ⟨by rw [hlen, List.length_map], fun j x hx => ?_⟩
  rw [List.getElem?_map] at hx
  cases hp : ps[j]? with
  | none => rw [hp] at hx; simp at hx
  | some p =>
   rw [hp] at hx
   simp only [Option.map_some, Option.some.injEq] at hx
   subst hx
   rw [tv_drop ps j p hp]
   have := hl p (List.mem_of_getElem? hp)
   exact k25_mk W' p.1 this.1 (this.2 W' hW)
 obtain ⟨A, c', he, hr⟩ := own_reads_row ho hR (by rw [List.length_map])
 injection he with h1 h2 h3
 subst h1
 rw [List.length_map]
 exact hr
theorem results_c1 {fn : Func} {p : Tmp} (h : fn.results = #[.cell p 25]) (tmps : Array Value) (w : World) (g : Nat) (a0 a1 a2 a3 : Value)
  (hp : tmps.getD p undef = .pointer (some ⟨g, 0, none⟩)) (hg : w.heap[g]? = some (.cells #[a0, a1, a2, a3] 25 (0, 0))) :
  (results fn tmps).run Tryd.prog w = .ok (.agg #[a0, a1, a2, a3]) w := by
 have hp' : tmps[p]?.getD undef = .pointer (some ⟨g, 0, none⟩) := by simpa using hp
 simp [results, h, hp', asAddr, run_loadVar_row w g 25 25 #[a0, a1, a2, a3] (0, 0) _ hg Tryd.underlying25 rfl (by kernel_rfl)]
/-- the block of the result, written over. -/
theorem put4 {w : World} {g : Nat} {b0 b1 b2 b3 : Value} (h : w.heap[g]? = some (.cells #[b0, b1, b2, b3] 25 (0, 0))) (a0 a1 a2 a3 : Value) :
  ((((w.setCell ⟨g, 0, none⟩ a0).setCell ⟨g, 1, none⟩ a1).setCell ⟨g, 2, none⟩ a2).setCell ⟨g, 3, none⟩ a3).heap[g]? = some (.cells #[a0, a1, a2, a3] 25 (0, 0)) :=
 blk_put (blk_put (blk_put (blk_put h 0 a0 rfl) 1 a1 rfl) 2 a2 rfl) 3 a3 rfl
/-- behind the reading of a part. -/
def RdPost (w0 : World) (g : Nat) (T : List S45) (W : World) (r : PR) (e : Ending) (W' : World) : Prop :=
 match r with
 | .ok x b => St w0 g T W W' b ∧ ∃ A c, e = .returned (.agg #[.int .u8 x.f0, .int .i64 x.f1, .string x.f2, .slice A x.f3.length c]) ∧ x.f3.length ≤ c ∧ Kd.F k25 W' (fun k => W.heap.size ≤ k) A x.f3.length x.f3
 | .bad er b => St w0 g T W W' b ∧ e = wrongE er
theorem St.set4 {w0 : World} {g : Nat} {T : List S45} {W W1 : World} {a : Int} (h : St w0 g T W W1 a) {p : Nat} (hp : p ≠ g) (h0 : W.heap.size ≤ p) (hw : w0.heap.size ≤ W.heap.size) (a0 a1 a2 a3 : Value) :
  St w0 g T W ((((W1.setCell ⟨p, 0, none⟩ a0).setCell ⟨p, 1, none⟩ a1).setCell ⟨p, 2, none⟩ a2).setCell ⟨p, 3, none⟩ a3) a := by
 have far : ∀ (V : World) (j : Nat) (v : Value), St w0 g T W V a → St w0 g T W (V.setCell ⟨p, j, none⟩ v) a := fun V j v hV =>
  ⟨hV.I.far (fun e => hp e.symm) v, hV.B.setCell (p := ⟨p, j, none⟩) (Nat.le_trans hw h0) v, keep_far hV.K (p := ⟨p, j, none⟩) h0 v, hV.a0, hV.a1⟩
 exact far _ _ _ (far _ _ _ (far _ _ _ (far _ _ _ h)))
theorem F_set4 {W : World} {ok : Nat → Prop} {A : Option Addr} {n : Nat} {xs : List S25} (h : Kd.F k25 W ok A n xs) {p : Nat} (hp : ∀ k, ok k → k ≠ p) (a0 a1 a2 a3 : Value) :
  Kd.F k25 ((((W.setCell ⟨p, 0, none⟩ a0).setCell ⟨p, 1, none⟩ a1).setCell ⟨p, 2, none⟩ a2).setCell ⟨p, 3, none⟩ a3) ok A n xs :=
 Kd.F_far (Kd.F_far (Kd.F_far (Kd.F_far h (p := ⟨p, 0, none⟩) hp a0) (p := ⟨p, 1, none⟩) hp a1) (p := ⟨p, 2, none⟩) hp a2) (p := ⟨p, 3, none⟩) hp a3
theorem RdPost.set4 {w0 : World} {g : Nat} {T : List S45} {W w1 : World} {x : S25} {b : Int} {A : Option Addr} {c : Nat} (hs : St w0 g T W w1 b) (hg : W.heap.size ≠ g) (hw : w0.heap.size ≤ W.heap.size) (hl : x.f3.length ≤ c)
  (hF : Kd.F k25 w1 (fun k => W.heap.size + 1 ≤ k) A x.f3.length x.f3) : RdPost w0 g T W (.ok x b) (.returned (.agg #[.int .u8 x.f0, .int .i64 x.f1, .string x.f2, .slice A x.f3.length c]))
   ((((w1.setCell ⟨W.heap.size, 0, none⟩ (.int .u8 x.f0)).setCell ⟨W.heap.size, 1, none⟩ (.int .i64 x.f1)).setCell ⟨W.heap.size, 2, none⟩ (.string x.f2)).setCell ⟨W.heap.size, 3, none⟩ (.slice A x.f3.length c)) :=
 ⟨hs.set4 hg (Nat.le_refl _) hw _ _ _ _, A, c, rfl, hl, Kd.F_mono (F_set4 hF (fun k hk => by omega) _ _ _ _) (fun k hk => by omega)⟩
theorem RdPost.before {w0 : World} {g : Nat} {T : List S45} {W0 W W' : World} {r : PR} {e : Ending} {a : Int} (h : St w0 g T W0 W a) (hp : RdPost w0 g T W r e W') : RdPost w0 g T W0 r e W' := by
 cases r with
 | ok x b =>
  obtain ⟨h1, A, c, h2, h3, h4⟩ := hp
  exact ⟨h.trans h1, A, c, h2, h3, Kd.F_mono h4 (fun k hk => Nat.le_trans h.K.1 hk)⟩
 | bad er b => exact ⟨h.trans hp.1, hp.2⟩
theorem RdPost.keep {w0 : World} {g : Nat} {T : List S45} {W W' : World} {r : PR} {e : Ending} (hp : RdPost w0 g T W r e W') : KeepBut W W' g none := by
 cases r with
 | ok x b => exact hp.1.K
 | bad er b => exact hp.1.K
theorem PR.go_some {o : Option PR} {k : S25 → Int → Option PR} {r : PR} (h : PR.go o k = some r) : (∃ e b, o = some (.bad e b) ∧ r = .bad e b) ∨ (∃ x b, o = some (.ok x b) ∧ k x b = some r) := by
 unfold PR.go at h
 split at h
 ·cases h
 ·rename_i e b
  exact .inl ⟨e, b, rfl, (Option.some.inj h).symm⟩
 ·rename_i x b
  exact .inr ⟨x, b, rfl, h⟩
theorem takes_walk (g : Nat) (T : List S45) (a k : Int) (s : ByteArray) (w0 w : World) (h : St w0 g T w w a) :
  Calls Tryd.prog 68 #[.pointer (some ⟨g, 0, none⟩), .int .u8 k, .string s] w fun e w' => e = .returned (.bool (atK T a k s)) ∧ St w0 g T w w' (if atK T a k s = true then a + 1 else a) := by
 refine (exprs_reader_takes.calls g T a k s _ _ w0 w h.I h.B (takes_is T a k s h.a0 h.a1 h.I.max)).mono ?_
 rintro e w' ⟨h1, h2, h3, h4⟩
 refine ⟨h1, h2, h3, h4, ?_, ?_⟩
 ·have := h.a0; split <;> omega
 ·have := h.a1
  split
  ·rename_i hk
   simp only [atK, Bool.and_eq_true, decide_eq_true_eq] at hk
   omega
  ·omega
theorem two_pr {o : Option PR} {k : S25 → Int → Option PR} {r : PR} (h : PR.go o k = some r) : ∃ r1, o = some r1 ∧ (∀ er b, r1 = .bad er b → r = .bad er b) ∧ (∀ x b, r1 = .ok x b → k x b = some r) := by
 rcases PR.go_some h with ⟨e, b, h1, h2⟩ | ⟨x, b, h1, h2⟩
 ·exact ⟨_, h1, fun e2 b2 h3 => by injection h3 with h4 h5; subst h4; subst h5; exact h2, fun x2 b2 h3 => by cases h3⟩
 ·exact ⟨_, h1, fun e2 b2 h3 => (by cases h3), fun x2 b2 h3 => by injection h3 with h4 h5; subst h4; subst h5; exact h2⟩
def z4 : Obj := .cells #[.int .u8 0, .int .i64 0, .string ⟨#[]⟩, .slice none 0 0] 25
section
variable (PV : World → Prop) (nm : ByteArray → Bool) (num : ByteArray → Option (Int × Int)) (T : List S45)
def RkIs (f : Nat) : Prop := ∀ (n a : Int) (r : PR) (g : Nat) (w0 W : World), rk nm num T f n a = some r → 0 ≤ n → St w0 g T W W a → PV w0 →
 Calls Tryd.prog 42 #[.pointer (some ⟨g, 0, none⟩), .int .i64 n] W (RdPost w0 g T W r)
def PfIs (f : Nat) : Prop := ∀ (a : Int) (r : PR) (g : Nat) (w0 W : World), pf nm num T f a = some r → St w0 g T W W a → PV w0 →
 Calls Tryd.prog 67 #[.pointer (some ⟨g, 0, none⟩)] W (RdPost w0 g T W r)
def ChIs (f : Nat) : Prop := ∀ (a : Int) (r : PR) (g : Nat) (w0 W : World), ch nm num T f a = some r → St w0 g T W W a → PV w0 →
 Calls Tryd.prog 69 #[.pointer (some ⟨g, 0, none⟩)] W (RdPost w0 g T W r)
end
end Go.Proofs.YtbdciibbgiphcaaDoor.V

/- exprs' reader: choice. -/
namespace Go.Proofs.YtbdciibbgiphcaaDoor.V
set_option linter.unusedVariables false
set_option linter.unusedSimpArgs false
set_option linter.unusedSectionVars false
open Go.RowKit Go.Proofs.YtbdciibbgiphcaaDoorW.PrintWords Go.Proofs.YtbdciibbgiphcaaDoorW.PrintLast Go.Proofs.YtbdciibbgiphcaaDoorW.PrintMore
variable {PV : World → Prop} {nm : ByteArray → Bool} {num : ByteArray → Option (Int × Int)} {T : List S45}
set_option maxHeartbeats 8000000 in
set_option maxRecDepth 100000 in
theorem ch_walk (f : Nat) (hr : RkIs PV nm num T f) : ChIs PV nm num T (f + 1) := by
 intro a r g w0 W H hS hv
 unfold ch at H
 obtain ⟨r1, h1, h1b, H⟩ := two_pr H
 have HR := Lib.hid hr; have HV := Lib.hid hv; have HH := Lib.hid H
 have hgl := hS.I.lt
 have hww := hS.B.size
 have HS0 := Lib.hid (hS.alloc (.cells #[.int .u8 0, .int .i64 0, .string ⟨#[]⟩, .slice none 0 0] 25))
 have HC1 := Lib.hid (hr 0 a r1 g w0 _ h1 (by omega) HS0.out.self hv)
 have HB1 := Lib.hid h1b
 clear hr hv H h1 h1b hS
 go_enter Tryd.func69, Tryd.ntmps69
 go_wp2_with fail
 refine HC1.out.mono ?_
 intro e w1 hp
 have HP := Lib.hid hp
 have HZ1 := Lib.hid (kb_blk hp.keep (heap_alloc_new W (.cells #[.int .u8 0, .int .i64 0, .string ⟨#[]⟩, .slice none 0 0] 25)) (by omega))
 have hz1 := hp.keep.1
 rw [World.size_alloc] at hz1
 clear hp HC1
 cases r1 with
 | bad er b =>
  obtain ⟨hs1, rfl⟩ := HP.out
  rw [HB1.out er b rfl]
  exact ⟨rfl, HS0.out.trans hs1, rfl⟩
 | ok x b =>
  obtain ⟨hs1, A, c, rfl, hl, hF⟩ := HP.out
  have HF := Lib.hid hF
  have HS1 := Lib.hid ((HS0.out.trans hs1).alloc (.cells #[.int .u8 x.f0, .int .i64 x.f1, .string x.f2, .slice A x.f3.length c] 25))
  have hg1 : g ≠ w1.heap.size := by omega
  have H2 := HH.out x b rfl
  clear hF hs1 HH HB1 HP HS0
  go_wp2_with fail
  refine (takes_walk g T b 1 thenS w0 _ HS1.out.self).mono ?_
  rintro e w2 ⟨rfl, hs2⟩
  have HS2 := Lib.hid (HS1.out.trans hs2)
  have HZ2 := Lib.hid (kb_blk hs2.K (blk_alloc HZ1.out _) (by omega))
  have HX2 := Lib.hid (kb_blk hs2.K (heap_alloc_new w1 (.cells #[.int .u8 x.f0, .int .i64 x.f1, .string x.f2, .slice A x.f3.length c] 25)) (by omega))
  have HF2 := Lib.hid (Kd.F_keep (Kd.F_alloc HF.out _) hs2.K (fun k hk => by (try simp only [World.size_alloc] at hk); omega))
  have hz2 := hs2.K.1
  rw [World.size_alloc] at hz2
  clear hs2 HZ1 HF HS1
  cases hat : atK T b 1 thenS with
  | false =>
   rw [hat] at HS2 H2
   rw [if_neg (by simp)] at H2
   injection H2 with H2
   subst H2
   go_wp2_with fail
   refine (must_bad g w2).mono ?_
   rintro e w3 ⟨rfl, rfl⟩
   exact ⟨rfl, HS2.out, rfl⟩
  | true =>
   rw [hat] at HS2 H2
   rw [if_pos rfl] at H2 HS2
   go_wp2_with fail
   refine (must_ok g w2).mono ?_
   rintro e w3 ⟨rfl, rfl⟩
   go_wp2_with fail
   obtain ⟨r2, h1, h1b, H3⟩ := two_pr H2
   have HC2 := Lib.hid (HR.out 0 (b + 1) r2 g w0 _ h1 (by omega) HS2.out.self HV.out)
   have HB2 := Lib.hid h1b
   have HH := Lib.hid H3
   clear h1 h1b H3 H2
   refine HC2.out.mono ?_
   intro e w3 hp
   have HP := Lib.hid hp
   have HZ3 := Lib.hid (kb_blk hp.keep HZ2.out (by omega))
   have HX3 := Lib.hid (kb_blk hp.keep HX2.out (by omega))
   have HF3 := Lib.hid (Kd.F_keep HF2.out hp.keep (fun k hk => by (try simp only [World.size_alloc] at hk); omega))
   have hz3 := hp.keep.1
   clear hp HC2 HZ2 HX2 HF2
   cases r2 with
   | bad er b =>
    obtain ⟨hs1, rfl⟩ := HP.out
    rw [HB2.out er b rfl]
    exact ⟨rfl, HS2.out.trans hs1, rfl⟩
   | ok y d =>
    obtain ⟨hs1, A2, c2, rfl, hl2, hF⟩ := HP.out
    have HFY := Lib.hid hF
    have HS1 := Lib.hid ((HS2.out.trans hs1).alloc (.cells #[.int .u8 y.f0, .int .i64 y.f1, .string y.f2, .slice A2 y.f3.length c2] 25))
    have H2 := HH.out y d rfl
    clear hF hs1 HH HB2 HP HS2
    go_wp2_with fail
    refine (takes_walk g T d 1 elseS w0 _ HS1.out.self).mono ?_
    rintro e w4 ⟨rfl, hs2⟩
    have HS2 := Lib.hid (HS1.out.trans hs2)
    have HZ4 := Lib.hid (kb_blk hs2.K (blk_alloc HZ3.out _) (by omega))
    have HX4 := Lib.hid (kb_blk hs2.K (blk_alloc HX3.out _) (by omega))
    have HY4 := Lib.hid (kb_blk hs2.K (heap_alloc_new w3 (.cells #[.int .u8 y.f0, .int .i64 y.f1, .string y.f2, .slice A2 y.f3.length c2] 25)) (by omega))
    have HF4 := Lib.hid (Kd.F_keep (Kd.F_alloc HF3.out _) hs2.K (fun k hk => by (try simp only [World.size_alloc] at hk); omega))
    have HG4 := Lib.hid (Kd.F_keep (Kd.F_alloc HFY.out _) hs2.K (fun k hk => by (try simp only [World.size_alloc] at hk); omega))
    have hz4 := hs2.K.1
    rw [World.size_alloc] at hz4
    clear HZ3 HF3 HX3 HFY HS1
    cases hat2 : atK T d 1 elseS with
    | false =>
     rw [hat2] at HS2 H2
     rw [if_neg (by simp)] at H2
     injection H2 with H2
     subst H2
     go_wp2_with fail
     refine (must_bad g w4).mono ?_
     rintro e w5 ⟨rfl, rfl⟩
     exact ⟨rfl, HS2.out, rfl⟩
    | true =>
     rw [hat2] at HS2 H2
     rw [if_pos rfl] at H2 HS2
     clear hs2
     go_wp2_with fail
     refine (must_ok g w4).mono ?_
     rintro e w5 ⟨rfl, rfl⟩
     go_wp2_with fail
     obtain ⟨r3, h1, h1b, H3⟩ := two_pr H2
     have HC3 := Lib.hid (HR.out 0 (d + 1) r3 g w0 w5.drew h1 (by omega) HS2.out.drew.self HV.out)
     have HB3 := Lib.hid h1b
     have HH3 := Lib.hid H3
     have u0 := blk_cell HX4.out 0; have u1 := blk_cell HX4.out 1; have u2 := blk_cell HX4.out 2; have u3 := blk_cell HX4.out 3
     have v0 := blk_cell HY4.out 0; have v1 := blk_cell HY4.out 1; have v2 := blk_cell HY4.out 2; have v3 := blk_cell HY4.out 3
     dsimp at u0 u1 u2 u3 v0 v1 v2 v3
     clear h1 h1b H3 H2 H
     have hgw : w1.heap.size ≠ W.heap.size := by omega
     have hgw3 : w3.heap.size ≠ W.heap.size := by omega
     have hg3 : w3.heap.size ≠ g := by omega
     have hg0 : W.heap.size ≠ g := by omega
     go_region_held2 (fun w' => w'.cell? ⟨w1.heap.size, 0, none⟩ = some (.int .u8 x.f0) ∧ w'.cell? ⟨w1.heap.size, 1, none⟩ = some (.int .i64 x.f1) ∧ w'.cell? ⟨w1.heap.size, 2, none⟩ = some (.string x.f2) ∧ w'.cell? ⟨w1.heap.size, 3, none⟩ = some (.slice A x.f3.length c) ∧ w'.cell? ⟨w3.heap.size, 0, none⟩ = some (.int .u8 y.f0) ∧ w'.cell? ⟨w3.heap.size, 1, none⟩ = some (.int .i64 y.f1) ∧ w'.cell? ⟨w3.heap.size, 2, none⟩ = some (.string y.f2) ∧ w'.cell? ⟨w3.heap.size, 3, none⟩ = some (.slice A2 y.f3.length c2)) (first | (with_reducible exact ⟨xu0, xu1, xu2, xu3, xv0, xv1, xv2, xv3⟩) | (with_reducible exact ⟨far4 xu0 hgw _ _ _ _ _, far4 xu1 hgw _ _ _ _ _, far4 xu2 hgw _ _ _ _ _, far4 xu3 hgw _ _ _ _ _, far4 xv0 hgw3 _ _ _ _ _, far4 xv1 hgw3 _ _ _ _ _, far4 xv2 hgw3 _ _ _ _ _, far4 xv3 hgw3 _ _ _ _ _⟩) | go_keep) (first | (go_at_call 42; refine HC3.out.mono ?_; intro e w6 hp6; rcases r3 with ⟨z, q⟩ | ⟨er, q⟩; rotate_left; (focus (obtain ⟨hs6, rfl⟩ := hp6; rw [HB3.out er q rfl]; exact ⟨rfl, HS2.out.drew.trans hs6, rfl⟩)); obtain ⟨hs6, A3, c3, rfl, hl3, hF6⟩ := hp6; have hk6 := hs6.K; have xu0 := kb_cell hk6 u0 hg1.symm; have xu1 := kb_cell hk6 u1 hg1.symm; have xu2 := kb_cell hk6 u2 hg1.symm; have xu3 := kb_cell hk6 u3 hg1.symm; have xv0 := kb_cell hk6 v0 hg3; have xv1 := kb_cell hk6 v1 hg3; have xv2 := kb_cell hk6 v2 hg3; have xv3 := kb_cell hk6 v3 hg3; have HS6 := Lib.hid (HS2.out.drew.trans hs6); have HX6 := Lib.hid (Kd.F_keep (Kd.F_drew HF4.out) hk6 (fun k hk => by (try simp only [World.size_alloc] at hk); omega)); have HY6 := Lib.hid (Kd.F_keep (Kd.F_drew HG4.out) hk6 (fun k hk => by (try simp only [World.size_alloc] at hk); omega)); have HZ6 := Lib.hid hF6; have HK6 := Lib.hid (kb_blk hk6 (o := .cells #[.int .u8 0, .int .i64 0, .string ⟨#[]⟩, .slice none 0 0] 25) (b := W.heap.size) HZ4.out hg0); have r0 := fun o => blk_cell (blk_alloc HK6.out o) 0; have r1 := fun o => blk_cell (blk_alloc HK6.out o) 1; have r2 := fun o => blk_cell (blk_alloc HK6.out o) 2; have r3 := fun o => blk_cell (blk_alloc HK6.out o) 3; have f0 := fun o => blk_frozen (blk_alloc HK6.out o) 0; have f1 := fun o => blk_frozen (blk_alloc HK6.out o) 1; have f2 := fun o => blk_frozen (blk_alloc HK6.out o) 2; have f3 := fun o => blk_frozen (blk_alloc HK6.out o) 3; dsimp at r0 r1 r2 r3; have hz6 := hk6.1; clear hs6 hF6 hk6))
     obtain rfl := Option.some.inj (HH3.out z q rfl)
     have hz6' : w5.heap.size ≤ w6.heap.size := hz6
     have hw6 : W.heap.size < w6.heap.size := by omega
     have hF := Lib.hid (lit_F (W := (((((w6.alloc (.cells #[.int .u8 x.f0, .int .i64 x.f1, .string x.f2, .slice A x.f3.length c, .int .u8 y.f0, .int .i64 y.f1, .string y.f2, .slice A2 y.f3.length c2, .int .u8 z.f0, .int .i64 z.f1, .string z.f2, .slice A3 z.f3.length c3] 25)).setCell ⟨W.heap.size, 0, none⟩ (.int .u8 17)).setCell ⟨W.heap.size, 1, none⟩ (.int .i64 0)).setCell ⟨W.heap.size, 2, none⟩ (.string ⟨#[]⟩)).setCell ⟨W.heap.size, 3, none⟩ (.slice (some ⟨w6.heap.size, 0, none⟩) 3 3)))
      (ok := fun k => W.heap.size + 1 ≤ k) (b := w6.heap.size) [(x, A, c), (y, A2, c2), (z, A3, c3)] _ rfl
      ((blk_far4 (heap_alloc_new w6 _) (by omega) _ _ _ _)) (by omega) (by
       intro p hp
       simp only [List.mem_cons, List.not_mem_nil, or_false] at hp
       rcases hp with rfl | rfl | rfl
       ·exact ⟨hl, F_far4 (Kd.F_mono HX6.out (fun k hk => by (try simp only [World.size_alloc] at hk); omega)) (fun k hk => by omega) _ _ _ _ _⟩
       ·exact ⟨hl2, F_far4 (Kd.F_mono HY6.out (fun k hk => by omega)) (fun k hk => by omega) _ _ _ _ _⟩
       ·exact ⟨hl3, F_far4 (Kd.F_mono HZ6.out (fun k hk => by have hk : w5.heap.size ≤ k := hk; omega)) (fun k hk => by omega) _ _ _ _ _⟩) (by simp [maxLen]))
     have HSf := Lib.hid (HS6.out.far4 hg0 (Nat.le_refl _) hww (.cells #[.int .u8 x.f0, .int .i64 x.f1, .string x.f2, .slice A x.f3.length c, .int .u8 y.f0, .int .i64 y.f1, .string y.f2, .slice A2 y.f3.length c2, .int .u8 z.f0, .int .i64 z.f1, .string z.f2, .slice A3 z.f3.length c3] 25) (.int .u8 17) (.int .i64 0) (.string ⟨#[]⟩) (.slice (some ⟨w6.heap.size, 0, none⟩) 3 3))
     have HRf := Lib.hid (put4 (blk_alloc HK6.out (.cells #[.int .u8 x.f0, .int .i64 x.f1, .string x.f2, .slice A x.f3.length c, .int .u8 y.f0, .int .i64 y.f1, .string y.f2, .slice A2 y.f3.length c2, .int .u8 z.f0, .int .i64 z.f1, .string z.f2, .slice A3 z.f3.length c3] 25)) (.int .u8 17) (.int .i64 0) (.string ⟨#[]⟩) (.slice (some ⟨w6.heap.size, 0, none⟩) 3 3))
     generalize hWf : (((((w6.alloc (.cells #[.int .u8 x.f0, .int .i64 x.f1, .string x.f2, .slice A x.f3.length c, .int .u8 y.f0, .int .i64 y.f1, .string y.f2, .slice A2 y.f3.length c2, .int .u8 z.f0, .int .i64 z.f1, .string z.f2, .slice A3 z.f3.length c3] 25)).setCell ⟨W.heap.size, 0, none⟩ (.int .u8 17)).setCell ⟨W.heap.size, 1, none⟩ (.int .i64 0)).setCell ⟨W.heap.size, 2, none⟩ (.string ⟨#[]⟩)).setCell ⟨W.heap.size, 3, none⟩ (.slice (some ⟨w6.heap.size, 0, none⟩) 3 3)) = Wf at *
     clear hWf r0 r1 r2 r3 f0 f1 f2 f3 xu0 xu1 xu2 xu3 xv0 xv1 xv2 xv3 u0 u1 u2 u3 v0 v1 v2 v3
     go_wp2_with fail
     refine bodyPost_ret (results_c1 rfl _ _ W.heap.size _ _ _ _ rfl HRf.out) rfl ⟨HSf.out, _, _, rfl, Nat.le_refl _, ?_⟩
     exact Kd.F_mono hF.out (fun k hk => by omega)
end Go.Proofs.YtbdciibbgiphcaaDoor.V

/- exprs' reader: rank. -/
namespace Go.Proofs.YtbdciibbgiphcaaDoor.V
set_option linter.unusedVariables false
set_option linter.unusedSimpArgs false
set_option linter.unusedSectionVars false
open Go.RowKit Go.Proofs.YtbdciibbgiphcaaDoorW.PrintWords Go.Proofs.YtbdciibbgiphcaaDoorW.PrintLast Go.Proofs.YtbdciibbgiphcaaDoorW.PrintMore
variable {PV : World → Prop} {nm : ByteArray → Bool} {num : ByteArray → Option (Int × Int)} {T : List S45}
set_option maxHeartbeats 8000000 in
set_option maxRecDepth 100000 in
theorem rk_high (f : Nat) (hp : PfIs PV nm num T f) (n a : Int) (r : PR) (g : Nat) (w0 W : World) (H : pf nm num T f a = some r) (h6 : 6 ≤ n) (hS : St w0 g T W W a) (hv : PV w0) :
  Calls Tryd.prog 42 #[.pointer (some ⟨g, 0, none⟩), .int .i64 n] W (RdPost w0 g T W r) := by
 have hgl := hS.I.lt
 have hww := hS.B.size
 have HS0 := Lib.hid (hS.alloc (.cells #[.int .u8 0, .int .i64 0, .string ⟨#[]⟩, .slice none 0 0] 25))
 have HC1 := Lib.hid (hp a r g w0 _ H HS0.out.self hv)
 have g1 : decide (6 ≤ n) = true := decide_eq_true h6
 clear hp hv hS H
 go_enter Tryd.func42, Tryd.ntmps42
 go_wp2_with fail
 apply wp_scope_straight
 go_wp2_with fail
 refine HC1.out.mono ?_
 intro e w1 hp
 have HZ1 := Lib.hid (kb_blk hp.keep (heap_alloc_new W (.cells #[.int .u8 0, .int .i64 0, .string ⟨#[]⟩, .slice none 0 0] 25)) (by omega))
 have hz1 := hp.keep.1
 rw [World.size_alloc] at hz1
 have HP := Lib.hid hp
 clear hp HC1
 cases r with
 | bad er b =>
  obtain ⟨hs1, rfl⟩ := HP.out
  exact ⟨rfl, HS0.out.trans hs1, rfl⟩
 | ok x b =>
  obtain ⟨hs1, A, c, rfl, hl, hF⟩ := HP.out
  have HF := Lib.hid hF
  have HS1 := Lib.hid (HS0.out.trans hs1)
  clear hF hs1 HP HS0
  have r0 := blk_cell HZ1.out 0; have r1 := blk_cell HZ1.out 1; have r2 := blk_cell HZ1.out 2; have r3 := blk_cell HZ1.out 3
  have f0 := blk_frozen HZ1.out 0; have f1 := blk_frozen HZ1.out 1; have f2 := blk_frozen HZ1.out 2; have f3 := blk_frozen HZ1.out 3
  dsimp at r0 r1 r2 r3
  go_wp2_with fail
  rw [Exit.noGoto_ret]
  refine bodyPost_ret (results_c1 rfl _ _ W.heap.size _ _ _ _ rfl (put4 HZ1.out _ _ _ _)) rfl (RdPost.set4 HS1.out (by omega) hww hl (Kd.F_mono HF.out (fun k hk => by (try simp only [World.size_alloc] at hk); omega)))
set_option maxHeartbeats 8000000 in
set_option maxRecDepth 100000 in
theorem rk_if (f : Nat) (hp : ChIs PV nm num T f) (a : Int) (r : PR) (g : Nat) (w0 W : World) (H : ch nm num T f (a + 1) = some r) (hat : atK T a 1 ifS = true) (hS : St w0 g T W W a) (hv : PV w0) :
  Calls Tryd.prog 42 #[.pointer (some ⟨g, 0, none⟩), .int .i64 0] W (RdPost w0 g T W r) := by
 have hgl := hS.I.lt
 have hww := hS.B.size
 have HS0 := Lib.hid (hS.alloc (.cells #[.int .u8 0, .int .i64 0, .string ⟨#[]⟩, .slice none 0 0] 25))
 have HPP := Lib.hid hp; have HV := Lib.hid hv; have HH := Lib.hid H
 clear hp hv hS H
 go_enter Tryd.func42, Tryd.ntmps42
 go_wp2_with fail
 apply wp_scope_straight
 go_wp2_with fail
 refine (takes_walk g T a 1 ifS w0 _ HS0.out.self).mono ?_
 rintro e w2 ⟨rfl, hs2⟩
 rw [hat] at hs2 ⊢
 rw [if_pos rfl] at hs2
 have HS2 := Lib.hid (HS0.out.trans hs2)
 have HZ2 := Lib.hid (kb_blk hs2.K (heap_alloc_new W (.cells #[.int .u8 0, .int .i64 0, .string ⟨#[]⟩, .slice none 0 0] 25)) (by omega))
 have hz2 := hs2.K.1
 rw [World.size_alloc] at hz2
 have HC1 := Lib.hid (HPP.out (a + 1) r g w0 _ HH.out HS2.out.self HV.out)
 clear hs2 HS0
 go_wp2_with fail
 refine HC1.out.mono ?_
 intro e w1 hp
 have HZ1 := Lib.hid (kb_blk hp.keep HZ2.out (by omega))
 have hz1 := hp.keep.1
 have HP := Lib.hid hp
 clear hp HC1
 cases r with
 | bad er b =>
  obtain ⟨hs1, rfl⟩ := HP.out
  exact ⟨rfl, HS2.out.trans hs1, rfl⟩
 | ok x b =>
  obtain ⟨hs1, A, c, rfl, hl, hF⟩ := HP.out
  have HF := Lib.hid hF
  have HS1 := Lib.hid (HS2.out.trans hs1)
  clear hF hs1 HP HS2
  have r0 := blk_cell HZ1.out 0; have r1 := blk_cell HZ1.out 1; have r2 := blk_cell HZ1.out 2; have r3 := blk_cell HZ1.out 3
  have f0 := blk_frozen HZ1.out 0; have f1 := blk_frozen HZ1.out 1; have f2 := blk_frozen HZ1.out 2; have f3 := blk_frozen HZ1.out 3
  dsimp at r0 r1 r2 r3
  go_wp2_with fail
  rw [Exit.noGoto_ret]
  refine bodyPost_ret (results_c1 rfl _ _ W.heap.size _ _ _ _ rfl (put4 HZ1.out _ _ _ _)) rfl (RdPost.set4 HS1.out (by omega) hww hl (Kd.F_mono HF.out (fun k hk => by (try simp only [World.size_alloc] at hk); omega)))
end Go.Proofs.YtbdciibbgiphcaaDoor.V
