/- JE: joined by wip/mkclaim.py (ours) from the texts CcW, CxE of this seat. -/
import Derived.Test.YtfkggeakjgphjaaJD
import Derived.Test.YtfkggeakjgphjaaNcW
/- circles.Check: walked. -/
namespace Go.Proofs.Ytfkggeakjgphjaa.C
set_option linter.unusedVariables false
set_option linter.unusedSimpArgs false
set_option linter.unusedSectionVars false
open Go.RowKit Go.Shelf Go.Proofs.YtfkggeakjgphjaaW.PrintWords Go.Proofs.YtfkggeakjgphjaaW.PrintLast Go.Proofs.YtfkggeakjgphjaaW.PrintMore
open Go.Proofs.RngT Go.Proofs.Circ
def ccCheck (st : Int) (ins : List S84) (fls : List S51) (outs : List ByteArray) : Int :=
  if nmCheck st ins fls outs ≠ 0 then nmCheck st ins fls outs else if circN ins fls ≠ [] then 8 else 0
theorem nmCheck_pr {st : Int} {ins : List S84} {fls : List S51} {outs : List ByteArray} (h : nmCheck st ins fls outs = 0) : prOk st ins fls outs = true := by
  unfold nmCheck at h
  split at h
  · cases h
  · rename_i hp; simpa using hp
theorem prOk_len {st : Int} {ins : List S84} {fls : List S51} {outs : List ByteArray} (h : prOk st ins fls outs = true) : ins.length ≤ 64 ∧ fls.length ≤ 128 := by
  unfold prOk at h
  simp only [Bool.and_eq_true, decide_eq_true_eq] at h
  exact ⟨h.1.1.1.1.1.2, h.1.1.1.1.2⟩
theorem circT_nil {ins : List S84} {fls : List S51} : (circT ins fls).length = (circN ins fls).length := by unfold circT; rw [nms_len]
set_option maxHeartbeats 2000000 in
set_option maxRecDepth 100000 in
/-- circles.Check. -/
theorem ccheck_any (w : World) (st : Int) (ins : List S84) (fls : List S51) (outs : List ByteArray) (A1 A2 A3 : Option Addr) (c1 c2 c3 : Nat) (hw : WfP ins fls outs)
    (hC1 : Kd.C k84 w A1 ins.length ins) (hc1 : ins.length ≤ c1) (hC2 : Kd.C k51 w A2 fls.length fls) (hc2 : fls.length ≤ c2) (hC3 : Kd.C Kd.string w A3 outs.length outs) (hc3 : outs.length ≤ c3) :
    Calls Try.prog 12 #[.agg #[.int .i64 st, .slice A1 ins.length c1, .slice A2 fls.length c2, .slice A3 outs.length c3]] w fun e w' => e = .returned (.int .i64 (ccCheck st ins fls outs)) ∧ Below w.heap.size w w' := by
  obtain ⟨B, hB⟩ : ∃ B, B = w.heap.size := ⟨_, rfl⟩
  have HB := Lib.hid hB
  obtain ⟨ob, hob⟩ : ∃ ob : Obj, ob = .cells #[.int .i64 st, .slice A1 ins.length c1, .slice A2 fls.length c2, .slice A3 outs.length c3] 26 := ⟨_, rfl⟩
  have HOB := Lib.hid hob
  have h0 := World.alloc_heap_new w ob
  have hb1 : Below w.heap.size w (w.alloc ob) := (Below.refl _ _).alloc (Nat.le_refl _) _
  obtain ⟨W1, hW1⟩ : ∃ W1, W1 = w.alloc ob := ⟨_, rfl⟩
  have hz1 : W1.heap.size = w.heap.size + 1 := by rw [hW1]; simp
  rw [← hW1] at h0 hb1
  have HW1 : Hid (W1 = (w.alloc (.cells #[.int .i64 st, .slice A1 ins.length c1, .slice A2 fls.length c2, .slice A3 outs.length c3] 26))) := Lib.hid (by rw [hW1, hob])
  have hnc := ncheck_any W1 st ins fls outs A1 A2 A3 c1 c2 c3 hw (Kd.C_below hC1 hb1) hc1 (Kd.C_below hC2 hb1) hc2 (Kd.C_below hC3 hb1) hc3
  rw [← hB] at h0 hb1 hz1
  have HNC := Lib.hid hnc; have H0 := Lib.hid h0; have HZ1 := Lib.hid hz1; have HB1 := Lib.hid hb1
  have HFI : Hid (nmCheck st ins fls outs = 0 → ∀ w2, Below w.heap.size w w2 → Calls Try.prog 11 #[.agg #[.int .i64 st, .slice A1 ins.length c1, .slice A2 fls.length c2, .slice A3 outs.length c3]] w2 (FiPost w2 (circT ins fls))) := Lib.hid (fun hz w2 hb => by
    have hp := nmCheck_pr hz
    have hl := prOk_len hp
    exact cfind_any w2 st ins fls outs A1 A2 A3 c1 c2 c3 (by omega) (by omega) (prOk_sm hp hw) (Kd.C_below hC1 hb) hc1 (Kd.C_below hC2 hb) hc2)
  obtain ⟨nv, hnv⟩ : ∃ nv, nv = nmCheck st ins fls outs := ⟨_, rfl⟩
  have HNV := Lib.hid hnv
  rw [← hnv] at HNC HFI
  clear hnc h0 hz1 hb1 hC1 hC2 hC3 hB hob hW1 hnv hw
  go_enter Try.func12, Try.ntmps12
  go_wp2_with fail
  rw [← HW1.out]
  refine HNC.out.mono ?_
  rintro e w2 ⟨rfl, hb2⟩
  have hpb := (hb2.block B (by have := HZ1.out; omega)).trans H0.out
  rw [HOB.out] at hpb
  obtain ⟨t0, t1, t2, t3⟩ := box4 hpb
  have hBl : B < w2.heap.size := (Array.getElem?_eq_some_iff.1 hpb).1
  have hbw : Below w.heap.size w w2 := by rw [← HB.out]; exact HB1.out.trans (hb2.mono (by have := HZ1.out; omega))
  have HBW := Lib.hid hbw
  clear hb2 hpb hbw
  by_cases hz : nv = 0
  · subst hz
    have HF := Lib.hid (HFI.out rfl w2 HBW.out)
    rw [← HB.out]
    go_wp2_with fail
    refine HF.out.mono ?_
    rintro e w3 ⟨A, c, rfl, hrow, hb3⟩
    have HBW3 : Hid (Below w.heap.size w w3) := Lib.hid (HBW.out.trans (hb3.mono (by have := HBW.out.size; omega)))
    by_cases hn : (circT ins fls).length = 0
    · have HR : Hid (ccCheck st ins fls outs = 0) := Lib.hid (by
        unfold ccCheck
        rw [← HNV.out, if_neg (by simp), if_neg (by
          rw [circT_nil] at hn
          simpa using List.eq_nil_of_length_eq_zero hn)])
      rw [hn]
      clear hn hrow hb3
      go_wp2_with fail
      go_ret
      exact ⟨by rw [HR.out]; rfl, HBW3.out⟩
    · have HR : Hid (ccCheck st ins fls outs = 8) := Lib.hid (by
        unfold ccCheck
        rw [← HNV.out, if_neg (by simp), if_pos (by
          rw [circT_nil] at hn
          intro e; rw [e] at hn; simp at hn)])
      have hlen : 0 < (circT ins fls).length := by omega
      obtain ⟨k, hk⟩ : ∃ k, k = (circT ins fls).length := ⟨_, rfl⟩
      rw [← hk] at hlen ⊢
      clear hn hrow hb3 hk
      go_wp2_with fail
      go_ret
      exact ⟨by rw [HR.out]; rfl, HBW3.out⟩
  · have HR : Hid (ccCheck st ins fls outs = nv) := Lib.hid (by
      unfold ccCheck
      rw [← HNV.out, if_pos hz])
    go_wp2_with fail
    go_ret
    exact ⟨by rw [HR.out]; rfl, HBW.out⟩
end Go.Proofs.Ytfkggeakjgphjaa.C

/- What was walked by hand, in the printed words' form. -/
namespace Go.Proofs.Ytfkggeakjgphjaa.C
set_option linter.unusedVariables false
set_option linter.unusedSimpArgs false
set_option linter.unusedSectionVars false
open Go.RowKit Go.Shelf Go.Proofs.YtfkggeakjgphjaaW.PrintWords Go.Proofs.YtfkggeakjgphjaaW.PrintLast Go.Proofs.YtfkggeakjgphjaaW.PrintMore
open Go.Proofs.RngT Go.Proofs.Circ
theorem repsS (w : World) (base : Nat) (ok : Nat → Prop) : ∀ xs : List ByteArray, Reps (Kd.string.M w base ok) 1 xs (xs.map Value.string)
  | [] => Reps.none _ _
  | x :: xs => Reps.one (show Kd.string.M w base ok x [.string x] from rfl) (repsS w base ok xs)
theorem ownS_R {w : World} {base : Nat} {v : Value} {xs : List ByteArray} (h : w.ownsRow base 9 1 v xs.length (xs.map Value.string)) : Kd.R Kd.string 9 w base (fun _ => True) v xs :=
  ⟨fun _ _ => trivial, _, h, repsS _ _ _ xs⟩
def toRf (r : Rf) : S74 := ⟨r.1, r.2⟩
theorem repsR (w : World) (base : Nat) (ok : Nat → Prop) : ∀ xs : List Rf, Reps (k74.M w base ok) 2 (xs.map toRf) (rfCells xs)
  | [] => Reps.none _ _
  | x :: xs => Reps.c2 (k74_mkM w base ok (toRf x)) (repsR w base ok xs)
theorem ownR_R {w : World} {base : Nat} {v : Value} {xs : List Rf} (h : w.ownsRow base 74 2 v xs.length (rfCells xs)) : Kd.R k74 74 w base (fun _ => True) v (xs.map toRf) :=
  ⟨fun _ _ => trivial, _, by rw [List.length_map]; exact h, repsR _ _ _ xs⟩
open Classical in
noncomputable def circles_Find.f (a0_0 : Int) (l0_1 : List (S84)) (l0_2 : List (S51)) (l0_3 : List ByteArray) : Option (List ByteArray) :=
  if l0_1.length ≤ 140737488351232 ∧ l0_2.length ≤ 100000 ∧ ∀ x ∈ l0_2, Sm x.f4 then some (circT l0_1 l0_2) else none
theorem circles_Find.calls (a0_0 : Int) (A0_1 : Option Addr) (c0_1 : Nat) (l0_1 : List (S84)) (A0_2 : Option Addr) (c0_2 : Nat) (l0_2 : List (S51)) (A0_3 : Option Addr) (c0_3 : Nat) (l0_3 : List ByteArray) (r : List ByteArray) (w : World) (hr0_1 : Kd.C k84 w A0_1 l0_1.length l0_1) (hc0_1 : l0_1.length ≤ c0_1) (hr0_2 : Kd.C k51 w A0_2 l0_2.length l0_2) (hc0_2 : l0_2.length ≤ c0_2) (hr0_3 : Kd.C Kd.string w A0_3 l0_3.length l0_3) (hc0_3 : l0_3.length ≤ c0_3) (h : circles_Find.f a0_0 l0_1 l0_2 l0_3 = some r) :
    Calls Try.prog 11 #[.agg #[.int .i64 a0_0, .slice A0_1 l0_1.length c0_1, .slice A0_2 l0_2.length c0_2, .slice A0_3 l0_3.length c0_3]] w fun e w' => ∃ v0_ : Value, e = .returned (v0_) ∧ Kd.R Kd.string 9 w' w.heap.size (fun _ => True) v0_ r ∧ Below w.heap.size w w' := by
  unfold circles_Find.f at h
  split at h
  · rename_i hp
    injection h with h
    subst h
    refine (cfind_any w a0_0 l0_1 l0_2 l0_3 A0_1 A0_2 A0_3 c0_1 c0_2 c0_3 hp.1 hp.2.1 hp.2.2 hr0_1 hc0_1 hr0_2 hc0_2).mono ?_
    rintro e w' ⟨A, c, rfl, h1, h2⟩
    exact ⟨_, rfl, ownS_R h1, h2⟩
  · cases h
open Classical in
noncomputable def circles_Check.f (a0_0 : Int) (l0_1 : List (S84)) (l0_2 : List (S51)) (l0_3 : List ByteArray) : Option (Int) := if WfP l0_1 l0_2 l0_3 then some (ccCheck a0_0 l0_1 l0_2 l0_3) else none
theorem circles_Check.calls (a0_0 : Int) (A0_1 : Option Addr) (c0_1 : Nat) (l0_1 : List (S84)) (A0_2 : Option Addr) (c0_2 : Nat) (l0_2 : List (S51)) (A0_3 : Option Addr) (c0_3 : Nat) (l0_3 : List ByteArray) (r : Int) (w : World) (hr0_1 : Kd.C k84 w A0_1 l0_1.length l0_1) (hc0_1 : l0_1.length ≤ c0_1) (hr0_2 : Kd.C k51 w A0_2 l0_2.length l0_2) (hc0_2 : l0_2.length ≤ c0_2) (hr0_3 : Kd.C Kd.string w A0_3 l0_3.length l0_3) (hc0_3 : l0_3.length ≤ c0_3) (h : circles_Check.f a0_0 l0_1 l0_2 l0_3 = some r) :
    Calls Try.prog 12 #[.agg #[.int .i64 a0_0, .slice A0_1 l0_1.length c0_1, .slice A0_2 l0_2.length c0_2, .slice A0_3 l0_3.length c0_3]] w fun e w' => e = .returned (.int .i64 r) ∧ Below w.heap.size w w' := by
  unfold circles_Check.f at h
  split at h
  · rename_i hp
    injection h with h
    subst h
    exact ccheck_any w a0_0 l0_1 l0_2 l0_3 A0_1 A0_2 A0_3 c0_1 c0_2 c0_3 hp hr0_1 hc0_1 hr0_2 hc0_2 hr0_3 hc0_3
  · cases h
open Classical in
noncomputable def names_Check.f (a0_0 : Int) (l0_1 : List (S84)) (l0_2 : List (S51)) (l0_3 : List ByteArray) : Option (Int) := if WfP l0_1 l0_2 l0_3 then some (nmCheck a0_0 l0_1 l0_2 l0_3) else none
theorem names_Check.calls (a0_0 : Int) (A0_1 : Option Addr) (c0_1 : Nat) (l0_1 : List (S84)) (A0_2 : Option Addr) (c0_2 : Nat) (l0_2 : List (S51)) (A0_3 : Option Addr) (c0_3 : Nat) (l0_3 : List ByteArray) (r : Int) (w : World) (hr0_1 : Kd.C k84 w A0_1 l0_1.length l0_1) (hc0_1 : l0_1.length ≤ c0_1) (hr0_2 : Kd.C k51 w A0_2 l0_2.length l0_2) (hc0_2 : l0_2.length ≤ c0_2) (hr0_3 : Kd.C Kd.string w A0_3 l0_3.length l0_3) (hc0_3 : l0_3.length ≤ c0_3) (h : names_Check.f a0_0 l0_1 l0_2 l0_3 = some r) :
    Calls Try.prog 10 #[.agg #[.int .i64 a0_0, .slice A0_1 l0_1.length c0_1, .slice A0_2 l0_2.length c0_2, .slice A0_3 l0_3.length c0_3]] w fun e w' => e = .returned (.int .i64 r) ∧ Below w.heap.size w w' := by
  unfold names_Check.f at h
  split at h
  · rename_i hp
    injection h with h
    subst h
    exact ncheck_any w a0_0 l0_1 l0_2 l0_3 A0_1 A0_2 A0_3 c0_1 c0_2 c0_3 hp hr0_1 hc0_1 hr0_2 hc0_2 hr0_3 hc0_3
  · cases h
def fndT : Option Th → Int × Int × Int × Bool
  | some x => (x.2.1, x.2.2.1, x.2.2.2, true)
  | none => (0, 0, 0, false)
open Classical in
noncomputable def names_Find.f (a0_0 : Int) (l0_1 : List (S84)) (l0_2 : List (S51)) (l0_3 : List ByteArray) (a1 : ByteArray) : Option (Int × Int × Int × Bool) :=
  if l0_1.length ≤ 140737488351232 ∧ l0_2.length ≤ 140737488351232 then some (fndT (fnd l0_1 l0_2 a1)) else none
theorem names_Find.calls (a0_0 : Int) (A0_1 : Option Addr) (c0_1 : Nat) (l0_1 : List (S84)) (A0_2 : Option Addr) (c0_2 : Nat) (l0_2 : List (S51)) (A0_3 : Option Addr) (c0_3 : Nat) (l0_3 : List ByteArray) (a1 : ByteArray) (r1 : Int) (r2 : Int) (r3 : Int) (r4 : Bool) (w : World) (hr0_1 : Kd.C k84 w A0_1 l0_1.length l0_1) (hc0_1 : l0_1.length ≤ c0_1) (hr0_2 : Kd.C k51 w A0_2 l0_2.length l0_2) (hc0_2 : l0_2.length ≤ c0_2) (hr0_3 : Kd.C Kd.string w A0_3 l0_3.length l0_3) (hc0_3 : l0_3.length ≤ c0_3) (h : names_Find.f a0_0 l0_1 l0_2 l0_3 a1 = some (r1, r2, r3, r4)) :
    Calls Try.prog 18 #[.agg #[.int .i64 a0_0, .slice A0_1 l0_1.length c0_1, .slice A0_2 l0_2.length c0_2, .slice A0_3 l0_3.length c0_3], .string a1] w fun e w' => e = .returned (.tuple #[.int .i64 r1, .int .u8 r2, .int .i64 r3, .bool r4]) ∧ Below w.heap.size w w' := by
  unfold names_Find.f at h
  split at h
  · rename_i hp
    injection h with h
    refine (find_any w a0_0 l0_1 l0_2 l0_3 A0_1 A0_2 A0_3 c0_1 c0_2 c0_3 a1 hp.1 hp.2 hr0_1 hc0_1 hr0_2 hc0_2).mono ?_
    rintro e w' ⟨rfl, hb⟩
    refine ⟨?_, hb⟩
    cases hf : fnd l0_1 l0_2 a1 with
    | none => rw [hf] at h; cases h; rfl
    | some x => rw [hf] at h; cases h; rfl
  · cases h
open Classical in
noncomputable def exprs_Refs.f (a0_0 : Int) (a0_1 : Int) (a0_2 : ByteArray) (l0_3 : List (S49)) : Option ((List (S74))) := if Sm ⟨a0_0, a0_1, a0_2, l0_3⟩ then some ((refL ⟨a0_0, a0_1, a0_2, l0_3⟩).map toRf) else none
theorem exprs_Refs.calls (a0_0 : Int) (a0_1 : Int) (a0_2 : ByteArray) (A0_3 : Option Addr) (c0_3 : Nat) (l0_3 : List (S49)) (r : List (S74)) (w : World) (hr0_3 : Kd.C k49 w A0_3 l0_3.length l0_3) (hc0_3 : l0_3.length ≤ c0_3) (h : exprs_Refs.f a0_0 a0_1 a0_2 l0_3 = some r) :
    Calls Try.prog 28 #[.agg #[.int .u8 a0_0, .int .i64 a0_1, .string a0_2, .slice A0_3 l0_3.length c0_3]] w fun e w' => ∃ v0_ : Value, e = .returned (v0_) ∧ Kd.R k74 74 w' w.heap.size (fun _ => True) v0_ r ∧ Below w.heap.size w w' := by
  unfold exprs_Refs.f at h
  split at h
  · rename_i hp
    injection h with h
    subst h
    refine (refs_any ⟨a0_0, a0_1, a0_2, l0_3⟩ hp A0_3 c0_3 w hc0_3 hr0_3).mono ?_
    rintro e w' ⟨A, c, rfl, h1, _, h2⟩
    exact ⟨_, rfl, ownR_R h1, h2⟩
  · cases h
end Go.Proofs.Ytfkggeakjgphjaa.C
