/- The law's walk and the row's reading. Joined by wip/merge.py (ours) from several texts of this seat. -/
import Derived.Test.YtbdciibbgiphcaaDoorMG
import Derived.Test.YtbdciibbgiphcaaDoorMH
import Derived.Test.YtbdciibbgiphcaaDoorME
import Derived.Test.YtbdciibbgiphcaaDoorMA
import Derived.Deep.RegionHeld3
import Derived.Lib.Hide
import Derived.Test.YtbdciibbgiphcaaDoorWWords
import Derived.ChangeArms
import Derived.SizedLaws
import Derived.DataReads
import Derived.Test.YtbdciibbgiphcaaDoorMF
import Derived.Test.YtbdciibbgiphcaaDoorRows
import Derived.Lib.LaidTab
import Derived.MakeChecks
/- ExprsTexts: the law's walk. -/
namespace Go.Proofs.YtbdciibbgiphcaaDoor.V
set_option linter.unusedVariables false
set_option linter.unusedSimpArgs false
set_option linter.unusedSectionVars false
open Go.RowKit Go.Proofs.YtbdciibbgiphcaaDoorW.PrintWords Go.Proofs.YtbdciibbgiphcaaDoorW.PrintLast Go.Proofs.YtbdciibbgiphcaaDoorW.PrintMore
theorem name_is : NameIs nameOk := fun s w => tokens_Name.calls s _ w rfl
/-- the reference's Text and Check, of whatever tree. -/
theorem refText_any (x : S25) (hw : WfE x) (A : Option Addr) (c : Nat) (w : World) (hc : x.f3.length ≤ c) (hC : Kd.C k25 w A x.f3.length x.f3) :
  Calls Tryd.prog 13 #[.agg #[.int .u8 x.f0, .int .i64 x.f1, .string x.f2, .slice A x.f3.length c]] w fun e w' => e = .returned (.tuple #[.string (textE nameOk x).1, .int .i64 (textE nameOk x).2]) ∧ Below w.heap.size w w' := by
 obtain ⟨k, h⟩ := (Text_ev x hw).rounds
 exact belfryref05_Text.calls k x.f0 x.f1 x.f2 A c x.f3 _ _ w hC hc h
theorem refCheck_any (x : S25) (A : Option Addr) (c : Nat) (w : World) (hc : x.f3.length ≤ c) (hC : Kd.C k25 w A x.f3.length x.f3) :
  Calls Tryd.prog 15 #[.agg #[.int .u8 x.f0, .int .i64 x.f1, .string x.f2, .slice A x.f3.length c]] w fun e w' => e = .returned (.bool (okE nameOk x)) ∧ Below w.heap.size w w' := by
 obtain ⟨k, h⟩ := (Check_ev x).rounds
 exact belfryref05_Check.calls k x.f0 x.f1 x.f2 A c x.f3 _ w hC hc h
theorem exprSize_any {x : S25} (hs : SmE x) : ∃ v : Int, ∀ (A : Option Addr) (c : Nat) (w : World), x.f3.length ≤ c → Kd.C k25 w A x.f3.length x.f3 →
  Calls Tryd.prog 10 #[.agg #[.int .u8 x.f0, .int .i64 x.f1, .string x.f2, .slice A x.f3.length c]] w fun e w' => e = .returned (.int .i64 v) ∧ Below w.heap.size w w' := by
 obtain ⟨v, hv⟩ := size_any hs
 obtain ⟨k, h⟩ := hv.rounds
 exact ⟨v, fun A c w hc hC => belfrylaw01_ExprSize.calls k x.f0 x.f1 x.f2 A c x.f3 v w hC hc h⟩
set_option maxHeartbeats 8000000 in
set_option maxRecDepth 100000 in
theorem exprsTexts_walk (x : S25) (hwf : WfE x) (hs : SmE x) (A : Option Addr) (c : Nat) (w : World) (hc : x.f3.length ≤ c) (hC : Kd.C k25 w A x.f3.length x.f3) (hv : VarT w) :
  Calls Tryd.prog 3 #[.agg #[.int .u8 x.f0, .int .i64 x.f1, .string x.f2, .slice A x.f3.length c]] w fun e w' => e = .returned (.bool true) ∧ Below w.heap.size w w' := by
 have hb0 : Below w.heap.size w (w.alloc (.cells #[.int .u8 x.f0, .int .i64 x.f1, .string x.f2, .slice A x.f3.length c] 25)) := (Below.refl _ _).alloc (Nat.le_refl _) _
 have HB0 := Lib.hid hb0
 have hk := heap_alloc_new w (.cells #[.int .u8 x.f0, .int .i64 x.f1, .string x.f2, .slice A x.f3.length c] 25)
 have HK := Lib.hid hk
 obtain ⟨sv, hsv⟩ := exprSize_any hs
 have HSV := Lib.hid hsv
 have HTW := Lib.hid (twin_any hs); have HLF := Lib.hid (left_any hs)
 have HC := Lib.hid hC; have HV := Lib.hid hv; have HWF := Lib.hid hwf
 clear hb0 hk hC hv hwf hs hsv
 go_enter Tryd.func3, Tryd.ntmps3
 go_wp2_with fail
 refine (HSV.out A c _ hc (Kd.C_below HC.out HB0.out)).mono ?_
 rintro e w2 ⟨rfl, hb2⟩
 have HB2 := Lib.hid (HB0.out.trans (hb2.mono HB0.out.size))
 have hk2 := (hb2.block _ (by simp)).trans HK.out
 obtain ⟨b0, b1, b2, b3⟩ := box_cells hk2
 have HK2 := Lib.hid hk2
 clear hb2 hk2 HK
 by_cases hgt : sv > 20000
 ·have g1 : decide (sv > 20000) = true := decide_eq_true hgt
  go_wp2_with fail
  go_ret
  exact ⟨rfl, HB2.out⟩
 ·have g1 : decide (sv > 20000) = false := decide_eq_false hgt
  go_wp2_with fail
  refine (HTW.out A c _ hc (Kd.C_below HC.out HB2.out)).mono ?_
  rintro e w3 ⟨v, bs, rfl, ht, hb3⟩
  obtain ⟨A', c', rfl, hc', hC'⟩ := ht.reads
  have HT := Lib.hid ht
  have HB3 := Lib.hid (HB2.out.trans (hb3.mono HB2.out.size))
  have hlt2 : w.heap.size < w2.heap.size := (Array.getElem?_eq_some_iff.1 HK2.out).1
  have hk3 := (hb3.block _ hlt2).trans HK2.out
  have HK3 := Lib.hid hk3
  have hlt3 : w.heap.size < w3.heap.size := Nat.lt_of_lt_of_le hlt2 hb3.size
  have HCT := Lib.hid hC'
  clear hb3 b0 b1 b2 b3 HK2 ht hC' hk3
  go_wp2_with fail
  have hb4 : Below w3.heap.size w3 (w3.alloc (.cells #[.int .u8 x.f0, .int .i64 x.f1, .string x.f2, .slice A' x.f3.length c'] 25)) := (Below.refl _ _).alloc (Nat.le_refl _) _
  have hk4 := heap_alloc_new w3 (.cells #[.int .u8 x.f0, .int .i64 x.f1, .string x.f2, .slice A' x.f3.length c'] 25)
  have HB4 := Lib.hid hb4; have HK4 := Lib.hid hk4
  clear hb4 hk4
  obtain ⟨tt, htt⟩ : ∃ tt, tt = textE nameOk x := ⟨_, rfl⟩
  have P12 := Text_walk nameOk name_is nameOk_le x A' c' _ HWF.out hc' (Kd.C_below HCT.out HB4.out) (HV.out.step (HB3.out.trans (HB4.out.mono HB3.out.size)))
  have P13 := fun w hC => refText_any x HWF.out A c w hc hC
  rw [← htt] at P12
  simp only [← htt] at P13
  obtain ⟨ta, te⟩ := tt
  have P13 := Lib.hid P13
  clear htt
  refine P12.mono ?_
  clear P12
  rintro e w5 ⟨rfl, hb5⟩
  have HB5 := Lib.hid (HB4.out.trans (hb5.mono HB4.out.size))
  have hk5 := (HB5.out.block _ hlt3).trans HK3.out
  have hd5 := (hb5.block w3.heap.size (by simp)).trans HK4.out
  obtain ⟨b0, b1, b2, b3⟩ := box_cells hk5
  have HK5 := Lib.hid hk5; have HD5 := Lib.hid hd5
  clear hb5 hk5 hd5 HB4 HK4 HK3
  go_wp2_with fail
  refine (P13.out _ (Kd.C_below HC.out (HB3.out.trans (HB5.out.mono HB3.out.size)))).mono ?_
  rintro e w6 ⟨rfl, hb6⟩
  have HB6 := Lib.hid (HB5.out.trans (hb6.mono HB5.out.size))
  clear b0 b1 b2 b3
  obtain ⟨b0, b1, b2, b3⟩ := box_cells ((hb6.block _ (Array.getElem?_eq_some_iff.1 HK5.out).1).trans HK5.out)
  obtain ⟨d0, d1, d2, d3⟩ := box_cells ((hb6.block _ (Array.getElem?_eq_some_iff.1 HD5.out).1).trans HD5.out)
  clear hb6 HK5 HD5 HB5
  go_wp2_with fail
  go_region_held3 (fun w' => w'.cell? ⟨w.heap.size, 0, none⟩ = some (.int .u8 x.f0) ∧ w'.cell? ⟨w.heap.size, 1, none⟩ = some (.int .i64 x.f1) ∧ w'.cell? ⟨w.heap.size, 2, none⟩ = some (.string x.f2) ∧ w'.cell? ⟨w.heap.size, 3, none⟩ = some (.slice A x.f3.length c) ∧ w'.cell? ⟨w3.heap.size, 0, none⟩ = some (.int .u8 x.f0) ∧ w'.cell? ⟨w3.heap.size, 1, none⟩ = some (.int .i64 x.f1) ∧ w'.cell? ⟨w3.heap.size, 2, none⟩ = some (.string x.f2) ∧ w'.cell? ⟨w3.heap.size, 3, none⟩ = some (.slice A' x.f3.length c')) (first | (exact ⟨xb0, xb1, xb2, xb3, xd0, xd1, xd2, xd3⟩) | go_keep) (first | (go_at_call 14; ((with_reducible refine ((Check_walk nameOk name_is x A' c' _ hc' (Kd.C_below HCT.out (by first | exact HZ.out | exact HB6.out.drew | exact HB6.out))).mono ?_)); rintro e w2 ⟨rfl, hb2⟩; have xb0 := keep_cell hb2 (Nat.le_refl _) (by first | exact xb0 | exact b0); have xb1 := keep_cell hb2 (Nat.le_refl _) (by first | exact xb1 | exact b1); have xb2 := keep_cell hb2 (Nat.le_refl _) (by first | exact xb2 | exact b2); have xb3 := keep_cell hb2 (Nat.le_refl _) (by first | exact xb3 | exact b3); have xd0 := keep_cell hb2 (Nat.le_refl _) (by first | exact xd0 | exact d0); have xd1 := keep_cell hb2 (Nat.le_refl _) (by first | exact xd1 | exact d1); have xd2 := keep_cell hb2 (Nat.le_refl _) (by first | exact xd2 | exact d2); have xd3 := keep_cell hb2 (Nat.le_refl _) (by first | exact xd3 | exact d3); have HZ := Lib.hid (Below.trans (B := w3.heap.size) (by first | exact HZ.out | exact HB6.out.drew | exact HB6.out) (hb2.mono (by first | exact HZ.out.size | exact HB6.out.size))); clear hb2)) | (go_at_call 15; ((with_reducible refine ((refCheck_any x A c _ hc (Kd.C_below HC.out (HB3.out.trans (Below.mono (by first | exact HZ.out | exact HB6.out.drew | exact HB6.out) HB3.out.size)))).mono ?_)); rintro e w2 ⟨rfl, hb2⟩; have xb0 := keep_cell hb2 (Nat.le_refl _) (by first | exact xb0 | exact b0); have xb1 := keep_cell hb2 (Nat.le_refl _) (by first | exact xb1 | exact b1); have xb2 := keep_cell hb2 (Nat.le_refl _) (by first | exact xb2 | exact b2); have xb3 := keep_cell hb2 (Nat.le_refl _) (by first | exact xb3 | exact b3); have xd0 := keep_cell hb2 (Nat.le_refl _) (by first | exact xd0 | exact d0); have xd1 := keep_cell hb2 (Nat.le_refl _) (by first | exact xd1 | exact d1); have xd2 := keep_cell hb2 (Nat.le_refl _) (by first | exact xd2 | exact d2); have xd3 := keep_cell hb2 (Nat.le_refl _) (by first | exact xd3 | exact d3); have HZ := Lib.hid (Below.trans (B := w3.heap.size) (by first | exact HZ.out | exact HB6.out.drew | exact HB6.out) (hb2.mono (by first | exact HZ.out.size | exact HB6.out.size))); clear hb2)) | (go_at_call 16; ((refine ((HLF.out A c _ _ bs _ (HT.out.stay (by first | exact HZ.out | exact HB6.out.drew | exact HB6.out)) hc (Kd.C_below HC.out (HB3.out.trans (Below.mono (by first | exact HZ.out | exact HB6.out.drew | exact HB6.out) HB3.out.size)))).mono ?_)); intro e w2 hp2; obtain ⟨rfl, hb2⟩ := hp2; have xb0 := keep_cell hb2 (Nat.le_refl _) (by first | exact xb0 | exact b0); have xb1 := keep_cell hb2 (Nat.le_refl _) (by first | exact xb1 | exact b1); have xb2 := keep_cell hb2 (Nat.le_refl _) (by first | exact xb2 | exact b2); have xb3 := keep_cell hb2 (Nat.le_refl _) (by first | exact xb3 | exact b3); have xd0 := keep_cell hb2 (Nat.le_refl _) (by first | exact xd0 | exact d0); have xd1 := keep_cell hb2 (Nat.le_refl _) (by first | exact xd1 | exact d1); have xd2 := keep_cell hb2 (Nat.le_refl _) (by first | exact xd2 | exact d2); have xd3 := keep_cell hb2 (Nat.le_refl _) (by first | exact xd3 | exact d3); have HZ := Lib.hid (Below.trans (B := w3.heap.size) (by first | exact HZ.out | exact HB6.out.drew | exact HB6.out) (hb2.mono (by first | exact HZ.out.size | exact HB6.out.size))); clear hb2)))
  all_goals (go_wp2_with fail; go_ret; exact ⟨rfl, HB3.out.trans (HZ.out.mono HB3.out.size)⟩)
end Go.Proofs.YtbdciibbgiphcaaDoor.V

/- From a datum as the row reads it to a value of Lean's own: for whole numbers, bools, strings, slices of such. -/
namespace Go.Proofs.Tr
set_option linter.unusedVariables false
set_option linter.unusedSimpArgs false
set_option linter.unusedSectionVars false
open Go.RowKit Go.Proofs.YtbdciibbgiphcaaDoorW.PrintWords

/-- whatever reads as a datum of type t, with so much fuel, is a value of d that is wf. -/
def TrAt (P : Program) {α : Type} (d : Kd α) (wf : α → Prop) (t : TypeId) : Prop :=
 ∀ (H : Type) (enc : TypeId × Value → H) (W : World) (fuel : Nat) (cs : List Value) (x : DataW H × List MemPlace), DataW.trod enc P W 0 (fun _ => true) true fuel t cs = some x →
  ((x.1.weights P t).all (· ≤ reachBytes) = true) → ∃ a, d.K W a cs ∧ wf a

section
variable {P : Program} {t e : TypeId} {fuel n : Nat}

theorem TrAt.int {k : IntKind} (ht : P.underlying t = some (.int k)) : TrAt P (Kd.int k) (fun n => (Lit.int k n).wf = true) t := by
 intro H enc W fuel cs x h _
 cases fuel with
 | zero => simp [DataW.trod] at h
 | succ m =>
  unfold DataW.trod at h
  rw [ht] at h
  split at h <;> simp_all
  obtain ⟨⟨h1, h2⟩, _⟩ := h
  subst h1
  exact ⟨_, rfl, h2⟩

theorem TrAt.bool (ht : P.underlying t = some .bool) : TrAt P Kd.bool (fun _ => True) t := by
 intro H enc W fuel cs x h _
 cases fuel with
 | zero => simp [DataW.trod] at h
 | succ m =>
  unfold DataW.trod at h
  rw [ht] at h
  split at h <;> simp_all [-Bool.exists_bool]
  exact ⟨_, rfl⟩

theorem TrAt.string (ht : P.underlying t = some .string) : TrAt P Kd.string (fun s => s.size ≤ maxLen ∧ s.size ≤ 140737488351232) t := by
 intro H enc W fuel cs x h hw
 cases fuel with
 | zero => simp [DataW.trod] at h
 | succ m =>
  unfold DataW.trod at h
  rw [ht] at h
  split at h <;> simp_all
  rename_i s
  obtain ⟨h1, rfl⟩ := h
  refine ⟨s, rfl, h1, ?_⟩
  simp [DataW.weights, reachBytes] at hw
  exact hw

theorem weightsAll_mem {H : Type} {e : TypeId} : ∀ {l : List (DataW H)} {i : Nat} {d : DataW H}, l[i]? = some d → ∀ n ∈ d.weights P e, n ∈ DataW.weightsAll P e l
 | d0 :: r, 0, d, h, n, hn => by
  simp only [List.getElem?_cons_zero, Option.some.injEq] at h
  subst h
  simp only [DataW.weightsAll, List.mem_append]
  exact .inl hn
 | d0 :: r, i + 1, d, h, n, hn => by
  simp only [List.getElem?_cons_succ] at h
  simp only [DataW.weightsAll, List.mem_append]
  exact .inr (weightsAll_mem h n hn)
 | [], _, _, h, _, _ => by simp at h

theorem TrAt.slice {α : Type} {d : Kd α} {wf : α → Prop} (e' : Nat) (ht : P.underlying t = some (.slice e)) (hc : P.cellsOf e = d.sz) (hd : TrAt P d wf e) :
  TrAt P (Kd.slice e' d) (fun l => l.length * P.bytesOf e ≤ 140737488351232 ∧ l.length ≤ 9223372036854775807 ∧ ∀ a ∈ l, wf a) t := by
 intro H enc W fuel cs x h hw
 cases fuel with
 | zero => simp [DataW.trod] at h
 | succ fuel =>
 rcases DataW.trod_slice ht h with ⟨rfl, rfl⟩ | ⟨a, len, cap, elems, rest, m, hm, rfl, rfl, hb, hl, hcap, hlen, hel, hspare⟩
 ·exact ⟨[], ⟨none, 0, rfl, Nat.le_refl _, rfl, by simp, fun h => absurd h (by simp)⟩, by simp, by simp, by simp⟩
 ·obtain rfl : m = fuel := by omega
  have hw2 : ∀ n ∈ (elems.length + rest.length) * P.bytesOf e :: (DataW.weightsAll P e (elems.map (·.1)) ++ DataW.weightsAll P e (rest.map (·.1))), n ≤ reachBytes := by
   have := List.all_eq_true.1 hw
   intro n hn
   have h1 := this n (by simpa [DataW.weights, ht] using hn)
   simpa using h1
  have hex : ∀ i, i < len → ∃ cs', W.cells? 0 (a.add (i * P.cellsOf e)) (P.cellsOf e) = some cs' ∧ ∃ y, d.K W y cs' ∧ wf y := by
   intro i hi
   have h1 := hel i hi
   rw [List.getElem?_eq_getElem (by omega), Option.bind_eq_some_iff] at h1
   obtain ⟨cs', h2, h3⟩ := h1
   refine ⟨cs', h2, ?_⟩
   refine hd H enc W m cs' _ h3 ?_
   rw [List.all_eq_true]
   intro n hn
   have h4 : ((elems.map (·.1))[i]?) = some (elems[i]'(by omega)).1 := by simp [show i < elems.length by omega]
   have := hw2 n (List.mem_cons_of_mem _ (List.mem_append_left _ (weightsAll_mem h4 n hn)))
   simpa using this
  have hch : ∃ l : List α, l.length = len ∧ ∀ i, i < len → ∃ y cs', l[i]? = some y ∧ W.cells? 0 (a.add (i * P.cellsOf e)) (P.cellsOf e) = some cs' ∧ d.K W y cs' ∧ wf y := by
   clear hel hw hw2 h hlen hl hspare
   induction len with
   | zero => exact ⟨[], rfl, fun i hi => absurd hi (by omega)⟩
   | succ len ih =>
    obtain ⟨l, h1, h2⟩ := ih (fun i hi => hex i (by omega))
    obtain ⟨cs', h3, y, h4, h5⟩ := hex len (by omega)
    refine ⟨l ++ [y], by simp [h1], fun i hi => ?_⟩
    by_cases e1 : i = len
    ·subst e1
     exact ⟨y, cs', by simp [← h1], h3, h4, h5⟩
    ·obtain ⟨y', cs2, q1, q2⟩ := h2 i (by omega)
     exact ⟨y', cs2, by rw [List.getElem?_append_left (by omega)]; exact q1, q2⟩
  obtain ⟨l, hll, hle⟩ := hch
  refine ⟨l, ⟨some a, cap, by rw [hll], by omega, rfl, by unfold maxLen at hcap; omega, fun _ => ⟨a, rfl, fun j p hj => ?_⟩⟩, ?_, ?_, ?_⟩
  ·have hjl : j < len := by rw [← hll]; exact (List.getElem?_eq_some_iff.1 hj).1
   obtain ⟨y, cs', q1, q2, q3, _⟩ := hle j hjl
   rw [hj] at q1
   injection q1 with q1
   subst q1
   have hlen' := d.K_len q3
   refine ⟨cs', hlen', q3, fun i u hu => ?_⟩
   obtain ⟨_, _, hcell⟩ := World.cells?_some q2
   rw [← hc, ← add_add, hcell i (by rw [hc, ← hlen']; exact (List.getElem?_eq_some_iff.1 hu).1)]
   exact hu
  ·have := hw2 _ List.mem_cons_self
   have h3 : len * P.bytesOf e ≤ (elems.length + rest.length) * P.bytesOf e := Nat.mul_le_mul_right _ (by omega)
   rw [hll]
   unfold reachBytes at this
   omega
  ·unfold maxLen at hcap; omega
  ·intro y hy
   obtain ⟨i, hi, rfl⟩ := List.getElem_of_mem hy
   obtain ⟨y', cs', q1, _, _, q4⟩ := hle i (by omega)
   rw [List.getElem?_eq_getElem hi] at q1
   injection q1 with q1
   rw [q1]; exact q4

theorem wsplit {H : Type} {d : DataW H} {ts : List TypeId} {ds : List (DataW H)} {q : Nat → Bool} (h : (DataW.weightsEach P (t :: ts) (d :: ds)).all q = true) :
  (d.weights P t).all q = true ∧ (DataW.weightsEach P ts ds).all q = true := by
 simp only [DataW.weightsEach, List.all_append, Bool.and_eq_true] at h
 exact h

theorem TrAt.arg {H : Type} {enc : TypeId × Value → H} {W : World} {v : Value} {x : DataW H} {q : List MemPlace} {α : Type} {d : Kd α} {wf : α → Prop} (ht : TrAt P d wf t)
  (h : DataW.Trod enc P W 0 (fun _ => true) true t v x q) (hw : (x.weights P t).all (· ≤ reachBytes) = true) : ∃ a, d.K W a v.cells.toList ∧ wf a := by
 obtain ⟨fuel, hf⟩ := h
 exact ht H enc W fuel _ (x, q) hf hw

theorem lt_of_trod {H : Type} {enc : TypeId × Value → H} {W : World} {v : Value} {x : DataW H} {q : List MemPlace} (h : DataW.Trod enc P W 0 (fun _ => true) true t v x q) : ∀ y ∈ q, y.block < W.heap.size := by
 obtain ⟨m, hm⟩ := h
 exact DataW.trod_lt m _ _ _ hm
end
end Go.Proofs.Tr

/- From a datum as the row reads it to a tree of Lean's own. -/
namespace Go.Proofs.Tr
set_option linter.unusedVariables false
set_option linter.unusedSimpArgs false
set_option linter.unusedSectionVars false
open Go.RowKit Go.Proofs.YtbdciibbgiphcaaDoorW.PrintWords Go.Proofs.YtbdciibbgiphcaaDoor.V
/-- as TrAt, for no more fuel than n. -/
def TrN (P : Program) {α : Type} (d : Kd α) (wf : α → Prop) (t : TypeId) (N : Nat) : Prop :=
 ∀ (H : Type) (enc : TypeId × Value → H) (W : World) (fuel : Nat) (cs : List Value) (x : DataW H × List MemPlace), fuel ≤ N → DataW.trod enc P W 0 (fun _ => true) true fuel t cs = some x →
  ((x.1.weights P t).all (· ≤ reachBytes) = true) → ∃ a, d.K W a cs ∧ wf a
section
variable {P : Program} {t e : TypeId} {fuel n : Nat}
theorem TrN.slice {α : Type} {d : Kd α} {wf : α → Prop} {N : Nat} (e' : Nat) (ht : P.underlying t = some (.slice e)) (hc : P.cellsOf e = d.sz) (hd : TrN P d wf e N) :
  TrN P (Kd.slice e' d) (fun l => l.length * P.bytesOf e ≤ 140737488351232 ∧ l.length ≤ 9223372036854775807 ∧ ∀ a ∈ l, wf a) t N := by
 intro H enc W fuel cs x hN h hw
 cases fuel with
 | zero => simp [DataW.trod] at h
 | succ fuel =>
 rcases DataW.trod_slice ht h with ⟨rfl, rfl⟩ | ⟨a, len, cap, elems, rest, m, hm, rfl, rfl, hb, hl, hcap, hlen, hel, hspare⟩
 ·exact ⟨[], ⟨none, 0, rfl, Nat.le_refl _, rfl, by simp, fun h => absurd h (by simp)⟩, by simp, by simp, by simp⟩
 ·obtain rfl : m = fuel := by omega
  have hw2 : ∀ n ∈ (elems.length + rest.length) * P.bytesOf e :: (DataW.weightsAll P e (elems.map (·.1)) ++ DataW.weightsAll P e (rest.map (·.1))), n ≤ reachBytes := by
   have := List.all_eq_true.1 hw
   intro n hn
   have h1 := this n (by simpa [DataW.weights, ht] using hn)
   simpa using h1
  have hex : ∀ i, i < len → ∃ cs', W.cells? 0 (a.add (i * P.cellsOf e)) (P.cellsOf e) = some cs' ∧ ∃ y, d.K W y cs' ∧ wf y := by
   intro i hi
   have h1 := hel i hi
   rw [List.getElem?_eq_getElem (by omega), Option.bind_eq_some_iff] at h1
   obtain ⟨cs', h2, h3⟩ := h1
   refine ⟨cs', h2, ?_⟩
   refine hd H enc W m cs' _ (by omega) h3 ?_
   rw [List.all_eq_true]
   intro n hn
   have h4 : ((elems.map (·.1))[i]?) = some (elems[i]'(by omega)).1 := by simp [show i < elems.length by omega]
   have := hw2 n (List.mem_cons_of_mem _ (List.mem_append_left _ (weightsAll_mem h4 n hn)))
   simpa using this
  have hch : ∃ l : List α, l.length = len ∧ ∀ i, i < len → ∃ y cs', l[i]? = some y ∧ W.cells? 0 (a.add (i * P.cellsOf e)) (P.cellsOf e) = some cs' ∧ d.K W y cs' ∧ wf y := by
   clear hel hw hw2 h hlen hl hspare
   induction len with
   | zero => exact ⟨[], rfl, fun i hi => absurd hi (by omega)⟩
   | succ len ih =>
    obtain ⟨l, h1, h2⟩ := ih (fun i hi => hex i (by omega))
    obtain ⟨cs', h3, y, h4, h5⟩ := hex len (by omega)
    refine ⟨l ++ [y], by simp [h1], fun i hi => ?_⟩
    by_cases e1 : i = len
    ·subst e1
     exact ⟨y, cs', by simp [← h1], h3, h4, h5⟩
    ·obtain ⟨y', cs2, q1, q2⟩ := h2 i (by omega)
     exact ⟨y', cs2, by rw [List.getElem?_append_left (by omega)]; exact q1, q2⟩
  obtain ⟨l, hll, hle⟩ := hch
  refine ⟨l, ⟨some a, cap, by rw [hll], by omega, rfl, by unfold maxLen at hcap; omega, fun _ => ⟨a, rfl, fun j p hj => ?_⟩⟩, ?_, ?_, ?_⟩
  ·have hjl : j < len := by rw [← hll]; exact (List.getElem?_eq_some_iff.1 hj).1
   obtain ⟨y, cs', q1, q2, q3, _⟩ := hle j hjl
   rw [hj] at q1
   injection q1 with q1
   subst q1
   have hlen' := d.K_len q3
   refine ⟨cs', hlen', q3, fun i u hu => ?_⟩
   obtain ⟨_, _, hcell⟩ := World.cells?_some q2
   rw [← hc, ← add_add, hcell i (by rw [hc, ← hlen']; exact (List.getElem?_eq_some_iff.1 hu).1)]
   exact hu
  ·have := hw2 _ List.mem_cons_self
   have h3 : len * P.bytesOf e ≤ (elems.length + rest.length) * P.bytesOf e := Nat.mul_le_mul_right _ (by omega)
   rw [hll]
   unfold reachBytes at this
   omega
  ·unfold maxLen at hcap; omega
  ·intro y hy
   obtain ⟨i, hi, rfl⟩ := List.getElem_of_mem hy
   obtain ⟨y', cs', q1, _, _, q4⟩ := hle i (by omega)
   rw [List.getElem?_eq_getElem hi] at q1
   injection q1 with q1
   rw [q1]; exact q4

end
theorem list4 {α : Type} {l : List α} (h : l.length = 4) : ∃ a b c d, l = [a, b, c, d] := by
 match l, h with
 | [a, b, c, d], _ => exact ⟨a, b, c, d, rfl⟩
theorem wf_u8 {c : Int} (h : (Lit.int .u8 c).wf = true) : 0 ≤ c ∧ c ≤ 255 := by
 have := h
 simp [Lit.wf, IntKind.min, IntKind.max, IntKind.bits, IntKind.signed] at this
 omega
theorem wf_i64 {c : Int} (h : (Lit.int .i64 c).wf = true) : -9223372036854775808 ≤ c ∧ c ≤ 9223372036854775807 := by
 have := h
 simp [Lit.wf, IntKind.min, IntKind.max, IntKind.bits, IntKind.signed] at this
 omega
theorem all_app {p : Nat → Bool} {a b : List Nat} (h : (a ++ b).all p = true) : a.all p = true ∧ b.all p = true := by
 rw [List.all_append, Bool.and_eq_true] at h; exact h
theorem fields25 : ∃ fs : Array Field, Tryd.prog.underlying 25 = some (.struct fs) ∧ fs.size = 4 ∧ (fs.toList.map (·.type)) = [22, 2, 9, 23] ∧
  (∃ f, fs[0]? = some f ∧ f.type = 22 ∧ f.offset = 0) ∧ (∃ f, fs[1]? = some f ∧ f.type = 2 ∧ f.offset = 1) ∧ (∃ f, fs[2]? = some f ∧ f.type = 9 ∧ f.offset = 2) ∧ (∃ f, fs[3]? = some f ∧ f.type = 23 ∧ f.offset = 3) :=
 ⟨_, Tryd.underlying25, rfl, rfl, ⟨_, rfl, rfl, rfl⟩, ⟨_, rfl, rfl, rfl⟩, ⟨_, rfl, rfl, rfl⟩, ⟨_, rfl, rfl, rfl⟩⟩
theorem trN_expr : ∀ N, TrN Tryd.prog k25 (fun x => WfE x ∧ SmE x) 25 N
 | 0 => by
  intro H enc W fuel cs x hN h hw
  obtain rfl : fuel = 0 := by omega
  simp [DataW.trod] at h
 | N + 1 => by
  intro H enc W fuel cs x hN h hw
  obtain ⟨fs, hu, hfz, hty, ⟨g0, q0, t0, o0⟩, ⟨g1, q1, t1, o1⟩, ⟨g2, q2, t2, o2⟩, ⟨g3, q3, t3, o3⟩⟩ := fields25
  obtain ⟨xs, n, rfl, rfl, hlen, hxl, hel⟩ := DataW.trod_struct hu h
  have hc4 : Tryd.prog.cellsOf 25 = 4 := by kernel_rfl
  have c22 : Tryd.prog.cellsOf 22 = 1 := by kernel_rfl
  have c2 : Tryd.prog.cellsOf 2 = 1 := by kernel_rfl
  have c9 : Tryd.prog.cellsOf 9 = 1 := by kernel_rfl
  have c23 : Tryd.prog.cellsOf 23 = 1 := by kernel_rfl
  rw [hc4] at hlen
  rw [hfz] at hxl
  obtain ⟨v0, v1, v2, v3, rfl⟩ := list4 hlen
  obtain ⟨x0, x1, x2, x3, rfl⟩ := list4 hxl
  have e0 := hel 0 g0 q0
  have e1 := hel 1 g1 q1
  have e2 := hel 2 g2 q2
  have e3 := hel 3 g3 q3
  rw [t0, o0, c22] at e0
  rw [t1, o1, c2] at e1
  rw [t2, o2, c9] at e2
  rw [t3, o3, c23] at e3
  replace e0 : DataW.trod enc Tryd.prog W 0 (fun _ => true) true n 22 [v0] = some x0 := e0
  replace e1 : DataW.trod enc Tryd.prog W 0 (fun _ => true) true n 2 [v1] = some x1 := e1
  replace e2 : DataW.trod enc Tryd.prog W 0 (fun _ => true) true n 9 [v2] = some x2 := e2
  replace e3 : DataW.trod enc Tryd.prog W 0 (fun _ => true) true n 23 [v3] = some x3 := e3
  have hw4 : (DataW.weightsEach Tryd.prog [22, 2, 9, 23] [x0.1, x1.1, x2.1, x3.1]).all (· ≤ reachBytes) = true := by
   simp only [DataW.weights, hu, hty] at hw
   exact hw
  obtain ⟨z0, hw3⟩ := wsplit hw4
  obtain ⟨z1, hw2⟩ := wsplit hw3
  obtain ⟨z2, hw1⟩ := wsplit hw2
  obtain ⟨z3, _⟩ := wsplit hw1
  obtain ⟨o, k0, w0⟩ := TrAt.int (P := Tryd.prog) (t := 22) (k := .u8) Tryd.underlying22 H enc W n _ x0 e0 z0
  obtain ⟨m, k1, w1⟩ := TrAt.int (P := Tryd.prog) (t := 2) (k := .i64) Tryd.underlying2 H enc W n _ x1 e1 z1
  obtain ⟨s, k2, w2⟩ := TrAt.string (P := Tryd.prog) (t := 9) Tryd.underlying9 H enc W n _ x2 e2 z2
  obtain ⟨ys, k3, w3⟩ := TrN.slice (P := Tryd.prog) (t := 23) (e := 25) 25 Tryd.underlying23 hc4 (trN_expr N) H enc W n _ x3 (by omega) e3 z3
  have hb : Tryd.prog.bytesOf 25 = 56 := by kernel_rfl
  rw [hb] at w3
  obtain ⟨A, c, e3', hl3, hC3⟩ := k3
  obtain rfl : v0 = .int .u8 o := by injection k0
  obtain rfl : v1 = .int .i64 m := by injection k1
  obtain rfl : v2 = .string s := by injection k2
  obtain rfl : v3 = .slice A ys.length c := by injection e3'
  have w0' := wf_u8 w0
  have w1' := wf_i64 w1
  refine ⟨⟨o, m, s, ys⟩, k25_mk W ⟨o, m, s, ys⟩ hl3 hC3, .mk o m s ys ?_ ?_ ?_ ?_ w2.2 (by omega) (fun y hy => (w3.2.2 y hy).1), .mk o m s ys (by omega) (fun y hy => (w3.2.2 y hy).2)⟩
  ·exact w0'.1
  ·exact w0'.2
  ·exact w1'.1
  ·exact w1'.2
theorem trAt_expr : TrAt Tryd.prog k25 (fun x => WfE x ∧ SmE x) 25 := fun H enc W fuel cs x h hw => trN_expr fuel H enc W fuel cs x (Nat.le_refl _) h hw
end Go.Proofs.Tr

/- What the cell 'laid' gives: the table of the powers of ten. -/
namespace Go.Proofs.YtbdciibbgiphcaaDoor.V
open Go.RowKit
theorem g10Type : (Tryd.prog.globals[0]?).map (·.type) = some 138 := by kernel_rfl
theorem u138 : Tryd.prog.underlying 138 = some (.array 20 123) := by kernel_rfl
theorem laid10 {H : Type} : (Rows.laid_internal_strconv_uint64pow10 : DataW H) = Lib.tabData .u64 Lib.pow10Tab := by kernel_rfl
theorem varT_head {W : World} {r : List (String × DataW Unit)} (h : laidMet Tryd.prog (("internal/strconv.uint64pow10", Rows.laid_internal_strconv_uint64pow10) :: r) W) : VarT W := by
 rw [laid10] at h
 exact Lib.tabIs_of_head (e := 123) pow10_named g10Type u138 (by kernel_rfl) (by kernel_rfl) (by kernel_rfl) h
end Go.Proofs.YtbdciibbgiphcaaDoor.V
