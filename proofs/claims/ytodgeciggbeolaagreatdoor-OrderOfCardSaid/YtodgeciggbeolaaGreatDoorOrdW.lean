/- The walk of order.Of. -/
import Derived.Test.YtodgeciggbeolaaGreatDoorOrdI
import Derived.Test.YtodgeciggbeolaaGreatDoorOrdP
namespace Go.Proofs.YtodgeciggbeolaaGreatDoor
set_option maxRecDepth 100000
set_option linter.unusedVariables false
set_option linter.unusedSimpArgs false
set_option linter.unusedSectionVars false
open Go.RowKit Go.Proofs.YtodgeciggbeolaaGreatDoorW.PrintWords Go.Proofs.YtodgeciggbeolaaGreatDoorW.PrintLast Go.Proofs.YtodgeciggbeolaaGreatDoorW.PrintMore
open Go.Proofs.BinHeap Go.Proofs.MapF Go.Proofs.Ord

def OfPost (l : List (List Int)) (w : World) (e : Ending) (w' : World) : Prop :=
  ∃ v, e = .returned (.tuple #[v, .int .i64 (of l).2]) ∧ w'.ownsRow w.heap.size 3 1 v (of l).1.length (nums .i64 (of l).1) ∧ Below w.heap.size w w'

/-- what phase one has come to behind i lists. -/
def Ph1 (l : List (List Int)) (i : Nat) (hs : List Int) : Prop :=
  hs.length ≤ i ∧ hs.Nodup ∧ (∀ x : Int, x ∈ hs ↔ ∃ k : Nat, k < i ∧ x = k ∧ nb (at_ l k) = []) ∧ ∀ k : Nat, k < i → ∀ y ∈ at_ l k, 0 ≤ y ∧ y < l.length

theorem inv_start {B n : Nat} {w w1 : World} {l : List (List Int)} (hB : B = w.heap.size) (hn : n = l.length) (hown : w1.ownsRow 0 3 1 (.slice (some ⟨B + 1, 0, none⟩) n n) n (madeCells #[.int .i64 0] n).toList) (hgr : (w.alloc (.map #[] 0)).grownBy w1 none) :
    OfInv B (w1.heap.size + 1) n w ((w1.alloc (.cells #[] 3)).alloc (.cells #[.slice (some ⟨w1.heap.size, 0, none⟩) 0 0] 57)) (W l 0) (leftAt l 0) (.slice (some ⟨w1.heap.size, 0, none⟩) 0 0) [] [] := by
  have hlt : B + 1 < w1.heap.size := own_lt hown (B + 1) rfl
  have hF1 : Fr (fun _ => False) (w.alloc (.map #[] 0)) w1 := (Fr.refl _ _).grown hgr (fun k e => by cases e)
  have hF : Fr (fun _ => False) w1 ((w1.alloc (.cells #[] 3)).alloc (.cells #[.slice (some ⟨w1.heap.size, 0, none⟩) 0 0] 57)) := ((Fr.refl _ _).alloc _).alloc _
  have hF2 := hF1.trans hF (fun _ h => h.elim)
  have hm : MapE encI (w.alloc (.map #[] 0)) B (fun _ => none) := by rw [hB]; exact MapE.made w
  have hz : (madeCells #[.int .i64 0] n).toList = nums .i64 (leftAt l 0) := by
    rw [leftAt_zero, ← hn]
    apply List.ext_getElem?
    intro k
    by_cases hk : k < n
    · simp [madeCells, nums, hk, Nat.mod_one]
    · simp [madeCells, nums, hk]
  refine ⟨?_, by omega, ⟨fun _ => none, hm.move (hF2.block B hm.lt (fun h => h)), ?_, ?_, ?_⟩, ?_, ⟨?_, ?_, ?_⟩, isHeap_nil⟩
  · subst hB
    refine ⟨(hF2.os).trans rfl, hF2.tape.trans rfl, hF2.output.trans rfl, Nat.le_trans (by simp) hF2.size, fun j hj => ?_⟩
    exact (hF2.block j (by simp; omega) (fun h => h)).trans (Below.heap_alloc w _ j hj)
  · intro m _; simp [W]
  · intro m v h; cases h
  · intro m m' v v' _ h; cases h
  · rw [hz] at hown
    exact own_move hown (fun k hk => hF.block k (own_lt hown k hk) (fun h => h))
  · have := heap_alloc_new (w1.alloc (.cells #[] 3)) (.cells #[.slice (some ⟨w1.heap.size, 0, none⟩) 0 0] 57)
    simpa using this
  · refine ⟨by simp [nums], .inr ⟨w1.heap.size, 0, #[], rfl, by omega, ?_, by simp, by simp [maxLen], by simp, by simp [nums]⟩⟩
    rw [Below.heap_alloc _ _ _ (by simp)]
    exact heap_alloc_new w1 _
  · simp [Value.ownBlock]

theorem below_fr {b : Nat} {S : Nat → Prop} {w w1 w2 : World} (h : Below b w w1) (k : Fr S w1 w2) (hS : ∀ j, S j → b ≤ j) (hb : b ≤ w1.heap.size) : Below b w w2 :=
  ⟨k.os.trans h.os, k.tape.trans h.tape, k.output.trans h.output, Nat.le_trans h.size k.size, fun j hj => (k.block j (by omega) (fun hs => by have := hS j hs; omega)).trans (h.block j hj)⟩

section
variable {P : Program} {w : World} {b : Nat} {f : Int → Option Value} {T K E : TypeId} {d : TypeDesc} {z : Value}
theorem wpList_look1 {ops : Array Oper} {rest : List Oper} {o : Oper} {act : Act} {Q : Exit → Act → World → Prop} (hg : o.guard = none) (m x : Operand) (hop : o.op = Op.lookup T m x false)
    (hT : P.underlying T = some (.map K E)) (hK : P.underlying K = some (.int .i64)) (hz : (zeroValue E).run P w = .ok z w) (h : MapE encI w b f) (a : Int) (v : Value) (hv : (f a).getD z = v)
    (hm : act.eval m = .map (some b)) (hx : act.eval x = .int .i64 a)
    (hK2 : wpList P ops Q rest (act.put o.dst v) w) : wpList P ops Q (o :: rest) act w := by
  refine wpList_look hg m x false hop hT hK hz encI_inj encI_key h a hm hx ?_
  rw [hv]
  exact hK2
theorem wpList_upd1 {ops : Array Oper} {rest : List Oper} {o : Oper} {act : Act} {Q : Exit → Act → World → Prop} (hg : o.guard = none) (m x y : Operand) (hop : o.op = Op.mapUpdate T m x y)
    (hT : P.underlying T = some (.map K E)) (hK : P.underlying K = some (.int .i64)) (h : MapE encI w b f) (a : Int) (v : Value)
    (hm : act.eval m = .map (some b)) (hx : act.eval x = .int .i64 a) (hy : act.eval y = v)
    (hK2 : ∀ w', MapE encI w' b (fun k => if k = a then some v else f k) → w.grownBy w' (some b) → wpList P ops Q rest (act.put o.dst undef) w') :
    wpList P ops Q (o :: rest) act w := wpList_upd hg m x y hop hT hK encI_inj encI_key h a v hm hx hy hK2
end

theorem of_bad {l : List (List Int)} {k : Nat} (hk : k < l.length) {y : Int} (hy : y ∈ at_ l k) (h : y < 0 ∨ (l.length : Int) ≤ y) : of l = ([], 1) := by
  unfold of
  rw [if_pos ((bad_iff l).2 ⟨k, hk, y, hy, h⟩)]

theorem of_bad_post {l : List (List Int)} {w w' : World} {B : Nat} (hB : B = w.heap.size) (h : of l = ([], 1)) (hb : Below B w w') : OfPost l w (.returned (.tuple #[.slice none 0 0, .int .i64 1])) w' := by
  refine ⟨.slice none 0 0, by rw [h], by rw [h]; exact World.ownsRow_nil _ _ _ _, hB ▸ hb⟩

theorem of_good {l : List (List Int)} (hg : ∀ k : Nat, k < l.length → ∀ y ∈ at_ l k, 0 ≤ y ∧ y < l.length) : bad l = false := by
  cases h : bad l with
  | false => rfl
  | true =>
    obtain ⟨k, hk, y, hy, h1⟩ := (bad_iff l).1 h
    have := hg k hk y hy
    omega
theorem of_end {l : List (List Int)} {out : List Int} (hg : ∀ k : Nat, k < l.length → ∀ y ∈ at_ l k, 0 ≤ y ∧ y < l.length) (h : Ord.Told l out []) : of l = if out.length < l.length then ([], 8) else (out, 0) := by
  have h1 : run l l.length [] = out := by rw [← h.runs]; exact run_none l out (next_none l out h) _
  unfold of
  rw [of_good hg, h1]
  rfl
def slLen : Value → Nat
  | .slice _ n _ => n
  | _ => 0

theorem ph1_start (l : List (List Int)) : Ph1 l 0 [] := ⟨by simp, by simp, by simp, by simp⟩

set_option maxHeartbeats 2000000 in
set_option maxRecDepth 100000 in
theorem of_walk (A0 : Option Addr) (c0 : Nat) (l : List (List Int)) (w : World) (hr : Kd.C (Kd.slice 3 (Kd.int .i64)) w A0 l.length l) (hn : l.length ≤ 300) (hsz : ∀ k, (at_ l k).length ≤ 20000) :
    Calls Tryz.prog 6 #[.slice A0 l.length c0] w (OfPost l w) := by
  have hmm := @run_makeMap Tryz.prog
  obtain ⟨i3, hi3, hz30, hz31, hz32⟩ := info_parts info3
  obtain ⟨n, hln⟩ : ∃ n, n = l.length := ⟨_, rfl⟩
  have HLN := Lib.hid hln
  rw [← hln] at hn
  have HR := Lib.hid hr
  have HSZ := Lib.hid hsz
  rw [← hln]
  clear hr hsz hln
  obtain ⟨B, hB⟩ : ∃ B, B = w.heap.size := ⟨_, rfl⟩
  have HB := Lib.hid hB
  clear hB
  go_enter Tryz.func6, Tryz.ntmps6
  go_wp2_with (at_make; refine wpList_make_full _ rfl _ _ 25 rfl 0 3 i3 (.int .i64 0) 1 Tryz.underlying25 hi3 hz30 hz31 _ _ _ _ n rfl rfl rfl rfl ?b2 ?b3 (Nat.zero_le _) ?_)
  case b2 => rw [hz32]; omega
  case b3 => unfold maxLen; omega
  intro w1 hown hgr
  rw [← HB.out] at hown ⊢
  have INV := Lib.hid (inv_start HB.out HLN.out hown hgr)
  clear hown hgr hmm
  obtain ⟨r, hrr⟩ : ∃ r, r = w1.heap.size + 1 := ⟨_, rfl⟩
  go_wp2_with fail
  rw [← hrr] at INV ⊢
  clear hrr
  go_loopw [23] (fun iv wr => ∃ (i : Nat) (hv : Value) (hs : List Int), iv = .int .i64 i ∧ i ≤ n ∧ Hid (OfInv B r n w wr (W l i) (leftAt l i) hv hs []) ∧ Hid (Ph1 l i hs)) (fun iv _ => n - (intOf iv).toNat)
  case atStart => exact ⟨0, _, [], rfl, Nat.zero_le _, INV, ph1_start l⟩
  case round =>
    clear INV
    obtain ⟨i, hv, hs, rfl, hi, INV, PH⟩ := hrel
    by_cases hlt : i < n
    · have hC := Kd.C_below HR.out (HB.out ▸ INV.out.below)
      obtain ⟨ad, A1, c1, hA, hcell, hle, hC1⟩ := S.at_L1 hC i (by omega) (by rw [← HLN.out]; omega)
      subst hA
      have hA1 : S.rd_L1 l ↑i = at_ l i := by simp [S.rd_L1, at_]
      rw [hA1] at hcell hle hC1
      simp only [Int.toNat_natCast] at hcell
      clear hA1 hC
      obtain ⟨wo, rfl⟩ : ∃ wo : World, wo = wr := ⟨_, rfl⟩
      go_wp2_with fail
      refine (clone_any A1 c1 (at_ l i) wo hC1 (by have := HSZ.out i; omega)).mono ?_
      rintro e w2 ⟨v2, rfl, ho2, hb2⟩
      clear hcell
      have HC1 := Lib.hid hC1
      clear hC1 hle
      go_wp2_with fail
      refine (sort_any _ v2 (at_ l i) w2 ho2 (by have := HSZ.out i; omega)).mono ?_
      rintro e w3 ⟨rfl, ho3, hF3⟩
      go_wp2_with fail
      refine (compact_any wo.heap.size v2 ((at_ l i).mergeSort fun x y => decide (x ≤ y)) w3 (by rw [List.length_mergeSort]; exact ho3) (by rw [List.length_mergeSort]; have := HSZ.out i; omega)).mono ?_
      rintro e w4 ⟨v4, rfl, ho4, hb4, hF4⟩
      have hB4 : Below wo.heap.size wo w4 := below_fr (below_fr hb2 hF3 (fun j hj => own_base ho2 j hj) hb2.size) hF4 (fun j hj => own_base ho2 j hj) (Nat.le_trans hb2.size hF3.size)
      have hlen4 := (INV.out.new hB4).left
      have hcl := own_at hlen4 (i : Int) (by omega) (by omega)
      simp only [Int.toNat_natCast] at hcl
      obtain ⟨hcl1, hcl2⟩ := hcl
      obtain ⟨A4, c4, rfl⟩ := own_slice ho4
      obtain ⟨D, hD⟩ : ∃ D, D = nb (at_ l i) := ⟨_, rfl⟩
      have hD' : Lib.compact ((at_ l i).mergeSort fun x y => decide (x ≤ y)) = D := by rw [hD]; rfl
      rw [hD'] at ho4 ⊢
      have HD := Lib.hid hD
      obtain ⟨m, hm⟩ : ∃ m, m = D.length := ⟨_, rfl⟩
      rw [← hm] at ho4 ⊢
      have INV4 := Lib.hid ((INV.out.reav (av' := [(Value.slice A4 m c4).ownBlock]) (fun b hb => by
        rw [List.mem_singleton] at hb
        cases hbb : b with
        | none => exact .inr (.inl rfl)
        | some k => exact .inr (.inr ⟨k, rfl, own_base ho4 k (hb.symm.trans hbb)⟩))).new hB4)
      have hwo : B + 2 ≤ wo.heap.size := by have := INV.out.sz; have := blk_lt INV.out.heap.hdr; omega
      clear hD hD' ho2 ho3 hF3 hF4 hb2 hb4 INV hlen4 hB4
      have hm1 : m ≤ 20000 := by rw [hm, HD.out]; exact Nat.le_trans (nb_length_le _) (HSZ.out i)
      have HM := Lib.hid hm
      have HO4 := Lib.hid ho4
      clear hm ho4
      go_wp2_with fail
      have hlv : Hid (OfInv B r n w (w4.setCell ⟨B + 1, i, none⟩ (.int .i64 m)) (W1 l i 0) (leftAt l (i + 1)) hv hs [(Value.slice A4 m c4).ownBlock]) := by
        have h1 := INV4.out.store (i : Int) (m : Int)
        simp only [Int.toNat_natCast] at h1
        have e1 : (m : Int) = ((nb (at_ l i)).length : Int) := by rw [HM.out, HD.out]
        rw [e1, leftAt_succ l i (by rw [← HLN.out]; exact hlt), ← e1] at h1
        rw [W1_zero]
        exact h1
      have hro : Hid ((w4.setCell ⟨B + 1, i, none⟩ (.int .i64 m)).ownsRow wo.heap.size 3 1 (.slice A4 m c4) m (nums .i64 D)) := by
        refine own_setCell HO4.out (p := ⟨B + 1, i, none⟩) (fun e => ?_) _
        have h1 := own_base HO4.out _ e.symm
        simp only at h1
        omega
      clear hcl1 hcl2
      go_loopw [41] (fun jv wr => ∃ (j : Nat), jv = .int .i64 j ∧ j ≤ m ∧ Hid (OfInv B r n w wr (W1 l i j) (leftAt l (i + 1)) hv hs [(Value.slice A4 m c4).ownBlock]) ∧ Hid (wr.ownsRow wo.heap.size 3 1 (.slice A4 m c4) m (nums .i64 D)) ∧ Hid (∀ t : Nat, t < j → 0 ≤ D.getD t 0 ∧ D.getD t 0 < n)) (fun jv _ => m - (intOf jv).toNat)
      case atStart => exact ⟨0, rfl, Nat.zero_le _, hlv, hro, fun _ h => absurd h (by omega)⟩
      case round =>
        clear hlv hro
        obtain ⟨j, rfl, hj, INV5, RO, OK⟩ := hrel
        by_cases hjm : j < m
        · obtain ⟨g4, rfl⟩ : ∃ g, A4 = some ⟨g, 0, none⟩ := by
            rcases RO.out.2 with ⟨_, h1⟩ | ⟨g, cap, cur, h', _⟩
            · omega
            · injection h' with h1; exact ⟨g, h1⟩
          have hce := own_at RO.out (j : Int) (by omega) (by omega)
          simp only [Int.toNat_natCast, rd] at hce
          obtain ⟨hce1, _⟩ := hce
          obtain ⟨x, hx⟩ : ∃ x, x = D.getD j 0 := ⟨_, rfl⟩
          rw [← hx] at hce1
          have HX := Lib.hid hx
          have hxm : x ∈ at_ l i := by
            rw [← mem_nb, ← HD.out, hx]
            have : j < D.length := by rw [← HM.out]; exact hjm
            simp [List.getD_eq_getElem?_getD, List.getElem?_eq_getElem this]
          have hbadx : (x < 0 ∨ (n : Int) ≤ x) → of l = ([], 1) := fun h => of_bad (k := i) (by rw [← HLN.out]; exact hlt) hxm (by rw [← HLN.out]; exact h)
          have HBX := Lib.hid hbadx
          clear hx hxm hbadx
          by_cases hx0 : x < 0
          · go_wp2_with fail
            go_ret2
            exact of_bad_post HB.out (HBX.out (.inl hx0)) INV5.out.below
          · by_cases hx1 : (n : Int) ≤ x
            · go_wp2_with fail
              go_ret2
              exact of_bad_post HB.out (HBX.out (.inr hx1)) INV5.out.below
            · obtain ⟨f, hmap, hwa⟩ := INV5.out.map
              obtain ⟨v, hv0⟩ : ∃ v, (f x).getD (.slice none 0 0) = v := ⟨_, rfl⟩
              have ho : wr.ownsRow (B + 2) 3 1 v (W1 l i j x).length (nums .i64 (W1 l i j x)) := by
                cases hf : f x with
                | none => rw [hf] at hv0; rw [hwa.1 x hf, ← hv0]; exact World.ownsRow_nil _ _ _ _
                | some u => rw [hf] at hv0; rw [← hv0]; exact (hwa.2.1 x u hf).1
              have HV0 := Lib.hid hv0
              have HO := Lib.hid ho
              have HMP := Lib.hid hmap
              have HWA := Lib.hid hwa
              have hWl : (W1 l i j x).length ≤ 400 := by
                have := W_length_le l i x
                unfold W1
                rw [List.length_append]
                split <;> simp <;> omega
              have hvB : some B ≠ v.ownBlock := fun e => by have := own_base ho B e.symm; omega
              clear hv0 ho hmap hwa
              have hsz5 : B + 2 ≤ wr.heap.size := by have := INV5.out.sz; have := blk_lt INV5.out.heap.hdr; omega
              go_wp2_with (first | (at_lookup; refine wpList_look1 rfl _ _ rfl Tryz.underlying55 Tryz.underlying3 (zero25 _) HMP.out x v HV0.out rfl rfl ?_) | (at_builtin; refine print_append_num (w0 := wr) (W := wr) (B + 2) rfl _ _ 25 3 .i64 8 rfl Tryz.underlying25 info3 (by decide) v (W1 l i j x) i rfl rfl HO.out (Below.refl _ _) hsz5 (by omega) ?_; intro v1 w6 hown6 hB6 hg6 hat6; have hm6 := Lib.hid (HMP.out.move (hg6.block B HMP.out.lt hvB))) | (at_mapUpdate; refine wpList_upd1 rfl _ _ _ rfl Tryz.underlying55 Tryz.underlying3 hm6.out x v1 rfl rfl rfl ?_; intro w7 hm7 hg7))
              have hvg : v.ownBlock ≠ some g4 := by
                intro e
                cases hf : f x with
                | none => have := HV0.out; rw [hf] at this; rw [← this] at e; simp [Value.ownBlock] at e
                | some u =>
                  have := HV0.out
                  rw [hf] at this
                  rw [← this] at e
                  exact (HWA.out.2.1 x u hf).2.2 _ (List.mem_cons_of_mem _ List.mem_cons_self) e
              have hgl := own_lt RO.out g4 rfl
              have hjn : j < (nb (at_ l i)).length := by rw [← HD.out, ← HM.out]; exact hjm
              have hxe : x = (nb (at_ l i))[j] := by
                rw [HX.out, HD.out]
                simp [List.getD_eq_getElem?_getD, List.getElem?_eq_getElem hjn]
              have INV7 := INV5.out.waited (W' := W1 l i (j + 1)) HMP.out HWA.out HV0.out.symm hown6 hg6 hat6 (fun k hk => by simp [Value.ownBlock] at hk; omega) hm7 hg7 (W1_step l i j hjn x hxe)
              have hgB : g4 ≠ B := by have := own_base RO.out g4 rfl; omega
              have RO7 : w7.ownsRow wo.heap.size 3 1 (.slice (some ⟨g4, 0, none⟩) m c4) m (nums .i64 D) := own_move RO.out (fun k hk => by
                have : g4 = k := by simpa [Value.ownBlock] using hk
                subst this
                exact (hg7.block g4 (Nat.lt_of_lt_of_le hgl hg6.size) (by simpa using hgB)).trans (hg6.block g4 hgl (fun e => hvg e.symm)))
              refine ⟨⟨j + 1, by go_num, by omega, INV7, RO7, fun t ht => ?_⟩, by simp [intOf]; omega⟩
              by_cases e : t = j
              · subst e; rw [← HX.out]; omega
              · exact OK.out t (by omega)
        · obtain rfl : j = m := by omega
          have INV6 : OfInv B r n w wr (W l (i + 1)) (leftAt l (i + 1)) hv hs [] := by
            have h1 := INV5.out
            have e1 : j = (nb (at_ l i)).length := by rw [HM.out, HD.out]
            rw [e1, W1_all] at h1
            exact h1.reav (fun b hb => absurd hb (by simp))
          have hgood : ∀ k : Nat, k < i + 1 → ∀ y ∈ at_ l k, 0 ≤ y ∧ y < l.length := by
            intro k hk y hy
            by_cases e : k = i
            · subst e
              rw [← mem_nb, ← HD.out] at hy
              obtain ⟨t, ht, rfl⟩ := List.getElem_of_mem hy
              have := OK.out t (by rw [HM.out]; exact ht)
              rw [← HLN.out]
              simpa [List.getD_eq_getElem?_getD, List.getElem?_eq_getElem ht] using this
            · exact PH.out.2.2.2 k (by omega) y hy
          have HG := Lib.hid hgood
          have I6 := Lib.hid INV6
          clear hgood INV6 INV5 OK RO hjm
          by_cases hm0 : j = 0
          · subst hm0
            have hnb : nb (at_ l i) = [] := by
              have := HM.out
              rw [HD.out] at this
              exact List.eq_nil_of_length_eq_zero this.symm
            have HNB := Lib.hid hnb
            clear hnb
            have hph1 := PH.out.1
            have hsz6 : B + 2 ≤ wr.heap.size := by have := I6.out.sz; have := blk_lt I6.out.heap.hdr; omega
            go_wp2_with fail
            refine (push_any (B + 2) r hv hs i wr I6.out.heap hsz6 (by omega) I6.out.isheap).mono ?_
            rintro e w8 ⟨rfl, ys, hp, hh, v8, h8, hat8, hF8⟩
            have I8 := Lib.hid (I6.out.heaped h8 hat8 hF8 hh)
            have hph8 : Ph1 l (i + 1) ys := by
              obtain ⟨q1, q2, q3, q4⟩ := PH.out
              refine ⟨by rw [hp.length_eq]; simp; omega, hp.symm.nodup ?_, fun x => ?_, HG.out⟩
              · rw [List.nodup_append]
                refine ⟨q2, by simp, fun a ha b hb e => ?_⟩
                simp at hb; subst hb; subst e
                obtain ⟨k, h1, h2, _⟩ := (q3 _).1 ha
                omega
              · rw [hp.mem_iff, List.mem_append, q3, List.mem_singleton]
                constructor
                · rintro (⟨k, h1, rfl, h2⟩ | rfl)
                  · exact ⟨k, by omega, rfl, h2⟩
                  · exact ⟨i, by omega, rfl, HNB.out⟩
                · rintro ⟨k, h1, rfl, h2⟩
                  by_cases e : k = i
                  · exact .inr (by omega)
                  · exact .inl ⟨k, by omega, rfl, h2⟩
            have HP8 := Lib.hid hph8
            clear hph8 hp hh h8 hat8 hF8 I6
            go_wp2_with fail
            exact ⟨⟨i + 1, v8, ys, by go_num, by omega, I8, HP8⟩, by simp [intOf]; omega⟩
          · have hph8 : Ph1 l (i + 1) hs := by
              obtain ⟨q1, q2, q3, q4⟩ := PH.out
              refine ⟨by omega, q2, fun x => ?_, HG.out⟩
              rw [q3]
              constructor
              · rintro ⟨k, h1, rfl, h2⟩; exact ⟨k, by omega, rfl, h2⟩
              · rintro ⟨k, h1, rfl, h2⟩
                by_cases e : k = i
                · subst e
                  exfalso
                  apply hm0
                  rw [HM.out, HD.out, h2]; rfl
                · exact ⟨k, by omega, rfl, h2⟩
            have HP8 := Lib.hid hph8
            clear hph8
            go_wp2_with fail
            exact ⟨⟨i + 1, hv, hs, by go_num, by omega, I6, HP8⟩, by simp [intOf]; omega⟩
    · obtain rfl : i = n := by omega
      have hgood : ∀ k : Nat, k < l.length → ∀ y ∈ at_ l k, 0 ≤ y ∧ y < l.length := fun k hk => PH.out.2.2.2 k (by rw [HLN.out]; exact hk)
      have hT0 : Ord.Told l [] hs := told_start l hs PH.out.2.1 (by rw [← HLN.out]; exact PH.out.2.2.1)
      have INV0 : OfInv B r i w wr (W l i) (left2 l []) hv hs [(Value.slice none 0 0).ownBlock] := by
        have h1 := INV.out
        have e1 : leftAt l i = left2 l [] := by rw [HLN.out]; exact left2_nil l
        rw [e1] at h1
        exact h1.reav (fun b hb => .inr (.inl (by simpa [Value.ownBlock] using hb)))
      have HG := Lib.hid hgood
      have HT0 := Lib.hid hT0
      have HI0 := Lib.hid INV0
      clear hgood hT0 INV0 INV PH hlt
      obtain ⟨n, hni⟩ : ∃ n, n = i := ⟨_, rfl⟩
      subst hni
      go_wp2_with fail
      go_loopw [11] (fun ov wr => ∃ (A : Option Addr) (c : Nat) (hv : Value) (out hs : List Int), ov = .slice A out.length c ∧ out.length ≤ n ∧ Hid (OfInv B r n w wr (W l n) (left2 l out) hv hs [(Value.slice A out.length c).ownBlock]) ∧ Hid (wr.ownsRow (B + 2) 3 1 (.slice A out.length c) out.length (nums .i64 out)) ∧ Hid (∀ k, (Value.slice A out.length c).ownBlock = some k → hv.ownBlock ≠ some k) ∧ Hid (Ord.Told l out hs)) (fun ov _ => n - slLen ov)
      case atStart => exact ⟨none, 0, hv, [], hs, rfl, by simp, HI0, World.ownsRow_nil _ _ _ _, fun k h => by simp [Value.ownBlock] at h, HT0⟩
      case round =>
        clear HI0 HT0 hs hv
        obtain ⟨A, c, hv, out, hs, rfl, hol, INV, OW, DI, TO⟩ := hrel
        have hcell := INV.out.heap.cell
        have hhl : hs.length ≤ n := by
          refine nodup_length_le n hs TO.out.hnodup (fun x hx => ?_)
          obtain ⟨k, h1, h2, _⟩ := (TO.out.ready x).1 hx
          rw [HLN.out]; omega
        obtain ⟨wo, rfl⟩ : ∃ wo : World, wo = wr := ⟨_, rfl⟩
        by_cases hpos : 0 < hs.length
        · go_wp2_with fail
          refine (len_hp INV.out.heap).mono ?_
          rintro e w2 ⟨rfl, rfl⟩
          go_wp2_with fail
          refine (pop_any (B + 2) r hv hs wo INV.out.heap hpos (by omega) INV.out.isheap).mono ?_
          rintro e w2 ⟨m, ys, rfl, hpm, hmin, hhy, v2, h2, hat2, hF2⟩
          have hm0 := (TO.out.ready m).1 (hpm.mem_iff.1 List.mem_cons_self)
          obtain ⟨k, hk1, rfl, hk2⟩ := hm0
          have hk1' : k < n := by rw [HLN.out]; exact hk1
          have I2 := INV.out.heaped h2 hat2 hF2 hhy
          have hovr : ∀ j, (Value.slice A out.length c).ownBlock = some j → j ≠ r := fun j hj e => own_ne OW.out INV.out.heap.hdr (by decide) (by rw [hj, e])
          have OW2 : w2.ownsRow (B + 2) 3 1 (.slice A out.length c) out.length (nums .i64 out) := own_move OW.out (fun j hj => hF2.block j (own_lt OW.out j hj) (fun h => h.elim (fun e => hovr j hj e) (fun e => DI.out j hj e)))
          have DI2 : ∀ j, (Value.slice A out.length c).ownBlock = some j → v2.ownBlock ≠ some j := fun j hj e => by
            rcases hat2 with q | ⟨k, q, hk⟩
            · exact DI.out j hj (q.symm.trans e)
            · rw [q] at e; injection e with e; have := own_lt OW.out j hj; omega
          have hmid := mid_zero l out hs ys TO.out k hpm
          have hsz2 : B + 2 ≤ w2.heap.size := by have := I2.sz; have := blk_lt I2.heap.hdr; omega
          have hkn : (k : Int) ∉ out := ((rdy_iff l out k).1 hk2).1
          have hstep : ∀ zs, Mid l out k (W l l.length k).length zs → Ord.Told l (out ++ [(k : Int)]) zs := fun zs hz => told_step l out hs zs TO.out k (hpm.mem_iff.1 List.mem_cons_self) (fun y hy => hmin y hy) hz
          have hpushok : ∀ k' : Nat, (k : Int) = k' → ∀ y ∈ at_ l k', y ∈ out := fun k' e => by
            have : k = k' := by omega
            subst this
            exact ((rdy_iff l out k).1 hk2).2
          have hT := TO.out
          have HI2 := Lib.hid I2
          have HOW2 := Lib.hid OW2
          have HDI2 := Lib.hid DI2
          have HMID := Lib.hid hmid
          have HKN := Lib.hid hkn
          have HSTEP := Lib.hid hstep
          have HPO := Lib.hid hpushok
          have HT := Lib.hid hT
          clear I2 OW2 DI2 hmid hkn hstep hpushok hT hpm hmin hhy h2 hat2 hF2 hk2 INV OW DI TO hcell hovr hk1
          have hta : ∀ (v : Value) (W : World), (Instr.typeAssert (.iface 3 v) 20 3 false).run Tryz.prog W = .ok v W := oassert
          go_upto_region 25 with (at_builtin; refine print_append_num (w0 := w2) (W := w2) (B + 2) rfl _ _ 25 3 .i64 8 rfl Tryz.underlying25 info3 (by decide) (.slice A out.length c) out k rfl rfl HOW2.out (Below.refl _ _) hsz2 (by omega) ?_; intro v3 w3 hown3 hB3 hg3 hat3)
          obtain ⟨A3, c3, rfl⟩ := own_slice hown3
          have hlen3 : (out ++ [(k : Int)]).length = out.length + 1 := by simp
          have hF3 : Fr (fun j => (Value.slice A out.length c).ownBlock = some j) w2 w3 := (Fr.refl _ _).grown hg3 (fun j e => .inl e)
          have I3 : OfInv B r n w w3 (W l n) (left2 l out) v2 ys [(Value.slice A3 (out ++ [(k : Int)]).length c3).ownBlock] := by
            have h1 := HI2.out.reav (av' := [(Value.slice A out.length c).ownBlock, (Value.slice A3 (out ++ [(k : Int)]).length c3).ownBlock]) (fun b hb => by
              simp only [List.mem_cons, List.not_mem_nil, or_false] at hb
              rcases hb with rfl | rfl
              · exact .inl List.mem_cons_self
              · rcases hat3 with q | ⟨j, q, hj⟩
                · rw [q]; exact .inl List.mem_cons_self
                · exact .inr (.inr ⟨j, q, hj⟩))
            have h2 := h1.kept hF3 (fun j hj => ⟨own_base HOW2.out j hj, fun e => own_ne HOW2.out HI2.out.heap.hdr (by decide) (by rw [hj, e]), .inr ⟨by rw [hj]; exact List.mem_cons_self, HDI2.out j hj⟩⟩)
            exact h2.reav (fun b hb => .inl (List.mem_cons_of_mem _ hb))
          have D3 : ∀ j, (Value.slice A3 (out ++ [(k : Int)]).length c3).ownBlock = some j → v2.ownBlock ≠ some j := fun j hj e => by
            rcases hat3 with q | ⟨j', q, hj'⟩
            · exact HDI2.out j (q.symm.trans hj) e
            · rw [hj] at q; injection q with q; have := own_lt HI2.out.heap.row j e; omega
          obtain ⟨f, hmap, hwa⟩ := I3.map
          obtain ⟨v, hv0⟩ : ∃ v, (f k).getD (.slice none 0 0) = v := ⟨_, rfl⟩
          have ho : w3.ownsRow (B + 2) 3 1 v (W l n k).length (nums .i64 (W l n k)) := by
            cases hf : f k with
            | none => rw [hf] at hv0; rw [hwa.1 k hf, ← hv0]; exact World.ownsRow_nil _ _ _ _
            | some u => rw [hf] at hv0; rw [← hv0]; exact (hwa.2.1 k u hf).1
          have hwd : ∀ j, v.ownBlock = some j → v2.ownBlock ≠ some j := fun j hj e => by
            cases hf : f k with
            | none => rw [hf] at hv0; rw [← hv0] at hj; simp [Value.ownBlock] at hj
            | some u => rw [hf] at hv0; rw [← hv0] at hj; exact (hwa.2.1 k u hf).2.2 _ List.mem_cons_self (hj.trans e.symm)
          obtain ⟨Aw, cw, rfl⟩ := own_slice ho
          obtain ⟨q, hq⟩ : ∃ q, q = (W l n k).length := ⟨_, rfl⟩
          rw [← hq] at hv0 ho hwd
          have hqn : q ≤ n := by rw [hq]; exact W_length_le _ _ _
          have HV0 := Lib.hid hv0
          have HO := Lib.hid ho
          have HWD := Lib.hid hwd
          have HQ := Lib.hid hq
          have HMP := Lib.hid hmap
          have HI3 := Lib.hid I3
          have HD3 := Lib.hid D3
          have HOW3 := Lib.hid hown3
          rw [hlen3] at HI3 HD3 HOW3 ⊢
          clear hv0 ho hwd hq hmap hwa I3 D3 hown3 hF3 hB3 hg3 hat3 HI2 HDI2 HOW2 hta
          go_wp2_with (at_lookup; refine wpList_look1 rfl _ _ rfl Tryz.underlying55 Tryz.underlying3 (zero25 _) HMP.out k _ HV0.out rfl rfl ?_)
          go_loopw [88] (fun tv wr => ∃ (t : Nat) (hv : Value) (hs : List Int), tv = .int .i64 t ∧ t ≤ q ∧ Hid (OfInv B r n w wr (W l n) (left3 l out k t) hv hs [(Value.slice A3 (out.length + 1) c3).ownBlock]) ∧ Hid (wr.ownsRow (B + 2) 3 1 (.slice A3 (out.length + 1) c3) (out.length + 1) (nums .i64 (out ++ [(k : Int)]))) ∧ Hid (∀ j, (Value.slice A3 (out.length + 1) c3).ownBlock = some j → hv.ownBlock ≠ some j) ∧ Hid (wr.ownsRow (B + 2) 3 1 (.slice Aw q cw) q (nums .i64 (W l n k))) ∧ Hid (∀ j, (Value.slice Aw q cw).ownBlock = some j → hv.ownBlock ≠ some j) ∧ Hid (Mid l out k t hs)) (fun tv _ => q - (intOf tv).toNat)
          case atStart => exact ⟨0, v2, ys, rfl, Nat.zero_le _, by show OfInv _ _ _ _ _ _ _ _ _ _; rw [left3_zero]; exact HI3.out, HOW3, HD3, HO, HWD, HMID⟩
          case round =>
            clear HI3 HD3 HOW3 HO HWD HMID HV0 HMP
            obtain ⟨t, hv, zs, rfl, htq, INV, OW, DI, OV, DV, MI⟩ := hrel
            by_cases hlt : t < q
            · have htW : t < (W l l.length k).length := by have := HQ.out; rw [HLN.out] at this; omega
              obtain ⟨a, ha1, ha2, ha3, ha4, ha5⟩ := left3_get l out k t htW
              have hWn : W l n k = W l l.length k := by rw [HLN.out]
              obtain ⟨gw, rfl⟩ : ∃ g, Aw = some ⟨g, 0, none⟩ := by
                rcases OV.out.2 with ⟨_, h1⟩ | ⟨g, cap, cur, h', _⟩
                · omega
                · injection h' with h1; exact ⟨g, h1⟩
              have hce := (own_at OV.out (t : Int) (by omega) (by omega)).1
              simp only [Int.toNat_natCast, rd] at hce
              have hel : (W l n k).getD t 0 = (a : Int) := by
                rw [hWn, List.getD_eq_getElem?_getD, List.getElem?_eq_getElem htW, Option.getD_some, ha2]
              rw [hel] at hce
              have han : a < n := by rw [HLN.out]; exact ha1
              have hcl := own_at INV.out.left (a : Int) (by omega) (by omega)
              simp only [Int.toNat_natCast, rd] at hcl
              obtain ⟨hcl1, hcl2⟩ := hcl
              rw [ha4] at hcl1
              obtain ⟨hc1, hc2⟩ := cnt_one l out k a HKN.out ha3
              have hcle : cnt l out a ≤ 20000 := by
                have h1 : cnt l out a ≤ (nb (at_ l a)).length := List.length_filter_le _ _
                have h2 := nb_length_le (at_ l a)
                have h3 := HSZ.out a
                omega
              obtain ⟨cc, hcc⟩ : ∃ cc, cc = cnt l out a := ⟨_, rfl⟩
              rw [← hcc] at hc1 hc2 hcle hcl1 ha5
              have I4 := INV.out.store (a : Int) ((cc : Int) - 1)
              simp only [Int.toNat_natCast] at I4
              rw [ha5] at I4
              have hF4 : Fr (fun j => j = B + 1) wr (wr.setCell ⟨B + 1, a, none⟩ (.int .i64 ((cc : Int) - 1))) := (Fr.refl (fun j => j = B + 1) wr).set (p := ⟨B + 1, a, none⟩) (.inl rfl) _
              have OW4 := own_move OW.out (fun j hj => hF4.block j (own_lt OW.out j hj) (fun e => by have := own_base OW.out j hj; omega))
              have OV4 := own_move OV.out (fun j hj => hF4.block j (own_lt OV.out j hj) (fun e => by have := own_base OV.out j hj; omega))
              have HI4 := Lib.hid I4
              have HOW4 := Lib.hid OW4
              have HOV4 := Lib.hid OV4
              have HA2 := Lib.hid ha2
              have HC2 := Lib.hid hc2
              have hcl3 : (wr.setCell ⟨B + 1, a, none⟩ (.int .i64 ((cc : Int) - 1))).cell? ⟨B + 1, a, none⟩ = some (.int .i64 ((cc : Int) - 1)) := by
                refine World.cell?_setCell_same' _ _ _ ?_
                rw [hcl1]; rfl
              clear I4 OW4 OV4 ha2 ha4 ha5 hel hWn hcc hc2 hF4 INV OW OV
              by_cases hone : cc = 1
              · subst hone
                have hall := HC2.out.1 rfl
                have hzl : zs.length ≤ n := by
                  refine nodup_length_le n zs MI.out.1 (fun x hx => ?_)
                  obtain ⟨k', h1, h2, _⟩ := (MI.out.2 x).1 hx
                  rw [HLN.out]; omega
                have hsz4 : B + 2 ≤ (wr.setCell ⟨B + 1, a, none⟩ (.int .i64 (((1 : Nat) : Int) - 1))).heap.size := by have := HI4.out.sz; have := blk_lt HI4.out.heap.hdr; omega
                have hmp : ∀ ys', ys'.Perm (zs ++ [(a : Int)]) → Mid l out k (t + 1) ys' := fun ys' hp => mid_push l out hs HT.out k HKN.out HPO.out t zs ys' htW MI.out a ha1 HA2.out ha3 hall hp
                have HMP := Lib.hid hmp
                have e10 : (((1 : Nat) : Int) - 1) = 0 := rfl
                rw [e10] at HI4 HOW4 HOV4 hcl3 hsz4
                have hcl1' : wr.cell? ⟨B + 1, a, none⟩ = some (.int .i64 1) := hcl1
                clear hmp hall HC2 hcl1 hc1 hcle e10
                go_wp2_with fail
                refine (push_any (B + 2) r hv zs a _ HI4.out.heap hsz4 (by omega) HI4.out.isheap).mono ?_
                rintro e w8 ⟨rfl, ys8, hp8, hh8, v8, h8, hat8, hF8⟩
                have I8 := Lib.hid (HI4.out.heaped h8 hat8 hF8 hh8)
                have OW8 := Lib.hid (own_move HOW4.out (fun j hj => hF8.block j (own_lt HOW4.out j hj) (fun h => h.elim (fun e => own_ne HOW4.out HI4.out.heap.hdr (by decide) (by rw [hj, e])) (fun e => DI.out j hj e))))
                have OV8 := Lib.hid (own_move HOV4.out (fun j hj => hF8.block j (own_lt HOV4.out j hj) (fun h => h.elim (fun e => own_ne HOV4.out HI4.out.heap.hdr (by decide) (by rw [hj, e])) (fun e => DV.out j hj e))))
                have DI8 : Hid (∀ j, (Value.slice A3 (out.length + 1) c3).ownBlock = some j → v8.ownBlock ≠ some j) := fun j hj e => by
                  rcases hat8 with q | ⟨j', q, hj'⟩
                  · exact DI.out j hj (q.symm.trans e)
                  · rw [e] at q; injection q with q; have := own_lt HOW4.out j hj; omega
                have DV8 : Hid (∀ j, (Value.slice (some ⟨gw, 0, none⟩) q cw).ownBlock = some j → v8.ownBlock ≠ some j) := fun j hj e => by
                  rcases hat8 with q | ⟨j', q, hj'⟩
                  · exact DV.out j hj (q.symm.trans e)
                  · rw [e] at q; injection q with q; have := own_lt HOV4.out j hj; omega
                have HM8 := Lib.hid (HMP.out ys8 hp8)
                clear hp8 hh8 h8 hat8 hF8 hsz4 hcl3 hcl1' hcl2 hce HI4 HOW4 HOV4
                go_wp2_with fail
                exact ⟨⟨t + 1, v8, ys8, by go_num, by omega, I8, OW8, DI8, OV8, DV8, HM8⟩, by simp [intOf]; omega⟩
              · have hne : ((cc : Int) - 1 == 0) = false := by rw [beq_eq_false_iff_ne]; omega
                have hsk := mid_skip l out k t zs htW MI.out a HA2.out (fun h => hone (HC2.out.2 h))
                have HSK := Lib.hid hsk
                clear hsk HC2
                go_wp2_with fail
                exact ⟨⟨t + 1, hv, zs, by go_num, by omega, HI4, HOW4, DI, HOV4, DV, HSK⟩, by simp [intOf]; omega⟩
            · obtain rfl : t = q := by omega
              have hmid : Mid l out k (W l l.length k).length zs := by
                have h1 := MI.out
                rw [HQ.out, HLN.out] at h1
                exact h1
              have htold := HSTEP.out zs hmid
              have I5 := INV.out
              have hl3 : left3 l out k t = left2 l (out ++ [(k : Int)]) := by rw [HQ.out, HLN.out]; exact left3_all l out k HKN.out
              rw [hl3] at I5
              have hole : out.length + 1 ≤ n := by rw [HLN.out, ← hlen3]; exact htold.short
              have HTO := Lib.hid htold
              have HI5 := Lib.hid I5
              clear hmid htold I5 hl3 MI INV
              go_wp2_with fail
              have hlen3 : (out ++ [(k : Int)]).length = out.length + 1 := by simp
              refine ⟨⟨A3, c3, hv, out ++ [(k : Int)], zs, by rw [hlen3], by rw [hlen3]; exact hole, ?_, ?_, ?_, HTO⟩, by simp only [slLen]; omega⟩
              · rw [hlen3]; exact HI5
              · rw [hlen3]; exact OW
              · rw [hlen3]; exact DI
        · have hnil : hs = [] := List.eq_nil_of_length_eq_zero (by omega)
          have hend := of_end HG.out (hnil ▸ TO.out)
          rw [← HLN.out] at hend
          have HE := Lib.hid hend
          clear hend hnil
          go_wp2_with fail
          refine (len_hp INV.out.heap).mono ?_
          rintro e w2 ⟨rfl, rfl⟩
          by_cases hsh : out.length < n
          · have hend2 : of l = ([], 8) := by rw [HE.out, if_pos hsh]
            have HE2 := Lib.hid hend2
            clear hend2
            go_wp2_with fail
            go_ret2
            refine ⟨.slice none 0 0, by rw [HE2.out]; rfl, by rw [HE2.out]; exact World.ownsRow_nil _ _ _ _, HB.out ▸ INV.out.below⟩
          · have hend2 : of l = (out, 0) := by rw [HE.out, if_neg hsh]
            have HE2 := Lib.hid hend2
            clear hend2
            go_wp2_with fail
            go_ret2
            refine ⟨_, by rw [HE2.out]; rfl, by rw [HE2.out]; exact own_weaken OW.out (by rw [HB.out]; omega), HB.out ▸ INV.out.below⟩
end Go.Proofs.YtodgeciggbeolaaGreatDoor
