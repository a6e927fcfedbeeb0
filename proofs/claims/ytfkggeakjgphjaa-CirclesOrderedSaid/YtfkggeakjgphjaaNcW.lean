/- names.Check: walked. -/
import Derived.Test.YtfkggeakjgphjaaJB
import Derived.Test.YtfkggeakjgphjaaFnW
namespace Go.Proofs.Ytfkggeakjgphjaa.C
set_option linter.unusedVariables false
set_option linter.unusedSimpArgs false
set_option linter.unusedSectionVars false
open Go.RowKit Go.Shelf Go.Proofs.YtfkggeakjgphjaaW.PrintWords Go.Proofs.YtfkggeakjgphjaaW.PrintLast Go.Proofs.YtfkggeakjgphjaaW.PrintMore
open Go.Proofs.RngT
attribute [local go_sem] Oper.semAt_some

theorem asked_any (a b c d : Value) (w : World) :
    Calls Try.prog 23 #[.agg #[a, b, c, d]] w fun e w' => e = .returned (.func (.func 45) #[] #[.pointer (some ⟨w.heap.size, 0, none⟩)]) ∧ w' = w.alloc (.cells #[a, b, c, d] 26) := by
  have hmf : ∀ (fn : Fn) (first cap : Array Value) (w : World), (Instr.makeFunc fn first cap).run Try.prog w = .ok (.func fn first cap) w := fun _ _ _ _ => rfl
  go_enter Try.func23, Try.ntmps23
  go_wp2_with fail
  go_ret
  exact ⟨rfl, rfl⟩
theorem asked_seq (n : Nat) (hn : 1 ≤ n) (T : Nat → Prop) (B : Nat) (w0 w : World) (st : Int) (ins : List S84) (fls : List S51) (outs : List ByteArray) (A1 A2 A3 : Option Addr) (c1 c2 c3 : Nat)
    (hl2 : fls.length ≤ 140737488351232) (hl3 : outs.length ≤ 140737488351232) (hsm : ∀ x ∈ fls, Sm x.f4)
    (hC2 : Kd.C k51 w0 A2 fls.length fls) (hc2 : fls.length ≤ c2) (hC3 : Kd.C Kd.string w0 A3 outs.length outs) (hc3 : outs.length ≤ c3)
    (hw0 : Below w0.heap.size w0 w) (hnB : w0.heap.size ≤ B) (hBw : B < w.heap.size) (hTn : ∀ j, T j → w0.heap.size ≤ j ∧ j < w.heap.size) (hTB : ¬ T B)
    (hbox : w.heap[B]? = some (.cells #[.int .i64 st, .slice A1 ins.length c1, .slice A2 fls.length c2, .slice A3 outs.length c3] 26 (0, 0))) :
    SeqT Fence.wide n Try.prog 45 #[.pointer (some ⟨B, 0, none⟩)] (fun s : ByteArray => #[.string s]) T (fun xs => xs = asked fls outs) (fun pre => pre <+: asked fls outs) (fun pre x => pre ++ [x] <+: asked fls outs) w := by
  intro l J Jx W hl hlW hW hJ hJx hY h0
  have := hw0.size
  have h2 := hW.size
  exact asked1_in n hn T l B w0.heap.size w0 st ins fls outs A1 A2 A3 c1 c2 c3 hl2 hl3 hsm hC2 hc2 hC3 hc3 J Jx W (hw0.trans (hW.mono this)) hnB rfl (by omega) (fun j hj => ⟨(hTn j hj).1, by have := (hTn j hj).2; omega⟩) hTB (by omega) (by omega) hlW hJ hJx hY ((hW.block B hBw).trans hbox) h0

/-- what lies in memory: the program's box, the result's cell, the map's cell. -/
structure NcS (B M : Nat) (W : World) (pb : Obj) (r : Int) : Prop where
  pb : W.heap[B]? = some pb
  res : W.heap[B + 1]? = some (.cells #[.int .i64 r] 29 (0, 0))
  mc : W.heap[M + 1]? = some (.cells #[.map (some M)] 55 (0, 0))
  lt : B + 2 ≤ M
theorem NcS.stay {B M b0 : Nat} {W W' : World} {pb : Obj} {r : Int} (h : NcS B M W pb r) (hb : Below b0 W W') (hB : M + 2 ≤ b0) : NcS B M W' pb r :=
  have := h.lt
  ⟨(hb.block _ (by omega)).trans h.pb, (hb.block _ (by omega)).trans h.res, (hb.block _ (by omega)).trans h.mc, h.lt⟩
theorem NcS.grow {B M : Nat} {W W' : World} {pb : Obj} {r : Int} (h : NcS B M W pb r) (hg : W.grownBy W' (some M)) : NcS B M W' pb r :=
  have l1 := (Array.getElem?_eq_some_iff.1 h.mc).1
  have := h.lt
  ⟨(hg.block _ (by omega) (by simp; omega)).trans h.pb, (hg.block _ (by omega) (by simp; omega)).trans h.res, (hg.block _ l1 (by simp)).trans h.mc, h.lt⟩
theorem NcS.set {B M : Nat} {W : World} {pb : Obj} {r r' : Int} (h : NcS B M W pb r) : NcS B M (W.setCell ⟨B + 1, 0, none⟩ (.int .i64 r')) pb r' :=
  have := h.lt
  ⟨set_other h.pb (by omega) _, set_one h.res _, set_other h.mc (by omega) _, h.lt⟩
def NcI (B M : Nat) (w : World) (pb : Obj) (pre : List Th) (W : World) : Prop := NcS B M W pb 0 ∧ MapG.MapE encS okS W M (thM pre) ∧ (thN pre).Nodup ∧ Below B w W ∧ M + 2 < W.heap.size
def NcX (B M : Nat) (w : World) (pb : Obj) (c : Code) (pre : List Th) (W : World) : Prop := c = .ret ∧ NcS B M W pb 6 ∧ ¬ (thN pre).Nodup ∧ Below B w W
def NcI2 (B M : Nat) (w : World) (pb : Obj) (all : List Th) (D : Nat) (pre : List ByteArray) (W : World) : Prop := NcS B M W pb 0 ∧ MapG.MapE encS okS W M (thM all) ∧ (∀ s ∈ pre, s ∈ thN all) ∧ Below B w W ∧ W.heap[D]? = some (.deferred (some []))
def NcX2 (B M : Nat) (w : World) (pb : Obj) (all : List Th) (D : Nat) (c : Code) (pre : List ByteArray) (W : World) : Prop := c = .ret ∧ NcS B M W pb 6 ∧ (∃ s ∈ pre, s ∉ thN all) ∧ Below B w W ∧ W.heap[D]? = some (.deferred (some []))

theorem mapB_in {l : List ByteArray} {a : ByteArray} (h : a ∈ l) : mapOf (l.map fun s => (s, Value.bool true)) a = some (.bool true) := by
  have h1 : (mapOf (l.map fun s => (s, Value.bool true)) a).isSome = true := (mapOf_some _ a).2 (by rw [List.map_map]; simpa using h)
  have key : ∀ (l : List ByteArray) (f : ByteArray → Option Value), (∀ v, f a = some v → v = .bool true) → ∀ v, (l.map fun s => (s, Value.bool true)).foldl (fun f p => fun m => if m = p.1 then some p.2 else f m) f a = some v → v = .bool true := by
    intro l
    induction l with
    | nil => exact fun f h v hv => h v hv
    | cons x l ih =>
      intro f h v hv
      refine ih _ (fun v hv => ?_) v hv
      simp only [] at hv
      split at hv
      · exact (Option.some.inj hv).symm
      · exact h v hv
  cases hm : mapOf (l.map fun s => (s, Value.bool true)) a with
  | none => rw [hm] at h1; cases h1
  | some v => rw [key l (fun _ => none) (fun v h => by cases h) v hm]
theorem mapB_out {l : List ByteArray} {a : ByteArray} (h : a ∉ l) : mapOf (l.map fun s => (s, Value.bool true)) a = none := mapOf_none _ a (by rw [List.map_map]; simpa using h)
set_option maxHeartbeats 4000000 in
set_option maxRecDepth 100000 in
theorem ncheck_in (w : World) (st : Int) (ins : List S84) (fls : List S51) (outs : List ByteArray) (A1 A2 A3 : Option Addr) (c1 c2 c3 : Nat) (hw : WfP ins fls outs)
    (hC1 : Kd.C k84 w A1 ins.length ins) (hc1 : ins.length ≤ c1) (hC2 : Kd.C k51 w A2 fls.length fls) (hc2 : fls.length ≤ c2) (hC3 : Kd.C Kd.string w A3 outs.length outs) (hc3 : outs.length ≤ c3) :
    CallsIn Fence.wide 9 Try.prog 10 #[.agg #[.int .i64 st, .slice A1 ins.length c1, .slice A2 fls.length c2, .slice A3 outs.length c3]] w fun e w' => e = .returned (.int .i64 (nmCheck st ins fls outs)) ∧ Below w.heap.size w w' := by
  have hmm := @run_makeMap Try.prog
  obtain ⟨B, hB⟩ : ∃ B, B = w.heap.size := ⟨_, rfl⟩
  have HB := Lib.hid hB
  obtain ⟨ob, hob⟩ : ∃ ob : Obj, ob = .cells #[.int .i64 st, .slice A1 ins.length c1, .slice A2 fls.length c2, .slice A3 outs.length c3] 26 := ⟨_, rfl⟩
  have HOB := Lib.hid hob
  have h0 := al_get w [ob, .cells #[.int .i64 0] 29] 0 ob rfl
  have h1 := al_get w [ob, .cells #[.int .i64 0] 29] 1 _ rfl
  have hz1 := al_size w [ob, .cells #[.int .i64 0] 29]
  have hb1 := al_below w [ob, .cells #[.int .i64 0] 29]
  obtain ⟨W1, hW1⟩ : ∃ W1, W1 = al w [ob, .cells #[.int .i64 0] 29] := ⟨_, rfl⟩
  rw [← hW1] at h0 h1 hz1 hb1
  have HW1 : Hid (W1 = (w.alloc (.cells #[.int .i64 st, .slice A1 ins.length c1, .slice A2 fls.length c2, .slice A3 outs.length c3] 26)).alloc (.cells #[.int .i64 0] 29)) := Lib.hid (by rw [hW1, hob]; rfl)
  replace hz1 : W1.heap.size = w.heap.size + 2 := hz1
  have hpc := pcheck_any W1 st ins fls outs A1 A2 A3 c1 c2 c3 hw.li hw.lf hw.lo (Kd.C_below hC1 hb1) (Kd.C_below hC2 hb1) (Kd.C_below hC3 hb1)
  rw [← hB] at h0 h1 hz1 hb1
  rw [Nat.add_zero] at h0
  have HPC := Lib.hid hpc; have H0 := Lib.hid h0; have H1 := Lib.hid h1; have HZ1 := Lib.hid hz1; have HB1 := Lib.hid hb1; have HC1 := Lib.hid hC1; have HC2 := Lib.hid hC2; have HC3 := Lib.hid hC3; have HWF := Lib.hid hw
  clear hpc h0 h1 hz1 hb1 hC1 hC2 hC3 hw hB hob hW1
  refine callsIn_of_wp_marks Try.func10 rfl trivial ?_ rfl
  simp only [Try.ntmps10, List.size_toArray, List.length_cons, List.length_nil, Nat.reduceAdd, Nat.reduceSub, Array.replicate_succ, Array.replicate_zero, List.push_toArray, List.append_toArray, List.nil_append, List.cons_append]
  have hnc := fun (b : Bool) (w2 : World) (hb2 : Below W1.heap.size W1 w2) => (show w2.heap[B]? = some ob ∧ w2.heap[B + 1]? = some (.cells #[.int .i64 0] 29 (0, 0)) ∧ Below B w w2 ∧ B + 2 ≤ w2.heap.size from
    ⟨(hb2.block _ (by have := HZ1.out; omega)).trans H0.out, (hb2.block _ (by have := HZ1.out; omega)).trans H1.out, HB1.out.trans (hb2.mono (by have := HZ1.out; omega)), by have := hb2.size; have := HZ1.out; omega⟩)
  have HNC := Lib.hid hnc
  clear hnc
  gi_wp2_with fail
  refine ⟨trivial, ?_⟩
  rw [← HW1.out, ← HB.out]
  refine (callsIn_wide.2 HPC.out).mono ?_
  cases hok : prOk st ins fls outs with
  | false =>
    have HOK := Lib.hid hok
    clear hok
    rintro e w2 ⟨rfl, hb2⟩
    obtain ⟨g0, g1, g2, g3⟩ := HNC.out true w2 hb2
    obtain ⟨r0, r1⟩ := one_cell g1
    have HG1 := Lib.hid g1; have HG2 := Lib.hid g2
    clear g0 g1 g2 hb2
    gi_wp2
    have r2 := (one_cell (set_one HG1.out (.int .i64 1))).1
    refine ⟨.int .i64 1, by simp [results, Try.results10, go_sem, r2], by rw [nmCheck, if_pos HOK.out], ?_⟩
    rw [← HB.out]
    exact HG2.out.setCell (p := ⟨B + 1, 0, none⟩) (by simp) _
  | true =>
    have HOK := Lib.hid hok
    clear hok
    rintro e w2 ⟨rfl, hb2⟩
    obtain ⟨g0, g1, g2, g3⟩ := HNC.out true w2 hb2
    have HG0 := Lib.hid g0; have HG1 := Lib.hid g1; have HG2 := Lib.hid g2
    obtain ⟨M, hM⟩ : ∃ M, M = w2.heap.size := ⟨_, rfl⟩
    have HM := Lib.hid hM
    have hc := box4 (by rw [← HOB.out]; exact g0)
    -- the map and its cell
    obtain ⟨t0, t1, t2, t3⟩ := hc
    have hM3 : Hid (B + 2 ≤ M) := Lib.hid (by rw [hM]; exact g3)
    have glt : B < w2.heap.size := by omega
    clear g0 g1 g2 hb2 hM
    gi_wp2_with fail
    refine ⟨trivial, ?_⟩
    refine (callsIn_wide.2 (things_any _ _ _ _ _)).mono ?_
    rintro e w' ⟨rfl, rfl⟩
    have h30 := al_get w2 [.map #[] 0, .cells #[.map (some M)] 55, ob] 0 _ rfl
    have h31 := al_get w2 [.map #[] 0, .cells #[.map (some M)] 55, ob] 1 _ rfl
    have h32 := al_get w2 [.map #[] 0, .cells #[.map (some M)] 55, ob] 2 _ rfl
    have hz3 := al_size w2 [.map #[] 0, .cells #[.map (some M)] 55, ob]
    have hb3 := al_below w2 [.map #[] 0, .cells #[.map (some M)] 55, ob]
    have hm3 : MapG.MapE encS okS (al w2 [.map #[] 0, .cells #[.map (some M)] 55, ob]) w2.heap.size (thM []) := (MapG.MapE.made w2).move (h30.trans (al_get w2 [.map #[] 0] 0 _ rfl).symm)
    obtain ⟨W3, hW3⟩ : ∃ W3, W3 = al w2 [.map #[] 0, .cells #[.map (some M)] 55, ob] := ⟨_, rfl⟩
    rw [← hW3] at h30 h31 h32 hz3 hb3 hm3
    have HW3 : Hid (W3 = ((w2.alloc (.map #[] 0)).alloc (.cells #[.map (some w2.heap.size)] 55)).alloc (.cells #[.int .i64 st, .slice A1 ins.length c1, .slice A2 fls.length c2, .slice A3 outs.length c3] 26)) := Lib.hid (by rw [hW3, ← HOB.out, ← HM.out]; rfl)
    rw [← HM.out] at h30 h31 h32 hz3 hb3 hm3
    replace hz3 : W3.heap.size = M + 3 := hz3
    have hS3 : NcS B M W3 ob 0 := ⟨(hb3.block _ (by have := hM3.out; omega)).trans HG0.out, (hb3.block _ (by have := hM3.out; omega)).trans HG1.out, h31, hM3.out⟩
    have hB3 : Below B w W3 := HG2.out.trans (hb3.mono (by have := hM3.out; omega))
    have hseq := things_seq 8 (by omega) (fun j => j = M ∨ j = B + 1) (M + 2) w W3 st ins fls outs A1 A2 A3 c1 c2 c3 HWF.out.li HWF.out.lf HC1.out hc1 HC2.out hc2 (by rw [← HB.out]; exact hB3) (by rw [← HB.out]; have := hM3.out; omega) (by omega) (fun j hj => by rw [← HB.out]; have := hM3.out; omega) (by have := hM3.out; omega) (by rw [← HOB.out]; exact h32)
    have HSEQ := Lib.hid hseq; have HS3 := Lib.hid hS3; have HB3 := Lib.hid hB3; have HMP3 := Lib.hid hm3; have HZ3 := Lib.hid hz3
    clear h30 h31 h32 hz3 hb3 hm3 hW3 hS3 hB3 hseq t0 t1 t2 t3 hmm g3 glt
    rw [← HW3.out]
    gi_wp2_with fail
    rw [← HM.out]
    refine wpIn_rangeFunc_T rfl (by omega) (gf := 44) (lb := #[.pointer (some ⟨M + 2, 0, none⟩)]) rfl trivial (enters_of Try.func44 (by kernel_rfl) rfl) HSEQ.out
      (fun j hj => by have := HZ3.out; have := hM3.out; omega) (Below.refl _ _) (fun _ => rfl) (NcI B M w ob) (NcX B M w ob)
      (fun s A C h hb => ⟨h.1.stay hb (by have := HZ3.out; omega), h.2.1.move (hb.block _ (by have := HZ3.out; omega)), h.2.2.1, h.2.2.2.1.trans (hb.mono (by have := HZ3.out; have := hM3.out; omega)), by have := h.2.2.2.2; have := hb.size; omega⟩)
      (fun c s A C h hb => ⟨h.1, h.2.1.stay hb (by have := HZ3.out; omega), h.2.2.1, h.2.2.2.trans (hb.mono (by have := HZ3.out; have := hM3.out; omega))⟩)
      ⟨HS3.out, HMP3.out, List.nodup_nil, HB3.out, by have := HZ3.out; omega⟩
      (fun x a' W => ∃ Bx, M + 3 ≤ Bx ∧ W.heap[Bx]? = some (.cells #[.int .i64 x.2.1, .int .u8 x.2.2.1, .int .i64 x.2.2.2] 59 (0, 0)) ∧ a' = { tmps := #[.agg #[.int .i64 st, .slice A1 ins.length c1, .slice A2 fls.length c2, .slice A3 outs.length c3], .pointer (some ⟨B, 0, none⟩), .pointer (some ⟨B + 1, 0, none⟩), .pointer (some ⟨M + 1, 0, none⟩), .string x.1, .pointer (some ⟨Bx, 0, none⟩), undef, undef, undef, undef, undef, undef, undef, undef, .agg #[.int .i64 st, .slice A1 ins.length c1, .slice A2 fls.length c2, .slice A3 outs.length c3], .bool true, .bool false, .map (some M), .agg #[.int .i64 st, .slice A1 ins.length c1, .slice A2 fls.length c2, .slice A3 outs.length c3], .func (.func 44) #[] #[.pointer (some ⟨M + 1 + 1, 0, none⟩)], .string x.1, .agg #[.int .i64 x.2.1, .int .u8 x.2.2.1, .int .i64 x.2.2.2], undef, undef, undef, undef, undef, undef, undef, undef, undef, undef, undef, undef, undef, undef, undef, undef, undef, undef, undef, undef, undef, undef, undef, undef, undef, undef, undef, undef, undef, undef, undef, undef, undef, undef, undef], defers := [] })
      ?hax ?assign ?body ?done ?stop
    case hax =>
      rintro x a' W l o hl ⟨r, hr⟩ ⟨Bx, h1, h2, rfl⟩
      exact ⟨Bx, h1, (World.putObj_heap_other (fun e => by rw [e, hr] at h2; cases h2)).trans h2, rfl⟩
    case assign =>
      intro l pre x W K hi hK
      dsimp only [encTh]
      gi_wp2
      have hB6 := hi.2.2.2.2
      have h4 := hi.2.2.2.1.size
      have h5 := hi.1.lt
      refine hK _ _ ((Fr.refl _ _).alloc _) ⟨hi.1.stay (b0 := W.heap.size) ((Below.refl _ _).alloc (Nat.le_refl _) _) (by omega), hi.2.1.move (Below.heap_alloc _ _ _ hi.2.1.lt), hi.2.2.1, hi.2.2.2.1.alloc (by omega) _, by simp; omega⟩ ⟨W.heap.size, by omega, World.alloc_heap_new _ _, rfl⟩
    case body =>
      rintro l pre x a' W hl ⟨hs, hmp, hnd, hbl, hsz⟩ ⟨Bx, hBx, hx, rfl⟩ hG
      have hxok := HWF.out.things x (mem_pre hG)
      have HXOK := Lib.hid hxok
      have HS := Lib.hid hs; have HMP := Lib.hid hmp; have HND := Lib.hid hnd; have HBL := Lib.hid hbl; have HX := Lib.hid hx
      obtain ⟨n0, n1⟩ := one_cell hs.res
      obtain ⟨m0, m1⟩ := one_cell hs.mc
      obtain ⟨u0, u1, u2⟩ := three_cell hx
      have hBxl : Bx < W.heap.size := (Array.getElem?_eq_some_iff.1 hx).1
      have hlt := hs.lt
      have hB1l : B + 1 < W.heap.size := by omega
      have hM1l : M + 1 < W.heap.size := by omega
      clear hs hmp hnd hbl hx hG hxok
      by_cases hin : x.1 ∈ thN pre
      · obtain ⟨y, hy⟩ := thM_th pre x.1 hin
        have HY := Lib.hid hy; have HIN := Lib.hid hin
        clear hy hin
        gi_wp2_with (gi_at_lookup; refine MapG.wpListIn_look_yes rfl _ _ rfl Try.underlying55 keyedS (zero59 _) encS_inj keyS HMP.out x.1 HXOK.out (thV y) HY.out rfl rfl ?_; unfold thV)
        have hf8 : Fr (fun j => j = M ∨ j = B + 1) W ((W.setCell ⟨B + 1, 0, none⟩ (.int .i64 6)).alloc (.cells #[.int .i64 y.2.1, .int .u8 y.2.2.1, .int .i64 y.2.2.2] 59)) := ((Fr.refl _ W).set (p := ⟨B + 1, 0, none⟩) (.inl (.inr rfl)) _).alloc _
        refine ⟨hf8, rfl, HS.out.set.stay (b0 := W.heap.size) ((Below.refl _ _).alloc (by simp [World.setCell]) _) (by omega), fun hn => ?_, below_fr HBL.out hf8 (fun j hj => by omega) (by omega)⟩
        unfold thN at hn HIN
        rw [List.map_append, List.nodup_append] at hn
        exact hn.2.2 x.1 HIN.out x.1 (by simp) rfl
      · have hno := thM_no hin
        have HNO := Lib.hid hno; have HIN := Lib.hid hin
        clear hno hin
        gi_wp2_with (first | (gi_at_lookup; refine MapG.wpListIn_look_no rfl _ _ rfl Try.underlying55 keyedS (zero59 _) encS_inj keyS HMP.out x.1 HXOK.out HNO.out rfl rfl ?_; have HM2 := Lib.hid (HMP.out.move (Below.heap_alloc W (.cells #[.int .i64 0, .int .u8 0, .int .i64 0] 59) _ HMP.out.lt))) | (gi_at_mapUpdate; refine MapG.wpListIn_upd rfl _ _ _ rfl Try.underlying55 keyedS encS_inj keyS HM2.out x.1 HXOK.out (thV x) rfl rfl rfl ?_; intro w7 hm7 hg7))
        have hf8 : Fr (fun j => j = M ∨ j = B + 1) W w7 := ((Fr.refl _ W).alloc _).grown hg7 (fun k e => .inl (.inl (by injection e with e; exact e.symm)))
        have hz7 := hf8.size
        have hb8 : Below W.heap.size W (W.alloc (.cells #[.int .i64 0, .int .u8 0, .int .i64 0] 59)) := (Below.refl _ _).alloc (Nat.le_refl _) _
        refine ⟨hf8, (HS.out.stay hb8 (by omega)).grow hg7, ?_, ?_, below_fr HBL.out hf8 (fun j hj => by omega) (by omega), by omega⟩
        · rw [thM_snoc]; exact hm7
        · unfold thN
          rw [List.map_append, List.nodup_append]
          refine ⟨HND.out, by simp, fun a ha b hb e => ?_⟩
          simp only [List.map_cons, List.map_nil, List.mem_singleton] at hb
          subst hb; subst e
          exact HIN.out ha
    case stop =>
      rintro D c pre W hD hS hX hK
      obtain ⟨rfl, e1, e2, e3⟩ := hX
      have HS := Lib.hid hS; have HE1 := Lib.hid e1; have HE2 := Lib.hid e2; have HE3 := Lib.hid e3; have HK := Lib.hid hK
      clear hS e1 e2 e3 hK
      gi_wp2
      have hz := HZ3.out
      have hM := hM3.out
      have hst : ¬ (names ins fls).Nodup := fun hn => HE2.out (by
        obtain ⟨r, hr⟩ := HS.out
        unfold names thN at hn
        rw [← hr, List.map_append] at hn
        exact (List.nodup_append.1 hn).1)
      have r2 := (one_cell ((World.putObj_heap_other (o := .deferred none) (show B + 1 ≠ D by omega)).trans HE1.out.res)).1
      refine ⟨by simp, .inl ⟨_, _, rfl, run_takeDeferred HK.out, .int .i64 6, by simp [results, Try.results10, go_sem, r2], ?_, ?_⟩⟩
      · rw [nmCheck, if_neg (by rw [HOK.out]; simp), if_pos hst]
      · rw [← HB.out]; exact HE3.out.trans (below_put _ (by omega))
    case done =>
      rintro D xs W hD rfl ⟨hs, hmp, hnd, hbl, hsz⟩ hK
      have HS := Lib.hid hs; have HMP := Lib.hid hmp; have HND := Lib.hid hnd; have HBL := Lib.hid hbl; have HK := Lib.hid hK
      have hpb := hs.pb
      rw [HOB.out] at hpb
      obtain ⟨t0, t1, t2, t3⟩ := box4 hpb
      have hBl : B < W.heap.size := (Array.getElem?_eq_some_iff.1 hpb).1
      clear hs hmp hnd hbl hK hpb
      gi_wp2_with fail
      refine ⟨trivial, ?_⟩
      refine (callsIn_wide.2 (asked_any _ _ _ _ _)).mono ?_
      rintro e w' ⟨rfl, rfl⟩
      have h50 := World.alloc_heap_new W ob
      have hb5 : Below W.heap.size W (W.alloc ob) := (Below.refl _ _).alloc (Nat.le_refl _) _
      obtain ⟨W5, hW5⟩ : ∃ W5, W5 = W.alloc ob := ⟨_, rfl⟩
      have hz5 : W5.heap.size = W.heap.size + 1 := by rw [hW5]; simp
      rw [← hW5] at h50 hb5
      rw [show W.alloc (.cells #[.int .i64 st, .slice A1 ins.length c1, .slice A2 fls.length c2, .slice A3 outs.length c3] 26) = W5 by rw [hW5, HOB.out]]
      clear hW5 t0 t1 t2 t3
      have hz := HZ3.out
      have hM := hM3.out
      obtain ⟨E, hE⟩ : ∃ E, E = W.heap.size := ⟨_, rfl⟩
      rw [← hE] at h50 hb5 hz5 ⊢
      have hDE : D < E := by rw [hE]; exact (Array.getElem?_eq_some_iff.1 HK.out).1
      have hME : M + 2 < E := by omega
      have hI5 : NcI2 B M w ob (things ins fls) D [] W5 := ⟨HS.out.stay hb5 (by omega), HMP.out.move (hb5.block _ (by omega)), by simp, HBL.out.trans (hb5.mono (by omega)), (hb5.block _ hDE).trans HK.out⟩
      have hseq := asked_seq 8 (by omega) (fun j => j = B + 1) E w W5 st ins fls outs A1 A2 A3 c1 c2 c3 HWF.out.lf HWF.out.lo (prOk_sm HOK.out HWF.out) HC2.out hc2 HC3.out hc3 (by rw [← HB.out]; exact hI5.2.2.2.1) (by rw [← HB.out]; omega) (by omega) (fun j hj => by rw [← HB.out]; omega) (by omega) (by rw [← HOB.out]; exact h50)
      have HSEQ2 := Lib.hid hseq; have HI5 := Lib.hid hI5; have HZ5 := Lib.hid hz5; have HDE := Lib.hid hDE; have HDM : Hid (M + 3 ≤ D) := Lib.hid (by omega)
      clear hseq hI5 hz5 h50 hb5 hE hsz HSEQ
      gi_wp2_with fail
      refine wpIn_rangeFunc_T rfl (by omega) (gf := 45) (lb := #[.pointer (some ⟨E, 0, none⟩)]) rfl trivial (enters_of Try.func45 (by kernel_rfl) rfl) HSEQ2.out
        (fun j hj => by have := HZ5.out; omega) (Below.refl _ _) (fun _ => rfl) (NcI2 B M w ob (things ins fls) D) (NcX2 B M w ob (things ins fls) D)
        (fun s A C h hb => ⟨h.1.stay hb (by have := HZ5.out; omega), h.2.1.move (hb.block _ (by have := HZ5.out; omega)), h.2.2.1, h.2.2.2.1.trans (hb.mono (by have := HZ5.out; omega)), (hb.block _ (by have := HZ5.out; have := HDE.out; omega)).trans h.2.2.2.2⟩)
        (fun c s A C h hb => ⟨h.1, h.2.1.stay hb (by have := HZ5.out; omega), h.2.2.1, h.2.2.2.1.trans (hb.mono (by have := HZ5.out; omega)), (hb.block _ (by have := HZ5.out; have := HDE.out; omega)).trans h.2.2.2.2⟩)
        HI5.out
        (fun x a' W => a' = { tmps := #[.agg #[.int .i64 st, .slice A1 ins.length c1, .slice A2 fls.length c2, .slice A3 outs.length c3], .pointer (some ⟨B, 0, none⟩), .pointer (some ⟨B + 1, 0, none⟩), .pointer (some ⟨M + 1, 0, none⟩), undef, undef, undef, undef, .string x, undef, undef, undef, undef, undef, .agg #[.int .i64 st, .slice A1 ins.length c1, .slice A2 fls.length c2, .slice A3 outs.length c3], .bool true, .bool false, .map (some M), .agg #[.int .i64 st, .slice A1 ins.length c1, .slice A2 fls.length c2, .slice A3 outs.length c3], .func (.func 44) #[] #[.pointer (some ⟨M + 1 + 1, 0, none⟩)], undef, undef, undef, undef, undef, undef, undef, undef, undef, undef, undef, undef, .agg #[.int .i64 st, .slice A1 ins.length c1, .slice A2 fls.length c2, .slice A3 outs.length c3], .func (.func 45) #[] #[.pointer (some ⟨E, 0, none⟩)], .string x, undef, undef, undef, undef, undef, undef, undef, undef, undef, undef, undef, undef, undef, undef, undef, undef, undef, undef, undef, undef, undef, undef], defers := [] })
        ?hax2 ?assign2 ?body2 ?done2 ?stop2
      case hax2 => exact fun x a' W l o _ _ h => h
      case assign2 =>
        intro l pre x W K hi hK
        gi_wp2
        exact hK _ _ (Fr.refl _ _) hi rfl
      case body2 =>
        rintro l pre x a' W hl ⟨hs, hmp, hnd, hbl, hdd⟩ rfl hG
        have hxok := HWF.out.asked x (mem_pre hG)
        have HXOK := Lib.hid hxok
        have HS := Lib.hid hs; have HMP := Lib.hid hmp; have HND := Lib.hid hnd; have HBL := Lib.hid hbl; have HDD := Lib.hid hdd
        obtain ⟨n0, n1⟩ := one_cell hs.res
        obtain ⟨m0, m1⟩ := one_cell hs.mc
        have hMl : M + 1 < W.heap.size := (Array.getElem?_eq_some_iff.1 hs.mc).1
        have hDl : D < W.heap.size := (Array.getElem?_eq_some_iff.1 hdd).1
        have hB1l : B + 1 < W.heap.size := by omega
        clear hs hmp hnd hbl hG hxok hdd
        by_cases hin : x ∈ thN (things ins fls)
        · obtain ⟨y, hy⟩ := thM_th (things ins fls) x hin
          have HY := Lib.hid hy; have HIN := Lib.hid hin
          clear hy hin
          gi_wp2_with (gi_at_lookup; refine MapG.wpListIn_look_yes rfl _ _ rfl Try.underlying55 keyedS (zero59 _) encS_inj keyS HMP.out x HXOK.out (thV y) HY.out rfl rfl ?_; unfold thV)
          have hb8 : Below W.heap.size W (W.alloc (.cells #[.int .i64 y.2.1, .int .u8 y.2.2.1, .int .i64 y.2.2.2] 59)) := (Below.refl _ _).alloc (Nat.le_refl _) _
          refine ⟨Fr.of_below hb8, HS.out.stay hb8 (by omega), HMP.out.move (hb8.block _ (by omega)), fun s hs => ?_, HBL.out.trans (hb8.mono (by omega)), (hb8.block _ hDl).trans HDD.out⟩
          rcases List.mem_append.1 hs with h | h
          · exact HND.out s h
          · rw [List.mem_singleton] at h; rw [h]; exact HIN.out
        · have hno := thM_no hin
          have HNO := Lib.hid hno; have HIN := Lib.hid hin
          clear hno hin
          gi_wp2_with (gi_at_lookup; refine MapG.wpListIn_look_no rfl _ _ rfl Try.underlying55 keyedS (zero59 _) encS_inj keyS HMP.out x HXOK.out HNO.out rfl rfl ?_)
          have hf8 : Fr (fun j => j = B + 1) W ((W.setCell ⟨B + 1, 0, none⟩ (.int .i64 6)).alloc (.cells #[.int .i64 0, .int .u8 0, .int .i64 0] 59)) := ((Fr.refl (fun j => j = B + 1) W).set (p := ⟨B + 1, 0, none⟩) (.inl rfl) _).alloc _
          refine ⟨hf8, rfl, HS.out.set.stay (b0 := W.heap.size) ((Below.refl _ _).alloc (by simp [World.setCell]) _) (by omega), ⟨x, by simp, HIN.out⟩, below_fr HBL.out hf8 (fun j hj => by omega) (by omega), (hf8.block _ hDl (by have := HDM.out; omega)).trans HDD.out⟩
      case stop2 =>
        rintro D2 c pre W hD2 hS hX hK2
        obtain ⟨rfl, e1, ⟨s, e2, e3⟩, e4, e5⟩ := hX
        have HS := Lib.hid hS; have HE1 := Lib.hid e1; have HE2 := Lib.hid e2; have HE3 := Lib.hid e3; have HE4 := Lib.hid e4; have HE5 := Lib.hid e5; have HK2 := Lib.hid hK2
        clear hS e1 e2 e3 e4 e5 hK2
        gi_wp2
        have hz := HZ5.out
        have hM := hM3.out
        have hd1 := HDE.out
        have hd2 := HDM.out
        have r2 := (one_cell ((World.putObj_heap_other (o := .deferred none) (show B + 1 ≠ D by omega)).trans ((World.putObj_heap_other (o := .deferred none) (show B + 1 ≠ D2 by omega)).trans HE1.out.res))).1
        refine ⟨by simp, .inl ⟨_, _, rfl, run_takeDeferred HK2.out, by simp, .inl ⟨_, _, rfl, run_takeDeferred ((World.putObj_heap_other (by omega)).trans HE5.out), .int .i64 6, by simp [results, Try.results10, go_sem, r2], ?_, ?_⟩⟩⟩
        · rw [nmCheck, if_neg (by rw [HOK.out]; simp), if_neg (show ¬ ¬ (names ins fls).Nodup from Classical.not_not.2 HND.out), if_pos ?_]
          rw [List.all_eq_false]
          exact ⟨s, HS.out.subset HE2.out, fun h => HE3.out ((isIn_iff _ _).1 h)⟩
        · rw [← HB.out]; exact (HE4.out.trans (below_put _ (by omega))).trans (below_put _ (by omega))
      case done2 =>
        rintro D2 xs W hD2 rfl ⟨hs, hmp, hall, hbl, hdd⟩ hK2
        have hmm := @run_makeMap Try.prog
        have HALL : Hid (((asked fls outs).all (isIn (names ins fls))) = true) := Lib.hid (by
          rw [List.all_eq_true]
          intro s hs
          exact (isIn_iff _ _).2 (hall s hs))
        have HS := Lib.hid hs; have HBL := Lib.hid hbl; have HK2 := Lib.hid hK2; have HDD := Lib.hid hdd
        have hpb := hs.pb
        rw [HOB.out] at hpb
        obtain ⟨t0, t1, t2, t3⟩ := box4 hpb
        have hBl : B < W.heap.size := (Array.getElem?_eq_some_iff.1 hpb).1
        have hMl : M + 1 < W.heap.size := (Array.getElem?_eq_some_iff.1 hs.mc).1
        have hD2l : D2 < W.heap.size := (Array.getElem?_eq_some_iff.1 hK2).1
        have hDl : D < W.heap.size := (Array.getElem?_eq_some_iff.1 hdd).1
        have hlt := hs.lt
        have hl3 := HWF.out.lo
        obtain ⟨N3, hN3⟩ : ∃ N, N = outs.length := ⟨_, rfl⟩
        have HN3 := Lib.hid hN3
        rw [← hN3] at t3 hl3 hc3
        clear hs hmp hall hbl hdd hK2 hpb hN3
        gi_wp2_with fail
        have hm6 : MapG.MapE encS okS (W.alloc (.map #[] 0)) W.heap.size (fun _ => none) := MapG.MapE.made W
        have hb6 : Below W.heap.size W (W.alloc (.map #[] 0)) := (Below.refl _ _).alloc (Nat.le_refl _) _
        obtain ⟨M2, hM2⟩ : ∃ M2, M2 = W.heap.size := ⟨_, rfl⟩
        rw [← hM2] at hm6 hb6 ⊢
        have HS6 := Lib.hid (HS.out.stay hb6 (by omega))
        have HBL6 := Lib.hid (HBL.out.trans (hb6.mono (by omega)))
        have HK6 := Lib.hid ((hb6.block D2 (by omega)).trans HK2.out)
        have HD6 := Lib.hid ((hb6.block D (by omega)).trans HDD.out)
        have HM6 := Lib.hid hm6
        have HMM : Hid (M + 1 < M2 ∧ D2 < M2 ∧ D < M2) := Lib.hid (by omega)
        clear hm6 hb6 hM2 hBl hMl hD2l hDl
        gi_loopw [47] (fun i wr => ∃ j : Nat, j ≤ N3 ∧ i = .int .i64 j ∧ Hid (NcS B M wr ob 0) ∧ Hid (Below B w wr) ∧ Hid (wr.heap[D2]? = some (.deferred (some []))) ∧ Hid (wr.heap[D]? = some (.deferred (some []))) ∧ Hid (MapG.MapE encS okS wr M2 (mapOf ((outs.take j).map fun s => (s, Value.bool true)))) ∧ Hid ((outs.take j).Nodup)) (fun i _ => N3 - (intOf i).toNat)
        case atStart => exact ⟨0, Nat.zero_le _, rfl, HS6, HBL6, HK6, HD6, HM6, List.nodup_nil⟩
        case round =>
          clear HS6 HBL6 HK6 HD6 HM6 HS HBL HK2 HDD t0 t1 t2 t3 hmm
          obtain ⟨j, hj, rfl, HS, HBL, HK2, HDD, HMP, HNO⟩ := hrel
          obtain ⟨n0, n1⟩ := one_cell HS.out.res
          have hwl : M2 < wr.heap.size := HMP.out.lt
          by_cases hjn : j < N3
          · have hjx : j < outs.length := by rw [← HN3.out]; exact hjn
            obtain ⟨ad, hA, p0⟩ := at_S (Kd.C_below HC3.out (by rw [← HB.out]; exact HBL.out)) j (by omega) hjx
            subst hA
            have hxok := HWF.out.no outs[j] (List.getElem_mem hjx)
            have HXOK : Hid (okS outs[j]) := Lib.hid (by unfold okS maxLen; omega)
            have HTK := Lib.hid (take_succ' outs j hjx)
            have HPR : Hid (outs.take (j + 1) <+: outs) := Lib.hid (List.take_prefix _ _)
            generalize outs[j] = y at *
            clear hxok
            by_cases hin : y ∈ outs.take j
            · have hv : ((mapOf ((outs.take j).map fun s => (s, Value.bool true))) y).getD (.bool false) = .bool true := by rw [mapB_in hin]; rfl
              have HV := Lib.hid hv; have HIN := Lib.hid hin
              clear hv hin
              gi_wp2_with (gi_at_lookup; refine MapG.wpListIn_look1 rfl _ _ rfl Try.underlying63 keyedS (zero4' _) encS_inj keyS HMP.out y HXOK.out (.bool true) HV.out rfl rfl ?_)
              have hz := HZ5.out
              have hM := hM3.out
              have hd1 := HDE.out
              have hd2 := HDM.out
              have hmm2 := HMM.out
              have hset := HS.out.set (r' := 6)
              have r2 := (one_cell ((World.putObj_heap_other (o := .deferred none) (show B + 1 ≠ D by omega)).trans ((World.putObj_heap_other (o := .deferred none) (show B + 1 ≠ D2 by omega)).trans hset.res))).1
              refine ⟨by simp, .inl ⟨_, _, rfl, run_takeDeferred (set_other HK2.out (by omega) _), by simp, .inl ⟨_, _, rfl, run_takeDeferred ((World.putObj_heap_other (by omega)).trans (set_other HDD.out (by omega) _)), .int .i64 6, by simp [results, Try.results10, go_sem, r2], ?_, ?_⟩⟩⟩
              · rw [nmCheck, if_neg (by rw [HOK.out]; simp), if_neg (show ¬ ¬ (names ins fls).Nodup from Classical.not_not.2 HND.out), if_neg (by rw [HALL.out]; simp), if_pos ?_]
                intro hn
                have := hn.sublist (HPR.out.sublist)
                rw [HTK.out, List.nodup_append] at this
                exact this.2.2 y HIN.out y (by simp) rfl
              · rw [← HB.out]
                exact ((HBL.out.setCell (p := ⟨B + 1, 0, none⟩) (by simp) _).trans (below_put _ (by omega))).trans (below_put _ (by omega))
            · have hv : ((mapOf ((outs.take j).map fun s => (s, Value.bool true))) y).getD (.bool false) = .bool false := by rw [mapB_out hin]; rfl
              have HV := Lib.hid hv; have HIN := Lib.hid hin
              clear hv hin
              gi_wp2_with (first | (gi_at_lookup; refine MapG.wpListIn_look1 rfl _ _ rfl Try.underlying63 keyedS (zero4' _) encS_inj keyS HMP.out y HXOK.out (.bool false) HV.out rfl rfl ?_) | (gi_at_mapUpdate; refine MapG.wpListIn_upd rfl _ _ _ rfl Try.underlying63 keyedS encS_inj keyS HMP.out y HXOK.out (.bool true) rfl rfl rfl ?_; intro w7 hm7 hg7; have HM7 := Lib.hid hm7; have HG7 := Lib.hid hg7; clear hm7 hg7))
              have hmm2 := HMM.out
              have hmc := (Array.getElem?_eq_some_iff.1 HS.out.mc).1
              refine ⟨⟨j + 1, by omega, by go_num, ?_, ?_, ?_, ?_, ?_, ?_⟩, by simp [intOf]; omega⟩
              · exact ⟨(HG7.out.block _ (by omega) (by simp; omega)).trans HS.out.pb, (HG7.out.block _ (by omega) (by simp; omega)).trans HS.out.res, (HG7.out.block _ hmc (by simp; omega)).trans HS.out.mc, HS.out.lt⟩
              · exact below_fr HBL.out ((Fr.refl (fun j => j = M2) wr).grown HG7.out (fun k e => .inl (by injection e with e; exact e.symm))) (fun j hj => by omega) (by omega)
              · exact (HG7.out.block _ (by omega) (by simp; omega)).trans HK2.out
              · exact (HG7.out.block _ (by omega) (by simp; omega)).trans HDD.out
              · rw [HTK.out, List.map_append]
                have := HM7.out
                rw [← mapOf_snoc (((outs.take j).map fun s => (s, Value.bool true))) (y, .bool true)] at this
                exact this
              · rw [HTK.out]
                show (outs.take j ++ [y]).Nodup
                rw [List.nodup_append]
                refine ⟨HNO.out, by simp, fun a ha b hb e => ?_⟩
                rw [List.mem_singleton] at hb
                subst hb; subst e
                exact HIN.out ha
          · obtain rfl : j = N3 := by omega
            have HNO2 : Hid outs.Nodup := Lib.hid (by have := HNO.out; rw [HN3.out, List.take_length] at this; exact this)
            gi_wp2
            have hz := HZ5.out
            have hM := hM3.out
            have hd1 := HDE.out
            have hd2 := HDM.out
            have hset := HS.out.set (r' := 0)
            have r2 := (one_cell ((World.putObj_heap_other (o := .deferred none) (show B + 1 ≠ D by omega)).trans ((World.putObj_heap_other (o := .deferred none) (show B + 1 ≠ D2 by omega)).trans hset.res))).1
            refine ⟨by simp, .inl ⟨_, _, rfl, run_takeDeferred (set_other HK2.out (by omega) _), by simp, .inl ⟨_, _, rfl, run_takeDeferred ((World.putObj_heap_other (by omega)).trans (set_other HDD.out (by omega) _)), .int .i64 0, by simp [results, Try.results10, go_sem, r2], ?_, ?_⟩⟩⟩
            · rw [nmCheck, if_neg (by rw [HOK.out]; simp), if_neg (show ¬ ¬ (names ins fls).Nodup from Classical.not_not.2 HND.out), if_neg (by rw [HALL.out]; simp), if_neg (Classical.not_not.2 HNO2.out)]
            · rw [← HB.out]
              exact ((HBL.out.setCell (p := ⟨B + 1, 0, none⟩) (by simp) _).trans (below_put _ (by omega))).trans (below_put _ (by omega))
/-- names.Check. -/
theorem ncheck_any (w : World) (st : Int) (ins : List S84) (fls : List S51) (outs : List ByteArray) (A1 A2 A3 : Option Addr) (c1 c2 c3 : Nat) (hw : WfP ins fls outs)
    (hC1 : Kd.C k84 w A1 ins.length ins) (hc1 : ins.length ≤ c1) (hC2 : Kd.C k51 w A2 fls.length fls) (hc2 : fls.length ≤ c2) (hC3 : Kd.C Kd.string w A3 outs.length outs) (hc3 : outs.length ≤ c3) :
    Calls Try.prog 10 #[.agg #[.int .i64 st, .slice A1 ins.length c1, .slice A2 fls.length c2, .slice A3 outs.length c3]] w fun e w' => e = .returned (.int .i64 (nmCheck st ins fls outs)) ∧ Below w.heap.size w w' :=
  callsIn_wide.1 (ncheck_in w st ins fls outs A1 A2 A3 c1 c2 c3 hw hC1 hc1 hC2 hc2 hC3 hc3)
end Go.Proofs.Ytfkggeakjgphjaa.C
