/- names.Find: walked. -/
import Derived.Test.YtfkggeakjgphjaaFnA
namespace Go.Proofs.Ytfkggeakjgphjaa.C
set_option linter.unusedVariables false
set_option linter.unusedSimpArgs false
set_option linter.unusedSectionVars false
open Go.RowKit Go.Shelf Go.Proofs.YtfkggeakjgphjaaW.PrintWords Go.Proofs.YtfkggeakjgphjaaW.PrintLast Go.Proofs.YtfkggeakjgphjaaW.PrintMore
open Go.Proofs.RngT
attribute [local go_sem] Oper.semAt_some

theorem bytes_ext {a b : ByteArray} (h : a.toList = b.toList) : a = b := by
  rw [ByteArray.toList_eq, ByteArray.toList_eq] at h
  cases a; cases b
  congr 1
  exact Array.toList_inj.1 h
/-- the four results' cells, and the name's box. -/
structure FnS (B : Nat) (W : World) (nm : ByteArray) (a b c d : Value) : Prop where
  nm : W.heap[B + 1]? = some (.cells #[.string nm] 9 (0, 0))
  r0 : W.heap[B + 1 + 1]? = some (.cells #[a] 3 (0, 0))
  r1 : W.heap[B + 1 + 1 + 1]? = some (.cells #[b] 43 (0, 0))
  r2 : W.heap[B + 1 + 1 + 1 + 1]? = some (.cells #[c] 3 (0, 0))
  r3 : W.heap[B + 1 + 1 + 1 + 1 + 1]? = some (.cells #[d] 4 (0, 0))
theorem FnS.stay {B b0 : Nat} {W W' : World} {nm : ByteArray} {a b c d : Value} (h : FnS B W nm a b c d) (hb : Below b0 W W') (hB : B + 6 ≤ b0) : FnS B W' nm a b c d :=
  ⟨(hb.block _ (by omega)).trans h.nm, (hb.block _ (by omega)).trans h.r0, (hb.block _ (by omega)).trans h.r1, (hb.block _ (by omega)).trans h.r2, (hb.block _ (by omega)).trans h.r3⟩
theorem one_cell {w : World} {b : Nat} {v : Value} {t : TypeId} (h : w.heap[b]? = some (.cells #[v] t (0, 0))) : w.cell? ⟨b, 0, none⟩ = some v ∧ w.frozen? ⟨b, 0, none⟩ = false := by simp [World.cell?, World.frozen?, h]
theorem three_cell {w : World} {k : Nat} {t : TypeId} {a b c : Value} (h : w.heap[k]? = some (.cells #[a, b, c] t (0, 0))) :
    w.cell? ⟨k, 0, none⟩ = some a ∧ w.cell? ⟨k, 1, none⟩ = some b ∧ w.cell? ⟨k, 2, none⟩ = some c := by
  simp [World.cell?, h]
theorem set_one {w : World} {b : Nat} {v : Value} {t : TypeId} (h : w.heap[b]? = some (.cells #[v] t (0, 0))) (u : Value) : (w.setCell ⟨b, 0, none⟩ u).heap[b]? = some (.cells #[u] t (0, 0)) := by
  obtain ⟨hlt, hk⟩ := Array.getElem?_eq_some_iff.1 h
  show (w.heap.modify b _)[b]? = _
  rw [Array.getElem?_eq_getElem (by rw [Array.size_modify]; exact hlt), Array.getElem_modify_self, hk]
  rfl
theorem set_other {w : World} {b k : Nat} {o : Option Obj} (h : w.heap[b]? = o) (hne : b ≠ k) (u : Value) : (w.setCell ⟨k, 0, none⟩ u).heap[b]? = o := (Below.heap_setCell w ⟨k, 0, none⟩ u b hne).trans h
def fnOs (o : Obj) (nm : ByteArray) (o2 : Obj) : List Obj := [o, .cells #[.string nm] 9, .cells #[.int .i64 0] 3, .cells #[.int .u8 0] 43, .cells #[.int .i64 0] 3, .cells #[.bool false] 4, o2]
theorem FnS.start (w : World) (o : Obj) (nm : ByteArray) (o2 : Obj) : FnS w.heap.size (al w (fnOs o nm o2)) nm (.int .i64 0) (.int .u8 0) (.int .i64 0) (.bool false) :=
  ⟨al_get w _ 1 _ rfl, al_get w _ 2 _ rfl, al_get w _ 3 _ rfl, al_get w _ 4 _ rfl, al_get w _ 5 _ rfl⟩
def FnI (B : Nat) (w : World) (nm : ByteArray) (pre : List Th) (W : World) : Prop := FnS B W nm (.int .i64 0) (.int .u8 0) (.int .i64 0) (.bool false) ∧ (∀ y ∈ pre, y.1 ≠ nm) ∧ Below B w W ∧ B + 7 ≤ W.heap.size
def FnX (B : Nat) (w : World) (nm : ByteArray) (c : Code) (pre : List Th) (W : World) : Prop := c = .ret ∧ ∃ pre' x, pre = pre' ++ [x] ∧ (∀ y ∈ pre', y.1 ≠ nm) ∧ x.1 = nm ∧ FnS B W nm (.int .i64 x.2.1) (.int .u8 x.2.2.1) (.int .i64 x.2.2.2) (.bool true) ∧ Below B w W
theorem find_pre {ins : List S84} {fls : List S51} {nm : ByteArray} {pre : List Th} {x : Th} (h : pre ++ [x] <+: things ins fls) (h1 : ∀ y ∈ pre, y.1 ≠ nm) (h2 : x.1 = nm) : fnd ins fls nm = some x := by
  obtain ⟨r, hr⟩ := h
  unfold fnd
  rw [← hr, List.find?_append, List.find?_append]
  have : pre.find? (fun x => decide (x.1 = nm)) = none := by
    rw [List.find?_eq_none]
    intro y hy; simpa using h1 y hy
  simp [this, h2]
theorem find_all {ins : List S84} {fls : List S51} {nm : ByteArray} (h1 : ∀ y ∈ things ins fls, y.1 ≠ nm) : fnd ins fls nm = none := by
  unfold fnd
  rw [List.find?_eq_none]
  intro y hy; simpa using h1 y hy

theorem FnS.put {B : Nat} {W : World} {nm : ByteArray} {a b c d a' b' c' d' : Value} (hs : FnS B W nm a b c d) : FnS B ((((W.setCell ⟨B + 1 + 1, 0, none⟩ a').setCell ⟨B + 1 + 1 + 1, 0, none⟩ b').setCell ⟨B + 1 + 1 + 1 + 1, 0, none⟩ c').setCell ⟨B + 1 + 1 + 1 + 1 + 1, 0, none⟩ d') nm a' b' c' d' := by
  obtain ⟨h, h0, h1, h2, h3⟩ := hs
  refine ⟨?_, ?_, ?_, ?_, ?_⟩
  · exact set_other (set_other (set_other (set_other h (by omega) _) (by omega) _) (by omega) _) (by omega) _
  · exact set_other (set_other (set_other (set_one h0 _) (by omega) _) (by omega) _) (by omega) _
  · exact set_other (set_other (set_one (set_other h1 (by omega) _) _) (by omega) _) (by omega) _
  · exact set_other (set_one (set_other (set_other h2 (by omega) _) (by omega) _) _) (by omega) _
  · exact set_one (set_other (set_other (set_other h3 (by omega) _) (by omega) _) (by omega) _) _
theorem fn_fr {B : Nat} (W : World) (a b c d : Value) : Fr (fun j => B + 2 ≤ j ∧ j ≤ B + 5) W ((((W.setCell ⟨B + 1 + 1, 0, none⟩ a).setCell ⟨B + 1 + 1 + 1, 0, none⟩ b).setCell ⟨B + 1 + 1 + 1 + 1, 0, none⟩ c).setCell ⟨B + 1 + 1 + 1 + 1 + 1, 0, none⟩ d) := by
  have h1 := (Fr.refl (fun j => B + 2 ≤ j ∧ j ≤ B + 5) W).set (p := ⟨B + 1 + 1, 0, none⟩) (.inl ⟨Nat.le_refl _, by show B + 1 + 1 ≤ _; omega⟩) a
  have h2 := h1.set (p := ⟨B + 1 + 1 + 1, 0, none⟩) (.inl ⟨by show _ ≤ B + 1 + 1 + 1; omega, by show B + 1 + 1 + 1 ≤ _; omega⟩) b
  have h3 := h2.set (p := ⟨B + 1 + 1 + 1 + 1, 0, none⟩) (.inl ⟨by show _ ≤ B + 1 + 1 + 1 + 1; omega, by show B + 1 + 1 + 1 + 1 ≤ _; omega⟩) c
  exact h3.set (p := ⟨B + 1 + 1 + 1 + 1 + 1, 0, none⟩) (.inl ⟨by show _ ≤ B + 1 + 1 + 1 + 1 + 1; omega, by show B + 1 + 1 + 1 + 1 + 1 ≤ _; omega⟩) d
theorem fn_close {B : Nat} {w W : World} {nm : ByteArray} {pre : List Th} {x : Th} (hs : FnS B W nm (.int .i64 0) (.int .u8 0) (.int .i64 0) (.bool false)) (hn : ∀ y ∈ pre, y.1 ≠ nm) (hbl : Below B w W) (hsz : B + 7 ≤ W.heap.size) (he : x.1 = nm) :
    Fr (fun j => B + 2 ≤ j ∧ j ≤ B + 5) W (((((W.setCell ⟨B + 1 + 1, 0, none⟩ (.int .i64 x.2.1)).setCell ⟨B + 1 + 1 + 1, 0, none⟩ (.int .u8 x.2.2.1)).setCell ⟨B + 1 + 1 + 1 + 1, 0, none⟩ (.int .i64 x.2.2.2)).setCell ⟨B + 1 + 1 + 1 + 1 + 1, 0, none⟩ (.bool true)).drew) ∧
    FnX B w nm .ret (pre ++ [x]) (((((W.setCell ⟨B + 1 + 1, 0, none⟩ (.int .i64 x.2.1)).setCell ⟨B + 1 + 1 + 1, 0, none⟩ (.int .u8 x.2.2.1)).setCell ⟨B + 1 + 1 + 1 + 1, 0, none⟩ (.int .i64 x.2.2.2)).setCell ⟨B + 1 + 1 + 1 + 1 + 1, 0, none⟩ (.bool true)).drew) := by
  obtain ⟨g, g0, g1, g2, g3⟩ := hs.put (a' := .int .i64 x.2.1) (b' := .int .u8 x.2.2.1) (c' := .int .i64 x.2.2.2) (d' := .bool true)
  have hf := fn_fr (B := B) W (.int .i64 x.2.1) (.int .u8 x.2.2.1) (.int .i64 x.2.2.2) (.bool true)
  exact ⟨hf.drew, rfl, pre, x, rfl, hn, he, ⟨g, g0, g1, g2, g3⟩, (below_fr hbl hf (fun j hj => by omega) (by omega)).drew⟩
/-- the function's end: the four results are read, the loop's block is shut. -/
theorem fn_ret {B D n : Nat} {W : World} {nm : ByteArray} {a b c d x0 x1 x2 x3 y0 y1 y2 y3 y4 y5 y6 y7 y8 y9 z0 z1 z2 z3 z4 : Value} {R : Ending → World → Prop} (hs : FnS B W nm a b c d) (hD : B + 7 ≤ D) (hK : W.heap[D]? = some (.deferred (some [])))
    (ha : ∃ k i, a = .int k i) (hb : ∃ k i, b = .int k i) (hc : ∃ k i, c = .int k i) (hd : ∃ i, d = .bool i)
    (hR : R (.returned (.tuple #[a, b, c, d])) (W.putObj D (.deferred none))) :
    bodyPostM Fence.wide n Try.prog Try.f18 R .ret { tmps := #[x0, x1, x2, x3, .pointer (some ⟨B + 1 + 1, 0, none⟩), .pointer (some ⟨B + 1 + 1 + 1, 0, none⟩), .pointer (some ⟨B + 1 + 1 + 1 + 1, 0, none⟩), .pointer (some ⟨B + 1 + 1 + 1 + 1 + 1, 0, none⟩), y0, y1, y2, y3, y4, y5, y6, y7, y8, y9, z0, z1, z2, z3, z4], defers := [{ target := .collected D, args := #[] }] } W := by
  refine ⟨by simp, .inl ⟨_, _, rfl, run_takeDeferred hK, ?_⟩⟩
  obtain ⟨k1, i1, rfl⟩ := ha; obtain ⟨k2, i2, rfl⟩ := hb; obtain ⟨k3, i3, rfl⟩ := hc; obtain ⟨i4, rfl⟩ := hd
  have e0 := (one_cell ((World.putObj_heap_other (o := .deferred none) (show B + 1 + 1 ≠ D by omega)).trans hs.r0)).1
  have e1 := (one_cell ((World.putObj_heap_other (o := .deferred none) (show B + 1 + 1 + 1 ≠ D by omega)).trans hs.r1)).1
  have e2 := (one_cell ((World.putObj_heap_other (o := .deferred none) (show B + 1 + 1 + 1 + 1 ≠ D by omega)).trans hs.r2)).1
  have e3 := (one_cell ((World.putObj_heap_other (o := .deferred none) (show B + 1 + 1 + 1 + 1 + 1 ≠ D by omega)).trans hs.r3)).1
  exact ⟨_, by simp [results, Try.results18, go_sem, e0, e1, e2, e3], hR⟩
set_option maxHeartbeats 4000000 in
set_option maxRecDepth 100000 in
theorem find_in (w : World) (st : Int) (ins : List S84) (fls : List S51) (outs : List ByteArray) (A1 A2 A3 : Option Addr) (c1 c2 c3 : Nat) (nm : ByteArray)
    (hl1 : ins.length ≤ 140737488351232) (hl2 : fls.length ≤ 140737488351232)
    (hC1 : Kd.C k84 w A1 ins.length ins) (hc1 : ins.length ≤ c1) (hC2 : Kd.C k51 w A2 fls.length fls) (hc2 : fls.length ≤ c2) :
    CallsIn Fence.wide 9 Try.prog 18 #[.agg #[.int .i64 st, .slice A1 ins.length c1, .slice A2 fls.length c2, .slice A3 outs.length c3], .string nm] w fun e w' => e = .returned (fndV (fnd ins fls nm)) ∧ Below w.heap.size w w' := by
  obtain ⟨B, hB⟩ : ∃ B, B = w.heap.size := ⟨_, rfl⟩
  have HB := Lib.hid hB
  obtain ⟨ob, hob⟩ : ∃ ob : Obj, ob = .cells #[.int .i64 st, .slice A1 ins.length c1, .slice A2 fls.length c2, .slice A3 outs.length c3] 26 := ⟨_, rfl⟩
  have hst := FnS.start w ob nm ob
  have hz7 := al_size w (fnOs ob nm ob)
  have hb7 := al_below w (fnOs ob nm ob)
  have hbx7 := al_get w (fnOs ob nm ob) 6 ob rfl
  obtain ⟨W7, hW7⟩ : ∃ W7, W7 = al w (fnOs ob nm ob) := ⟨_, rfl⟩
  rw [← hW7] at hst hz7 hb7 hbx7
  rw [hob] at hbx7
  have HOB : Hid (W7 = (((((((w.alloc (.cells #[.int .i64 st, .slice A1 ins.length c1, .slice A2 fls.length c2, .slice A3 outs.length c3] 26)).alloc (.cells #[.string nm] 9)).alloc (.cells #[.int .i64 0] 3)).alloc (.cells #[.int .u8 0] 43)).alloc (.cells #[.int .i64 0] 3)).alloc (.cells #[.bool false] 4)).alloc (.cells #[.int .i64 st, .slice A1 ins.length c1, .slice A2 fls.length c2, .slice A3 outs.length c3] 26))) := Lib.hid (by rw [hW7, hob]; rfl)
  replace hz7 : W7.heap.size = w.heap.size + 7 := hz7
  clear hob hW7
  have hseq := things_seq 8 (by omega) (fun j => B + 2 ≤ j ∧ j ≤ B + 5) (w.heap.size + 6) w W7 st ins fls outs A1 A2 A3 c1 c2 c3 hl1 hl2 hC1 hc1 hC2 hc2 hb7 (by omega) (by omega) (fun j hj => by omega) (by omega) hbx7
  rw [← hB] at hst hz7 hb7 hseq
  have HST := Lib.hid hst; have HB7 := Lib.hid hb7; have HSEQ := Lib.hid hseq; have HZ7 := Lib.hid hz7; have HW7 := HOB
  clear hst hb7 hseq hz7 hbx7 hC1 hC2 HOB hB
  refine callsIn_of_wp_marks Try.func18 rfl trivial ?_ rfl
  simp only [Try.ntmps18, List.size_toArray, List.length_cons, List.length_nil, Nat.reduceAdd, Nat.reduceSub, Array.replicate_succ, Array.replicate_zero, List.push_toArray, List.append_toArray, List.nil_append, List.cons_append]
  gi_wp2_with (refine ⟨trivial, ?_⟩; gi_at_call 22; refine (callsIn_wide.2 (things_any _ _ _ _ _)).mono ?_; rintro e w' ⟨rfl, rfl⟩)
  rw [← HW7.out, ← HB.out]
  refine wpIn_rangeFunc_T rfl (by omega) (gf := 44) (lb := #[.pointer (some ⟨B + 6, 0, none⟩)]) rfl trivial (enters_of Try.func44 (by kernel_rfl) rfl) HSEQ.out
    (fun j hj => by have := HZ7.out; omega) (Below.refl _ _) (fun _ => rfl) (FnI B w nm) (FnX B w nm)
    (fun s A C h hb => ⟨h.1.stay hb (by have := HZ7.out; omega), h.2.1, h.2.2.1.trans (hb.mono (by have := HZ7.out; omega)), by have := h.2.2.2; have := hb.size; omega⟩)
    (fun c s A C h hb => by
      obtain ⟨rfl, p', x, e1, e2, e3, e4, e5⟩ := h
      exact ⟨rfl, p', x, e1, e2, e3, e4.stay hb (by have := HZ7.out; omega), e5.trans (hb.mono (by have := HZ7.out; omega))⟩)
    ⟨HST.out, by simp, HB7.out, by have := HZ7.out; omega⟩
    (fun x a' W => ∃ Bx, B + 7 ≤ Bx ∧ W.heap[Bx]? = some (.cells #[.int .i64 x.2.1, .int .u8 x.2.2.1, .int .i64 x.2.2.2] 59 (0, 0)) ∧ a' = { tmps := #[.agg #[.int .i64 st, .slice A1 ins.length c1, .slice A2 fls.length c2, .slice A3 outs.length c3], .string nm, .pointer (some ⟨B, 0, none⟩), .pointer (some ⟨B + 1, 0, none⟩), .pointer (some ⟨B + 1 + 1, 0, none⟩), .pointer (some ⟨B + 1 + 1 + 1, 0, none⟩), .pointer (some ⟨B + 1 + 1 + 1 + 1, 0, none⟩), .pointer (some ⟨B + 1 + 1 + 1 + 1 + 1, 0, none⟩), .string x.1, .pointer (some ⟨Bx, 0, none⟩), .agg #[.int .i64 st, .slice A1 ins.length c1, .slice A2 fls.length c2, .slice A3 outs.length c3], .func (.func 44) #[] #[.pointer (some ⟨B + 6, 0, none⟩)], .string x.1, .agg #[.int .i64 x.2.1, .int .u8 x.2.2.1, .int .i64 x.2.2.2], undef, undef, undef, undef, undef, undef, undef, undef, undef], defers := [] })
    ?hax ?assign ?body ?done ?stop
  case hax =>
    rintro x a' W l o hl ⟨r, hr⟩ ⟨Bx, h1, h2, rfl⟩
    exact ⟨Bx, h1, (World.putObj_heap_other (fun e => by rw [e, hr] at h2; cases h2)).trans h2, rfl⟩
  case assign =>
    intro l pre x W K hi hK
    dsimp only [encTh]
    gi_wp2
    have hB6 := hi.2.2.2
    exact hK _ _ ((Fr.refl _ _).alloc _) ⟨hi.1.stay (b0 := W.heap.size) ((Below.refl _ _).alloc (Nat.le_refl _) _) (by omega), hi.2.1, hi.2.2.1.alloc (by omega) _, by simp; omega⟩ ⟨W.heap.size, by omega, World.alloc_heap_new _ _, rfl⟩
  case body =>
    rintro l pre x a' W hl ⟨hs, hn, hbl, hsz⟩ ⟨Bx, hBx, hx, rfl⟩ hG
    have HS := Lib.hid hs; have HN := Lib.hid hn; have HBL := Lib.hid hbl; have HX := Lib.hid hx; have HG := Lib.hid hG
    obtain ⟨n0, n1⟩ := one_cell hs.nm
    have hcl := three_cell hx
    obtain ⟨u0, u1, u2⟩ := hcl
    clear hs hn hbl hx hG
    by_cases he : x.1 = nm
    · have he2 : (x.1.toList == nm.toList) = true := by rw [he]; simp
      have HE := Lib.hid he
      clear he
      obtain ⟨a0, b0⟩ := one_cell HS.out.r0
      obtain ⟨a1, b1⟩ := one_cell HS.out.r1
      obtain ⟨a2, b2⟩ := one_cell HS.out.r2
      obtain ⟨a3, b3⟩ := one_cell HS.out.r3
      have FIN := Lib.hid (fn_close HS.out HN.out HBL.out hsz HE.out)
      clear HST HB7 HSEQ HZ7 HW7 HB HN HBL HX HG HE HS
      gi_wp2
      clear hl1 hl2 hc1 hc2 he2 n0 n1 hsz hl
      gi_region
      all_goals
        gi_wp2
        exact FIN.out
    · have he2 : (x.1.toList == nm.toList) = false := by
        rw [beq_eq_false_iff_ne]; exact fun h => he (bytes_ext h)
      have HE := Lib.hid he
      clear he
      gi_wp2
      exact ⟨Fr.refl _ _, HS.out, fun y hy => by
        rcases List.mem_append.1 hy with h | h
        · exact HN.out y h
        · rw [List.mem_singleton] at h; rw [h]; exact HE.out, HBL.out, hsz⟩
  case done =>
    rintro D xs W hD rfl ⟨hs, hn, hbl, hsz⟩ hK
    have HS := Lib.hid hs; have HN := Lib.hid hn; have HBL := Lib.hid hbl; have HK := Lib.hid hK
    obtain ⟨a0, b0⟩ := one_cell hs.r0
    obtain ⟨a1, b1⟩ := one_cell hs.r1
    obtain ⟨a2, b2⟩ := one_cell hs.r2
    obtain ⟨a3, b3⟩ := one_cell hs.r3
    clear hs hn hbl hK
    gi_wp2
    rw [show B + 1 + 1 + 1 + 1 + 1 + 1 = B + 6 from rfl] at *
    refine fn_ret (HS.out.put) (by have := HZ7.out; omega) ?_ ⟨_, _, rfl⟩ ⟨_, _, rfl⟩ ⟨_, _, rfl⟩ ⟨_, rfl⟩ ?_
    · exact ((fn_fr (B := B) W _ _ _ _).block D (Array.getElem?_eq_some_iff.1 HK.out).1 (by have := HZ7.out; omega)).trans HK.out
    · refine ⟨by rw [find_all HN.out]; rfl, ?_⟩
      have hf := (fn_fr (B := B) W (.int .i64 0) (.int .u8 0) (.int .i64 0) (.bool false))
      have := HZ7.out
      rw [← HB.out]
      exact (below_fr HBL.out hf (fun j hj => by omega) (by omega)).trans (below_put _ (by omega))
  case stop =>
    rintro D c pre W hD hS hX hK
    obtain ⟨rfl, p', x, e1, e2, e3, e4, e5⟩ := hX
    have HS := Lib.hid hS; have HE1 := Lib.hid e1; have HE2 := Lib.hid e2; have HE3 := Lib.hid e3; have HE4 := Lib.hid e4; have HE5 := Lib.hid e5; have HK := Lib.hid hK
    clear hS e1 e2 e3 e4 e5 hK
    gi_wp2
    refine fn_ret HE4.out (by have := HZ7.out; omega) HK.out ⟨_, _, rfl⟩ ⟨_, _, rfl⟩ ⟨_, _, rfl⟩ ⟨_, rfl⟩ ?_
    refine ⟨by rw [find_pre (by rw [← HE1.out]; exact HS.out) HE2.out HE3.out]; rfl, ?_⟩
    have := HZ7.out
    rw [← HB.out]
    exact HE5.out.trans (below_put _ (by omega))
/-- names.Find. -/
theorem find_any (w : World) (st : Int) (ins : List S84) (fls : List S51) (outs : List ByteArray) (A1 A2 A3 : Option Addr) (c1 c2 c3 : Nat) (nm : ByteArray)
    (hl1 : ins.length ≤ 140737488351232) (hl2 : fls.length ≤ 140737488351232)
    (hC1 : Kd.C k84 w A1 ins.length ins) (hc1 : ins.length ≤ c1) (hC2 : Kd.C k51 w A2 fls.length fls) (hc2 : fls.length ≤ c2) :
    Calls Try.prog 18 #[.agg #[.int .i64 st, .slice A1 ins.length c1, .slice A2 fls.length c2, .slice A3 outs.length c3], .string nm] w fun e w' => e = .returned (fndV (fnd ins fls nm)) ∧ Below w.heap.size w w' :=
  callsIn_wide.1 (find_in w st ins fls outs A1 A2 A3 c1 c2 c3 nm hl1 hl2 hC1 hc1 hC2 hc2)
end Go.Proofs.Ytfkggeakjgphjaa.C
