/- JO: joined by wip/mkclaim.py (ours) from the texts OrA, Cx5, CirP, OrP, OrC, OrL of this seat. -/
import Derived.Test.YtfkggeakjgphjaaJG
import Derived.Test.YtfkggeakjgphjaaCx0
import Derived.Test.YtfkggeakjgphjaaNmP
import Derived.Test.YtfkggeakjgphjaaJD
import Derived.Test.YtfkggeakjgphjaaJF
/- CirclesOrdered: what memory holds while the rows are built. -/
namespace Go.Proofs.Ytfkggeakjgphjaa.C
set_option linter.unusedVariables false
set_option linter.unusedSimpArgs false
set_option linter.unusedSectionVars false
open Go.RowKit Go.Shelf Go.Proofs.YtfkggeakjgphjaaW.PrintWords Go.Proofs.YtfkggeakjgphjaaW.PrintLast Go.Proofs.YtfkggeakjgphjaaW.PrintMore
open Go.Proofs.RngT Go.Proofs.Circ
abbrev kB : Kd (List Int) := Kd.slice 5 (Kd.int .u8)
def rdB (xs : List (List Int)) (i : Nat) : List Int := xs.getD i []
theorem at_B {w : World} {A : Option Addr} {n : Nat} {xs : List (List Int)} (h : Kd.C kB w A n xs) (i : Nat) (h1 : i < n) : ∃ ad A0 c0, A = some ad ∧ w.cell? (ad.add i) = some (.slice A0 (rdB xs i).length c0) ∧ (Kd.int .u8).C w A0 (rdB xs i).length (rdB xs i) := by
  obtain ⟨ad, c, e, _, hK, hc0⟩ := Kd.C_get h ([] : List Int) (i : Int) (by omega) (by omega)
  have hc : ∀ j u, c[j]? = some u → w.cell? (ad.add (i * 1 + j)) = some u := hc0
  obtain ⟨A0, c0, rfl, l0, g0⟩ := hK
  exact ⟨ad, A0, c0, e, by have hq := hc 0 _ rfl; rwa [Nat.mul_one, Nat.add_zero] at hq, g0⟩
theorem at_b {w : World} {A : Option Addr} {n : Nat} {xs : List Int} (h : Kd.C (Kd.int .u8) w A n xs) (j : Nat) (hj : j < n) : ∃ ad, A = some ad ∧ w.cell? (ad.add j) = some (.int .u8 (xs.getD j 0)) := by
  obtain ⟨ad, cs, hA, _, hK, hcc⟩ := Kd.C_get h 0 (j : Int) (by omega) (by omega)
  obtain rfl : cs = [.int .u8 (xs.getD j 0)] := hK
  have p0 := hcc 0 _ rfl
  rw [show (j : Int).toNat * (Kd.int .u8).sz + 0 = j from Nat.mul_one j] at p0
  exact ⟨ad, hA, p0⟩
def InG (b : Nat) (w : World) (xs : List Int) (cs : List Value) : Prop := ∃ u, cs = [u] ∧ w.ownsRow b 3 1 u xs.length (nums .i64 xs) ∧ (xs = [] → u = .slice none 0 0)
def RG (b : Nat) (w : World) (v : Value) (rows : List (List Int)) : Prop := ∃ vals, w.ownsRow b 35 1 v rows.length vals ∧ Reps (InG b w) 1 rows vals
/-- rows of numbers stay. -/
def FrN (w w' : World) : Prop := ∀ (g : Nat) (cells : Array Value), w.heap[g]? = some (Obj.cells cells 3 (0, 0)) → w'.heap[g]? = w.heap[g]?
theorem FrN.below {w w' : World} (h : Below w.heap.size w w') : FrN w w' := fun g x hg => h.block g (Array.getElem?_eq_some_iff.1 hg).1
theorem FrN.grown {w w1 : World} {v : Value} {b e n s : Nat} {vals : List Value} (ho : w.ownsRow b e s v n vals) (he : e ≠ 3) (hg : w.grownBy w1 v.ownBlock) : FrN w w1 := fun g x hx => by
  refine hg.block g (Array.getElem?_eq_some_iff.1 hx).1 (fun e2 => ?_)
  obtain ⟨cells, hc⟩ := own_typed ho g e2.symm
  rw [hc] at hx
  injection hx with hx
  injection hx with _ h3 _
  exact he h3
theorem InG.move {b : Nat} {w w' : World} (h : FrN w w') {xs : List Int} {cs : List Value} (hi : InG b w xs cs) : InG b w' xs cs := by
  obtain ⟨u, rfl, ho, hz⟩ := hi
  exact ⟨u, rfl, own_move ho (fun k hk => by obtain ⟨cells, hc⟩ := own_typed ho k hk; exact h k cells hc), hz⟩
theorem InG.lower {b b' : Nat} {w : World} (h : b' ≤ b) {xs : List Int} {cs : List Value} (hi : InG b w xs cs) : InG b' w xs cs := by
  obtain ⟨u, rfl, ho, hz⟩ := hi
  exact ⟨u, rfl, own_weaken ho h, hz⟩
theorem RG.move {b : Nat} {w w' : World} {v : Value} {rows : List (List Int)} (h : RG b w v rows) (hv : ∀ k, v.ownBlock = some k → w'.heap[k]? = w.heap[k]?) (h3 : FrN w w') : RG b w' v rows := by
  obtain ⟨vals, ho, hr⟩ := h
  exact ⟨vals, own_move ho hv, hr.imp_ (fun _ _ q => q.move h3)⟩
theorem RG.lt {b : Nat} {w : World} {v : Value} {rows : List (List Int)} (h : RG b w v rows) (k : Nat) (hk : v.ownBlock = some k) : k < w.heap.size := by obtain ⟨vals, ho, _⟩ := h; exact own_lt ho k hk
theorem RG.below {b : Nat} {w w' : World} {v : Value} {rows : List (List Int)} (h : RG b w v rows) (hb : Below w.heap.size w w') : RG b w' v rows := h.move (fun k hk => hb.block k (h.lt k hk)) (FrN.below hb)
theorem RG.nil (b : Nat) (w : World) : RG b w (.slice none 0 0) [] := ⟨[], World.ownsRow_nil _ _ _ _, Reps.none _ _⟩
theorem RG.app {b : Nat} {W w1 : World} {v v1 u : Value} {vals : List Value} {rows : List (List Int)} {xs : List Int} (hv : W.ownsRow b 35 1 v rows.length vals) (hr : Reps (InG b W) 1 rows vals) (hx : InG b W xs [u])
    (ho : w1.ownsRow b 35 1 v1 (vals ++ [u]).length (vals ++ [u])) (hg : W.grownBy w1 v.ownBlock) : RG b w1 v1 (rows ++ [xs]) := by
  have h3 := FrN.grown hv (by decide) hg
  have hl : vals.length = rows.length := by have := hv.1; simpa using this
  refine ⟨vals ++ [u], by rw [show (rows ++ [xs]).length = (vals ++ [u]).length by simp [hl]]; exact ho, (hr.imp_ (fun _ _ q => q.move h3)).snoc (hx.move h3) rfl⟩
theorem RG.other {b n : Nat} {W w1 : World} {v v' : Value} {vals : List Value} {e : Nat} {rows : List (List Int)} (h : RG b W v' rows) (hv : W.ownsRow b e 1 v n vals) (he : e ≠ 3) (hs : ∀ k, v.ownBlock = some k → v'.ownBlock ≠ some k) (hg : W.grownBy w1 v.ownBlock) : RG b w1 v' rows :=
  h.move (fun k hk => hg.block k (h.lt k hk) (fun e2 => hs k e2.symm hk)) (FrN.grown hv he hg)
theorem InG.K {b : Nat} {w : World} {xs : List Int} {cs : List Value} (h : InG b w xs cs) : kL.K w xs cs := by
  obtain ⟨u, rfl, ho, _⟩ := h
  obtain ⟨A, c, rfl, hl, hr⟩ := OwnRow.reads (R := fun x cs => cs = [Value.int .i64 x]) (ps := xs) ⟨nums .i64 xs, ho, repsNums w xs⟩
  exact ⟨A, c, rfl, hl, hr⟩
theorem RG.C {b : Nat} {w : World} {v : Value} {rows : List (List Int)} (h : RG b w v rows) : ∃ A c, v = .slice A rows.length c ∧ rows.length ≤ c ∧ Kd.C kL w A rows.length rows := by
  obtain ⟨vals, ho, hr⟩ := h
  exact OwnRow.reads ⟨vals, ho, hr.imp_ (fun _ _ q => q.K)⟩
theorem RG.first {b : Nat} {w : World} {A : Option Addr} {n c : Nat} {rows : List (List Int)} (h : RG b w (.slice A n c) ([] :: rows)) : ∃ g, A = some ⟨g, 0, none⟩ ∧ b ≤ g ∧ g < w.heap.size ∧ w.cell? ⟨g, 0, none⟩ = some (.slice none 0 0) ∧ w.frozen? ⟨g, 0, none⟩ = false := by
  obtain ⟨vals, ho, hr⟩ := h
  obtain ⟨u, hu, _, hz⟩ := hr.2 0 [] rfl
  rcases ho.2 with ⟨_, h0⟩ | ⟨g, cap, cur, e, hbg, hh, hn, hm, hs, ht⟩
  · simp at h0
  · injection e with e1 e2 e3
    subst e1
    have hgl : g < w.heap.size := (Array.getElem?_eq_some_iff.1 hh).1
    have hv : vals[0]? = some u := by
      have h1 : (vals.drop (0 * 1)).take 1 = [u] := hu
      cases vals with
      | nil => simp at h1
      | cons y vs => simp at h1; simp [h1]
    have hc : cur[0]? = some u := by
      have h2 : (cur.toList.take (([] :: rows).length * 1))[0]? = some u := by rw [ht]; exact hv
      rw [List.getElem?_take] at h2
      simpa using h2
    refine ⟨g, rfl, hbg, hgl, ?_, ?_⟩
    · rw [← hz rfl]
      simp [World.cell?, hh, hc]
    · simp [World.frozen?, hh]
/-- the first row is another one. -/
theorem RG.set0 {b : Nat} {w : World} {A : Option Addr} {n c : Nat} {r0 xs : List Int} {rows : List (List Int)} {u : Value} (h : RG b w (.slice A n c) (r0 :: rows)) (hx : InG b w xs [u]) (hb : b ≤ w.heap.size) :
    ∃ g, A = some ⟨g, 0, none⟩ ∧ b ≤ g ∧ g < w.heap.size ∧ (∀ k, u.ownBlock = some k → k ≠ g) ∧ RG b (w.setCell ⟨g, 0, none⟩ u) (.slice A n c) (xs :: rows) := by
  obtain ⟨vals, ho, hr⟩ := h
  have hlen := ho.1
  rcases ho.2 with ⟨_, h0⟩ | ⟨g, cap, cur, e, hbg, hh, hn, hm, hs, ht⟩
  · simp at h0
  · injection e with e1 e2 e3
    subst e1; subst e3
    have hne : ∀ k, u.ownBlock = some k → k ≠ g := fun k hk e => by
      subst e
      obtain ⟨u', hu, ho2, _⟩ := hx
      injection hu with hu _
      subst hu
      obtain ⟨cells, hc⟩ := own_typed ho2 k hk
      rw [hh] at hc
      injection hc with hc
      injection hc with _ h3 _
      cases h3
    have hgl : g < w.heap.size := (Array.getElem?_eq_some_iff.1 hh).1
    have hF : FrN w (w.setCell ⟨g, 0, none⟩ u) := fun g2 cells h2 => Below.heap_setCell w ⟨g, 0, none⟩ u g2 (fun e => by
      have e : g2 = g := e
      subst e
      rw [hh] at h2
      injection h2 with h2
      injection h2 with _ h3 _
      cases h3)
    refine ⟨g, rfl, hbg, hgl, hne, ?_⟩
    obtain ⟨y, vs, rfl⟩ : ∃ y vs, vals = y :: vs := by
      cases vals with
      | nil => simp at hlen
      | cons y vs => exact ⟨y, vs, rfl⟩
    subst e2
    have hst := (World.ownsRow.stored ho 0 u).1
    refine ⟨u :: vs, hst, by simpa using hlen, fun j p hj => ?_⟩
    cases j with
    | zero =>
      obtain rfl : xs = p := by simpa using hj
      exact hx.move hF
    | succ j => exact (hr.2 (j + 1) p (by simpa using hj)).move hF
theorem FrN.set {b : Nat} {w : World} {g n m c : Nat} {vals : List Value} {u : Value} (ho : w.ownsRow b 35 1 (.slice (some ⟨g, 0, none⟩) n c) m vals) : FrN w (w.setCell ⟨g, 0, none⟩ u) := fun g2 cells h2 => Below.heap_setCell w ⟨g, 0, none⟩ u g2 (fun e => by
  have e : g2 = g := e
  subst e
  obtain ⟨cs, hc⟩ := own_typed ho g2 rfl
  rw [h2] at hc
  injection hc with hc
  injection hc with _ h3 _
  cases h3)
structure OrS (b : Nat) (w0 wr : World) (v5 v6 : Value) (ra rb : List (List Int)) : Prop where
  bel : Below b w0 wr
  sz : b ≤ wr.heap.size
  r5 : RG b wr v5 ra
  r6 : RG b wr v6 rb
  s56 : Sep v5 v6
section
variable {b : Nat} {w0 wr w1 : World} {v5 v6 v1 u : Value} {ra rb : List (List Int)} {vals : List Value} {xs : List Int}
theorem OrS.below (h : OrS b w0 wr v5 v6 ra rb) (hb : Below wr.heap.size wr w1) : OrS b w0 w1 v5 v6 ra rb := ⟨h.bel.trans (hb.mono h.sz), Nat.le_trans h.sz hb.size, h.r5.below hb, h.r6.below hb, h.s56⟩
theorem OrS.app5 (h : OrS b w0 wr v5 v6 ra rb) (hv : wr.ownsRow b 35 1 v5 ra.length vals) (hr : Reps (InG b wr) 1 ra vals) (hx : InG b wr xs [u]) (ho : w1.ownsRow b 35 1 v1 (vals ++ [u]).length (vals ++ [u])) (hg : wr.grownBy w1 v5.ownBlock)
    (hat : v1.ownBlock = v5.ownBlock ∨ ∃ k, v1.ownBlock = some k ∧ wr.heap.size ≤ k) (hb : Below b wr w1) : OrS b w0 w1 v1 v6 (ra ++ [xs]) rb :=
  ⟨h.bel.trans hb, Nat.le_trans h.sz hg.size, RG.app hv hr hx ho hg, h.r6.other hv (by decide) h.s56 hg, h.s56.grow hat (fun k hk => h.r6.lt k hk)⟩
theorem OrS.app6 (h : OrS b w0 wr v5 v6 ra rb) (hv : wr.ownsRow b 35 1 v6 rb.length vals) (hr : Reps (InG b wr) 1 rb vals) (hx : InG b wr xs [u]) (ho : w1.ownsRow b 35 1 v1 (vals ++ [u]).length (vals ++ [u])) (hg : wr.grownBy w1 v6.ownBlock)
    (hat : v1.ownBlock = v6.ownBlock ∨ ∃ k, v1.ownBlock = some k ∧ wr.heap.size ≤ k) (hb : Below b wr w1) : OrS b w0 w1 v5 v1 ra (rb ++ [xs]) :=
  ⟨h.bel.trans hb, Nat.le_trans h.sz hg.size, h.r5.other hv (by decide) h.s56.symm hg, RG.app hv hr hx ho hg, (h.s56.symm.grow hat (fun k hk => h.r5.lt k hk)).symm⟩
end
theorem take_nil {l : List Int} {k : Nat} {f : Int → Int} (hk : k ≤ l.length) (h : (l.take k).map f = []) : k = 0 := by
  have := congrArg List.length h
  rw [List.length_map, List.length_take, List.length_nil] at this
  omega
def rowO (now : List (List Int)) (i : Nat) : List Int := if i = 0 then [] else ((rdB now i).take 10).map fun x => Int.tmod x i
def oldO (now ago : List (List Int)) (i : Nat) : List Int := ((rdB ago i).take 10).map fun x => Int.tmod x now.length
def rowsO (now : List (List Int)) (i : Nat) : List (List Int) := (List.range i).map (rowO now)
def oldsO (now ago : List (List Int)) (i : Nat) : List (List Int) := (List.range i).map (oldO now ago)
theorem rowsO_snoc (now : List (List Int)) (i : Nat) : rowsO now (i + 1) = rowsO now i ++ [rowO now i] := by unfold rowsO; rw [List.range_succ, List.map_append]; rfl
theorem oldsO_snoc (now ago : List (List Int)) (i : Nat) : oldsO now ago (i + 1) = oldsO now ago i ++ [oldO now ago i] := by unfold oldsO; rw [List.range_succ, List.map_append]; rfl
end Go.Proofs.Ytfkggeakjgphjaa.C

-- Written for this claim by wip/myprint.py (a program of this session over the kit's printer).
namespace Go.Proofs.Ytfkggeakjgphjaa.C
open Go.RowKit Go.Proofs.YtfkggeakjgphjaaW.PrintWords Go.Proofs.YtfkggeakjgphjaaW.PrintLast Go.Proofs.YtfkggeakjgphjaaW.PrintMore
attribute [local go_sem] max2_int min2_int max_two min_two max_three min_three max_four min_four   -- for this text's walks alone
set_option linter.unusedVariables false
set_option linter.unusedSimpArgs false

/-! ### belfrylaw09_come: function 15 -/
mutual
def belfrylaw09_come.l0 : Nat → List (List Int) → List Bool → Int → Option (Bool)
  | 0, _, _, _ => none
  | k + 1, x0, x5, x6 => if x6 > 0 then (belfrylaw09_come.l1 k x0 x5 x6 0) else (if 0 < (x5.length : Int) then (some (rdOf false x5 0)) else (none))
def belfrylaw09_come.l1 : Nat → List (List Int) → List Bool → Int → Int → Option (Bool)
  | 0, _, _, _, _ => none
  | k + 1, x0, x5, x6, x7 => if 0 ≤ x6 then (if x6 < (x5.length : Int) then (if rdOf false x5 x6 = true then (if x6 < (x0.length : Int) then (if x7 < ((rd_L7 x0 x6).length : Int) then (if 0 ≤ x7 then (if 0 ≤ (rd (rd_L7 x0 x6) x7) then (if (rd (rd_L7 x0 x6) x7) < (x5.length : Int) then (belfrylaw09_come.l1 k x0 (x5.set ((rd (rd_L7 x0 x6) x7) : Int).toNat true) x6 (wrap64 (x7 + 1))) else (none)) else (none)) else (none)) else (belfrylaw09_come.l0 k x0 x5 (wrap64 (x6 - 1)))) else (none)) else (belfrylaw09_come.l0 k x0 x5 (wrap64 (x6 - 1)))) else (none)) else (none)
end
def belfrylaw09_come.f (k : Nat) (l0 : List (List Int)) (a1 : Int) : Option (Bool) := if 0 ≤ (l0.length : Int) then (if ((l0.length : Int) : Int).toNat ≤ 281474976710656 then ((some (List.replicate ((l0.length : Int) : Int).toNat false : List Bool)).bind fun y310 => (if 0 ≤ a1 then (if a1 < (y310.length : Int) then (belfrylaw09_come.l0 k l0 (y310.set (a1 : Int).toNat true) a1) else (none)) else (none))) else (none)) else (none)
theorem belfrylaw09_come.mono_l : ∀ k, (∀ y0 y1 y2, LeO (belfrylaw09_come.l0 k y0 y1 y2) (belfrylaw09_come.l0 (k + 1) y0 y1 y2)) ∧ (∀ y0 y1 y2 y3, LeO (belfrylaw09_come.l1 k y0 y1 y2 y3) (belfrylaw09_come.l1 (k + 1) y0 y1 y2 y3))
  | 0 => ⟨fun _ _ _ r h => by simp [belfrylaw09_come.l0] at h, fun _ _ _ _ r h => by simp [belfrylaw09_come.l1] at h⟩
  | k + 1 => by
    obtain ⟨ih0, ih1⟩ := belfrylaw09_come.mono_l k
    refine ⟨?_, ?_⟩
    · intro y0 y1 y2
      unfold belfrylaw09_come.l0
      repeat' first
      | (with_reducible exact ih0 _ _ _)
      | (with_reducible exact ih1 _ _ _ _)
      | (with_reducible exact LeO.refl _)
      | (with_reducible exact LeO.none _)
      | (with_reducible refine LeO.ite ?_ ?_)
      | (with_reducible refine LeO.bind ?_ (fun _ => ?_))
      | exact ih0 _ _ _
      | exact ih1 _ _ _ _
      | exact LeO.none _
      | refine LeO.ite ?_ ?_
      | refine LeO.bind ?_ (fun _ => ?_)
    · intro y0 y1 y2 y3
      unfold belfrylaw09_come.l1
      repeat' first
      | (with_reducible exact ih0 _ _ _)
      | (with_reducible exact ih1 _ _ _ _)
      | (with_reducible exact LeO.refl _)
      | (with_reducible exact LeO.none _)
      | (with_reducible refine LeO.ite ?_ ?_)
      | (with_reducible refine LeO.bind ?_ (fun _ => ?_))
      | exact ih0 _ _ _
      | exact ih1 _ _ _ _
      | exact LeO.none _
      | refine LeO.ite ?_ ?_
      | refine LeO.bind ?_ (fun _ => ?_)
theorem belfrylaw09_come.mono : ∀ a0 a1 k, LeO (belfrylaw09_come.f k a0 a1) (belfrylaw09_come.f (k + 1) a0 a1) := by
  intro a0 a1 k
  obtain ⟨ih0, ih1⟩ := belfrylaw09_come.mono_l k
  unfold belfrylaw09_come.f
  repeat' first
      | (with_reducible exact ih0 _ _ _)
      | (with_reducible exact ih1 _ _ _ _)
      | (with_reducible exact LeO.refl _)
      | (with_reducible exact LeO.none _)
      | (with_reducible refine LeO.ite ?_ ?_)
      | (with_reducible refine LeO.bind ?_ (fun _ => ?_))
      | exact ih0 _ _ _
      | exact ih1 _ _ _ _
      | exact LeO.none _
      | refine LeO.ite ?_ ?_
      | refine LeO.bind ?_ (fun _ => ?_)
set_option maxHeartbeats 8000000 in
set_option maxRecDepth 100000 in
theorem belfrylaw09_come.calls (k : Nat) (A0 : Option Addr) (c0 : Nat) (l0 : List (List Int)) (a1 : Int) (r : Bool) (w : World) (hr0 : Kd.C (Kd.slice 3 (Kd.int .i64)) w A0 l0.length l0) (hc0 : l0.length ≤ c0) (h : belfrylaw09_come.f k l0 a1 = some r) :
    Calls Try.prog 15 #[.slice A0 l0.length c0, .int .i64 a1] w fun e w' => e = .returned (.bool r) ∧ Below w.heap.size w w' := by
  have HR0 := Aside0.mk hr0
  have HC0 := Aside0.mk hc0
  clear hr0 hc0
  have HB := Aside0.mk (Below.refl w.heap.size w)
  have H : (if 0 ≤ (l0.length : Int) then (if ((l0.length : Int) : Int).toNat ≤ 281474976710656 then ((some (List.replicate ((l0.length : Int) : Int).toNat false : List Bool)).bind fun y310 => (if 0 ≤ a1 then (if a1 < (y310.length : Int) then (belfrylaw09_come.l0 k l0 (y310.set (a1 : Int).toNat true) a1) else (none)) else (none))) else (none)) else (none)) = some r := h
  clear h
  by_cases c3 : 0 ≤ (l0.length : Int)
  · rw [if_pos c3] at H
    have c3b0 := eq_true c3
    have c3b1 : decide (0 ≤ (l0.length : Int)) = true := decide_eq_true c3
    clear c3
    by_cases c4 : ((l0.length : Int) : Int).toNat ≤ 281474976710656
    · rw [if_pos c4] at H
      have c4b0 := eq_true c4
      have c4b1 : decide (((l0.length : Int) : Int).toNat ≤ 281474976710656) = true := decide_eq_true c4
      clear c4
      obtain ⟨y310, hy310⟩ : ∃ y_ : List Bool, y_ = (List.replicate ((l0.length : Int) : Int).toNat false) := ⟨_, rfl⟩
      replace H : (if 0 ≤ a1 then (if a1 < (y310.length : Int) then (belfrylaw09_come.l0 k l0 (y310.set (a1 : Int).toNat true) a1) else (none)) else (none)) = some r := by first | (rw [hy310]; with_reducible exact H) | (have H2_ := (Option.bind_some _ _).symm.trans H; rw [hy310]; with_reducible exact H2_) | (have H2_ := (Option.bind_some _ _).symm.trans H; with_reducible exact H2_) | with_reducible exact H | (rw [hy310]; exact H) | exact H
      have Ny310 := Aside0.mk hy310
      clear hy310
      by_cases c5 : 0 ≤ a1
      · rw [if_pos c5] at H
        have c5b0 : decide (0 ≤ a1) = true := decide_eq_true c5
        clear c5
        by_cases c6 : a1 < (y310.length : Int)
        · rw [if_pos c6] at H
          have c6b0 : decide (a1 < (y310.length : Int)) = true := decide_eq_true c6
          clear c6
          obtain ⟨y313, hy313⟩ : ∃ y_ : List Bool, y_ = (y310.set (a1 : Int).toNat true) := ⟨_, rfl⟩
          replace H : (belfrylaw09_come.l0 k l0 y313 a1) = some r := by first | (rw [hy313]; with_reducible exact H) | (have H2_ := (Option.bind_some _ _).symm.trans H; rw [hy313]; with_reducible exact H2_) | (have H2_ := (Option.bind_some _ _).symm.trans H; with_reducible exact H2_) | with_reducible exact H | (rw [hy313]; exact H) | exact H
          have Ny313 := Aside0.mk hy313
          clear hy313
          have H' := Aside0.mk H
          clear H
          go_enter Try.func15, Try.ntmps15
          go_wp2_with (first | ((with_reducible refine gate_dst (N := 10) rfl ?_); (try (refine gate_guard (by rfl) ?_; dsimp only)); refine Kd.R_make Kd.bool _ 4 rfl (N := 10) rfl 75 _ _ rfl (l0.length : Int) rfl rfl Try.underlying75 (.bool false) 1 info4 rfl (by decide) (by omega) false (ok := fun _ => True) (okp := fun _ => True) rfl (fun _ hk => hk) trivial (of_decide_eq_true (by first | (with_reducible assumption) | assumption)) (Nat.le_trans (Nat.mul_le_mul_right _ (of_decide_eq_true (by first | (with_reducible assumption) | assumption) : (l0.length : Int).toNat ≤ 281474976710656)) (by omega)) (Below.refl _ _) (Nat.le_refl _) ?_; intro v311 w8 ho9 hb hg_ hnew_; clear hg_ hnew_; (first | rw [← Ny310.out] at ho9 | (simp only [Int.reduceToNat] at ho9; rw [← Ny310.out] at ho9)); have n0_ := Aside0.mk (Kd.R_lower ho9 (below_size (by repeat (first | (with_reducible first | exact HB.out | apply below_alloc | apply pw_below_drewN | apply below_drew1) | exact HB.out)))); have n1_ := Aside0.mk (below_step (by repeat (first | (with_reducible first | exact HB.out | apply below_alloc | apply pw_below_drewN | apply below_drew1) | exact HB.out)) hb); clear HB; have HO312 := n0_; have HB := n1_; clear n0_ n1_; clear hb ho9; have p7 : 0 ≤ (a1 : Int) := of_decide_eq_true (by first | (with_reducible assumption) | assumption); have q7 : (a1 : Int) < ((y310.length : Int) : Int) := of_decide_eq_true (by first | (with_reducible assumption) | assumption); obtain ⟨go7, co7, eo7, gb7, gl7, cl7, HG7⟩ := Kd.R_form HO312.out (by omega); (first | cases eo7 | (injection eo7 with ea_ en_ ec_; (first | subst ea_ | (injection ea_ with ea_; subst ea_)); subst ec_; clear en_)); have GB7 := Aside0.mk gb7; have GG7 := Aside0.mk HG7; clear gb7 gl7 HG7; obtain ⟨hx7_0, hf7_0⟩ := Kd.R_celln false HO312.out (a1 : Int) p7 q7; replace p7 := eq_true p7; replace q7 := eq_true q7; obtain ⟨hy10_, hz10_⟩ := Kd.R_celln false HO312.out (a1 : Int) (of_decide_eq_true (by first | (with_reducible assumption) | assumption)) (of_decide_eq_true (by first | (with_reducible assumption) | assumption)); have HP10 := Kd.R_putg HO312.out (a1 : Int) true) | ((with_reducible refine gate_store (t := 4) (p := 13) rfl ?_); refine store_event (t := 4) (p := 13) (v := ?vo_w11) (w1 := (w8.setCell ⟨go7, (a1 : Int).toNat, none⟩ (.bool true))) ?hg ?ho ?hn ?hr ?_; (case ho => rfl); (case hg => rfl); (case hn => rfl); (case hr => first | (go_simp; done) | (go_simp; rfl)); intro w11 hw; have hg : w8.grownBy w11 (some go7) := (by rw [hw]; exact HP10.2); have hp_ : Kd.R Kd.bool 4 w11 w.heap.size (fun _ => True) (.slice (some ⟨go7, 0, none⟩) y310.length co7) y313 := (by rw [hw, Ny313.out]; exact HP10.1); clear HP10; have n0_ := Aside0.mk (hp_); have n1_ := Aside0.mk ((by rw [hw]; exact below_set (HB.out) GB7.out : Below w.heap.size w w11)); clear HO312; clear HB; have HO312 := n0_; have HB := n1_; clear n0_ n1_; clear hg hw hp_))
          go_loopg [6] k (fun kq v6 w' => ∃ (x5_1 : List Bool) (x6_1 : Int), v6 = .int .i64 x6_1 ∧ Aside0 (belfrylaw09_come.l0 kq l0 x5_1 x6_1 = some r) ∧ Aside0 (kq ≤ k) ∧ Aside0 (Kd.R Kd.bool 4 w' w.heap.size (fun _ => True) (.slice (some ⟨go7, 0, none⟩) y310.length co7) x5_1) ∧ Aside0 (Below w.heap.size w w'))
          case atStart => exact ⟨(y313), (a1), (by first | rfl | (simp; done) | (simp [*]; done)), H', ⟨Nat.le_refl _⟩, ⟨by (with_reducible repeat (first | apply Kd.R_alloc | apply Kd.R_drewN | apply Kd.R_drew)); exact HO312.out⟩, ⟨by repeat (first | (with_reducible first | exact HB.out | apply below_alloc | apply pw_below_drewN | apply below_drew1) | exact HB.out)⟩⟩
          case round =>
            clear H'
            try clear c1
            try clear p2
            try clear c3
            try clear c3b0
            try clear c3b1
            try clear c4
            try clear c4b0
            try clear c4b1
            try clear c5
            try clear c5b0
            try clear c6
            try clear c6b0
            try clear p7
            try clear q7
            try clear hx7
            try clear hf7
            try clear hx7_0
            try clear p7
            try clear q7
            obtain ⟨x5_1, x6_1, rfl, HA, HK1, HO_5, HB⟩ := hrel
            have hl5_1 := (Kd.R_reads' HO_5.out).1
            rw [hl5_1] at HO_5
            (try simp only [hl5_1])
            cases gk with
            | zero => exact absurd HA.out (by simp [belfrylaw09_come.l0])
            | succ k1 =>
              have H := HA.out
              clear HA
              simp only [belfrylaw09_come.l0] at H
              by_cases c12 : x6_1 > 0
              · rw [if_pos c12] at H
                have c12b0 : decide (0 < x6_1) = true := decide_eq_true c12
                clear c12
                have H' := Aside0.mk H
                clear H
                go_wp2
                go_loopg [7] k1 (fun kq v7 w' => ∃ (x5_2 : List Bool) (x7_2 : Int), v7 = .int .i64 x7_2 ∧ Aside0 (belfrylaw09_come.l1 kq l0 x5_2 x6_1 x7_2 = some r) ∧ Aside0 (kq ≤ k1) ∧ Aside0 (Kd.R Kd.bool 4 w' w.heap.size (fun _ => True) (.slice (some ⟨go7, 0, none⟩) x5_1.length co7) x5_2) ∧ Aside0 (Below w.heap.size w w'))
                case atStart => exact ⟨(x5_1), (0), (by first | rfl | (simp; done) | (simp [*]; done)), H', ⟨Nat.le_refl _⟩, ⟨by (try simp only [hl5_1]); (with_reducible repeat (first | apply Kd.R_alloc | apply Kd.R_drewN | apply Kd.R_drew)); exact HO_5.out⟩, ⟨by repeat (first | (with_reducible first | exact HB.out | apply below_alloc | apply pw_below_drewN | apply below_drew1) | exact HB.out)⟩⟩
                case round =>
                  clear H'
                  try clear c1
                  try clear p2
                  try clear c3
                  try clear c3b0
                  try clear c3b1
                  try clear c4
                  try clear c4b0
                  try clear c4b1
                  try clear c5
                  try clear c5b0
                  try clear c6
                  try clear c6b0
                  try clear p7
                  try clear q7
                  try clear hx7
                  try clear hf7
                  try clear c12
                  try clear c12b0
                  try clear hx7_0
                  try clear p2
                  try clear p7
                  try clear q7
                  obtain ⟨x5_2, x7_2, rfl, HA, HK2, HO_5, HB⟩ := hrel
                  have hl5_2 := (Kd.R_reads' HO_5.out).1
                  rw [hl5_2] at HO_5
                  (try simp only [hl5_2])
                  cases gk with
                  | zero => exact absurd HA.out (by simp [belfrylaw09_come.l1])
                  | succ k2 =>
                    have H := HA.out
                    clear HA
                    simp only [belfrylaw09_come.l1] at H
                    by_cases c13 : 0 ≤ x6_1
                    · rw [if_pos c13] at H
                      have c13b0 : decide (0 ≤ x6_1) = true := decide_eq_true c13
                      clear c13
                      by_cases c14 : x6_1 < (x5_2.length : Int)
                      · rw [if_pos c14] at H
                        have c14b0 : decide (x6_1 < (x5_2.length : Int)) = true := decide_eq_true c14
                        clear c14
                        obtain ⟨bq15, hbq15⟩ : ∃ b_ : Bool, b_ = (rdOf false x5_2 x6_1) := ⟨_, rfl⟩
                        replace H : (if bq15 = true then (if x6_1 < (l0.length : Int) then (if x7_2 < ((rd_L7 l0 x6_1).length : Int) then (if 0 ≤ x7_2 then (if 0 ≤ (rd (rd_L7 l0 x6_1) x7_2) then (if (rd (rd_L7 l0 x6_1) x7_2) < (x5_2.length : Int) then (belfrylaw09_come.l1 k2 l0 (x5_2.set ((rd (rd_L7 l0 x6_1) x7_2) : Int).toNat true) x6_1 (wrap64 (x7_2 + 1))) else (none)) else (none)) else (none)) else (belfrylaw09_come.l0 k2 l0 x5_2 (wrap64 (x6_1 - 1)))) else (none)) else (belfrylaw09_come.l0 k2 l0 x5_2 (wrap64 (x6_1 - 1)))) = some r := by rw [← hbq15] at H; exact H
                        have Nbq15 := Aside0.mk hbq15
                        clear hbq15
                        by_cases c16 : bq15 = true
                        · subst c16
                          have H1 : (if x6_1 < (l0.length : Int) then (if x7_2 < ((rd_L7 l0 x6_1).length : Int) then (if 0 ≤ x7_2 then (if 0 ≤ (rd (rd_L7 l0 x6_1) x7_2) then (if (rd (rd_L7 l0 x6_1) x7_2) < (x5_2.length : Int) then (belfrylaw09_come.l1 k2 l0 (x5_2.set ((rd (rd_L7 l0 x6_1) x7_2) : Int).toNat true) x6_1 (wrap64 (x7_2 + 1))) else (none)) else (none)) else (none)) else (belfrylaw09_come.l0 k2 l0 x5_2 (wrap64 (x6_1 - 1)))) else (none)) = some r := by rw [if_pos rfl] at H; exact H
                          clear H
                          have H := H1
                          clear H1
                          by_cases c17 : x6_1 < (l0.length : Int)
                          · rw [if_pos c17] at H
                            have c17b0 : decide (x6_1 < (l0.length : Int)) = true := decide_eq_true c17
                            clear c17
                            by_cases c18 : x7_2 < ((rd_L7 l0 x6_1).length : Int)
                            · rw [if_pos c18] at H
                              have c18b0 : decide (x7_2 < ((rd_L7 l0 x6_1).length : Int)) = true := decide_eq_true c18
                              clear c18
                              by_cases c19 : 0 ≤ x7_2
                              · rw [if_pos c19] at H
                                have c19b0 : decide (0 ≤ x7_2) = true := decide_eq_true c19
                                clear c19
                                by_cases c20 : 0 ≤ (rd (rd_L7 l0 x6_1) x7_2)
                                · rw [if_pos c20] at H
                                  have c20b0 : decide (0 ≤ (rd (rd_L7 l0 x6_1) x7_2)) = true := decide_eq_true c20
                                  clear c20
                                  by_cases c21 : (rd (rd_L7 l0 x6_1) x7_2) < (x5_2.length : Int)
                                  · rw [if_pos c21] at H
                                    have c21b0 : decide ((rd (rd_L7 l0 x6_1) x7_2) < (x5_2.length : Int)) = true := decide_eq_true c21
                                    clear c21
                                    obtain ⟨y319, hy319⟩ : ∃ y_ : List Bool, y_ = (x5_2.set ((rd (rd_L7 l0 x6_1) x7_2) : Int).toNat true) := ⟨_, rfl⟩
                                    replace H : (belfrylaw09_come.l1 k2 l0 y319 x6_1 (wrap64 (x7_2 + 1))) = some r := by first | (rw [hy319]; with_reducible exact H) | (have H2_ := (Option.bind_some _ _).symm.trans H; rw [hy319]; with_reducible exact H2_) | (have H2_ := (Option.bind_some _ _).symm.trans H; with_reducible exact H2_) | with_reducible exact H | (rw [hy319]; exact H) | exact H
                                    have Ny319 := Aside0.mk hy319
                                    clear hy319
                                    have H' := Aside0.mk H
                                    clear H
                                    have p315 : 0 ≤ (x6_1 : Int) := of_decide_eq_true (by first | (with_reducible assumption) | assumption)
                                    have q315 : x6_1 < (x5_2.length : Int) := of_decide_eq_true (by first | (with_reducible assumption) | assumption)
                                    obtain ⟨ad315, e315, hx315_0⟩ := Kd.at_bool (Kd.R_reads' HO_5.out).2.2 x6_1 p315 q315
                                    (try rw [← Nbq15.out] at hx315_0)
                                    obtain rfl : (⟨go7, 0, none⟩ : Addr) = ad315 := (by injection e315)
                                    (first | simp only [add_plain] at hx315_0 | simp only [add_at] at hx315_0 | simp only [Addr.add, Nat.zero_add] at hx315_0 | skip)
                                    replace p315 := eq_true p315
                                    replace q315 := eq_true q315
                                    have p316 : 0 ≤ (x6_1 : Int) := of_decide_eq_true (by first | (with_reducible assumption) | assumption)
                                    have q316 : x6_1 < (l0.length : Int) := of_decide_eq_true (by first | (with_reducible assumption) | assumption)
                                    obtain ⟨ad316, A316_0, c316_0, e316, hx316_0, hl316_0, hi316_0⟩ := at_L7 HR0.out x6_1 p316 q316
                                    cases e316
                                    replace hx316_0 := (HB.out.cell (World.block_lt_of_cell? w _ hx316_0)).trans hx316_0
                                    have HR316_0 := Aside0.mk hi316_0
                                    have HC316_0 := Aside0.mk hl316_0
                                    clear hi316_0 hl316_0
                                    replace p316 := eq_true p316
                                    replace q316 := eq_true q316
                                    have p317 : 0 ≤ (x6_1 : Int) := of_decide_eq_true (by first | (with_reducible assumption) | assumption)
                                    have q317 : x6_1 < (l0.length : Int) := of_decide_eq_true (by first | (with_reducible assumption) | assumption)
                                    obtain ⟨ad317, A317_0, c317_0, e317, hx317_0, hl317_0, hi317_0⟩ := at_L7 HR0.out x6_1 p317 q317
                                    obtain rfl : ad316 = ad317 := (by injection e317)
                                    replace hx317_0 := (HB.out.cell (World.block_lt_of_cell? w _ hx317_0)).trans hx317_0
                                    have HR317_0 := Aside0.mk hi317_0
                                    have HC317_0 := Aside0.mk hl317_0
                                    clear hi317_0 hl317_0
                                    replace p317 := eq_true p317
                                    replace q317 := eq_true q317
                                    have ea_ := Option.some.inj (hx316_0.symm.trans hx317_0)
                                    injection ea_ with ea_ en_ ec_
                                    subst ea_
                                    subst ec_
                                    clear en_
                                    have p318 : 0 ≤ (x7_2 : Int) := of_decide_eq_true (by first | (with_reducible assumption) | assumption)
                                    have q318 : x7_2 < ((rd_L7 l0 x6_1).length : Int) := of_decide_eq_true (by first | (with_reducible assumption) | assumption)
                                    obtain ⟨ad318, e318, hx318_0⟩ := Kd.at_int HR317_0.out x7_2 p318 q318
                                    cases e318
                                    replace hx318_0 := (HB.out.cell (World.block_lt_of_cell? w _ hx318_0)).trans hx318_0
                                    replace p318 := eq_true p318
                                    replace q318 := eq_true q318
                                    have p22 : 0 ≤ ((rd (rd_L7 l0 x6_1) x7_2) : Int) := of_decide_eq_true (by first | (with_reducible assumption) | assumption)
                                    have q22 : ((rd (rd_L7 l0 x6_1) x7_2) : Int) < ((x5_2.length : Int) : Int) := of_decide_eq_true (by first | (with_reducible assumption) | assumption)
                                    obtain ⟨hx22_0, hf22_0⟩ := Kd.R_celln false HO_5.out ((rd (rd_L7 l0 x6_1) x7_2) : Int) p22 q22
                                    replace p22 := eq_true p22
                                    replace q22 := eq_true q22
                                    have HP23 := Kd.R_putg HO_5.out ((rd (rd_L7 l0 x6_1) x7_2) : Int) true
                                    go_wp2_with (first | ((with_reducible refine gate_store (t := 4) (p := 42) rfl ?_); refine store_event (t := 4) (p := 42) (v := ?vo_w24) (w1 := (wr.setCell ⟨go7, ((rd (rd_L7 l0 x6_1) x7_2) : Int).toNat, none⟩ (.bool true))) ?hg ?ho ?hn ?hr ?_; (case ho => rfl); (case hg => rfl); (case hn => rfl); (case hr => first | (go_simp; done) | (go_simp; rfl)); intro w24 hw; have hg : wr.grownBy w24 (some go7) := (by rw [hw]; exact HP23.2); have hp_ : Kd.R Kd.bool 4 w24 w.heap.size (fun _ => True) (.slice (some ⟨go7, 0, none⟩) x5_2.length co7) y319 := (by rw [hw, Ny319.out]; exact HP23.1); clear HP23; have n0_ := Aside0.mk (hp_); have n1_ := Aside0.mk ((by rw [hw]; exact below_set (HB.out) GB7.out : Below w.heap.size w w24)); clear HO_5; clear HB; have HO_5 := n0_; have HB := n1_; clear n0_ n1_; clear hg hw hp_))
                                    (try simp only [← hl5_2])
                                    go_roundg k2
                                    case measure => have := HK1.out; have := HK2.out; omega
                                    case rel => exact ⟨(y319), (wrap64 (x7_2 + 1)), (by first | rfl | (simp; done) | (simp [*]; done)), H', ⟨by have := HK1.out; have := HK2.out; omega⟩, ⟨by (try simp only [hl5_1]); (try simp only [hl5_2]); (with_reducible repeat (first | apply Kd.R_alloc | apply Kd.R_drewN | apply Kd.R_drew)); exact HO_5.out⟩, ⟨by repeat (first | (with_reducible first | exact HB.out | apply below_alloc | apply pw_below_drewN | apply below_drew1) | exact HB.out)⟩⟩
                                  · rw [if_neg c21] at H
                                    exact absurd H (by simp)
                                · rw [if_neg c20] at H
                                  exact absurd H (by simp)
                              · rw [if_neg c19] at H
                                exact absurd H (by simp)
                            · rw [if_neg c18] at H
                              have c18b0 : decide (x7_2 < ((rd_L7 l0 x6_1).length : Int)) = false := decide_eq_false c18
                              clear c18
                              have H' := Aside0.mk H
                              clear H
                              have p315 : 0 ≤ (x6_1 : Int) := of_decide_eq_true (by first | (with_reducible assumption) | assumption)
                              have q315 : x6_1 < (x5_2.length : Int) := of_decide_eq_true (by first | (with_reducible assumption) | assumption)
                              obtain ⟨ad315, e315, hx315_0⟩ := Kd.at_bool (Kd.R_reads' HO_5.out).2.2 x6_1 p315 q315
                              (try rw [← Nbq15.out] at hx315_0)
                              obtain rfl : (⟨go7, 0, none⟩ : Addr) = ad315 := (by injection e315)
                              (first | simp only [add_plain] at hx315_0 | simp only [add_at] at hx315_0 | simp only [Addr.add, Nat.zero_add] at hx315_0 | skip)
                              replace p315 := eq_true p315
                              replace q315 := eq_true q315
                              have p316 : 0 ≤ (x6_1 : Int) := of_decide_eq_true (by first | (with_reducible assumption) | assumption)
                              have q316 : x6_1 < (l0.length : Int) := of_decide_eq_true (by first | (with_reducible assumption) | assumption)
                              obtain ⟨ad316, A316_0, c316_0, e316, hx316_0, hl316_0, hi316_0⟩ := at_L7 HR0.out x6_1 p316 q316
                              cases e316
                              replace hx316_0 := (HB.out.cell (World.block_lt_of_cell? w _ hx316_0)).trans hx316_0
                              have HR316_0 := Aside0.mk hi316_0
                              have HC316_0 := Aside0.mk hl316_0
                              clear hi316_0 hl316_0
                              replace p316 := eq_true p316
                              replace q316 := eq_true q316
                              go_wp2
                              (try simp only [← hl5_1, ← hl5_2])
                              go_roundg k2
                              case measure => have := HK1.out; have := HK2.out; omega
                              case rel => exact ⟨(x5_2), (wrap64 (x6_1 - 1)), (by first | rfl | (simp; done) | (simp [*]; done)), H', ⟨by have := HK1.out; have := HK2.out; omega⟩, ⟨by (try simp only [hl5_1]); (try simp only [hl5_2]); (with_reducible repeat (first | apply Kd.R_alloc | apply Kd.R_drewN | apply Kd.R_drew)); exact HO_5.out⟩, ⟨by repeat (first | (with_reducible first | exact HB.out | apply below_alloc | apply pw_below_drewN | apply below_drew1) | exact HB.out)⟩⟩
                          · rw [if_neg c17] at H
                            exact absurd H (by simp)
                        · replace c16 := Bool.eq_false_iff.mpr c16
                          subst c16
                          have H1 : (belfrylaw09_come.l0 k2 l0 x5_2 (wrap64 (x6_1 - 1))) = some r := by rw [if_neg (show ¬ (false = true) by decide)] at H; exact H
                          clear H
                          have H := H1
                          clear H1
                          have H' := Aside0.mk H
                          clear H
                          have p315 : 0 ≤ (x6_1 : Int) := of_decide_eq_true (by first | (with_reducible assumption) | assumption)
                          have q315 : x6_1 < (x5_2.length : Int) := of_decide_eq_true (by first | (with_reducible assumption) | assumption)
                          obtain ⟨ad315, e315, hx315_0⟩ := Kd.at_bool (Kd.R_reads' HO_5.out).2.2 x6_1 p315 q315
                          (try rw [← Nbq15.out] at hx315_0)
                          obtain rfl : (⟨go7, 0, none⟩ : Addr) = ad315 := (by injection e315)
                          (first | simp only [add_plain] at hx315_0 | simp only [add_at] at hx315_0 | simp only [Addr.add, Nat.zero_add] at hx315_0 | skip)
                          replace p315 := eq_true p315
                          replace q315 := eq_true q315
                          go_wp2
                          (try simp only [← hl5_1, ← hl5_2])
                          go_roundg k2
                          case measure => have := HK1.out; have := HK2.out; omega
                          case rel => exact ⟨(x5_2), (wrap64 (x6_1 - 1)), (by first | rfl | (simp; done) | (simp [*]; done)), H', ⟨by have := HK1.out; have := HK2.out; omega⟩, ⟨by (try simp only [hl5_1]); (try simp only [hl5_2]); (with_reducible repeat (first | apply Kd.R_alloc | apply Kd.R_drewN | apply Kd.R_drew)); exact HO_5.out⟩, ⟨by repeat (first | (with_reducible first | exact HB.out | apply below_alloc | apply pw_below_drewN | apply below_drew1) | exact HB.out)⟩⟩
                      · rw [if_neg c14] at H
                        exact absurd H (by simp)
                    · rw [if_neg c13] at H
                      exact absurd H (by simp)
              · rw [if_neg c12] at H
                have c12b0 : decide (0 < x6_1) = false := decide_eq_false c12
                clear c12
                by_cases c25 : 0 < (x5_1.length : Int)
                · rw [if_pos c25] at H
                  have c25b0 : decide (0 < (x5_1.length : Int)) = true := decide_eq_true c25
                  have c25b1 : decide (0 < x5_1.length) = true := decide_eq_true (by omega)
                  clear c25
                  obtain rfl := Option.some.inj H
                  have p314 : 0 ≤ (0 : Int) := (by omega)
                  have q314 : 0 < (x5_1.length : Int) := of_decide_eq_true (by first | (with_reducible assumption) | assumption)
                  obtain ⟨ad314, e314, hx314_0⟩ := Kd.at_bool (Kd.R_reads' HO_5.out).2.2 0 p314 q314
                  obtain rfl : (⟨go7, 0, none⟩ : Addr) = ad314 := (by injection e314)
                  (first | simp only [add_plain] at hx314_0 | simp only [add_at] at hx314_0 | simp only [Addr.add, Nat.zero_add] at hx314_0 | skip)
                  have qi314 : (0 < x5_1.length) = True := eq_true (by omega)
                  (try rw [show ((0 : Int)).toNat = 0 from rfl] at hx314_0)
                  (try rw [Addr.add_zero'] at hx314_0)
                  replace p314 := eq_true p314
                  replace q314 := eq_true q314
                  go_wp2
                  go_ret
                  exact ⟨by first | rfl | (simp [errW_none, errW_some] <;> rfl) | (simp [*, errW_none, errW_some] <;> rfl), by repeat (first | (with_reducible first | exact HB.out | apply below_alloc | apply pw_below_drewN | apply below_drew1) | exact HB.out)⟩
                · rw [if_neg c25] at H
                  exact absurd H (by simp)
        · rw [if_neg c6] at H
          exact absurd H (by simp)
      · rw [if_neg c5] at H
        exact absurd H (by simp)
    · rw [if_neg c4] at H
      exact absurd H (by simp)
  · rw [if_neg c3] at H
    exact absurd H (by simp)

-- NOT PRINTED: function 4 (belfrylaw09_CirclesOrdered)

-- NOT PRINTED: function 5 (belfrylaw09_CirclesRing)

-- NOT PRINTED: function 6 (belfrylaw09_CirclesShort)

-- NOT PRINTED: function 29 (belfrylaw01_TwinIns)

-- in a group: function 83 (belfrylaw01_TwinExprs)

-- NOT PRINTED: function 64 (belfrylaw01_TwinExpr)

-- NOT PRINTED: function 52 (belfrylaw01_TwinFlow)

-- NOT PRINTED: function 30 (belfrylaw01_TwinFlows)

-- NOT PRINTED: function 31 (belfrylaw01_TwinTexts)

/-! ### belfrylaw01_TwinProg: function 19 -/
-- BY HAND: function 19 (belfrylaw01_TwinProg)

-- NOT PRINTED: function 7 (belfrylaw09_CirclesMore)

end Go.Proofs.Ytfkggeakjgphjaa.C

/- Circles of some shapes, in plain words. No program. -/
namespace Go.Proofs.Ytfkggeakjgphjaa.C
set_option linter.unusedVariables false
set_option linter.unusedSimpArgs false
open Go.Proofs.Circ
theorem find_one {l : List Nat} {p : Nat → Bool} {y : Nat} (h : ∀ z, z ∈ l ↔ z = y) (hp : p y = true) : l.find? p = some y := by
  cases hf : l.find? p with
  | none => exact absurd hp (by have := List.find?_eq_none.1 hf y ((h y).2 rfl); simpa using this)
  | some z => rw [(h z).1 (List.mem_of_find?_eq_some hf)]
theorem path_chain {all : Nat → List Nat} {f : Nat → Nat} : ∀ (n : Nat) (s : Nat → Nat), (∀ j, j < n → (∀ z, z ∈ all (s j) ↔ z = s (j + 1)) ∧ f (s (j + 1)) = n - j) → path all f n (s 0) = (List.range n).map fun j => s (j + 1)
  | 0, s, h => by simp [path]
  | n + 1, s, h => by
    have h0 := h 0 (by omega)
    rw [path, find_one h0.1 (by rw [h0.2]; simp)]
    dsimp only
    rw [path_chain n (fun j => s (j + 1)) (fun j hj => by
      have := h (j + 1) (by omega)
      exact ⟨this.1, by rw [this.2]; omega⟩)]
    rw [List.range_succ_eq_map, List.map_cons, List.map_map]
    rfl
/-- the shapes. -/
theorem circ_short {all : Nat → List Nat} {K a : Nat} (ha : a + 1 < K) (h0 : ∀ x, x ∈ all 0 ↔ x = 1) (h1 : ∀ i, i < K → ∀ x, x ∈ all (1 + i) ↔ x = 1 + (i + 1) % K ∨ (i = a ∧ x = 1)) (hout : ∀ x, K + 1 ≤ x → all x = []) :
    circ all (K + 1) = (List.range (a + 1)).map fun i => 1 + i := by
  have hin : ∀ x y, y ∈ all x → y < K + 1 := by
    intro x y hy
    rcases Nat.eq_zero_or_pos x with rfl | hx
    · rw [h0] at hy; omega
    · rcases Nat.lt_or_ge x (K + 1) with hlt | hge
      · rw [show x = 1 + (x - 1) by omega] at hy
        rcases (h1 _ (by omega) y).1 hy with rfl | ⟨_, rfl⟩
        · have := Nat.mod_lt (x - 1 + 1) (show 0 < K by omega); omega
        · omega
      · rw [hout x hge] at hy; simp at hy
  have hno : ∀ n x, ¬ Wk all 0 (n + 1) x := by
    intro n
    induction n with
    | zero =>
      rintro x ⟨y, hy, rfl⟩
      rcases Nat.eq_zero_or_pos x with rfl | hx
      · rw [h0] at hy; omega
      · rcases Nat.lt_or_ge x (K + 1) with hlt | hge
        · rw [show x = 1 + (x - 1) by omega] at hy
          rcases (h1 _ (by omega) _).1 hy with e | ⟨_, e⟩ <;> omega
        · rw [hout x hge] at hy; simp at hy
    | succ n ih =>
      rintro x ⟨y, hy, hw⟩
      exact ih y hw
  have hf0 : far all (K + 1) 0 0 = 0 := (far_zero hin 0 (by omega)).2 (fun n hn hw => by
    obtain ⟨m, rfl⟩ : ∃ m, n = m + 1 := ⟨n - 1, by omega⟩
    exact hno m 0 hw)
  -- how far from the first of the circle
  have hup : ∀ n x, x + n = a → Wk all 1 (n + 1) (1 + x) := by
    intro n
    induction n with
    | zero => intro x hx; exact ⟨1, (h1 x (by omega) 1).2 (.inr ⟨by omega, rfl⟩), rfl⟩
    | succ n ih =>
      intro x hx
      refine ⟨1 + (x + 1), (h1 x (by omega) _).2 (.inl (by rw [Nat.mod_eq_of_lt (by omega)])), ih (x + 1) (by omega)⟩
  have hlo : ∀ m x, x < K → Wk all 1 (m + 1) (1 + x) → (if x ≤ a then a + 1 - x else K - x) ≤ m + 1 := by
    intro m
    induction m with
    | zero =>
      rintro x hx ⟨y, hy, rfl⟩
      rcases (h1 x hx 1).1 hy with e | ⟨rfl, _⟩
      · have : (x + 1) % K = 0 := by omega
        have : x + 1 = K := by
          rcases Nat.lt_or_ge (x + 1) K with h | h
          · rw [Nat.mod_eq_of_lt h] at this; omega
          · omega
        split <;> omega
      · split <;> omega
    | succ m ih =>
      rintro x hx ⟨y, hy, hw⟩
      rcases (h1 x hx y).1 hy with rfl | ⟨rfl, rfl⟩
      · have hlt := Nat.mod_lt (x + 1) (show 0 < K by omega)
        have h2 := ih _ hlt hw
        rcases Nat.lt_or_ge (x + 1) K with h | h
        · rw [Nat.mod_eq_of_lt h] at h2
          split <;> (split at h2 <;> omega)
        · split <;> omega
      · split <;> omega
  have hfar : ∀ x, x ≤ a → far all (K + 1) 1 (1 + x) = a + 1 - x := by
    intro x hx
    rw [far_pos hin _ _ (by omega)]
    refine ⟨by omega, ?_, fun m hm1 hm2 hw => ?_⟩
    · have := hup (a - x) x (by omega)
      rwa [show a - x + 1 = a + 1 - x by omega] at this
    · obtain ⟨k, rfl⟩ : ∃ k, m = k + 1 := ⟨m - 1, by omega⟩
      have := hlo k x (by omega) hw
      rw [if_pos hx] at this
      omega
  have hf1 : far all (K + 1) 1 1 = a + 1 := hfar 0 (by omega)
  rw [circ_some (f := 1) (by omega) (fun g hg => by rw [show g = 0 by omega]; exact hf0) (by rw [hf1]; omega), hf1]
  rw [show a + 1 - 1 = a by omega]
  have := path_chain (all := all) (f := far all (K + 1) 1) a (fun j => 1 + j) (fun j hj => by
    refine ⟨fun z => ?_, ?_⟩
    · rw [h1 j (by omega)]
      rw [Nat.mod_eq_of_lt (by omega)]
      constructor
      · rintro (h | ⟨h, _⟩)
        · exact h
        · omega
      · exact .inl
    · rw [hfar (j + 1) (by omega)]; omega)
  rw [show (1 : Nat) = 1 + 0 from rfl, this, List.range_succ_eq_map, List.map_cons, List.map_map]
  rfl
theorem circ_ring {all : Nat → List Nat} {n : Nat} (hn : 0 < n) (h1 : ∀ i, i < n → ∀ x, x ∈ all i ↔ x = (i + 1) % n) (hout : ∀ x, n ≤ x → all x = []) : circ all n = List.range n := by
  have hin : ∀ x y, y ∈ all x → y < n := by
    intro x y hy
    rcases Nat.lt_or_ge x n with hlt | hge
    · rw [h1 x hlt] at hy; rw [hy]; exact Nat.mod_lt _ hn
    · rw [hout x hge] at hy; simp at hy
  have hup : ∀ m x, x + m = n - 1 → Wk all 0 (m + 1) x := by
    intro m
    induction m with
    | zero => intro x hx; exact ⟨0, (h1 x (by omega) 0).2 (by rw [show x + 1 = n by omega, Nat.mod_self]), rfl⟩
    | succ m ih => intro x hx; exact ⟨x + 1, (h1 x (by omega) _).2 (by rw [Nat.mod_eq_of_lt (by omega)]), ih (x + 1) (by omega)⟩
  have hlo : ∀ m x, x < n → Wk all 0 (m + 1) x → n - x ≤ m + 1 := by
    intro m
    induction m with
    | zero =>
      rintro x hx ⟨y, hy, rfl⟩
      rw [h1 x hx] at hy
      rcases Nat.lt_or_ge (x + 1) n with h | h
      · rw [Nat.mod_eq_of_lt h] at hy; omega
      · omega
    | succ m ih =>
      rintro x hx ⟨y, hy, hw⟩
      rw [h1 x hx] at hy
      rcases Nat.lt_or_ge (x + 1) n with h | h
      · rw [Nat.mod_eq_of_lt h] at hy
        subst hy
        have := ih (x + 1) h hw
        omega
      · omega
  have hfar : ∀ x, x < n → far all n 0 x = n - x := by
    intro x hx
    rw [far_pos hin _ _ (by omega)]
    refine ⟨hx, ?_, fun m hm1 hm2 hw => ?_⟩
    · have := hup (n - 1 - x) x (by omega)
      rwa [show n - 1 - x + 1 = n - x by omega] at this
    · obtain ⟨k, rfl⟩ : ∃ k, m = k + 1 := ⟨m - 1, by omega⟩
      have := hlo k x hx hw
      omega
  have hf0 : far all n 0 0 = n := by rw [hfar 0 hn]; rfl
  rw [circ_some (f := 0) hn (fun g hg => by omega) (by rw [hf0]; omega), hf0]
  have := path_chain (all := all) (f := far all n 0) (n - 1) (fun j => j) (fun j hj => by
    refine ⟨fun z => ?_, ?_⟩
    · rw [h1 j (by omega), Nat.mod_eq_of_lt (by omega)]
    · rw [hfar (j + 1) (by omega)]; omega)
  rw [this]
  obtain ⟨m, rfl⟩ : ∃ m, n = m + 1 := ⟨n - 1, by omega⟩
  rw [List.range_succ_eq_map]
  rfl
/-- no circle where nothing comes back to itself; and the other way. -/
theorem circ_nil_iff {all : Nat → List Nat} {n : Nat} (hin : ∀ x y, y ∈ all x → y < n) : circ all n = [] ↔ ∀ f, f < n → ∀ m, 1 ≤ m → ¬ Wk all f m f := by
  constructor
  · intro h f hf m hm hw
    have hz : ∀ g, g < n → far all n g g = 0 := by
      apply Classical.byContradiction
      intro hc
      unfold circ at h
      cases hfi : (List.range n).find? (fun f => far all n f f != 0) with
      | none =>
        refine hc (fun g hg => ?_)
        have := List.find?_eq_none.1 hfi g (List.mem_range.2 hg)
        simpa using this
      | some g => rw [hfi] at h; simp at h
    exact (far_zero hin f hf).1 (hz f hf) m hm hw
  · intro h
    exact circ_none (fun f hf => (far_zero hin f hf).2 (h f hf))
end Go.Proofs.Ytfkggeakjgphjaa.C

/- Circles of flows whose needs go down, and of those with one need more: plain words. No program. -/
namespace Go.Proofs.Ytfkggeakjgphjaa.C
set_option linter.unusedVariables false
set_option linter.unusedSimpArgs false
open Go.Proofs.Circ
theorem wk_down {all : Nat → List Nat} (hd : ∀ x y, y ∈ all x → y < x) : ∀ (m t x : Nat), 1 ≤ m → Wk all t m x → t < x
  | 0, t, x, h, _ => absurd h (by omega)
  | m + 1, t, x, _, hw => by
    obtain ⟨y, hy, hw⟩ := hw
    have h1 := hd x y hy
    cases m with
    | zero => have e : y = t := hw; omega
    | succ m => have := wk_down hd (m + 1) t y (by omega) hw; omega
theorem down_nil {all : Nat → List Nat} {n : Nat} (hin : ∀ x y, y ∈ all x → y < n) (hd : ∀ x y, y ∈ all x → y < x) : circ all n = [] :=
  (circ_nil_iff hin).2 (fun f hf m hm hw => by have := wk_down hd m f f hm hw; omega)
/-- one need more, of the first one. -/
theorem more_circ {all all' : Nat → List Nat} {n last : Nat} (hn : 0 < n) (hin : ∀ x y, y ∈ all' x → y < n) (hd : ∀ x y, y ∈ all x → y < x) (h0 : ∀ y, y ∈ all' 0 ↔ y = last) (h1 : ∀ x y, 0 < x → (y ∈ all' x ↔ y ∈ all x)) :
    circ all' n ≠ [] ↔ ∃ m, Wk all 0 m last := by
  have A : ∀ m x, Wk all' 0 m x → ∃ k, Wk all 0 k x := by
    intro m
    induction m with
    | zero => intro x h; exact ⟨0, h⟩
    | succ m ih =>
      rintro x ⟨y, hy, hw⟩
      rcases Nat.eq_zero_or_pos x with rfl | hx
      · exact ⟨0, rfl⟩
      · obtain ⟨k, hk⟩ := ih y hw
        exact ⟨k + 1, y, (h1 x y hx).1 hy, hk⟩
  have B : ∀ m t x, 1 ≤ m → ¬ t < x → Wk all' t m x → ∃ k, k < m ∧ Wk all' 0 k x ∧ Wk all' t (m - k) 0 := by
    intro m
    induction m with
    | zero => intro t x h; omega
    | succ m ih =>
      rintro t x _ htx ⟨y, hy, hw⟩
      rcases Nat.eq_zero_or_pos x with rfl | hx
      · exact ⟨0, by omega, rfl, y, hy, hw⟩
      · have hyx := hd x y ((h1 x y hx).1 hy)
        cases m with
        | zero => have e : y = t := hw; omega
        | succ m =>
          obtain ⟨k, k1, k2, k3⟩ := ih t y (by omega) (by omega) hw
          exact ⟨k + 1, by omega, ⟨y, hy, k2⟩, by rw [show m + 1 + 1 - (k + 1) = m + 1 - k by omega]; exact k3⟩
  constructor
  · intro hne
    apply Classical.byContradiction
    intro hno
    refine hne ((circ_nil_iff hin).2 (fun f hf m hm hw => hno ?_))
    obtain ⟨k, k1, k2, k3⟩ := B m f f hm (by omega) hw
    obtain ⟨j, hj⟩ : ∃ j, m - k = j + 1 := ⟨m - k - 1, by omega⟩
    rw [hj] at k3
    obtain ⟨y, hy, k3⟩ := k3
    rw [(h0 y).1 hy] at k3
    exact A _ _ (wk_add k3 k2)
  · rintro ⟨m, hw⟩ hnil
    have C : ∀ m x, Wk all 0 m x → Wk all' 0 m x := by
      intro m
      induction m with
      | zero => intro x h; exact h
      | succ m ih =>
        rintro x ⟨y, hy, hw⟩
        have hx : 0 < x := by have := hd x y hy; omega
        exact ⟨y, (h1 x y hx).2 hy, ih y hw⟩
    exact (circ_nil_iff hin).1 hnil 0 hn (m + 1) (by omega) ⟨last, (h0 last).2 rfl, C m last hw⟩
/-- a walk's last step. -/
theorem wk_last {all : Nat → List Nat} {t : Nat} : ∀ (m x : Nat), Wk all t (m + 1) x → ∃ z, Wk all z m x ∧ t ∈ all z
  | 0, x, ⟨y, hy, hw⟩ => by
    obtain rfl : y = t := hw
    exact ⟨x, rfl, hy⟩
  | m + 1, x, ⟨y, hy, hw⟩ => by
    obtain ⟨z, h1, h2⟩ := wk_last m y hw
    exact ⟨z, ⟨y, hy, h1⟩, h2⟩
end Go.Proofs.Ytfkggeakjgphjaa.C

/- come: what it answers, in plain words. -/
namespace Go.Proofs.Ytfkggeakjgphjaa.C
set_option linter.unusedVariables false
set_option linter.unusedSimpArgs false
open Go.RowKit Go.Shelf Go.Proofs.YtfkggeakjgphjaaW.PrintWords Go.Proofs.YtfkggeakjgphjaaW.PrintLast Go.Proofs.YtfkggeakjgphjaaW.PrintMore
open Go.Proofs.Circ
def marksB (s : List Bool) (l : List Int) : List Bool := l.foldl (fun s e => s.set e.toNat true) s
theorem marksB_len : ∀ (l : List Int) (s : List Bool), (marksB s l).length = s.length
  | [], s => rfl
  | e :: l, s => by show (marksB (s.set e.toNat true) l).length = _; rw [marksB_len l]; simp
theorem marksB_at : ∀ (l : List Int) (s : List Bool) (j : Nat), (marksB s l).getD j false = (s.getD j false || decide (j < s.length ∧ ∃ e ∈ l, e.toNat = j))
  | [], s, j => by simp [marksB]
  | e :: l, s, j => by
    show (marksB (s.set e.toNat true) l).getD j false = _
    rw [marksB_at l]
    by_cases h : e.toNat = j
    · subst h
      by_cases hl : e.toNat < s.length
      · simp [List.getD_eq_getElem?_getD, hl]
      · simp [List.getD_eq_getElem?_getD, hl]
    · simp [List.getD_eq_getElem?_getD, List.getElem?_set, h]
def finB (a : List (List Int)) : Nat → List Bool → Bool
  | 0, s => s.getD 0 false
  | i + 1, s => finB a i (if s.getD (i + 1) false = true then marksB s (a.getD (i + 1) []) else s)
theorem come_l1 {a : List (List Int)} {n i : Nat} (hn : n = a.length) (h64 : n ≤ 64) (hi : i < n) (hlen : (a.getD i []).length ≤ 1000) (hrow : ∀ e ∈ a.getD i [], 0 ≤ e ∧ e < (i : Int)) (r : Bool) : ∀ (d j : Nat) (s : List Bool), j + d = (a.getD i []).length → s.length = n →
    (s.getD i false = true → Ev (fun k => belfrylaw09_come.l0 k a (marksB s ((a.getD i []).drop j)) ((i : Int) - 1)) r) → (s.getD i false = false → Ev (fun k => belfrylaw09_come.l0 k a s ((i : Int) - 1)) r) → Ev (fun k => belfrylaw09_come.l1 k a s i j) r := by
  intro d
  have hrd : rd_L7 a (i : Int) = a.getD i [] := by unfold rd_L7; rw [Int.toNat_natCast]
  have hw1 : wrap64 ((i : Int) - 1) = (i : Int) - 1 := w64 (by omega) (by omega)
  induction d with
  | zero =>
    intro j s hj hs h1 h2
    have hr : rdOf false s (i : Int) = s.getD i false := by unfold rdOf; rw [Int.toNat_natCast]
    cases hb : s.getD i false with
    | true =>
      have := h1 hb
      rw [List.drop_eq_nil_of_le (by omega)] at this
      refine Ev.step (fun k => ?_) this
      simp only [belfrylaw09_come.l1]
      rw [hrd, hr, hb, if_pos (by omega), if_pos (by omega), if_pos rfl, if_pos (by omega), if_neg (by omega), hw1]
      rfl
    | false =>
      refine Ev.step (fun k => ?_) (h2 hb)
      simp only [belfrylaw09_come.l1]
      rw [hr, hb, if_pos (by omega), if_pos (by omega), if_neg (by simp), hw1]
  | succ d ih =>
    intro j s hj hs h1 h2
    have hr : rdOf false s (i : Int) = s.getD i false := by unfold rdOf; rw [Int.toNat_natCast]
    cases hb : s.getD i false with
    | true =>
      have hlt : j < (a.getD i []).length := by omega
      have he := hrow _ (rd_mem hlt)
      have h3 := h1 hb
      rw [drop_cons hlt] at h3
      have hkeep : (s.set (rd (a.getD i []) j).toNat true).getD i false = true := by
        rw [List.getD_eq_getElem?_getD, List.getElem?_set_ne (by omega), ← List.getD_eq_getElem?_getD]; exact hb
      refine Ev.step (fun k => ?_) (ih (j + 1) (s.set (rd (a.getD i []) j).toNat true) (by omega) (by simpa using hs) (fun _ => h3) (fun h => by rw [hkeep] at h; cases h))
      simp only [belfrylaw09_come.l1]
      rw [hrd, hr, hb, if_pos (by omega), if_pos (by omega), if_pos rfl, if_pos (by omega), if_pos (by omega), if_pos (by omega), if_pos (by omega), if_pos (by omega), w64 (by omega) (by omega), show ((j : Int) + 1) = ((j + 1 : Nat) : Int) by omega]
    | false =>
      refine Ev.step (fun k => ?_) (h2 hb)
      simp only [belfrylaw09_come.l1]
      rw [hr, hb, if_pos (by omega), if_pos (by omega), if_neg (by simp), hw1]
theorem come_l0 {a : List (List Int)} {n : Nat} (hn : n = a.length) (h64 : n ≤ 64) (h1 : 1 ≤ n) (hrow : ∀ i, 0 < i → (a.getD i []).length ≤ 1000 ∧ ∀ e ∈ a.getD i [], 0 ≤ e ∧ e < (i : Int)) : ∀ (i : Nat) (s : List Bool), i < n → s.length = n → Ev (fun k => belfrylaw09_come.l0 k a s i) (finB a i s)
  | 0, s, hi, hs => by
    refine Ev.step (fun k => ?_) (Ev.now _)
    simp only [belfrylaw09_come.l0]
    rw [if_neg (by omega), if_pos (by omega)]
    rfl
  | i + 1, s, hi, hs => by
    have hr := hrow (i + 1) (by omega)
    have e1 : (((i + 1 : Nat) : Int) - 1) = (i : Int) := by omega
    refine Ev.step (fun k => ?_) (come_l1 hn h64 hi hr.1 hr.2 (finB a (i + 1) s) (a.getD (i + 1) []).length 0 s (by omega) hs (fun hb => ?_) (fun hb => ?_))
    · simp only [belfrylaw09_come.l0]
      rw [if_pos (by omega)]
      rfl
    · rw [e1, List.drop_zero]
      unfold finB
      rw [if_pos hb]
      exact come_l0 hn h64 h1 hrow i _ (by omega) (by rw [marksB_len]; exact hs)
    · rw [e1]
      unfold finB
      rw [hb, if_neg (by simp)]
      exact come_l0 hn h64 h1 hrow i _ (by omega) hs
theorem finB_iff {a : List (List Int)} {n last : Nat} {all : Nat → List Nat} (hlast : last < n) (hd : ∀ x y, y ∈ all x → y < x) (hall : ∀ x y, y ∈ all x ↔ 0 < x ∧ ∃ e ∈ a.getD x [], e.toNat = y) : ∀ (i : Nat) (s : List Bool), i ≤ last → s.length = n →
    (∀ j, s.getD j false = true → ∃ m, Wk all j m last) → (∀ j, (∃ m, Wk all j m last) → i ≤ j → s.getD j false = true) → (∀ x, i < x → (∃ m, Wk all x m last) → ∀ y, y ∈ all x → s.getD y false = true) → (finB a i s = true ↔ ∃ m, Wk all 0 m last)
  | 0, s, _, _, i1, i2, _ => ⟨fun h => i1 0 h, fun h => i2 0 h (Nat.le_refl _)⟩
  | i + 1, s, hi, hs, i1, i2, i3 => by
    have hT : ∀ j, (∃ m, Wk all j m last) → j ≤ last := fun j ⟨m, hm⟩ => by
      cases m with
      | zero => have e : last = j := hm; omega
      | succ m => have := wk_down hd (m + 1) j last (by omega) hm; omega
    have hstep : ∀ x y, (∃ m, Wk all x m last) → y ∈ all x → ∃ m, Wk all y m last := fun x y ⟨m, hm⟩ hy => ⟨m + 1, wk_add hm ⟨y, hy, rfl⟩⟩
    -- one that is come to at i has one ahead of it
    have hpre : (∃ m, Wk all i m last) → ∃ z, i < z ∧ (∃ m, Wk all z m last) ∧ i ∈ all z := fun ⟨m, hm⟩ => by
      cases m with
      | zero => have e : last = i := hm; omega
      | succ m =>
        obtain ⟨z, h1, h2⟩ := wk_last m last hm
        exact ⟨z, hd z i h2, ⟨m, h1⟩, h2⟩
    unfold finB
    cases hb : s.getD (i + 1) false with
    | true =>
      rw [if_pos rfl]
      have hTi := i1 _ hb
      have hmark : ∀ y, y ∈ all (i + 1) → (marksB s (a.getD (i + 1) [])).getD y false = true := fun y hy => by
        rw [marksB_at]
        have h1 := hd _ _ hy
        have h2 := ((hall (i + 1) y).1 hy).2
        rw [decide_eq_true ⟨by omega, h2⟩, Bool.or_true]
      have hold : ∀ y, s.getD y false = true → (marksB s (a.getD (i + 1) [])).getD y false = true := fun y hy => by rw [marksB_at, hy, Bool.true_or]
      refine finB_iff hlast hd hall i _ (by omega) (by rw [marksB_len]; exact hs) (fun j hj => ?_) (fun j hj hij => ?_) (fun x hx hTx y hy => ?_)
      · rw [marksB_at, Bool.or_eq_true] at hj
        rcases hj with hj | hj
        · exact i1 j hj
        · exact hstep (i + 1) j hTi ((hall _ _).2 ⟨by omega, (of_decide_eq_true hj).2⟩)
      · rcases Nat.lt_or_ge i j with h | h
        · exact hold j (i2 j hj (by omega))
        · obtain rfl : j = i := by omega
          obtain ⟨z, hz, hTz, hiz⟩ := hpre hj
          rcases Nat.lt_or_ge (j + 1) z with h2 | h2
          · exact hold j (i3 z h2 hTz j hiz)
          · rw [show z = j + 1 by omega] at hiz
            exact hmark j hiz
      · rcases Nat.lt_or_ge (i + 1) x with h2 | h2
        · exact hold y (i3 x h2 hTx y hy)
        · rw [show x = i + 1 by omega] at hy
          exact hmark y hy
    | false =>
      rw [if_neg (by simp)]
      have hno : ¬ ∃ m, Wk all (i + 1) m last := fun h => by have := i2 _ h (Nat.le_refl _); rw [hb] at this; cases this
      refine finB_iff hlast hd hall i s (by omega) hs i1 (fun j hj hij => ?_) (fun x hx hTx y hy => ?_)
      · rcases Nat.lt_or_ge i j with h | h
        · exact i2 j hj (by omega)
        · obtain rfl : j = i := by omega
          obtain ⟨z, hz, hTz, hiz⟩ := hpre hj
          rcases Nat.lt_or_ge (j + 1) z with h2 | h2
          · exact i3 z h2 hTz j hiz
          · rw [show z = j + 1 by omega] at hTz
            exact absurd hTz hno
      · rcases Nat.lt_or_ge (i + 1) x with h2 | h2
        · exact i3 x h2 hTx y hy
        · rw [show x = i + 1 by omega] at hTx
          exact absurd hTx hno
open Classical in
/-- come: is the first one come to? -/
theorem come_ev {a : List (List Int)} {n last : Nat} {all : Nat → List Nat} (hn : n = a.length) (h64 : n ≤ 64) (hlast : last < n) (hrow : ∀ i, 0 < i → (a.getD i []).length ≤ 1000 ∧ ∀ e ∈ a.getD i [], 0 ≤ e ∧ e < (i : Int))
    (hall : ∀ x y, y ∈ all x ↔ 0 < x ∧ ∃ e ∈ a.getD x [], e.toNat = y) : Ev (fun k => belfrylaw09_come.f k a (last : Int)) (decide (∃ m, Wk all 0 m last)) := by
  have hd : ∀ x y, y ∈ all x → y < x := fun x y hy => by
    obtain ⟨hx, e, he, rfl⟩ := (hall x y).1 hy
    have := (hrow x hx).2 e he
    omega
  have hT : ∀ j, (∃ m, Wk all j m last) → j ≤ last := fun j ⟨m, hm⟩ => by
    cases m with
    | zero => have e : last = j := hm; omega
    | succ m => have := wk_down hd (m + 1) j last (by omega) hm; omega
  obtain ⟨s0, hs0⟩ : ∃ s0 : List Bool, s0 = (List.replicate n false).set last true := ⟨_, rfl⟩
  have hsl : s0.length = n := by rw [hs0]; simp
  have hat : ∀ j, s0.getD j false = decide (j = last) := fun j => by
    rw [hs0, List.getD_eq_getElem?_getD, List.getElem?_set]
    by_cases h : last = j
    · subst h; simp [hlast]
    · rw [if_neg h]
      by_cases hj : j < n
      · simp [hj, Ne.symm h]
      · simp [hj, Ne.symm h]
  have hf := finB_iff (a := a) hlast hd hall last s0 (Nat.le_refl _) hsl (fun j hj => by rw [hat] at hj; have := of_decide_eq_true hj; subst this; exact ⟨0, rfl⟩)
    (fun j hj hle => by rw [hat]; have := hT j hj; exact decide_eq_true (by omega)) (fun x hx hTx => by have := hT x hTx; omega)
  have hv : finB a last s0 = decide (∃ m, Wk all 0 m last) := by
    rw [Bool.eq_iff_iff, hf, decide_eq_true_iff]
  rw [← hv]
  refine Ev.congr (fun k => ?_) (come_l0 hn h64 (by omega) hrow last s0 hlast hsl)
  unfold belfrylaw09_come.f
  rw [if_pos (by omega), if_pos (by omega), Option.bind_some, if_pos (by omega), if_pos (by simp; omega), hs0, ← hn]
  simp
end Go.Proofs.Ytfkggeakjgphjaa.C

/- CirclesOrdered: the rows in plain words. -/
namespace Go.Proofs.Ytfkggeakjgphjaa.C
set_option linter.unusedVariables false
set_option linter.unusedSimpArgs false
set_option linter.unusedSectionVars false
open Go.RowKit Go.Shelf Go.Proofs.YtfkggeakjgphjaaW.PrintWords Go.Proofs.YtfkggeakjgphjaaW.PrintLast Go.Proofs.YtfkggeakjgphjaaW.PrintMore
open Go.Proofs.RngT Go.Proofs.Circ
theorem rowO_mem {now : List (List Int)} (hb : ∀ r ∈ now, ∀ x ∈ r, 0 ≤ x ∧ x ≤ 255) (i : Nat) : (rowO now i).length ≤ 10 ∧ ∀ e ∈ rowO now i, 0 < i ∧ 0 ≤ e ∧ e < (i : Int) := by
  unfold rowO
  split
  · simp
  · rename_i hi
    refine ⟨by simp; omega, fun e he => ?_⟩
    obtain ⟨x, hx, rfl⟩ := List.mem_map.1 he
    have hx2 := List.mem_of_mem_take hx
    have h0 : 0 ≤ x := by
      unfold rdB at hx2
      by_cases hl : i < now.length
      · rw [List.getD_eq_getElem?_getD, List.getElem?_eq_getElem hl] at hx2
        exact (hb _ (List.getElem_mem hl) x hx2).1
      · rw [List.getD_eq_getElem?_getD, List.getElem?_eq_none (by omega)] at hx2; simp at hx2
    refine ⟨by omega, ?_, ?_⟩
    · have hp : (i : Int) ≠ 0 := by omega
      rw [Int.tmod_eq_emod_of_nonneg h0]; exact Int.emod_nonneg _ hp
    · have hp : 0 < (i : Int) := by omega
      rw [Int.tmod_eq_emod_of_nonneg h0]; exact Int.emod_lt_of_pos _ hp
theorem oldO_mem {now ago : List (List Int)} (hb : ∀ r ∈ ago, ∀ x ∈ r, 0 ≤ x ∧ x ≤ 255) (hn : 1 ≤ now.length) (i : Nat) : (oldO now ago i).length ≤ 10 ∧ ∀ e ∈ oldO now ago i, 0 ≤ e ∧ e < (now.length : Int) := by
  unfold oldO
  refine ⟨by simp; omega, fun e he => ?_⟩
  obtain ⟨x, hx, rfl⟩ := List.mem_map.1 he
  have hx2 := List.mem_of_mem_take hx
  have h0 : 0 ≤ x := by
    unfold rdB at hx2
    by_cases hl : i < ago.length
    · rw [List.getD_eq_getElem?_getD, List.getElem?_eq_getElem hl] at hx2
      exact (hb _ (List.getElem_mem hl) x hx2).1
    · rw [List.getD_eq_getElem?_getD, List.getElem?_eq_none (by omega)] at hx2; simp at hx2
  rw [Int.tmod_eq_emod_of_nonneg h0]
  exact ⟨Int.emod_nonneg _ (by omega), Int.emod_lt_of_pos _ (by omega)⟩
theorem rowsO_at (now : List (List Int)) (n i : Nat) : (rowsO now n).getD i [] = if i < n then rowO now i else [] := by unfold rowsO; exact getD_map' _ _ _ _
theorem rowsO_in {now : List (List Int)} (hb : ∀ r ∈ now, ∀ x ∈ r, 0 ≤ x ∧ x ≤ 255) (h60 : now.length ≤ 60) : RowsIn now.length (rowsO now now.length) := by
  refine rowsIn_of _ _ (by omega) (by simp [rowsO]) (fun l hl => ?_)
  obtain ⟨i, hi, rfl⟩ := List.mem_map.1 hl
  have hi := List.mem_range.1 hi
  have := rowO_mem hb i
  exact ⟨this.1, fun x hx => by have := this.2 x hx; omega⟩
theorem oldsO_in {now ago : List (List Int)} (hb : ∀ r ∈ ago, ∀ x ∈ r, 0 ≤ x ∧ x ≤ 255) (h60 : now.length ≤ 60) (h1 : 1 ≤ now.length) : RowsIn now.length (oldsO now ago now.length) := by
  refine rowsIn_of _ _ (by omega) (by simp [oldsO]) (fun l hl => ?_)
  obtain ⟨i, hi, rfl⟩ := List.mem_map.1 hl
  exact oldO_mem hb h1 i
def allO (now ago : List (List Int)) : Nat → List Nat := allN (needR [] (ofF (rowsO now now.length) (oldsO now ago now.length)))
theorem allO_iff {now ago : List (List Int)} (hb : ∀ r ∈ now, ∀ x ∈ r, 0 ≤ x ∧ x ≤ 255) (hb' : ∀ r ∈ ago, ∀ x ∈ r, 0 ≤ x ∧ x ≤ 255) (h60 : now.length ≤ 60) (h1 : 1 ≤ now.length) (x y : Nat) :
    y ∈ allO now ago x ↔ 0 < x ∧ ∃ e ∈ (rowsO now now.length).getD x [], e.toNat = y := by
  unfold allO
  rw [allOf (rowsO_in hb h60) (oldsO_in hb' h60 h1) (by simp [rowsO]), rowsO_at]
  constructor
  · intro h
    split at h
    · rename_i hx
      have := (rowO_mem hb x).2 _ h
      exact ⟨this.1, _, by rw [if_pos hx]; exact h, by simp⟩
    · simp at h
  · rintro ⟨hx, e, he, rfl⟩
    split at he
    · rename_i hl
      have := (rowO_mem hb x).2 _ he
      rw [if_pos hl, Int.toNat_of_nonneg this.2.1]; exact he
    · simp at he
theorem allO_down {now ago : List (List Int)} (hb : ∀ r ∈ now, ∀ x ∈ r, 0 ≤ x ∧ x ≤ 255) (hb' : ∀ r ∈ ago, ∀ x ∈ r, 0 ≤ x ∧ x ≤ 255) (h60 : now.length ≤ 60) (h1 : 1 ≤ now.length) (x y : Nat) (h : y ∈ allO now ago x) : y < x := by
  obtain ⟨hx, e, he, rfl⟩ := (allO_iff hb hb' h60 h1 x y).1 h
  rw [rowsO_at] at he
  split at he
  · have := (rowO_mem hb x).2 e he; omega
  · simp at he
theorem allO_in {now ago : List (List Int)} (hb : ∀ r ∈ now, ∀ x ∈ r, 0 ≤ x ∧ x ≤ 255) (hb' : ∀ r ∈ ago, ∀ x ∈ r, 0 ≤ x ∧ x ≤ 255) (h60 : now.length ≤ 60) (h1 : 1 ≤ now.length) (x y : Nat) (h : y ∈ allO now ago x) : y < now.length := by
  obtain ⟨hx, e, he, rfl⟩ := (allO_iff hb hb' h60 h1 x y).1 h
  rw [rowsO_at] at he
  split at he
  · have := (rowO_mem hb x).2 e he; omega
  · simp at he
theorem ordNil {now ago : List (List Int)} (hb : ∀ r ∈ now, ∀ x ∈ r, 0 ≤ x ∧ x ≤ 255) (hb' : ∀ r ∈ ago, ∀ x ∈ r, 0 ≤ x ∧ x ≤ 255) (h60 : now.length ≤ 60) (h1 : 1 ≤ now.length) : circN [] (ofF (rowsO now now.length) (oldsO now ago now.length)) = [] := by
  unfold circN
  rw [ofF_len, show (rowsO now now.length).length = now.length by simp [rowsO]]
  exact down_nil (allO_in hb hb' h60 h1) (allO_down hb hb' h60 h1)
theorem set0_at (l : List (List Int)) (v : List Int) (hl : 0 < l.length) (x : Nat) : (l.set 0 v).getD x [] = if x = 0 then v else l.getD x [] := by
  rw [List.getD_eq_getElem?_getD, List.getElem?_set]
  by_cases h : x = 0
  · subst h; simp [hl]
  · rw [if_neg (fun e => h e.symm), if_neg h, List.getD_eq_getElem?_getD]
theorem moreO_in {now : List (List Int)} (hb : ∀ r ∈ now, ∀ x ∈ r, 0 ≤ x ∧ x ≤ 255) (h60 : now.length ≤ 60) (h1 : 1 ≤ now.length) : RowsIn now.length ((rowsO now now.length).set 0 [((now.length - 1 : Nat) : Int)]) := by
  have hr := rowsO_in hb h60
  have hl : 0 < (rowsO now now.length).length := by simp [rowsO]; omega
  refine ⟨hr.n64, fun i => ?_, by simpa using hr.len⟩
  rw [set0_at _ _ hl]
  split
  · exact ⟨by simp, fun x hx => by rw [List.mem_singleton] at hx; omega⟩
  · exact hr.row i
theorem ordMore {now ago : List (List Int)} (hb : ∀ r ∈ now, ∀ x ∈ r, 0 ≤ x ∧ x ≤ 255) (hb' : ∀ r ∈ ago, ∀ x ∈ r, 0 ≤ x ∧ x ≤ 255) (h60 : now.length ≤ 60) (h1 : 1 ≤ now.length) :
    circN [] (ofF ((rowsO now now.length).set 0 [((now.length - 1 : Nat) : Int)]) (oldsO now ago now.length)) ≠ [] ↔ ∃ m, Wk (allO now ago) 0 m (now.length - 1) := by
  have hl : 0 < (rowsO now now.length).length := by simp [rowsO]; omega
  have hln : now.length = ((rowsO now now.length).set 0 [((now.length - 1 : Nat) : Int)]).length := by simp [rowsO]
  have hiff : ∀ x y, y ∈ allN (needR [] (ofF ((rowsO now now.length).set 0 [((now.length - 1 : Nat) : Int)]) (oldsO now ago now.length))) x ↔ (y : Int) ∈ (if x = 0 then [((now.length - 1 : Nat) : Int)] else (rowsO now now.length).getD x []) := fun x y => by
    rw [allOf (moreO_in hb h60 h1) (oldsO_in hb' h60 h1) hln, set0_at _ _ hl]
  have hold : ∀ x y, y ∈ allO now ago x ↔ (y : Int) ∈ (rowsO now now.length).getD x [] := fun x y => by
    unfold allO
    rw [allOf (rowsO_in hb h60) (oldsO_in hb' h60 h1) (by simp [rowsO])]
  unfold circN
  rw [ofF_len, ← hln]
  refine more_circ (by omega) (fun x y hy => ?_) (allO_down hb hb' h60 h1) (fun y => ?_) (fun x y hx => ?_)
  · rw [hiff] at hy
    split at hy
    · rw [List.mem_singleton] at hy; omega
    · exact allO_in hb hb' h60 h1 x y ((hold x y).2 hy)
  · rw [hiff, if_pos rfl, List.mem_singleton]; omega
  · rw [hiff, if_neg (by omega), hold]
end Go.Proofs.Ytfkggeakjgphjaa.C
