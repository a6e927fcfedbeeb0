/- JG: joined by wip/mkclaim.py (ours) from the texts RiA, RiW of this seat. -/
import Derived.Test.YtfkggeakjgphjaaAlW
/- CirclesRing: what memory holds while the rows are built. -/
namespace Go.Proofs.Ytfkggeakjgphjaa.C
set_option linter.unusedVariables false
set_option linter.unusedSimpArgs false
set_option linter.unusedSectionVars false
open Go.RowKit Go.Shelf Go.Proofs.YtfkggeakjgphjaaW.PrintWords Go.Proofs.YtfkggeakjgphjaaW.PrintLast Go.Proofs.YtfkggeakjgphjaaW.PrintMore
open Go.Proofs.RngT Go.Proofs.Circ
def InR (w : World) (xs : List Int) (cs : List Value) : Prop := (xs = [] ∧ cs = [.slice none 0 0]) ∨ ∃ g x, xs = [x] ∧ cs = [.slice (some ⟨g, 0, none⟩) 1 1] ∧ w.heap[g]? = some (.cells #[.int .i64 x] 3 (0, 0))
def RR (b : Nat) (w : World) (v : Value) (rows : List (List Int)) : Prop := ∃ vals, w.ownsRow b 35 1 v rows.length vals ∧ Reps (InR w) 1 rows vals
/-- blocks of one number stay. -/
def Fr3 (w w' : World) : Prop := ∀ (g : Nat) (x : Int), w.heap[g]? = some (Obj.cells #[.int .i64 x] 3 (0, 0)) → w'.heap[g]? = w.heap[g]?
theorem Fr3.below {w w' : World} (h : Below w.heap.size w w') : Fr3 w w' := fun g x hg => h.block g (Array.getElem?_eq_some_iff.1 hg).1
theorem Fr3.grown {w w1 : World} {v : Value} {b e n s : Nat} {vals : List Value} (ho : w.ownsRow b e s v n vals) (he : e ≠ 3) (hg : w.grownBy w1 v.ownBlock) : Fr3 w w1 := fun g x hx => by
  refine hg.block g (Array.getElem?_eq_some_iff.1 hx).1 (fun e2 => ?_)
  obtain ⟨cells, hc⟩ := own_typed ho g e2.symm
  rw [hc] at hx
  injection hx with hx
  injection hx with _ h3 _
  exact he h3
theorem InR.move {w w' : World} (h : Fr3 w w') {xs : List Int} {cs : List Value} (hi : InR w xs cs) : InR w' xs cs := by
  rcases hi with hi | ⟨g, x, h1, h2, h3⟩
  · exact .inl hi
  · exact .inr ⟨g, x, h1, h2, (h g x h3).trans h3⟩
theorem RR.move {b : Nat} {w w' : World} {v : Value} {rows : List (List Int)} (h : RR b w v rows) (hv : ∀ k, v.ownBlock = some k → w'.heap[k]? = w.heap[k]?) (h3 : Fr3 w w') : RR b w' v rows := by
  obtain ⟨vals, ho, hr⟩ := h
  exact ⟨vals, own_move ho hv, hr.imp_ (fun _ _ q => q.move h3)⟩
theorem RR.below {b : Nat} {w w' : World} {v : Value} {rows : List (List Int)} (h : RR b w v rows) (hb : Below w.heap.size w w') : RR b w' v rows :=
  h.move (fun k hk => hb.block k (by obtain ⟨vals, ho, _⟩ := h; exact own_lt ho k hk)) (Fr3.below hb)
theorem RR.nil (b : Nat) (w : World) : RR b w (.slice none 0 0) [] := ⟨[], World.ownsRow_nil _ _ _ _, Reps.none _ _⟩
theorem RR.lt {b : Nat} {w : World} {v : Value} {rows : List (List Int)} (h : RR b w v rows) (k : Nat) (hk : v.ownBlock = some k) : k < w.heap.size := by obtain ⟨vals, ho, _⟩ := h; exact own_lt ho k hk
theorem RR.slice {b : Nat} {w : World} {v : Value} {rows : List (List Int)} (h : RR b w v rows) : ∃ A c, v = .slice A rows.length c := by obtain ⟨vals, ho, _⟩ := h; exact own_slice ho
theorem RR.app {b : Nat} {W w1 : World} {v v1 u : Value} {vals : List Value} {rows : List (List Int)} {xs : List Int} (hv : W.ownsRow b 35 1 v rows.length vals) (hr : Reps (InR W) 1 rows vals) (hx : InR W xs [u])
    (ho : w1.ownsRow b 35 1 v1 (vals ++ [u]).length (vals ++ [u])) (hg : W.grownBy w1 v.ownBlock) : RR b w1 v1 (rows ++ [xs]) := by
  have h3 := Fr3.grown hv (by decide) hg
  have hl : vals.length = rows.length := by have := hv.1; simpa using this
  refine ⟨vals ++ [u], by rw [show (rows ++ [xs]).length = (vals ++ [u]).length by simp [hl]]; exact ho, (hr.imp_ (fun _ _ q => q.move h3)).snoc (hx.move h3) rfl⟩
theorem RR.other {b n : Nat} {W w1 : World} {v v' : Value} {vals : List Value} {e : Nat} {rows : List (List Int)} (h : RR b W v' rows) (hv : W.ownsRow b e 1 v n vals) (he : e ≠ 3) (hs : ∀ k, v.ownBlock = some k → v'.ownBlock ≠ some k) (hg : W.grownBy w1 v.ownBlock) : RR b w1 v' rows :=
  h.move (fun k hk => hg.block k (h.lt k hk) (fun e2 => hs k e2.symm hk)) (Fr3.grown hv he hg)
theorem InR.K {w : World} {xs : List Int} {cs : List Value} (h : InR w xs cs) : kL.K w xs cs := by
  rcases h with ⟨rfl, rfl⟩ | ⟨g, x, rfl, rfl, h3⟩
  · exact ⟨none, 0, rfl, Nat.le_refl _, Kd.C_nil _ _⟩
  · exact row_K (xs := [x]) h3 (by simp)
theorem RR.C {b : Nat} {w : World} {v : Value} {rows : List (List Int)} (h : RR b w v rows) : ∃ A c, v = .slice A rows.length c ∧ rows.length ≤ c ∧ Kd.C kL w A rows.length rows := by
  obtain ⟨vals, ho, hr⟩ := h
  exact OwnRow.reads ⟨vals, ho, hr.imp_ (fun _ _ q => q.K)⟩
/-- no two share a block. -/
def Sep (v v' : Value) : Prop := ∀ k, v.ownBlock = some k → v'.ownBlock ≠ some k
theorem Sep.symm {v v' : Value} (h : Sep v v') : Sep v' v := fun k hk e => h k e hk
theorem Sep.grow {W : World} {v v1 v' : Value} (h : Sep v v') (hat : v1.ownBlock = v.ownBlock ∨ ∃ k, v1.ownBlock = some k ∧ W.heap.size ≤ k) (hl : ∀ k, v'.ownBlock = some k → k < W.heap.size) : Sep v1 v' := by
  intro k hk e
  rcases hat with h1 | ⟨j, h1, hj⟩
  · exact h k (h1 ▸ hk) e
  · rw [hk] at h1; injection h1 with h1
    have := hl k e; omega
def nxR (K i : Nat) : Int := (((i + 1) % K : Nat) : Int)
def nowR (K i : Nat) : List (List Int) := (List.range i).map fun j => [nxR K j]
def cutR (K c i : Nat) : List (List Int) := (List.range i).map fun j => if j = c then [] else [nxR K j]
def agoR (K c i : Nat) : List (List Int) := (List.range i).map fun j => if j = c then [nxR K j] else []
def wantR (i : Nat) : List ByteArray := (List.range i).map fun j : Nat => wordB (j : Int)
theorem nowR_snoc (K i : Nat) : nowR K (i + 1) = nowR K i ++ [[nxR K i]] := by unfold nowR; rw [List.range_succ, List.map_append]; rfl
theorem cutR_snoc (K c i : Nat) : cutR K c (i + 1) = cutR K c i ++ [if i = c then [] else [nxR K i]] := by unfold cutR; rw [List.range_succ, List.map_append]; rfl
theorem agoR_snoc (K c i : Nat) : agoR K c (i + 1) = agoR K c i ++ [if i = c then [nxR K i] else []] := by unfold agoR; rw [List.range_succ, List.map_append]; rfl
theorem wantR_snoc (i : Nat) : wantR (i + 1) = wantR i ++ [wordB (i : Int)] := by unfold wantR; rw [List.range_succ, List.map_append]; rfl
structure RgS (b : Nat) (w0 wr : World) (v6 v7 v8 v9 : Value) (r6 r7 r8 : List (List Int)) (r9 : List ByteArray) : Prop where
  bel : Below b w0 wr
  sz : b ≤ wr.heap.size
  r6 : RR b wr v6 r6
  r7 : RR b wr v7 r7
  r8 : RR b wr v8 r8
  r9 : wr.ownsRow b 9 1 v9 r9.length (r9.map Value.string)
  s67 : Sep v6 v7
  s68 : Sep v6 v8
  s78 : Sep v7 v8
section
variable {b : Nat} {w0 wr w1 : World} {v6 v7 v8 v9 v1 u : Value} {r6 r7 r8 : List (List Int)} {r9 : List ByteArray} {vals : List Value} {xs : List Int} {s : ByteArray}
theorem RgS.below (h : RgS b w0 wr v6 v7 v8 v9 r6 r7 r8 r9) (hb : Below wr.heap.size wr w1) : RgS b w0 w1 v6 v7 v8 v9 r6 r7 r8 r9 :=
  ⟨h.bel.trans (hb.mono h.sz), Nat.le_trans h.sz hb.size, h.r6.below hb, h.r7.below hb, h.r8.below hb, own_move h.r9 (fun k hk => hb.block k (own_lt h.r9 k hk)), h.s67, h.s68, h.s78⟩
theorem r9_other {b n : Nat} {W w1 : World} {v v9 : Value} {vals cs : List Value} {m : Nat} (h : W.ownsRow b 9 1 v9 m cs) (hv : W.ownsRow b 35 1 v n vals) (hg : W.grownBy w1 v.ownBlock) : w1.ownsRow b 9 1 v9 m cs :=
  own_move h (fun k hk => hg.block k (own_lt h k hk) (fun e => rows_ne h hv (by decide) k hk e.symm))
theorem RgS.app6 (h : RgS b w0 wr v6 v7 v8 v9 r6 r7 r8 r9) (hv : wr.ownsRow b 35 1 v6 r6.length vals) (hr : Reps (InR wr) 1 r6 vals) (hx : InR wr xs [u]) (ho : w1.ownsRow b 35 1 v1 (vals ++ [u]).length (vals ++ [u])) (hg : wr.grownBy w1 v6.ownBlock)
    (hat : v1.ownBlock = v6.ownBlock ∨ ∃ k, v1.ownBlock = some k ∧ wr.heap.size ≤ k) (hb : Below b wr w1) : RgS b w0 w1 v1 v7 v8 v9 (r6 ++ [xs]) r7 r8 r9 :=
  ⟨h.bel.trans hb, Nat.le_trans h.sz hg.size, RR.app hv hr hx ho hg, h.r7.other hv (by decide) h.s67 hg, h.r8.other hv (by decide) h.s68 hg, r9_other h.r9 hv hg, h.s67.grow hat (fun k hk => h.r7.lt k hk), h.s68.grow hat (fun k hk => h.r8.lt k hk), h.s78⟩
theorem RgS.app7 (h : RgS b w0 wr v6 v7 v8 v9 r6 r7 r8 r9) (hv : wr.ownsRow b 35 1 v7 r7.length vals) (hr : Reps (InR wr) 1 r7 vals) (hx : InR wr xs [u]) (ho : w1.ownsRow b 35 1 v1 (vals ++ [u]).length (vals ++ [u])) (hg : wr.grownBy w1 v7.ownBlock)
    (hat : v1.ownBlock = v7.ownBlock ∨ ∃ k, v1.ownBlock = some k ∧ wr.heap.size ≤ k) (hb : Below b wr w1) : RgS b w0 w1 v6 v1 v8 v9 r6 (r7 ++ [xs]) r8 r9 :=
  ⟨h.bel.trans hb, Nat.le_trans h.sz hg.size, h.r6.other hv (by decide) h.s67.symm hg, RR.app hv hr hx ho hg, h.r8.other hv (by decide) h.s78 hg, r9_other h.r9 hv hg, (h.s67.symm.grow hat (fun k hk => h.r6.lt k hk)).symm, h.s68, h.s78.grow hat (fun k hk => h.r8.lt k hk)⟩
theorem RgS.app8 (h : RgS b w0 wr v6 v7 v8 v9 r6 r7 r8 r9) (hv : wr.ownsRow b 35 1 v8 r8.length vals) (hr : Reps (InR wr) 1 r8 vals) (hx : InR wr xs [u]) (ho : w1.ownsRow b 35 1 v1 (vals ++ [u]).length (vals ++ [u])) (hg : wr.grownBy w1 v8.ownBlock)
    (hat : v1.ownBlock = v8.ownBlock ∨ ∃ k, v1.ownBlock = some k ∧ wr.heap.size ≤ k) (hb : Below b wr w1) : RgS b w0 w1 v6 v7 v1 v9 r6 r7 (r8 ++ [xs]) r9 :=
  ⟨h.bel.trans hb, Nat.le_trans h.sz hg.size, h.r6.other hv (by decide) h.s68.symm hg, h.r7.other hv (by decide) h.s78.symm hg, RR.app hv hr hx ho hg, r9_other h.r9 hv hg, h.s67, (h.s68.symm.grow hat (fun k hk => h.r6.lt k hk)).symm, (h.s78.symm.grow hat (fun k hk => h.r7.lt k hk)).symm⟩
theorem RgS.app9 (h : RgS b w0 wr v6 v7 v8 v9 r6 r7 r8 r9) (ho : w1.ownsRow b 9 1 v1 (r9.map Value.string ++ [Value.string s]).length (r9.map Value.string ++ [Value.string s])) (hg : wr.grownBy w1 v9.ownBlock) (hb : Below b wr w1) : RgS b w0 w1 v6 v7 v8 v1 r6 r7 r8 (r9 ++ [s]) := by
  have key : ∀ {v : Value} {r : List (List Int)}, RR b wr v r → RR b w1 v r := fun hr => hr.other h.r9 (by decide) (fun k hk e => by
    obtain ⟨vals, ho2, _⟩ := hr
    exact rows_ne h.r9 ho2 (by decide) k hk e) hg
  exact ⟨h.bel.trans hb, Nat.le_trans h.sz hg.size, key h.r6, key h.r7, key h.r8, by simpa using ho, h.s67, h.s68, h.s78⟩
end
end Go.Proofs.Ytfkggeakjgphjaa.C

/- CirclesRing: walked. -/
namespace Go.Proofs.Ytfkggeakjgphjaa.C
set_option linter.unusedVariables false
set_option linter.unusedSimpArgs false
set_option linter.unusedSectionVars false
open Go.RowKit Go.Shelf Go.Proofs.YtfkggeakjgphjaaW.PrintWords Go.Proofs.YtfkggeakjgphjaaW.PrintLast Go.Proofs.YtfkggeakjgphjaaW.PrintMore
open Go.Proofs.RngT Go.Proofs.Circ
attribute [local go_sem] Oper.semAt_some
theorem below_of_drawn {w w' : World} (h : Drawn0 w w') : Below w.heap.size w w' := by
  obtain ⟨nd, rfl⟩ := h
  exact pw_below_drewN (Below.refl _ _) nd
theorem nm_len (r : List ByteArray) : (r.map Value.string).length = r.length := by simp
theorem getD_map' {α : Type} (f : Nat → α) (K i : Nat) (d : α) : ((List.range K).map f).getD i d = if i < K then f i else d := by
  rw [List.getD_eq_getElem?_getD]
  by_cases h : i < K
  · rw [List.getElem?_eq_getElem (by simpa using h), if_pos h]; simp
  · rw [List.getElem?_eq_none (by simp; omega), if_neg h]; rfl
end Go.Proofs.Ytfkggeakjgphjaa.C
