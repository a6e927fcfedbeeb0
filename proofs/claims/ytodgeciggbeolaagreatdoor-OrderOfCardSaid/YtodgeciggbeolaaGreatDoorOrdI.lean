/- What memory holds while order.Of runs: the map of who waits for whom, the row of what is left, the heap. -/
import Derived.Test.YtodgeciggbeolaaGreatDoorOrdS
import Derived.Test.YtodgeciggbeolaaGreatDoorMapF
namespace Go.Proofs.YtodgeciggbeolaaGreatDoor
set_option maxRecDepth 100000
set_option linter.unusedVariables false
set_option linter.unusedSimpArgs false
set_option linter.unusedSectionVars false
open Go.RowKit Go.Proofs.YtodgeciggbeolaaGreatDoorW.PrintWords Go.Proofs.YtodgeciggbeolaaGreatDoorW.PrintLast Go.Proofs.YtodgeciggbeolaaGreatDoorW.PrintMore
open Go.Proofs.BinHeap Go.Proofs.MapF

def encI (n : Int) : Value := .int .i64 n
theorem encI_inj : ∀ a a', encI a = encI a' → a = a' := fun a a' h => by injection h
theorem encI_key : ∀ a, MapKept.IsKey (.int .i64) (encI a) := fun _ => rfl
theorem zero25 (w : World) : (zeroValue 25).run Tryz.prog w = .ok (.slice none 0 0) w := by kernel_rfl

/-- the rows of who waits: each where its key says, no two in one block, none in a block of av. -/
def WaitsAt (B : Nat) (w : World) (f : Int → Option Value) (W : Int → List Int) (av : List (Option Nat)) : Prop :=
  (∀ m, f m = none → W m = []) ∧
  (∀ m v, f m = some v → w.ownsRow (B + 2) 3 1 v (W m).length (nums .i64 (W m)) ∧ W m ≠ [] ∧ ∀ b ∈ av, v.ownBlock ≠ b) ∧
  (∀ m m' v v', m ≠ m' → f m = some v → f m' = some v' → v.ownBlock ≠ v'.ownBlock)

structure OfInv (B r n : Nat) (w0 w : World) (W : Int → List Int) (left : List Int) (hv : Value) (hs : List Int) (av : List (Option Nat)) : Prop where
  below : Below B w0 w
  sz : B + 2 ≤ r
  map : ∃ f, MapE encI w B f ∧ WaitsAt B w f W (hv.ownBlock :: av)
  left : w.ownsRow 0 3 1 (.slice (some ⟨B + 1, 0, none⟩) n n) n (nums .i64 left)
  heap : HpAt (B + 2) w r hv hs
  isheap : IsHeap hs.length hs

section
variable {B r n : Nat} {w0 w w1 : World} {W : Int → List Int} {left hs : List Int} {hv : Value} {av : List (Option Nat)}

theorem WaitsAt.kept {f : Int → Option Value} {S : Nat → Prop} (h : WaitsAt B w f W av) (k : Fr S w w1) (hS : ∀ j, S j → j < B + 2 ∨ w.heap.size ≤ j ∨ some j ∈ av ∨ ∃ cs, w.heap[j]? = some (.cells cs 57 (0, 0))) : WaitsAt B w1 f W av := by
  refine ⟨h.1, fun m v hf => ?_, h.2.2⟩
  obtain ⟨h1, h2, h3⟩ := h.2.1 m v hf
  refine ⟨own_move h1 (fun j hj => k.block j (own_lt h1 j hj) (fun hs => ?_)), h2, h3⟩
  rcases hS j hs with q | q | q | ⟨cs, q⟩
  · have := own_base h1 j hj; omega
  · have := own_lt h1 j hj; omega
  · exact h3 _ q hj
  · exact own_ne h1 q (by decide) (by rw [hj])
theorem WaitsAt.reav {f : Int → Option Value} {av' : List (Option Nat)} (h : WaitsAt B w f W av) (hn : ∀ b ∈ av', b ∈ av ∨ b = none ∨ ∃ k, b = some k ∧ w.heap.size ≤ k) : WaitsAt B w f W av' := by
  refine ⟨h.1, fun m v hf => ?_, h.2.2⟩
  obtain ⟨h1, h2, h3⟩ := h.2.1 m v hf
  refine ⟨h1, h2, fun b hb e => ?_⟩
  have hne : v.ownBlock ≠ none := by
    rcases h1.2 with ⟨_, h0⟩ | ⟨g, cap, cur, rfl, _⟩
    · exact absurd (List.eq_nil_of_length_eq_zero h0) h2
    · simp [Value.ownBlock]
  rcases hn b hb with q | q | ⟨k, q, hk⟩
  · exact h3 b q e
  · exact hne (e.trans q)
  · have := own_lt h1 k (e.trans q); omega

/-- only new blocks, or blocks that are none of its own, have turned. -/
theorem OfInv.kept {S : Nat → Prop} (h : OfInv B r n w0 w W left hv hs av) (k : Fr S w w1) (hS : ∀ j, S j → B + 2 ≤ j ∧ j ≠ r ∧ (w.heap.size ≤ j ∨ (some j ∈ av ∧ hv.ownBlock ≠ some j))) : OfInv B r n w0 w1 W left hv hs av := by
  obtain ⟨f, hm, hw⟩ := h.map
  have hlt := hm.lt
  have hrl := blk_lt h.heap.hdr
  have hrs := h.sz
  have hno : ∀ j, j < B + 2 → ¬ S j := fun j hj hs => by have := (hS j hs).1; omega
  have hnr : ¬ S r := fun hs => (hS r hs).2.1 rfl
  refine ⟨⟨k.os.trans h.below.os, k.tape.trans h.below.tape, k.output.trans h.below.output, Nat.le_trans h.below.size k.size, fun j hj => ?_⟩, h.sz, ⟨f, hm.move (k.block B hlt (hno B (by omega))), hw.kept k (fun j hj => ?_)⟩, own_move h.left (fun j hj => ?_), h.heap.kept k hnr (fun g hg hs => ?_), h.isheap⟩
  · have := h.sz
    exact (k.block j (by omega) (hno j (by omega))).trans (h.below.block j hj)
  · rcases (hS j hj).2.2 with q | q
    · exact .inr (.inl q)
    · exact .inr (.inr (.inl (List.mem_cons_of_mem _ q.1)))
  · have : j = B + 1 := by simpa [Value.ownBlock] using hj.symm
    subst this
    have := h.sz
    exact k.block _ (by omega) (hno _ (by omega))
  · have := own_lt h.heap.row g hg
    rcases (hS g hs).2.2 with q | q
    · omega
    · exact q.2 hg
theorem OfInv.new (h : OfInv B r n w0 w W left hv hs av) (k : Below w.heap.size w w1) : OfInv B r n w0 w1 W left hv hs av :=
  h.kept (S := fun _ => False) (Fr.of_below k) (fun _ h => h.elim)
theorem OfInv.drewN (h : OfInv B r n w0 w W left hv hs av) (q : Nat) : OfInv B r n w0 (w.drewN q) W left hv hs av := h.new (pw_below_drewN (Below.refl _ _) q)

theorem OfInv.reav {av' : List (Option Nat)} (h : OfInv B r n w0 w W left hv hs av) (hn : ∀ b ∈ av', b ∈ av ∨ b = none ∨ ∃ k, b = some k ∧ w.heap.size ≤ k) : OfInv B r n w0 w W left hv hs av' := by
  obtain ⟨f, hm, hw⟩ := h.map
  refine ⟨h.below, h.sz, ⟨f, hm, hw.reav (fun b hb => ?_)⟩, h.left, h.heap, h.isheap⟩
  rcases List.mem_cons.1 hb with q | q
  · exact .inl (by rw [q]; exact List.mem_cons_self)
  · rcases hn b q with r | r | r
    · exact .inl (List.mem_cons_of_mem _ r)
    · exact .inr (.inl r)
    · exact .inr (.inr r)

/-- a store into the row of what is left. -/
theorem OfInv.store (h : OfInv B r n w0 w W left hv hs av) (i x : Int) : OfInv B r n w0 (w.setCell ⟨B + 1, i.toNat, none⟩ (.int .i64 x)) W (left.set i.toNat x) hv hs av := by
  obtain ⟨f, hm, hw⟩ := h.map
  have hF : Fr (fun j => j = B + 1) w (w.setCell ⟨B + 1, i.toNat, none⟩ (.int .i64 x)) := (Fr.refl (fun j => j = B + 1) w).set (p := ⟨B + 1, i.toNat, none⟩) (.inl rfl) _
  have := h.sz
  have hrl := blk_lt h.heap.hdr
  refine ⟨h.below.setCell (p := ⟨B + 1, i.toNat, none⟩) (by simp) _, h.sz, ⟨f, hm.move (hF.block B (by omega) (by omega)), hw.kept hF (fun j hj => .inl (by omega))⟩, (own_store h.left i x).1, h.heap.kept hF (by omega) (fun g hg e => ?_), h.isheap⟩
  have := own_base h.heap.row g hg
  omega

/-- the heap behind a push or a pop. -/
theorem OfInv.heaped {hv' : Value} {ys : List Int} (h : OfInv B r n w0 w W left hv hs av) (h1 : HpAt (B + 2) w1 r hv' ys) (hat : hv'.ownBlock = hv.ownBlock ∨ ∃ k, hv'.ownBlock = some k ∧ w.heap.size ≤ k) (k : Fr (fun j => j = r ∨ hv.ownBlock = some j) w w1) (hh : IsHeap ys.length ys) :
    OfInv B r n w0 w1 W left hv' ys av := by
  obtain ⟨f, hm, hw⟩ := h.map
  have hs3 := h.sz
  have hrl := blk_lt h.heap.hdr
  have hno : ∀ j, j < B + 2 → ¬ (j = r ∨ hv.ownBlock = some j) := fun j hj hs => by
    rcases hs with q | q
    · omega
    · have := own_base h.heap.row j q; omega
  refine ⟨⟨k.os.trans h.below.os, k.tape.trans h.below.tape, k.output.trans h.below.output, Nat.le_trans h.below.size k.size, fun j hj => (k.block j (by omega) (hno j (by omega))).trans (h.below.block j hj)⟩, hs3, ⟨f, hm.move (k.block B hm.lt (hno B (by omega))), ?_⟩, own_move h.left (fun j hj => ?_), h1, hh⟩
  · have hw2 : WaitsAt B w1 f W (hv.ownBlock :: av) := hw.kept k (fun j hj => by
      rcases hj with q | q
      · exact .inr (.inr (.inr ⟨_, by rw [q]; exact h.heap.hdr⟩))
      · exact .inr (.inr (.inl (by rw [q]; exact List.mem_cons_self))))
    have hw3 : WaitsAt B w f W (hv'.ownBlock :: av) := hw.reav (fun b hb => by
      rcases List.mem_cons.1 hb with q | q
      · rcases hat with e | ⟨j, e, hj⟩
        · exact .inl (by rw [q, e]; exact List.mem_cons_self)
        · exact .inr (.inr ⟨j, q.trans e, hj⟩)
      · exact .inl (List.mem_cons_of_mem _ q))
    exact ⟨hw2.1, fun m v hf => ⟨(hw2.2.1 m v hf).1, (hw2.2.1 m v hf).2.1, (hw3.2.1 m v hf).2.2⟩, hw2.2.2⟩
  · have : j = B + 1 := by simpa [Value.ownBlock] using hj.symm
    subst this
    exact k.block _ (by omega) (hno _ (by omega))

/-- one more waits for m. -/
theorem OfInv.waited {f : Int → Option Value} {v v1 : Value} {w2 : World} {m x : Int} {W' : Int → List Int} (h : OfInv B r n w0 w W left hv hs av) (_hm : MapE encI w B f) (hw : WaitsAt B w f W (hv.ownBlock :: av)) (hv0 : v = (f m).getD (.slice none 0 0))
    (h1 : w1.ownsRow (B + 2) 3 1 v1 (W m ++ [x]).length (nums .i64 (W m ++ [x]))) (hg : w.grownBy w1 v.ownBlock) (hat : v1.ownBlock = v.ownBlock ∨ ∃ k, v1.ownBlock = some k ∧ w.heap.size ≤ k)
    (hav : ∀ k, some k ∈ av → k < w.heap.size)
    (h2 : MapE encI w2 B (fun k => if k = m then some v1 else f k)) (hg2 : w1.grownBy w2 (some B)) (hW : ∀ k, W' k = if k = m then W m ++ [x] else W k) : OfInv B r n w0 w2 W' left hv hs av := by
  have hs3 := h.sz
  have hrl := blk_lt h.heap.hdr
  have hvb : ∀ k, v.ownBlock = some k → B + 2 ≤ k ∧ hv.ownBlock ≠ some k ∧ some k ∉ av ∧ ∀ m' v', m' ≠ m → f m' = some v' → v'.ownBlock ≠ some k := by
    intro k hk
    cases hf : f m with
    | none => rw [hv0, hf] at hk; simp [Value.ownBlock] at hk
    | some u =>
      rw [hv0, hf] at hk
      obtain ⟨q1, q2, q3⟩ := hw.2.1 m u hf
      refine ⟨own_base q1 k hk, fun e => q3 _ List.mem_cons_self (hk.trans e.symm), fun e => q3 _ (List.mem_cons_of_mem _ e) hk, fun m' v' hne hf' e => ?_⟩
      exact hw.2.2 m m' u v' (Ne.symm hne) hf hf' (hk.trans e.symm)
  have hF1 : Fr (fun j => v.ownBlock = some j) w w1 := (Fr.refl _ w).grown hg (fun k e => .inl e)
  have hF : Fr (fun j => j = B ∨ v.ownBlock = some j) w w2 := (hF1.mono (fun _ => .inr)).grown hg2 (fun k e => .inl (.inl (by injection e with e; exact e.symm)))
  have hno : ∀ j, j < B + 2 → j ≠ B → ¬ (j = B ∨ v.ownBlock = some j) := fun j hj hb hs => by
    rcases hs with q | q
    · exact hb q
    · have := (hvb j q).1; omega
  have hnr : ¬ (r = B ∨ v.ownBlock = some r) := fun hs => by
    rcases hs with q | q
    · omega
    · cases hf : f m with
      | none => rw [hv0, hf] at q; simp [Value.ownBlock] at q
      | some u =>
        rw [hv0, hf] at q
        exact own_ne (hw.2.1 m u hf).1 h.heap.hdr (by decide) q.symm
  have hown2 : w2.ownsRow (B + 2) 3 1 v1 (W m ++ [x]).length (nums .i64 (W m ++ [x])) := own_move h1 (fun j hj => hg2.block j (own_lt h1 j hj) (fun e => by have := own_base h1 j hj; injection e with e; omega))
  have hv1 : ∀ k, v1.ownBlock = some k → v.ownBlock = some k ∨ w.heap.size ≤ k := fun k hk => by
    rcases hat with e | ⟨j, e, hj⟩
    · exact .inl (e ▸ hk)
    · rw [hk] at e; injection e with e; exact .inr (by omega)
  refine ⟨⟨hF.os.trans h.below.os, hF.tape.trans h.below.tape, hF.output.trans h.below.output, Nat.le_trans h.below.size hF.size, fun j hj => (hF.block j (by omega) (hno j (by omega) (by omega))).trans (h.below.block j hj)⟩, hs3, ⟨_, h2, ?_, ?_, ?_⟩, own_move h.left (fun j hj => ?_), h.heap.kept hF hnr (fun g hg3 hs => ?_), h.isheap⟩
  · intro k hk
    simp only [] at hk
    by_cases e : k = m
    · rw [if_pos e] at hk; cases hk
    · rw [if_neg e] at hk; rw [hW, if_neg e]; exact hw.1 k hk
  · intro k u hk
    simp only [] at hk
    by_cases e : k = m
    · rw [if_pos e] at hk; injection hk with hk; subst hk
      rw [hW, if_pos e]
      refine ⟨hown2, by simp, fun b hb e2 => ?_⟩
      cases b with
      | none =>
        rcases h1.2 with ⟨_, h0⟩ | ⟨g, cap, cur, rfl, _⟩
        · simp at h0
        · simp [Value.ownBlock] at e2
      | some b =>
        rcases hv1 b e2 with q | q
        · rcases List.mem_cons.1 hb with r | r
          · exact (hvb b q).2.1 r.symm
          · exact (hvb b q).2.2.1 r
        · rcases List.mem_cons.1 hb with r | r
          · have := own_lt h.heap.row b r.symm; omega
          · have := hav b r; omega
    · rw [if_neg e] at hk
      obtain ⟨q1, q2, q3⟩ := hw.2.1 k u hk
      rw [hW, if_neg e]
      refine ⟨own_move q1 (fun j hj => hF.block j (own_lt q1 j hj) (fun hs => ?_)), q2, q3⟩
      rcases hs with r | r
      · have := own_base q1 j hj; omega
      · exact (hvb j r).2.2.2 k u e hk hj
  · intro k k' u u' hne hk hk' e2
    simp only [] at hk hk'
    by_cases e : k = m
    · rw [if_pos e] at hk; injection hk with hk; subst hk
      rw [if_neg (fun e3 => hne (e.trans e3.symm))] at hk'
      obtain ⟨q1, q2, q3⟩ := hw.2.1 k' u' hk'
      rcases h1.2 with ⟨_, h0⟩ | ⟨g, cap, cur, hg0, _⟩
      · simp at h0
      · have hb : v1.ownBlock = some g := by rw [hg0]; rfl
        rcases hv1 g hb with q | q
        · exact (hvb g q).2.2.2 k' u' (fun e3 => hne (e.trans e3.symm)) hk' (e2.symm.trans hb)
        · have := own_lt q1 g (e2.symm.trans hb); omega
    · rw [if_neg e] at hk
      by_cases e' : k' = m
      · rw [if_pos e'] at hk'; injection hk' with hk'; subst hk'
        obtain ⟨q1, q2, q3⟩ := hw.2.1 k u hk
        rcases h1.2 with ⟨_, h0⟩ | ⟨g, cap, cur, hg0, _⟩
        · simp at h0
        · have hb : v1.ownBlock = some g := by rw [hg0]; rfl
          rcases hv1 g hb with q | q
          · exact (hvb g q).2.2.2 k u e hk (e2.trans hb)
          · have := own_lt q1 g (e2.trans hb); omega
      · rw [if_neg e'] at hk'
        exact hw.2.2 k k' u u' hne hk hk' e2
  · have : j = B + 1 := by simpa [Value.ownBlock] using hj.symm
    subst this
    exact hF.block _ (by omega) (hno _ (by omega) (by omega))
  · rcases hs with r | r
    · have := own_base h.heap.row g hg3; omega
    · exact (hvb g r).2.1 hg3
end
end Go.Proofs.YtodgeciggbeolaaGreatDoor
