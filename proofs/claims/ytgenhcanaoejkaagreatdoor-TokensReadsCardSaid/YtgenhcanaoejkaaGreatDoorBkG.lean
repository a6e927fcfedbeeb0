/- Book: lists of tokens are grown: walk. -/
import Derived.Test.YtgenhcanaoejkaaGreatDoorBkF
namespace Go.Proofs.YtgenhcanaoejkaaGreatDoor.B
set_option linter.unusedVariables false
set_option linter.unusedSimpArgs false
set_option linter.unusedSectionVars false
open Go.RowKit Go.Proofs.YtgenhcanaoejkaaGreatDoorW.PrintWords Go.Proofs.YtgenhcanaoejkaaGreatDoorW.PrintLast Go.Proofs.YtgenhcanaoejkaaGreatDoorW.PrintMore
open Go.Proofs.YtgenhcanaoejkaaGreatDoor.S
theorem wp_append_two {P : Program} {ops : Array Oper} {rest : List Oper} {o : Oper} {a : Act} {Q : Exit → Act → World → Prop} {W : World} (base : Nat) (hgd : o.guard = none) (s x : Operand) (t e : TypeId) (z : Value) (size bytes : Nat)
    (ho : o.op = .call { callee := .builtin .append, args := #[s, x], argTypes := #[t, t] }) (ht : P.underlying t = some (.slice e)) (hinfo : (P.info? e).map (fun i => (i.zero, i.size, i.bytes)) = some (some z, size, bytes)) (hz : z.cells.size = size) (hs0 : 0 < size) (hb0 : 0 < bytes)
    (v : Value) (n : Nat) (xs ys : List Value) (hs : a.eval s = v) (hx : a.eval x = .slice (some ⟨W.heap.size, 0, none⟩) 1 1) (hys : ys.length = size) (h1 : ∀ u ∈ ys, u.oneCell' = true) (HO : W.ownsRow base e size v n xs) (hbase : base ≤ W.heap.size) (hl : (n + 1) * bytes ≤ 140737488355328)
    (h : ∀ v1 w1, w1.ownsRow base e size v1 (n + 1) (xs ++ ys) → ((v1.ownBlock = v.ownBlock ∧ W.grownBy w1 v.ownBlock) ∨ (∃ q, v1.ownBlock = some q ∧ W.heap.size ≤ q ∧ W.grownBy w1 none)) → wpList P ops Q rest (a.put o.dst v1) w1) :
    wpList P ops Q (o :: rest) a (W.alloc (.cells ys.toArray e)) := by
  refine wpList_plain hgd fun K hK => ?_
  obtain ⟨v', w', hr, h2, h3⟩ := append_two (P := P) (W.alloc (.cells ys.toArray e)) base t o.type e z size bytes ht hinfo hz hs0 hb0 v n xs (HO.alloc _) ⟨W.heap.size, 0, none⟩ 1 ys hys
    (by simpa using World.news_of_block (cs := ys.toArray) (t := e) (fr := (0, 0)) (heap_alloc_new W (.cells ys.toArray e))) h1 hl (by simp; omega)
  unfold Oper.wp execOp
  simp only [ho, resolve, invoke, builtin, Sem.run_bind, Sem.run_pure, Result.andThen_ok, List.map_toArray, List.map_cons, List.map_nil, hs, hx, hr]
  refine hK _ _ (h v' w' h2 ?_)
  rcases h3 with ⟨h4, h5⟩ | ⟨h4, h5⟩
  · exact .inl ⟨h4, (World.grownBy_alloc W _ _).trans h5⟩
  · exact .inr ⟨_, h4, by simp, (World.grownBy_alloc W _ _).trans h5⟩
theorem marks_take (c : List Value) (n m : Nat) (h : n ≤ m) : (marks c m).take (n * c.length) = marks c n := by
  have e : marks c m = marks c n ++ marks c (m - n) := by
    unfold marks
    rw [← List.flatten_append, List.replicate_append_replicate]
    congr 2
    omega
  have hl : n * c.length = (marks c n).length := (marks_len c n).symm
  rw [e, hl, List.take_left]
theorem grown_far {a b c : World} {r : Option Nat} {q : Nat} (h1 : a.grownBy b r) (h2 : b.grownBy c (some q)) (hq : a.heap.size ≤ q) : a.grownBy c r :=
  ⟨h2.os.trans h1.os, h2.tape.trans h1.tape, h2.output.trans h1.output, Nat.le_trans h1.size h2.size, fun k hk hr => by
    rw [h2.block k (by have := h1.size; omega) (fun e => by injection e with e; omega)]; exact h1.block k hk hr⟩
theorem grown_none {a b c : World} {r : Option Nat} (h1 : a.grownBy b r) (h2 : b.grownBy c none) : a.grownBy c r :=
  ⟨h2.os.trans h1.os, h2.tape.trans h1.tape, h2.output.trans h1.output, Nat.le_trans h1.size h2.size, fun k hk hr => by
    rw [h2.block k (by have := h1.size; omega) (by simp)]; exact h1.block k hk hr⟩
/-- the state while one list grows: v the list, l what it has grown to. -/
structure Gro (wb wr : World) (base : Nat) (v l : Value) (n k i : Nat) : Prop where
  grown : wb.grownBy wr v.ownBlock
  own : wr.ownsRow base 54 3 l (n + k) (marks (cellsOf (i + 1)) (n + k))
  pre : Pre wr 54 3 v n (marks (cellsOf (i + 1)) n)
  loc : l.ownBlock = v.ownBlock ∨ ∃ q, l.ownBlock = some q ∧ wb.heap.size ≤ q
theorem Gro.step {wb wr W w1 : World} {base : Nat} {v l v1 : Value} {n k i : Nat} (h : Gro wb wr base v l n k i) (hv : ∀ q, v.ownBlock = some q → q < wb.heap.size) (hW : wr.grownBy W none)
    (hown : w1.ownsRow base 54 3 v1 (n + k + 1) (marks (cellsOf (i + 1)) (n + k) ++ cellsOf (i + 1)))
    (hat : (v1.ownBlock = l.ownBlock ∧ W.grownBy w1 l.ownBlock) ∨ (∃ q, v1.ownBlock = some q ∧ W.heap.size ≤ q ∧ W.grownBy w1 none)) : Gro wb w1 base v v1 n (k + 1) i := by
  have hbW : wb.grownBy W v.ownBlock := grown_none h.grown hW
  have hpW : Pre W 54 3 v n (marks (cellsOf (i + 1)) n) := h.pre.kept (fun q hq => hW.block q (by have := hv q hq; have := h.grown.size; omega) (by simp))
  have ho : w1.ownsRow base 54 3 v1 (n + (k + 1)) (marks (cellsOf (i + 1)) (n + (k + 1))) := by
    rw [show n + (k + 1) = n + k + 1 by omega, marks_succ]; exact hown
  have hsz : wb.heap.size ≤ W.heap.size := hbW.size
  rcases hat with ⟨e1, g1⟩ | ⟨q, e1, hq, g1⟩
  · rcases h.loc with e2 | ⟨q, e2, hq⟩
    · refine ⟨hbW.trans (by rw [← e2]; exact g1), ho, ?_, .inl (by rw [e1, e2])⟩
      rcases h.pre with hn | ⟨g, cap, cur, rfl, hg, ht⟩
      · exact .inl hn
      · obtain ⟨g', cap', hv1, hbg, hlt⟩ := ho.form (by omega)
        have hgg : g' = g := by
          rw [e2, hv1] at e1
          simpa [Value.ownBlock] using e1
        subst hgg
        rcases ho.2 with ⟨hx, _⟩ | ⟨g2, cap2, cur2, hv2, _, hg2, _, _, _, ht2⟩
        · rw [hv1] at hx; cases hx
        · rw [hv1] at hv2
          injection hv2 with a1 a2 a3
          injection a1 with a1
          injection a1 with a1
          subst a1
          refine .inr ⟨g', cap, cur2, rfl, hg2, ?_⟩
          have hm := marks_take (cellsOf (i + 1)) n (n + (k + 1)) (by omega)
          rw [← ht2, List.take_take] at hm
          rw [← hm]
          congr 1
          show n * 3 = min (n * 3) ((n + (k + 1)) * 3)
          omega
    · rw [e2] at g1
      refine ⟨grown_far hbW g1 hq, ho, hpW.kept (fun p hp => g1.block p (by have := hv p hp; omega) (fun e => by injection e with e; have := hv p hp; omega)), .inr ⟨q, by rw [e1, e2], hq⟩⟩
  · exact ⟨grown_none hbW g1, ho, hpW.kept (fun p hp => g1.block p (by have := hv p hp; omega) (by simp)), .inr ⟨q, e1, by omega⟩⟩
end Go.Proofs.YtgenhcanaoejkaaGreatDoor.B
