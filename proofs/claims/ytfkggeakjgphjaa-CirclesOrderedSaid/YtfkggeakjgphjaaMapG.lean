/- Maps whose keys are of whatever kind that has its law (structs too): what a look-up and a store do, over any program; the map is told as a function of its keys. -/
import Derived.Test.YtfkggeakjgphjaaCx0
import Derived.Maps.OwnOps
import Derived.Maps.Keyed
import Derived.DeepKeys4
namespace Go.Proofs.MapG
set_option linter.unusedVariables false
set_option linter.unusedSimpArgs false
set_option linter.unusedSectionVars false
open Go.RowKit Go.MapKept Go.ChangeShapes Go.WideShapes Go.ChangeMaps

/-- block b is a map over keys of α that holds f. -/
def MapE {α : Type} (enc : α → Value) (ok : α → Prop) (w : World) (b : Nat) (f : α → Option Value) : Prop :=
  ∃ es clock, w.heap[b]? = some (.map es clock) ∧ Stamped es clock ∧ (∀ x ∈ es.toList, ∃ a, x.key = enc a ∧ f a = some x.val ∧ ok a) ∧ (∀ a v, f a = some v → ∃ x ∈ es.toList, x.key = enc a)

section
variable {α : Type} [DecidableEq α] {enc : α → Value} {ok : α → Prop} {P : Program} {w w1 : World} {b : Nat} {f : α → Option Value} {T K E : TypeId} {z : Value}

omit [DecidableEq α] in
theorem MapE.made (w : World) : MapE enc ok (w.alloc (.map #[] 0)) w.heap.size (fun _ => none) :=
  ⟨#[], 0, (heap_alloc w _).1, stamped_empty 0, by simp, fun a v h => by cases h⟩
omit [DecidableEq α] in
theorem MapE.lt (h : MapE enc ok w b f) : b < w.heap.size := by
  obtain ⟨es, clock, hb, _⟩ := h
  exact (Array.getElem?_eq_some_iff.1 hb).1
omit [DecidableEq α] in
theorem MapE.move (h : MapE enc ok w b f) (e : w1.heap[b]? = w.heap[b]?) : MapE enc ok w1 b f := by
  obtain ⟨es, clock, hb, r⟩ := h
  exact ⟨es, clock, e.trans hb, r⟩

omit [DecidableEq α] in
theorem run_lookup (hT : P.underlying T = some (.map K E)) (hK : Go.Maps.Keyed P K) (hz : (zeroValue E).run P w = .ok z w) (hinj : ∀ a a', enc a = enc a' → a = a') (hkey : ∀ a, ok a → ∃ l, keyOf P K (enc a) = some l) (h : MapE enc ok w b f) (a : α) (ha : ok a) (c : Bool) :
    (Instr.lookup T (.map (some b)) (enc a) c).run P w = .ok (if c then .tuple #[(f a).getD z, .bool (f a).isSome] else (f a).getD z) w := by
  obtain ⟨es, clock, hb, hs, h1, h2⟩ := h
  have hks : ∀ x ∈ es.toList, ∃ l, keyOf P K x.key = some l := fun x hx => by obtain ⟨a', e, _, ho⟩ := h1 x hx; rw [e]; exact hkey a' ho
  obtain ⟨kl, hkl⟩ := hkey a ha
  rcases hK.find w hkl es.toList hks with ⟨q1, q2⟩ | ⟨j, e, q1, q2, q3⟩
  · have hf : f a = none := by
      cases hfa : f a with
      | none => rfl
      | some v => obtain ⟨x, hx, e⟩ := h2 a v hfa; exact absurd e (q2 x hx)
    cases c <;> simp [Instr.lookup, run_underlying hT, MapKept.run_getObj_map hb, hK.check w es.isEmpty hkl, hK.check w false hkl, q1, hz, hf, Result.andThen]
  · have hf : f a = some e.val := by
      obtain ⟨a', e1, e2, ho⟩ := h1 e (List.mem_of_getElem? q2)
      rw [q3] at e1
      rw [hinj _ _ e1]; exact e2
    cases c <;> simp [Instr.lookup, run_underlying hT, MapKept.run_getObj_map hb, hK.check w es.isEmpty hkl, hK.check w false hkl, q1, hf, Result.andThen]

theorem run_update (hT : P.underlying T = some (.map K E)) (hK : Go.Maps.Keyed P K) (hinj : ∀ a a', enc a = enc a' → a = a') (hkey : ∀ a, ok a → ∃ l, keyOf P K (enc a) = some l) (h : MapE enc ok w b f) (a : α) (ha : ok a) (v : Value) :
    ∃ w', (Instr.mapUpdate T (.map (some b)) (enc a) v).run P w = .ok () w' ∧ MapE enc ok w' b (fun m => if m = a then some v else f m) ∧ w.grownBy w' (some b) := by
  obtain ⟨es, clock, hb, hs, h1, h2⟩ := h
  have hks : ∀ x ∈ es.toList, ∃ l, keyOf P K x.key = some l := fun x hx => by obtain ⟨a', e, _, ho⟩ := h1 x hx; rw [e]; exact hkey a' ho
  obtain ⟨kl, hkl⟩ := hkey a ha
  have hgr : ∀ o, w.grownBy { w with heap := w.heap.setIfInBounds b o } (some b) := fun o =>
    ⟨rfl, rfl, rfl, by simp, fun k _ hne => (heap_set hb).2 k (fun e => hne (by rw [e]))⟩
  rcases hK.find w hkl es.toList hks with ⟨q1, q2⟩ | ⟨j, e, q1, q2, q3⟩
  · refine ⟨_, by simp [Instr.mapUpdate, run_underlying hT, MapKept.run_getObj_map hb, hK.check w es.isEmpty hkl, hK.check w false hkl, q1, MapKept.run_setObj_map _ hb, Result.andThen]; rfl, ?_, hgr _⟩
    refine ⟨_, _, (heap_set hb).1, stamped_push hs q2, ?_, ?_⟩
    · intro x hx
      simp only [Array.toList_push, List.mem_append, List.mem_singleton] at hx
      rcases hx with hx | rfl
      · obtain ⟨a', e1, e2, ho⟩ := h1 x hx
        refine ⟨a', e1, ?_, ho⟩
        simp only []
        rw [if_neg (fun e => q2 x hx (by rw [e1, e])), e2]
      · exact ⟨a, rfl, by simp, ha⟩
    · intro a' v' hf
      by_cases e : a' = a
      · subst e; exact ⟨_, by simp; exact .inr rfl, rfl⟩
      · simp only [if_neg e] at hf
        obtain ⟨x, hx, e⟩ := h2 a' v' hf
        exact ⟨x, by simp [Array.mem_toList_iff.1 hx], e⟩
  · have hj : es[j]? = some e := by simpa using q2
    have hkeyq : ∀ e', es[j]? = some e' → ({ e' with key := enc a, val := v } : MapEntry).key = e'.key := fun e' he' => by rw [hj] at he'; cases he'; exact q3.symm
    refine ⟨_, by simp [Instr.mapUpdate, run_underlying hT, MapKept.run_getObj_map hb, hK.check w es.isEmpty hkl, hK.check w false hkl, q1, hj, q3, hK.stays w hkl, MapKept.run_setObj_map _ hb, Result.andThen]; rfl, ?_, hgr _⟩
    refine ⟨_, _, (heap_set hb).1, stamped_modify hs _ _ (fun _ _ => rfl) (fun e' _ he' => hkeyq e' he'), ?_, ?_⟩
    · intro x hx
      obtain ⟨i, hi⟩ := List.mem_iff_getElem?.1 hx
      rw [Array.getElem?_toList, Array.getElem?_modify] at hi
      by_cases e1 : j = i
      · subst e1
        rw [if_pos rfl, hj] at hi
        simp at hi
        subst hi
        exact ⟨a, rfl, by simp, ha⟩
      · rw [if_neg e1] at hi
        have hx' : x ∈ es.toList := List.mem_iff_getElem?.2 ⟨i, by simpa using hi⟩
        obtain ⟨a', k1, k2, ho⟩ := h1 x hx'
        refine ⟨a', k1, ?_, ho⟩
        have hne : a' ≠ a := by
          intro e2
          have hp := ((stamped_iff es clock).1 hs).2.2
          rw [List.pairwise_iff_getElem] at hp
          obtain ⟨l1, l2⟩ := List.getElem?_eq_some_iff.1 q2
          have hi' : es.toList[i]? = some x := by simpa using hi
          obtain ⟨l3, l4⟩ := List.getElem?_eq_some_iff.1 hi'
          rcases Nat.lt_or_ge i j with h | h
          · exact hp i j l3 l1 h (by rw [l4, l2, k1, q3, e2])
          · exact hp j i l1 l3 (by omega) (by rw [l4, l2, k1, q3, e2])
        simp only []
        rw [if_neg hne, k2]
    · intro a' v' hf
      by_cases e1 : a' = a
      · subst e1
        refine ⟨{ e with key := enc a', val := v }, List.mem_iff_getElem?.2 ⟨j, ?_⟩, rfl⟩
        rw [Array.getElem?_toList, Array.getElem?_modify, if_pos rfl, hj]; rfl
      · simp only [if_neg e1] at hf
        obtain ⟨x, hx, k1⟩ := h2 a' v' hf
        obtain ⟨i, hi⟩ := List.mem_iff_getElem?.1 hx
        have hne : j ≠ i := by
          intro e2
          subst e2
          rw [q2] at hi
          injection hi with hi
          rw [← hi, q3] at k1
          exact e1 (hinj _ _ k1).symm
        exact ⟨x, List.mem_iff_getElem?.2 ⟨i, by rw [Array.getElem?_toList, Array.getElem?_modify, if_neg hne]; simpa using hi⟩, k1⟩

/-- 'm[k]', 'v, ok := m[k]' at the operation. -/
theorem wpList_look {ops : Array Oper} {rest : List Oper} {o : Oper} {act : Act} {Q : Exit → Act → World → Prop} (hg : o.guard = none) (m x : Operand) (c : Bool) (hop : o.op = Op.lookup T m x c)
    (hT : P.underlying T = some (.map K E)) (hK : Go.Maps.Keyed P K) (hz : (zeroValue E).run P w = .ok z w) (hinj : ∀ a a', enc a = enc a' → a = a') (hkey : ∀ a, ok a → ∃ l, keyOf P K (enc a) = some l) (h : MapE enc ok w b f) (a : α) (ha : ok a)
    (hm : act.eval m = .map (some b)) (hx : act.eval x = enc a)
    (hK2 : wpList P ops Q rest (act.put o.dst (if c then .tuple #[(f a).getD z, .bool (f a).isSome] else (f a).getD z)) w) :
    wpList P ops Q (o :: rest) act w := by
  refine wpList_plain hg fun K' hK' => ?_
  unfold Oper.wp
  simp [execOp, hop, hm, hx, run_lookup hT hK hz hinj hkey h a ha, Result.andThen]
  exact hK' _ _ hK2

/-- 'm[k] = v' at the operation. -/
theorem wpList_upd {ops : Array Oper} {rest : List Oper} {o : Oper} {act : Act} {Q : Exit → Act → World → Prop} (hg : o.guard = none) (m x y : Operand) (hop : o.op = Op.mapUpdate T m x y)
    (hT : P.underlying T = some (.map K E)) (hK : Go.Maps.Keyed P K) (hinj : ∀ a a', enc a = enc a' → a = a') (hkey : ∀ a, ok a → ∃ l, keyOf P K (enc a) = some l) (h : MapE enc ok w b f) (a : α) (ha : ok a) (v : Value)
    (hm : act.eval m = .map (some b)) (hx : act.eval x = enc a) (hy : act.eval y = v)
    (hK2 : ∀ w', MapE enc ok w' b (fun k => if k = a then some v else f k) → w.grownBy w' (some b) → wpList P ops Q rest (act.put o.dst undef) w') :
    wpList P ops Q (o :: rest) act w := by
  refine wpList_plain hg fun K' hK' => ?_
  obtain ⟨w', hrun, h1, h2⟩ := run_update hT hK hinj hkey h a ha v
  unfold Oper.wp
  simp [execOp, hop, hm, hx, hy, hrun, Result.andThen]
  exact hK' _ _ (hK2 w' h1 h2)
end
end Go.Proofs.MapG
