/- From a datum as the row reads it to a value of Lean's own: for whole numbers, bools, strings, slices of such. -/
import Derived.Test.YtbdciibbgiphcaaGreatDoorWWords
import Derived.ChangeArms
import Derived.SizedLaws
import Derived.DataReads
namespace Go.Proofs.Tr
set_option linter.unusedVariables false
set_option linter.unusedSimpArgs false
set_option linter.unusedSectionVars false
open Go.RowKit Go.Proofs.YtbdciibbgiphcaaGreatDoorW.PrintWords

/-- whatever reads as a datum of type t, with so much fuel, is a value of d that is wf. -/
def TrAt (P : Program) {α : Type} (d : Kd α) (wf : α → Prop) (t : TypeId) : Prop :=
  ∀ (H : Type) (enc : TypeId × Value → H) (W : World) (fuel : Nat) (cs : List Value) (x : DataW H × List MemPlace), DataW.trod enc P W 0 (fun _ => true) true fuel t cs = some x →
    ((x.1.weights P t).all (· ≤ reachBytes) = true) → ∃ a, d.K W a cs ∧ wf a

section
variable {P : Program} {t e : TypeId} {fuel n : Nat}

theorem TrAt.int {k : IntKind} (ht : P.underlying t = some (.int k)) : TrAt P (Kd.int k) (fun n => (Lit.int k n).wf = true) t := by
  intro H enc W fuel cs x h _
  cases fuel with
  | zero => simp [DataW.trod] at h
  | succ m =>
    unfold DataW.trod at h
    rw [ht] at h
    split at h <;> simp_all
    obtain ⟨⟨h1, h2⟩, _⟩ := h
    subst h1
    exact ⟨_, rfl, h2⟩

theorem TrAt.bool (ht : P.underlying t = some .bool) : TrAt P Kd.bool (fun _ => True) t := by
  intro H enc W fuel cs x h _
  cases fuel with
  | zero => simp [DataW.trod] at h
  | succ m =>
    unfold DataW.trod at h
    rw [ht] at h
    split at h <;> simp_all [-Bool.exists_bool]
    exact ⟨_, rfl⟩

theorem TrAt.string (ht : P.underlying t = some .string) : TrAt P Kd.string (fun s => s.size ≤ maxLen ∧ s.size ≤ 140737488351232) t := by
  intro H enc W fuel cs x h hw
  cases fuel with
  | zero => simp [DataW.trod] at h
  | succ m =>
    unfold DataW.trod at h
    rw [ht] at h
    split at h <;> simp_all
    rename_i s
    obtain ⟨h1, rfl⟩ := h
    refine ⟨s, rfl, h1, ?_⟩
    simp [DataW.weights, reachBytes] at hw
    exact hw

theorem weightsAll_mem {H : Type} {e : TypeId} : ∀ {l : List (DataW H)} {i : Nat} {d : DataW H}, l[i]? = some d → ∀ n ∈ d.weights P e, n ∈ DataW.weightsAll P e l
  | d0 :: r, 0, d, h, n, hn => by
    simp only [List.getElem?_cons_zero, Option.some.injEq] at h
    subst h
    simp only [DataW.weightsAll, List.mem_append]
    exact .inl hn
  | d0 :: r, i + 1, d, h, n, hn => by
    simp only [List.getElem?_cons_succ] at h
    simp only [DataW.weightsAll, List.mem_append]
    exact .inr (weightsAll_mem h n hn)
  | [], _, _, h, _, _ => by simp at h

theorem TrAt.slice {α : Type} {d : Kd α} {wf : α → Prop} (e' : Nat) (ht : P.underlying t = some (.slice e)) (hc : P.cellsOf e = d.sz) (hd : TrAt P d wf e) :
    TrAt P (Kd.slice e' d) (fun l => l.length * P.bytesOf e ≤ 140737488351232 ∧ l.length ≤ 9223372036854775807 ∧ ∀ a ∈ l, wf a) t := by
  intro H enc W fuel cs x h hw
  cases fuel with
  | zero => simp [DataW.trod] at h
  | succ fuel =>
  rcases DataW.trod_slice ht h with ⟨rfl, rfl⟩ | ⟨a, len, cap, elems, rest, m, hm, rfl, rfl, hb, hl, hcap, hlen, hel, hspare⟩
  · exact ⟨[], ⟨none, 0, rfl, Nat.le_refl _, rfl, by simp, fun h => absurd h (by simp)⟩, by simp, by simp, by simp⟩
  · obtain rfl : m = fuel := by omega
    have hw2 : ∀ n ∈ (elems.length + rest.length) * P.bytesOf e :: (DataW.weightsAll P e (elems.map (·.1)) ++ DataW.weightsAll P e (rest.map (·.1))), n ≤ reachBytes := by
      have := List.all_eq_true.1 hw
      intro n hn
      have h1 := this n (by simpa [DataW.weights, ht] using hn)
      simpa using h1
    have hex : ∀ i, i < len → ∃ cs', W.cells? 0 (a.add (i * P.cellsOf e)) (P.cellsOf e) = some cs' ∧ ∃ y, d.K W y cs' ∧ wf y := by
      intro i hi
      have h1 := hel i hi
      rw [List.getElem?_eq_getElem (by omega), Option.bind_eq_some_iff] at h1
      obtain ⟨cs', h2, h3⟩ := h1
      refine ⟨cs', h2, ?_⟩
      refine hd H enc W m cs' _ h3 ?_
      rw [List.all_eq_true]
      intro n hn
      have h4 : ((elems.map (·.1))[i]?) = some (elems[i]'(by omega)).1 := by simp [show i < elems.length by omega]
      have := hw2 n (List.mem_cons_of_mem _ (List.mem_append_left _ (weightsAll_mem h4 n hn)))
      simpa using this
    have hch : ∃ l : List α, l.length = len ∧ ∀ i, i < len → ∃ y cs', l[i]? = some y ∧ W.cells? 0 (a.add (i * P.cellsOf e)) (P.cellsOf e) = some cs' ∧ d.K W y cs' ∧ wf y := by
      clear hel hw hw2 h hlen hl hspare
      induction len with
      | zero => exact ⟨[], rfl, fun i hi => absurd hi (by omega)⟩
      | succ len ih =>
        obtain ⟨l, h1, h2⟩ := ih (fun i hi => hex i (by omega))
        obtain ⟨cs', h3, y, h4, h5⟩ := hex len (by omega)
        refine ⟨l ++ [y], by simp [h1], fun i hi => ?_⟩
        by_cases e1 : i = len
        · subst e1
          exact ⟨y, cs', by simp [← h1], h3, h4, h5⟩
        · obtain ⟨y', cs2, q1, q2⟩ := h2 i (by omega)
          exact ⟨y', cs2, by rw [List.getElem?_append_left (by omega)]; exact q1, q2⟩
    obtain ⟨l, hll, hle⟩ := hch
    refine ⟨l, ⟨some a, cap, by rw [hll], by omega, rfl, by unfold maxLen at hcap; omega, fun _ => ⟨a, rfl, fun j p hj => ?_⟩⟩, ?_, ?_, ?_⟩
    · have hjl : j < len := by rw [← hll]; exact (List.getElem?_eq_some_iff.1 hj).1
      obtain ⟨y, cs', q1, q2, q3, _⟩ := hle j hjl
      rw [hj] at q1
      injection q1 with q1
      subst q1
      have hlen' := d.K_len q3
      refine ⟨cs', hlen', q3, fun i u hu => ?_⟩
      obtain ⟨_, _, hcell⟩ := World.cells?_some q2
      rw [← hc, ← add_add, hcell i (by rw [hc, ← hlen']; exact (List.getElem?_eq_some_iff.1 hu).1)]
      exact hu
    · have := hw2 _ List.mem_cons_self
      have h3 : len * P.bytesOf e ≤ (elems.length + rest.length) * P.bytesOf e := Nat.mul_le_mul_right _ (by omega)
      rw [hll]
      unfold reachBytes at this
      omega
    · unfold maxLen at hcap; omega
    · intro y hy
      obtain ⟨i, hi, rfl⟩ := List.getElem_of_mem hy
      obtain ⟨y', cs', q1, _, _, q4⟩ := hle i (by omega)
      rw [List.getElem?_eq_getElem hi] at q1
      injection q1 with q1
      rw [q1]; exact q4

theorem wsplit {H : Type} {d : DataW H} {ts : List TypeId} {ds : List (DataW H)} {q : Nat → Bool} (h : (DataW.weightsEach P (t :: ts) (d :: ds)).all q = true) :
    (d.weights P t).all q = true ∧ (DataW.weightsEach P ts ds).all q = true := by
  simp only [DataW.weightsEach, List.all_append, Bool.and_eq_true] at h
  exact h

theorem TrAt.arg {H : Type} {enc : TypeId × Value → H} {W : World} {v : Value} {x : DataW H} {q : List MemPlace} {α : Type} {d : Kd α} {wf : α → Prop} (ht : TrAt P d wf t)
    (h : DataW.Trod enc P W 0 (fun _ => true) true t v x q) (hw : (x.weights P t).all (· ≤ reachBytes) = true) : ∃ a, d.K W a v.cells.toList ∧ wf a := by
  obtain ⟨fuel, hf⟩ := h
  exact ht H enc W fuel _ (x, q) hf hw

theorem lt_of_trod {H : Type} {enc : TypeId × Value → H} {W : World} {v : Value} {x : DataW H} {q : List MemPlace} (h : DataW.Trod enc P W 0 (fun _ => true) true t v x q) : ∀ y ∈ q, y.block < W.heap.size := by
  obtain ⟨m, hm⟩ := h
  exact DataW.trod_lt m _ _ _ hm
end
end Go.Proofs.Tr
