/- From a datum as the row reads it to a tree of Lean's own. -/
import Derived.Test.YtbdciibbgiphcaaGreatDoorTr
import Derived.Test.YtbdciibbgiphcaaGreatDoorZrA
namespace Go.Proofs.Tr
set_option linter.unusedVariables false
set_option linter.unusedSimpArgs false
set_option linter.unusedSectionVars false
open Go.RowKit Go.Proofs.YtbdciibbgiphcaaGreatDoorW.PrintWords Go.Proofs.YtbdciibbgiphcaaGreatDoor.V
/-- as TrAt, for no more fuel than n. -/
def TrN (P : Program) {α : Type} (d : Kd α) (wf : α → Prop) (t : TypeId) (N : Nat) : Prop :=
  ∀ (H : Type) (enc : TypeId × Value → H) (W : World) (fuel : Nat) (cs : List Value) (x : DataW H × List MemPlace), fuel ≤ N → DataW.trod enc P W 0 (fun _ => true) true fuel t cs = some x →
    ((x.1.weights P t).all (· ≤ reachBytes) = true) → ∃ a, d.K W a cs ∧ wf a
section
variable {P : Program} {t e : TypeId} {fuel n : Nat}
theorem TrN.slice {α : Type} {d : Kd α} {wf : α → Prop} {N : Nat} (e' : Nat) (ht : P.underlying t = some (.slice e)) (hc : P.cellsOf e = d.sz) (hd : TrN P d wf e N) :
    TrN P (Kd.slice e' d) (fun l => l.length * P.bytesOf e ≤ 140737488351232 ∧ l.length ≤ 9223372036854775807 ∧ ∀ a ∈ l, wf a) t N := by
  intro H enc W fuel cs x hN h hw
  cases fuel with
  | zero => simp [DataW.trod] at h
  | succ fuel =>
  rcases DataW.trod_slice ht h with ⟨rfl, rfl⟩ | ⟨a, len, cap, elems, rest, m, hm, rfl, rfl, hb, hl, hcap, hlen, hel, hspare⟩
  · exact ⟨[], ⟨none, 0, rfl, Nat.le_refl _, rfl, by simp, fun h => absurd h (by simp)⟩, by simp, by simp, by simp⟩
  · obtain rfl : m = fuel := by omega
    have hw2 : ∀ n ∈ (elems.length + rest.length) * P.bytesOf e :: (DataW.weightsAll P e (elems.map (·.1)) ++ DataW.weightsAll P e (rest.map (·.1))), n ≤ reachBytes := by
      have := List.all_eq_true.1 hw
      intro n hn
      have h1 := this n (by simpa [DataW.weights, ht] using hn)
      simpa using h1
    have hex : ∀ i, i < len → ∃ cs', W.cells? 0 (a.add (i * P.cellsOf e)) (P.cellsOf e) = some cs' ∧ ∃ y, d.K W y cs' ∧ wf y := by
      intro i hi
      have h1 := hel i hi
      rw [List.getElem?_eq_getElem (by omega), Option.bind_eq_some_iff] at h1
      obtain ⟨cs', h2, h3⟩ := h1
      refine ⟨cs', h2, ?_⟩
      refine hd H enc W m cs' _ (by omega) h3 ?_
      rw [List.all_eq_true]
      intro n hn
      have h4 : ((elems.map (·.1))[i]?) = some (elems[i]'(by omega)).1 := by simp [show i < elems.length by omega]
      have := hw2 n (List.mem_cons_of_mem _ (List.mem_append_left _ (weightsAll_mem h4 n hn)))
      simpa using this
    have hch : ∃ l : List α, l.length = len ∧ ∀ i, i < len → ∃ y cs', l[i]? = some y ∧ W.cells? 0 (a.add (i * P.cellsOf e)) (P.cellsOf e) = some cs' ∧ d.K W y cs' ∧ wf y := by
      clear hel hw hw2 h hlen hl hspare
      induction len with
      | zero => exact ⟨[], rfl, fun i hi => absurd hi (by omega)⟩
      | succ len ih =>
        obtain ⟨l, h1, h2⟩ := ih (fun i hi => hex i (by omega))
        obtain ⟨cs', h3, y, h4, h5⟩ := hex len (by omega)
        refine ⟨l ++ [y], by simp [h1], fun i hi => ?_⟩
        by_cases e1 : i = len
        · subst e1
          exact ⟨y, cs', by simp [← h1], h3, h4, h5⟩
        · obtain ⟨y', cs2, q1, q2⟩ := h2 i (by omega)
          exact ⟨y', cs2, by rw [List.getElem?_append_left (by omega)]; exact q1, q2⟩
    obtain ⟨l, hll, hle⟩ := hch
    refine ⟨l, ⟨some a, cap, by rw [hll], by omega, rfl, by unfold maxLen at hcap; omega, fun _ => ⟨a, rfl, fun j p hj => ?_⟩⟩, ?_, ?_, ?_⟩
    · have hjl : j < len := by rw [← hll]; exact (List.getElem?_eq_some_iff.1 hj).1
      obtain ⟨y, cs', q1, q2, q3, _⟩ := hle j hjl
      rw [hj] at q1
      injection q1 with q1
      subst q1
      have hlen' := d.K_len q3
      refine ⟨cs', hlen', q3, fun i u hu => ?_⟩
      obtain ⟨_, _, hcell⟩ := World.cells?_some q2
      rw [← hc, ← add_add, hcell i (by rw [hc, ← hlen']; exact (List.getElem?_eq_some_iff.1 hu).1)]
      exact hu
    · have := hw2 _ List.mem_cons_self
      have h3 : len * P.bytesOf e ≤ (elems.length + rest.length) * P.bytesOf e := Nat.mul_le_mul_right _ (by omega)
      rw [hll]
      unfold reachBytes at this
      omega
    · unfold maxLen at hcap; omega
    · intro y hy
      obtain ⟨i, hi, rfl⟩ := List.getElem_of_mem hy
      obtain ⟨y', cs', q1, _, _, q4⟩ := hle i (by omega)
      rw [List.getElem?_eq_getElem hi] at q1
      injection q1 with q1
      rw [q1]; exact q4

end
theorem list4 {α : Type} {l : List α} (h : l.length = 4) : ∃ a b c d, l = [a, b, c, d] := by
  match l, h with
  | [a, b, c, d], _ => exact ⟨a, b, c, d, rfl⟩
theorem wf_u8 {c : Int} (h : (Lit.int .u8 c).wf = true) : 0 ≤ c ∧ c ≤ 255 := by
  have := h
  simp [Lit.wf, IntKind.min, IntKind.max, IntKind.bits, IntKind.signed] at this
  omega
theorem wf_i64 {c : Int} (h : (Lit.int .i64 c).wf = true) : -9223372036854775808 ≤ c ∧ c ≤ 9223372036854775807 := by
  have := h
  simp [Lit.wf, IntKind.min, IntKind.max, IntKind.bits, IntKind.signed] at this
  omega
theorem all_app {p : Nat → Bool} {a b : List Nat} (h : (a ++ b).all p = true) : a.all p = true ∧ b.all p = true := by
  rw [List.all_append, Bool.and_eq_true] at h; exact h
theorem fields25 : ∃ fs : Array Field, Tryz.prog.underlying 25 = some (.struct fs) ∧ fs.size = 4 ∧ (fs.toList.map (·.type)) = [22, 2, 9, 23] ∧
    (∃ f, fs[0]? = some f ∧ f.type = 22 ∧ f.offset = 0) ∧ (∃ f, fs[1]? = some f ∧ f.type = 2 ∧ f.offset = 1) ∧ (∃ f, fs[2]? = some f ∧ f.type = 9 ∧ f.offset = 2) ∧ (∃ f, fs[3]? = some f ∧ f.type = 23 ∧ f.offset = 3) :=
  ⟨_, Tryz.underlying25, rfl, rfl, ⟨_, rfl, rfl, rfl⟩, ⟨_, rfl, rfl, rfl⟩, ⟨_, rfl, rfl, rfl⟩, ⟨_, rfl, rfl, rfl⟩⟩
theorem trN_expr : ∀ N, TrN Tryz.prog k25 (fun x => WfE x ∧ SmE x) 25 N
  | 0 => by
    intro H enc W fuel cs x hN h hw
    obtain rfl : fuel = 0 := by omega
    simp [DataW.trod] at h
  | N + 1 => by
    intro H enc W fuel cs x hN h hw
    obtain ⟨fs, hu, hfz, hty, ⟨g0, q0, t0, o0⟩, ⟨g1, q1, t1, o1⟩, ⟨g2, q2, t2, o2⟩, ⟨g3, q3, t3, o3⟩⟩ := fields25
    obtain ⟨xs, n, rfl, rfl, hlen, hxl, hel⟩ := DataW.trod_struct hu h
    have hc4 : Tryz.prog.cellsOf 25 = 4 := by kernel_rfl
    have c22 : Tryz.prog.cellsOf 22 = 1 := by kernel_rfl
    have c2 : Tryz.prog.cellsOf 2 = 1 := by kernel_rfl
    have c9 : Tryz.prog.cellsOf 9 = 1 := by kernel_rfl
    have c23 : Tryz.prog.cellsOf 23 = 1 := by kernel_rfl
    rw [hc4] at hlen
    rw [hfz] at hxl
    obtain ⟨v0, v1, v2, v3, rfl⟩ := list4 hlen
    obtain ⟨x0, x1, x2, x3, rfl⟩ := list4 hxl
    have e0 := hel 0 g0 q0
    have e1 := hel 1 g1 q1
    have e2 := hel 2 g2 q2
    have e3 := hel 3 g3 q3
    rw [t0, o0, c22] at e0
    rw [t1, o1, c2] at e1
    rw [t2, o2, c9] at e2
    rw [t3, o3, c23] at e3
    replace e0 : DataW.trod enc Tryz.prog W 0 (fun _ => true) true n 22 [v0] = some x0 := e0
    replace e1 : DataW.trod enc Tryz.prog W 0 (fun _ => true) true n 2 [v1] = some x1 := e1
    replace e2 : DataW.trod enc Tryz.prog W 0 (fun _ => true) true n 9 [v2] = some x2 := e2
    replace e3 : DataW.trod enc Tryz.prog W 0 (fun _ => true) true n 23 [v3] = some x3 := e3
    have hw4 : (DataW.weightsEach Tryz.prog [22, 2, 9, 23] [x0.1, x1.1, x2.1, x3.1]).all (· ≤ reachBytes) = true := by
      simp only [DataW.weights, hu, hty] at hw
      exact hw
    obtain ⟨z0, hw3⟩ := wsplit hw4
    obtain ⟨z1, hw2⟩ := wsplit hw3
    obtain ⟨z2, hw1⟩ := wsplit hw2
    obtain ⟨z3, _⟩ := wsplit hw1
    obtain ⟨o, k0, w0⟩ := TrAt.int (P := Tryz.prog) (t := 22) (k := .u8) Tryz.underlying22 H enc W n _ x0 e0 z0
    obtain ⟨m, k1, w1⟩ := TrAt.int (P := Tryz.prog) (t := 2) (k := .i64) Tryz.underlying2 H enc W n _ x1 e1 z1
    obtain ⟨s, k2, w2⟩ := TrAt.string (P := Tryz.prog) (t := 9) Tryz.underlying9 H enc W n _ x2 e2 z2
    obtain ⟨ys, k3, w3⟩ := TrN.slice (P := Tryz.prog) (t := 23) (e := 25) 25 Tryz.underlying23 hc4 (trN_expr N) H enc W n _ x3 (by omega) e3 z3
    have hb : Tryz.prog.bytesOf 25 = 56 := by kernel_rfl
    rw [hb] at w3
    obtain ⟨A, c, e3', hl3, hC3⟩ := k3
    obtain rfl : v0 = .int .u8 o := by injection k0
    obtain rfl : v1 = .int .i64 m := by injection k1
    obtain rfl : v2 = .string s := by injection k2
    obtain rfl : v3 = .slice A ys.length c := by injection e3'
    have w0' := wf_u8 w0
    have w1' := wf_i64 w1
    refine ⟨⟨o, m, s, ys⟩, k25_mk W ⟨o, m, s, ys⟩ hl3 hC3, .mk o m s ys ?_ ?_ ?_ ?_ w2.2 (by omega) (fun y hy => (w3.2.2 y hy).1), .mk o m s ys (by omega) (fun y hy => (w3.2.2 y hy).2)⟩
    · exact w0'.1
    · exact w0'.2
    · exact w1'.1
    · exact w1'.2
theorem trAt_expr : TrAt Tryz.prog k25 (fun x => WfE x ∧ SmE x) 25 := fun H enc W fuel cs x h hw => trN_expr fuel H enc W fuel cs x (Nat.le_refl _) h hw
end Go.Proofs.Tr
