/- From a datum as the row reads it to a tree, and how many parts it has. -/
import Derived.Test.YtbdciibbgiphcaaGreatDoorTrE
import Derived.Test.YtbdciibbgiphcaaGreatDoorRows
import Derived.Test.YtbdciibbgiphcaaGreatDoorZrC
namespace Go.Proofs.Tr
set_option linter.unusedVariables false
set_option linter.unusedSimpArgs false
set_option linter.unusedSectionVars false
open Go.RowKit Go.Proofs.YtbdciibbgiphcaaGreatDoorW.PrintWords Go.Proofs.YtbdciibbgiphcaaGreatDoor.V
open Go.Proofs.YtbdciibbgiphcaaGreatDoor.Rows (uptoBulk uptoBulkAll)
/-- as TrN, and a measure that is at most the reading's bulk. -/
def TrM (P : Program) {α : Type} (d : Kd α) (wf : α → Prop) (cnt : α → Nat) (t : TypeId) (N : Nat) : Prop :=
  ∀ (H : Type) (enc : TypeId × Value → H) (W : World) (fuel : Nat) (cs : List Value) (x : DataW H × List MemPlace), fuel ≤ N → DataW.trod enc P W 0 (fun _ => true) true fuel t cs = some x →
    ((x.1.weights P t).all (· ≤ reachBytes) = true) → ∃ a, d.K W a cs ∧ wf a ∧ cnt a ≤ uptoBulk x.1
theorem sum_le_bulk {α H : Type} (cnt : α → Nat) : ∀ (l : List α) (es : List (DataW H)), l.length ≤ es.length → (∀ (i : Nat) y d, l[i]? = some y → es[i]? = some d → cnt y ≤ uptoBulk d) → (l.map cnt).sum ≤ uptoBulkAll es
  | [], es, _, _ => by simp
  | y :: l, [], h, _ => by simp at h
  | y :: l, d :: es, h, hc => by
    have h1 := hc 0 y d rfl rfl
    have h2 := sum_le_bulk cnt l es (by simpa using h) (fun i y d hy hd => hc (i + 1) y d (by simpa using hy) (by simpa using hd))
    simp only [List.map_cons, List.sum_cons, uptoBulkAll]
    omega
section
variable {P : Program} {t e : TypeId} {fuel n : Nat}
theorem TrM.slice {α : Type} {d : Kd α} {wf : α → Prop} {cnt : α → Nat} {N : Nat} (e' : Nat) (ht : P.underlying t = some (.slice e)) (hc : P.cellsOf e = d.sz) (hd : TrM P d wf cnt e N) :
    TrM P (Kd.slice e' d) (fun l => l.length * P.bytesOf e ≤ 140737488351232 ∧ l.length ≤ 9223372036854775807 ∧ ∀ a ∈ l, wf a) (fun l => (l.map cnt).sum) t N := by
  intro H enc W fuel cs x hN h hw
  cases fuel with
  | zero => simp [DataW.trod] at h
  | succ fuel =>
  rcases DataW.trod_slice ht h with ⟨rfl, rfl⟩ | ⟨a, len, cap, elems, rest, m, hm, rfl, rfl, hb, hl, hcap, hlen, hel, hspare⟩
  · exact ⟨[], ⟨none, 0, rfl, Nat.le_refl _, rfl, by simp, fun h => absurd h (by simp)⟩, ⟨by simp, by simp, by simp⟩, by simp⟩
  · obtain rfl : m = fuel := by omega
    have hw2 : ∀ n ∈ (elems.length + rest.length) * P.bytesOf e :: (DataW.weightsAll P e (elems.map (·.1)) ++ DataW.weightsAll P e (rest.map (·.1))), n ≤ reachBytes := by
      have := List.all_eq_true.1 hw
      intro n hn
      have h1 := this n (by simpa [DataW.weights, ht] using hn)
      simpa using h1
    have hex : ∀ i, i < len → ∃ cs', W.cells? 0 (a.add (i * P.cellsOf e)) (P.cellsOf e) = some cs' ∧ ∃ y, d.K W y cs' ∧ wf y ∧ ∀ el, elems[i]? = some el → cnt y ≤ uptoBulk el.1 := by
      intro i hi
      have h1 := hel i hi
      rw [List.getElem?_eq_getElem (by omega), Option.bind_eq_some_iff] at h1
      obtain ⟨cs', h2, h3⟩ := h1
      refine ⟨cs', h2, ?_⟩
      have hce : ∃ y, d.K W y cs' ∧ wf y ∧ cnt y ≤ uptoBulk (elems[i]'(by omega)).1 := by
       refine hd H enc W m cs' _ (by omega) h3 ?_
       rw [List.all_eq_true]
       intro n hn
       have h4 : ((elems.map (·.1))[i]?) = some (elems[i]'(by omega)).1 := by simp [show i < elems.length by omega]
       have := hw2 n (List.mem_cons_of_mem _ (List.mem_append_left _ (weightsAll_mem h4 n hn)))
       simpa using this
      obtain ⟨y, y1, y2, y3⟩ := hce
      exact ⟨y, y1, y2, fun el hel2 => by rw [List.getElem?_eq_getElem (by omega)] at hel2; injection hel2 with hel2; subst hel2; exact y3⟩
    have hch : ∃ l : List α, l.length = len ∧ ∀ i, i < len → ∃ y cs', l[i]? = some y ∧ W.cells? 0 (a.add (i * P.cellsOf e)) (P.cellsOf e) = some cs' ∧ d.K W y cs' ∧ wf y ∧ ∀ el, elems[i]? = some el → cnt y ≤ uptoBulk el.1 := by
      clear hel hw hw2 h hlen hl hspare
      induction len with
      | zero => exact ⟨[], rfl, fun i hi => absurd hi (by omega)⟩
      | succ len ih =>
        obtain ⟨l, h1, h2⟩ := ih (fun i hi => hex i (by omega))
        obtain ⟨cs', h3, y, h4, h5⟩ := hex len (by omega)
        refine ⟨l ++ [y], by simp [h1], fun i hi => ?_⟩
        by_cases e1 : i = len
        · subst e1
          exact ⟨y, cs', by simp [← h1], h3, h4, h5⟩
        · obtain ⟨y', cs2, q1, q2⟩ := h2 i (by omega)
          exact ⟨y', cs2, by rw [List.getElem?_append_left (by omega)]; exact q1, q2⟩
    obtain ⟨l, hll, hle⟩ := hch
    refine ⟨l, ⟨some a, cap, by rw [hll], by omega, rfl, by unfold maxLen at hcap; omega, fun _ => ⟨a, rfl, fun j p hj => ?_⟩⟩, ⟨?_, ?_, ?_⟩, ?_⟩
    · have hjl : j < len := by rw [← hll]; exact (List.getElem?_eq_some_iff.1 hj).1
      obtain ⟨y, cs', q1, q2, q3, _⟩ := hle j hjl
      rw [hj] at q1
      injection q1 with q1
      subst q1
      have hlen' := d.K_len q3
      refine ⟨cs', hlen', q3, fun i u hu => ?_⟩
      obtain ⟨_, _, hcell⟩ := World.cells?_some q2
      rw [← hc, ← add_add, hcell i (by rw [hc, ← hlen']; exact (List.getElem?_eq_some_iff.1 hu).1)]
      exact hu
    · have := hw2 _ List.mem_cons_self
      have h3 : len * P.bytesOf e ≤ (elems.length + rest.length) * P.bytesOf e := Nat.mul_le_mul_right _ (by omega)
      rw [hll]
      unfold reachBytes at this
      omega
    · unfold maxLen at hcap; omega
    · intro y hy
      obtain ⟨i, hi, rfl⟩ := List.getElem_of_mem hy
      obtain ⟨y', cs', q1, _, _, q4, _⟩ := hle i (by omega)
      rw [List.getElem?_eq_getElem hi] at q1
      injection q1 with q1
      rw [q1]; exact q4
    · have h5 := sum_le_bulk cnt l (elems.map (·.1)) (by rw [List.length_map]; omega) (fun i y dd hy hd2 => by
        have hi : i < len := by rw [← hll]; exact (List.getElem?_eq_some_iff.1 hy).1
        obtain ⟨y', cs', q1, _, _, _, q5⟩ := hle i hi
        rw [hy] at q1
        injection q1 with q1
        subst q1
        rw [List.getElem?_map] at hd2
        cases he : elems[i]? with
        | none => rw [he] at hd2; simp at hd2
        | some el =>
          rw [he] at hd2
          simp only [Option.map_some, Option.some.injEq] at hd2
          rw [← hd2]
          exact q5 el he)
      simp only [uptoBulk]
      omega

end
theorem trM_expr : ∀ N, TrM Tryz.prog k25 (fun x => WfE x ∧ SmE x) cntE 25 N
  | 0 => by
    intro H enc W fuel cs x hN h hw
    obtain rfl : fuel = 0 := by omega
    simp [DataW.trod] at h
  | N + 1 => by
    intro H enc W fuel cs x hN h hw
    obtain ⟨fs, hu, hfz, hty, ⟨g0, q0, t0, o0⟩, ⟨g1, q1, t1, o1⟩, ⟨g2, q2, t2, o2⟩, ⟨g3, q3, t3, o3⟩⟩ := fields25
    obtain ⟨xs, n, rfl, rfl, hlen, hxl, hel⟩ := DataW.trod_struct hu h
    have hc4 : Tryz.prog.cellsOf 25 = 4 := by kernel_rfl
    have c22 : Tryz.prog.cellsOf 22 = 1 := by kernel_rfl
    have c2 : Tryz.prog.cellsOf 2 = 1 := by kernel_rfl
    have c9 : Tryz.prog.cellsOf 9 = 1 := by kernel_rfl
    have c23 : Tryz.prog.cellsOf 23 = 1 := by kernel_rfl
    rw [hc4] at hlen
    rw [hfz] at hxl
    obtain ⟨v0, v1, v2, v3, rfl⟩ := list4 hlen
    obtain ⟨x0, x1, x2, x3, rfl⟩ := list4 hxl
    have e0 := hel 0 g0 q0
    have e1 := hel 1 g1 q1
    have e2 := hel 2 g2 q2
    have e3 := hel 3 g3 q3
    rw [t0, o0, c22] at e0
    rw [t1, o1, c2] at e1
    rw [t2, o2, c9] at e2
    rw [t3, o3, c23] at e3
    replace e0 : DataW.trod enc Tryz.prog W 0 (fun _ => true) true n 22 [v0] = some x0 := e0
    replace e1 : DataW.trod enc Tryz.prog W 0 (fun _ => true) true n 2 [v1] = some x1 := e1
    replace e2 : DataW.trod enc Tryz.prog W 0 (fun _ => true) true n 9 [v2] = some x2 := e2
    replace e3 : DataW.trod enc Tryz.prog W 0 (fun _ => true) true n 23 [v3] = some x3 := e3
    have hw4 : (DataW.weightsEach Tryz.prog [22, 2, 9, 23] [x0.1, x1.1, x2.1, x3.1]).all (· ≤ reachBytes) = true := by
      simp only [DataW.weights, hu, hty] at hw
      exact hw
    obtain ⟨z0, hw3⟩ := wsplit hw4
    obtain ⟨z1, hw2⟩ := wsplit hw3
    obtain ⟨z2, hw1⟩ := wsplit hw2
    obtain ⟨z3, _⟩ := wsplit hw1
    obtain ⟨o, k0, w0⟩ := TrAt.int (P := Tryz.prog) (t := 22) (k := .u8) Tryz.underlying22 H enc W n _ x0 e0 z0
    obtain ⟨m, k1, w1⟩ := TrAt.int (P := Tryz.prog) (t := 2) (k := .i64) Tryz.underlying2 H enc W n _ x1 e1 z1
    obtain ⟨s, k2, w2⟩ := TrAt.string (P := Tryz.prog) (t := 9) Tryz.underlying9 H enc W n _ x2 e2 z2
    obtain ⟨ys, k3, w3, b3⟩ := TrM.slice (P := Tryz.prog) (t := 23) (e := 25) 25 Tryz.underlying23 hc4 (trM_expr N) H enc W n _ x3 (by omega) e3 z3
    have b3' : (ys.map cntE).sum ≤ uptoBulk x3.1 := b3
    have hb : Tryz.prog.bytesOf 25 = 56 := by kernel_rfl
    rw [hb] at w3
    obtain ⟨A, c, e3', hl3, hC3⟩ := k3
    obtain rfl : v0 = .int .u8 o := by injection k0
    obtain rfl : v1 = .int .i64 m := by injection k1
    obtain rfl : v2 = .string s := by injection k2
    obtain rfl : v3 = .slice A ys.length c := by injection e3'
    have w0' := wf_u8 w0
    have w1' := wf_i64 w1
    have hcn : cntE ⟨o, m, s, ys⟩ ≤ uptoBulk (DataW.agg [x0.1, x1.1, x2.1, x3.1] : DataW H) := by
      have h6 : ∀ l : List S25, cntL l = l.map cntE := by
        intro l
        induction l with
        | nil => rfl
        | cons a t ih => simp [cntL, ih]
      simp only [cntE, uptoBulk, uptoBulkAll, h6]
      omega
    refine ⟨⟨o, m, s, ys⟩, k25_mk W ⟨o, m, s, ys⟩ hl3 hC3, ⟨.mk o m s ys ?_ ?_ ?_ ?_ w2.2 (by omega) (fun y hy => (w3.2.2 y hy).1), .mk o m s ys (by omega) (fun y hy => (w3.2.2 y hy).2)⟩, hcn⟩
    · exact w0'.1
    · exact w0'.2
    · exact w1'.1
    · exact w1'.2
/-- a tree that is read, and no more parts than the reading's bulk. -/
theorem trM_arg {H : Type} {enc : TypeId × Value → H} {W : World} {v : Value} {x : DataW H} {q : List MemPlace}
    (h : DataW.Trod enc Tryz.prog W 0 (fun _ => true) true 25 v x q) (hw : (x.weights Tryz.prog 25).all (· ≤ reachBytes) = true) : ∃ a, k25.K W a v.cells.toList ∧ (WfE a ∧ SmE a) ∧ cntE a ≤ uptoBulk x := by
  obtain ⟨fuel, hf⟩ := h
  exact trM_expr fuel H enc W fuel _ (x, q) (Nat.le_refl _) hf hw
end Go.Proofs.Tr
