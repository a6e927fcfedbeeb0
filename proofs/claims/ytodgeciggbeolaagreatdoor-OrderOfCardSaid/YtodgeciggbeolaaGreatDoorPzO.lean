/- The reference's order is the order that the chapter tells. -/
import Derived.Test.YtodgeciggbeolaaGreatDoorPuA
namespace Go.Proofs.YtodgeciggbeolaaGreatDoor.V
set_option linter.unusedVariables false
set_option linter.unusedSimpArgs false
set_option linter.unusedSectionVars false
open Go.RowKit Go.Proofs.YtodgeciggbeolaaGreatDoorW.PrintWords Go.Proofs.YtodgeciggbeolaaGreatDoorW.PrintLast Go.Proofs.YtodgeciggbeolaaGreatDoorW.PrintMore
open Go.Proofs.Ord

def told (n : Nat) (out : List Int) : List Bool := (List.range n).map fun (k : Nat) => out.contains (k : Int)
theorem told_len (n : Nat) (out : List Int) : (told n out).length = n := by simp [told]
theorem told_get (n : Nat) (out : List Int) (y : Int) (h0 : 0 ≤ y) (h1 : y < n) : rdOf false (told n out) y = out.contains y := by
  obtain ⟨j, rfl⟩ : ∃ j : Nat, y = j := ⟨y.toNat, by omega⟩
  simp [rdOf, told, List.getD_eq_getElem?_getD, List.getElem?_range (show j < n by omega)]
theorem told_set (n k : Nat) (out : List Int) (hk : k < n) : (told n out).set k true = told n (out ++ [(k : Int)]) := by
  apply List.ext_getElem?
  intro j
  simp only [told, List.getElem?_set, List.getElem?_map, List.length_map, List.length_range]
  by_cases hj : j < n
  · rw [List.getElem?_range hj]
    by_cases e : k = j
    · subst e; simp [hj]
    · rw [if_neg e]
      simp only [Option.map_some, Option.some.injEq]
      have hne : (j : Int) ≠ k := by omega
      simp [hne]
  · rw [List.getElem?_eq_none (by simpa using hj)]
    by_cases e : k = j
    · subst e; exact absurd hk hj
    · rw [if_neg e]; rfl
theorem ready_ev (n : Nat) (out x : List Int) (hx : ∀ y ∈ x, 0 ≤ y ∧ y < n) (hm : x.length ≤ 20000) : ∀ d i, i + d = x.length → Ev (fun k => belfryref13_ready.l0 k x (told n out) i) ((x.drop i).all fun y => out.contains y)
  | 0, i, hi => by
    refine Ev.step (fun k => by simp only [belfryref13_ready.l0]; rw [if_neg (by omega)]) ?_
    rw [List.drop_eq_nil_of_le (by omega)]
    exact Ev.now _
  | d + 1, i, hi => by
    have hlt : i < x.length := by omega
    have hy := hx x[i] (List.getElem_mem hlt)
    rw [List.drop_eq_getElem_cons hlt, List.all_cons]
    by_cases hc : out.contains x[i] = true
    · refine Ev.step (fun k => ?_) (by rw [hc, Bool.true_and]; exact ready_ev n out x hx hm d (i + 1) (by omega))
      simp only [belfryref13_ready.l0]
      rw [if_pos (by omega), if_pos (by omega), rd_lt hlt, if_pos hy.1, if_pos (by rw [told_len]; exact hy.2), told_get _ _ _ hy.1 hy.2, if_pos hc, w64 (by omega) (by omega)]
      rfl
    · have hf : out.contains x[i] = false := by simpa using hc
      refine Ev.step (fun k => ?_) (by rw [hf, Bool.false_and]; exact Ev.now _)
      simp only [belfryref13_ready.l0]
      rw [if_pos (by omega), if_pos (by omega), rd_lt hlt, if_pos hy.1, if_pos (by rw [told_len]; exact hy.2), told_get _ _ _ hy.1 hy.2, if_neg hc]
theorem readyf_ev (n : Nat) (out x : List Int) (hx : ∀ y ∈ x, 0 ≤ y ∧ y < n) (hm : x.length ≤ 20000) : Ev (fun k => belfryref13_ready.f k x (told n out)) (x.all fun y => out.contains y) := by
  have h := ready_ev n out x hx hm x.length 0 (by omega)
  rw [List.drop_zero] at h
  exact Ev.congr (fun k => by simp only [belfryref13_ready.f]; rfl) h

/-- the least ready one from i on. -/
def Nx (l : List (List Int)) (out : List Int) (i : Nat) (x : Int) : Prop := (x = l.length ∧ ∀ j, i ≤ j → j < l.length → rdy l out j = false) ∨ (∃ k : Nat, x = k ∧ i ≤ k ∧ k < l.length ∧ rdy l out k = true ∧ ∀ j, i ≤ j → j < k → rdy l out j = false)
theorem Nx.down {l : List (List Int)} {out : List Int} {i : Nat} {x : Int} (hx : Nx l out (i + 1) x) (hr : rdy l out i = false) : Nx l out i x := by
  have h0 : ∀ (j : Nat) (P : Prop), (i + 1 ≤ j → rdy l out j = false) → i ≤ j → rdy l out j = false := by
    intro j _ h1 h2
    by_cases e : j = i
    · rw [e]; exact hr
    · exact h1 (by omega)
  rcases hx with ⟨h3, h4⟩ | ⟨k, h3, h4, h5, h6, h7⟩
  · exact .inl ⟨h3, fun j h8 h9 => h0 j True (fun h => h4 j h h9) h8⟩
  · exact .inr ⟨k, h3, by omega, h5, h6, fun j h8 h9 => h0 j True (fun h => h7 j h h9) h8⟩
theorem next_of (l : List (List Int)) (out : List Int) (x : Int) (h : Nx l out 0 x) : (x = l.length ∧ next l out = none) ∨ ∃ k : Nat, x = k ∧ k < l.length ∧ next l out = some k := by
  rcases h with ⟨h1, h2⟩ | ⟨k, h1, _, h3, h4, h5⟩
  · refine .inl ⟨h1, ?_⟩
    unfold next
    rw [List.find?_eq_none]
    intro j hj
    simp [h2 j (by omega) (List.mem_range.1 hj)]
  · refine .inr ⟨k, h1, h3, ?_⟩
    unfold next
    rw [List.find?_eq_some_iff_getElem]
    refine ⟨h4, k, by simpa using h3, by simp, fun j hj => ?_⟩
    simp [h5 j (by omega) hj]
theorem l3_ev (l : List (List Int)) (out : List Int) (r : List Int × Int) (hg : ∀ k : Nat, k < l.length → ∀ y ∈ at_ l k, 0 ≤ y ∧ y < l.length) (hn : l.length ≤ 300) (hs : ∀ k, (at_ l k).length ≤ 20000) (ho : out.length ≤ l.length)
    (h1 : next l out = none → r = ([], 8)) (h2 : ∀ k, k < l.length → next l out = some k → Ev (fun f => belfryref13_Of.l2 f l (l.length : Int) (told l.length (out ++ [(k : Int)])) (out ++ [(k : Int)])) r) :
    ∀ (i : Nat) (x : Int), i ≤ l.length → Nx l out i x → Ev (fun f => belfryref13_Of.l3 f l (l.length : Int) (told l.length out) out x ((i : Int) - 1)) r
  | 0, x, _, hx => by
    rcases next_of l out x hx with ⟨rfl, hnx⟩ | ⟨k, rfl, hk, hnx⟩
    · obtain rfl := h1 hnx
      refine Ev.step (fun f => ?_) (Ev.now _)
      simp only [belfryref13_Of.l3]
      rw [if_neg (by omega)]
      simp
    · refine Ev.step (fun f => ?_) (h2 k hk hnx)
      simp only [belfryref13_Of.l3]
      rw [if_neg (by omega), if_neg (by omega), if_pos (by omega), if_pos (by rw [told_len]; omega), if_pos (by omega), Int.toNat_natCast, told_set _ _ _ hk]
  | i + 1, x, hi, hx => by
    have e1 : ((i + 1 : Nat) : Int) - 1 = (i : Int) := by omega
    have e2 : wrap64 ((i : Int) - 1) = (i : Int) - 1 := by unfold wrap64; omega
    rw [e1]
    have hw : rdy l out i = (!out.contains (i : Int) && (at_ l i).all fun y => out.contains y) := rfl
    by_cases hc : out.contains (i : Int) = true
    · have hr : rdy l out i = false := by rw [hw, hc]; rfl
      have hx' : Nx l out i x := hx.down hr
      refine Ev.step (fun f => ?_) (l3_ev l out r hg hn hs ho h1 h2 i x (by omega) hx')
      simp only [belfryref13_Of.l3]
      rw [if_pos (by omega), if_pos (by omega), if_pos (by rw [told_len]; omega), told_get _ _ _ (by omega) (by omega), if_pos hc, e2]
    · have hf : out.contains (i : Int) = false := by simpa using hc
      have hre := readyf_ev l.length out (at_ l i) (hg i (by omega)) (hs i)
      by_cases ha : ((at_ l i).all fun y => out.contains y) = true
      · rw [ha] at hre
        have hr : rdy l out i = true := by rw [hw, hf, ha]; rfl
        have hx' : Nx l out i (i : Int) := .inr ⟨i, rfl, Nat.le_refl _, by omega, hr, fun j h8 h9 => by omega⟩
        refine Ev.step (g := fun f => belfryref13_Of.l3 f l (l.length : Int) (told l.length out) out x (i : Int)) (f := fun f => (belfryref13_ready.f f (at_ l i) (told l.length out)).bind fun t => if t = true then (belfryref13_Of.l3 f l (l.length : Int) (told l.length out) out (i : Int) ((i : Int) - 1)) else (belfryref13_Of.l3 f l (l.length : Int) (told l.length out) out x ((i : Int) - 1))) (fun f => ?_) ?_
        · simp only [belfryref13_Of.l3]
          rw [if_pos (by omega), if_pos (by omega), if_pos (by rw [told_len]; omega), told_get _ _ _ (by omega) (by omega), if_neg hc, if_pos (by omega), rdL_nat, e2]
        · exact Ev.bind (f := fun f t => if t = true then (belfryref13_Of.l3 f l (l.length : Int) (told l.length out) out (i : Int) ((i : Int) - 1)) else (belfryref13_Of.l3 f l (l.length : Int) (told l.length out) out x ((i : Int) - 1))) hre (Ev.congr (fun f => by rw [if_pos rfl]) (l3_ev l out r hg hn hs ho h1 h2 i (i : Int) (by omega) hx'))
      · have ha' : ((at_ l i).all fun y => out.contains y) = false := by simpa using ha
        rw [ha'] at hre
        have hr : rdy l out i = false := by rw [hw, hf, ha']; rfl
        have hx' : Nx l out i x := hx.down hr
        refine Ev.step (g := fun f => belfryref13_Of.l3 f l (l.length : Int) (told l.length out) out x (i : Int)) (f := fun f => (belfryref13_ready.f f (at_ l i) (told l.length out)).bind fun t => if t = true then (belfryref13_Of.l3 f l (l.length : Int) (told l.length out) out (i : Int) ((i : Int) - 1)) else (belfryref13_Of.l3 f l (l.length : Int) (told l.length out) out x ((i : Int) - 1))) (fun f => ?_) ?_
        · simp only [belfryref13_Of.l3]
          rw [if_pos (by omega), if_pos (by omega), if_pos (by rw [told_len]; omega), told_get _ _ _ (by omega) (by omega), if_neg hc, if_pos (by omega), rdL_nat, e2]
        · exact Ev.bind (f := fun f t => if t = true then (belfryref13_Of.l3 f l (l.length : Int) (told l.length out) out (i : Int) ((i : Int) - 1)) else (belfryref13_Of.l3 f l (l.length : Int) (told l.length out) out x ((i : Int) - 1))) hre (Ev.congr (fun f => by rw [if_neg (by simp)]) (l3_ev l out r hg hn hs ho h1 h2 i x (by omega) hx'))
def fin (l : List (List Int)) (x : List Int) : List Int × Int := if x.length < l.length then ([], 8) else (x, 0)
theorem l2_ev (l : List (List Int)) (hg : ∀ k : Nat, k < l.length → ∀ y ∈ at_ l k, 0 ≤ y ∧ y < l.length) (hn : l.length ≤ 300) (hs : ∀ k, (at_ l k).length ≤ 20000) :
    ∀ (d : Nat) (out : List Int), out.length + d = l.length → Ev (fun f => belfryref13_Of.l2 f l (l.length : Int) (told l.length out) out) (fin l (run l d out))
  | 0, out, hd => by
    refine Ev.step (fun f => ?_) (Ev.now _)
    simp only [belfryref13_Of.l2]
    rw [if_neg (by omega)]
    show some (out, 0) = some (fin l out)
    unfold fin
    rw [if_neg (by omega)]
  | d + 1, out, hd => by
    have e2 : wrap64 ((l.length : Int) - 1) = (l.length : Int) - 1 := by unfold wrap64; omega
    refine Ev.step (fun f => ?_) (l3_ev l out _ hg hn hs (by omega) ?_ ?_ l.length (l.length : Int) (Nat.le_refl _) (.inl ⟨rfl, fun j h1 h2 => by omega⟩))
    · simp only [belfryref13_Of.l2]
      rw [if_pos (by omega), e2]
    · intro h
      simp only [run, h, fin]
      rw [if_pos (by omega)]
    · intro k hk h
      simp only [run, h]
      exact l2_ev l hg hn hs d (out ++ [(k : Int)]) (by simp; omega)
theorem l1_ev (l : List (List Int)) (r : List Int × Int) (i : Nat) (hi : i < l.length) (hn : l.length ≤ 300) (hs : (at_ l i).length ≤ 20000) (h1 : ((at_ l i).any fun y => decide (y < 0) || decide ((l.length : Int) ≤ y)) = true → r = ([], 1))
    (h2 : ((at_ l i).any fun y => decide (y < 0) || decide ((l.length : Int) ≤ y)) = false → Ev (fun f => belfryref13_Of.l0 f l (l.length : Int) ((i + 1 : Nat) : Int)) r) :
    ∀ d j, j + d = (at_ l i).length → ((at_ l i).take j).any (fun y => decide (y < 0) || decide ((l.length : Int) ≤ y)) = false → Ev (fun f => belfryref13_Of.l1 f l (l.length : Int) (i : Int) (j : Int)) r
  | 0, j, hj, hp => by
    rw [List.take_of_length_le (by omega)] at hp
    refine Ev.step (fun f => ?_) (h2 hp)
    simp only [belfryref13_Of.l1]
    rw [if_pos (by omega), if_pos (by omega), rdL_nat, if_neg (by omega), w64 (by omega) (by omega)]
    rfl
  | d + 1, j, hj, hp => by
    have hlt : j < (at_ l i).length := by omega
    by_cases h3 : (at_ l i)[j] < 0
    · have hb : ((at_ l i).any fun y => decide (y < 0) || decide ((l.length : Int) ≤ y)) = true := List.any_eq_true.2 ⟨_, List.getElem_mem hlt, by simp [h3]⟩
      obtain rfl := h1 hb
      refine Ev.step (fun f => ?_) (Ev.now _)
      simp only [belfryref13_Of.l1]
      rw [if_pos (by omega), if_pos (by omega), rdL_nat, if_pos (by omega), if_pos (by omega), rd_lt hlt, if_pos h3]
    · by_cases h4 : (l.length : Int) ≤ (at_ l i)[j]
      · have hb : ((at_ l i).any fun y => decide (y < 0) || decide ((l.length : Int) ≤ y)) = true := List.any_eq_true.2 ⟨_, List.getElem_mem hlt, by simp [h4]⟩
        obtain rfl := h1 hb
        refine Ev.step (fun f => ?_) (Ev.now _)
        simp only [belfryref13_Of.l1]
        rw [if_pos (by omega), if_pos (by omega), rdL_nat, if_pos (by omega), if_pos (by omega), rd_lt hlt, if_neg h3, if_pos h4]
      · refine Ev.step (fun f => ?_) (l1_ev l r i hi hn hs h1 h2 d (j + 1) (by omega) ?_)
        · simp only [belfryref13_Of.l1]
          rw [if_pos (by omega), if_pos (by omega), rdL_nat, if_pos (by omega), if_pos (by omega), rd_lt hlt, if_neg h3, if_neg h4, w64 (by omega) (by omega)]
          rfl
        · rw [List.take_succ_eq_append_getElem hlt, List.any_append, hp]
          simp [h3, h4]
theorem l0_ev (l : List (List Int)) (hn : l.length ≤ 300) (hs : ∀ k, (at_ l k).length ≤ 20000) :
    ∀ d i, i + d = l.length → (∀ k, k < i → ((at_ l k).any fun y => decide (y < 0) || decide ((l.length : Int) ≤ y)) = false) → Ev (fun f => belfryref13_Of.l0 f l (l.length : Int) (i : Int)) (Ord.of l)
  | 0, i, hi, hp => by
    have hb : bad l = false := by
      cases h : bad l with
      | false => rfl
      | true =>
        obtain ⟨k, hk, y, hy, h1⟩ := (bad_iff l).1 h
        have := List.any_eq_false.1 (hp k (by omega)) y hy
        simp at this
        omega
    have hg : ∀ k : Nat, k < l.length → ∀ y ∈ at_ l k, 0 ≤ y ∧ y < l.length := by
      intro k hk y hy
      have := List.any_eq_false.1 (hp k (by omega)) y hy
      simp at this
      omega
    have e : Ord.of l = fin l (run l l.length []) := by unfold Ord.of fin; rw [hb]; rfl
    rw [e]
    refine Ev.step (fun f => ?_) (l2_ev l hg hn hs l.length [] (by simp))
    simp only [belfryref13_Of.l0]
    rw [if_neg (by omega), if_pos (by omega), Int.toNat_natCast, if_pos (by omega)]
    have e3 : told l.length [] = List.replicate l.length false := by
      rw [List.eq_replicate_iff]
      refine ⟨told_len _ _, fun b hb => ?_⟩
      unfold told at hb
      obtain ⟨k, _, rfl⟩ := List.mem_map.1 hb
      rfl
    rw [e3]
  | d + 1, i, hi, hp => by
    refine Ev.step (fun f => ?_) (l1_ev l (Ord.of l) i (by omega) hn (hs i) ?_ ?_ (at_ l i).length 0 (by omega) rfl)
    · simp only [belfryref13_Of.l0]
      rw [if_pos (by omega)]
      rfl
    · intro h
      unfold Ord.of
      rw [if_pos]
      obtain ⟨y, hy, h2⟩ := List.any_eq_true.1 h
      exact (bad_iff l).2 ⟨i, by omega, y, hy, by simpa using h2⟩
    · intro h
      exact l0_ev l hn hs d (i + 1) (by omega) (fun k hk => by
        by_cases e : k = i
        · rw [e]; exact h
        · exact hp k (by omega))
theorem ref_of (l : List (List Int)) (hn : l.length ≤ 300) (hs : ∀ k, (at_ l k).length ≤ 20000) : Ev (fun k => belfryref13_Of.f k l) (Ord.of l) :=
  Ev.congr (fun k => by simp only [belfryref13_Of.f]; rfl) (l0_ev l hn hs l.length 0 (by omega) (fun k hk => by omega))
end Go.Proofs.YtodgeciggbeolaaGreatDoor.V
