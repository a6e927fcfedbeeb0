/- What is written is read again: the reader on the tokens of what is written. Plain Lean. -/
import Derived.Test.YtbdciibbgiphcaaDoorRtP
namespace Go.Proofs.YtbdciibbgiphcaaDoor.V
set_option linter.unusedVariables false
set_option linter.unusedSimpArgs false
set_option linter.unusedSectionVars false
open Go.RowKit Go.Proofs.YtbdciibbgiphcaaDoorW.PrintWords Go.Proofs.YtbdciibbgiphcaaDoorW.PrintLast Go.Proofs.YtbdciibbgiphcaaDoorW.PrintMore
/-- no operator of such a rank stands there. -/
def Stops (T : List S45) (b n : Int) : Prop := ∀ q, n ≤ q → q ≤ 5 → frm T q b = none
/-- what the reader makes of a run of tokens. -/
structure Back (nm : ByteArray → Bool) (num : ByteArray → Option (Int × Int)) (T : List S45) (x : S25) (rank a b : Int) : Prop where
  noIf : 1 ≤ rank → atK T a 1 ifS = false
  D : ∀ n, 0 ≤ n → n ≤ 6 → n ≤ rank → Stops T b n → Rk nm num T n a (.ok x b)
  P : 6 ≤ rank → Pf nm num T a (.ok x b)
  S : ∀ n, 1 ≤ n → n ≤ 5 → n ≠ 3 → n ≤ rank → Stops T b (n + 1) → ∀ r, Lp nm num T n x b r → Rk nm num T n a r
section
variable {nm : ByteArray → Bool} {num : ByteArray → Option (Int × Int)} {T : List S45}
theorem frm_no {a : Int} {k : Int} {s : ByteArray} {l : List Tk} (hs : Seg T a ((k, s) :: l)) (h : ∀ g ∈ pairsL, ¬ (k = g.f2 ∧ s.data.toList = g.f3.data.toList)) (q : Int) : frm T q a = none := by
  unfold frm
  rw [List.find?_eq_none]
  intro g hg
  rw [hs.at, ByteArray.toList_eq, ByteArray.toList_eq, Bool.and_eq_true, Bool.and_eq_true]
  rintro ⟨_, h1, h2⟩
  exact h g hg ⟨of_decide_eq_true h1, of_decide_eq_true h2⟩
theorem no_cl : ∀ g ∈ pairsL, ¬ ((3 : Int) = g.f2 ∧ clS.data.toList = g.f3.data.toList) := by unfold pairsL clS; decide
theorem no_then : ∀ g ∈ pairsL, ¬ ((1 : Int) = g.f2 ∧ thenS.data.toList = g.f3.data.toList) := by unfold pairsL thenS; decide
theorem no_else : ∀ g ∈ pairsL, ¬ ((1 : Int) = g.f2 ∧ elseS.data.toList = g.f3.data.toList) := by unfold pairsL elseS; decide
/-- of what begins with a beginning, an atom or a bracket. -/
theorem Back.ofPf {x : S25} {a b : Int} (hi : atK T a 1 ifS = false) (h : Pf nm num T a (.ok x b)) (rank : Int) : Back nm num T x rank a b := by
  have h6 : Rk nm num T 6 a (.ok x b) := h.rk (Int.le_refl _)
  have hD : ∀ n, 0 ≤ n → n ≤ 6 → Stops T b n → Rk nm num T n a (.ok x b) := fun n h0 hn hs => by
    have := Rk.downs hi (6 - n).toNat n (by omega) (by rw [show n + ((6 - n).toNat : Int) = 6 by omega]; exact h6) (fun q h1 h2 => hs q h1 (by omega))
    exact this
  exact ⟨fun _ => hi, fun n h0 hn _ hs => hD n h0 hn hs, fun _ => h, fun n h1 h5 _ _ hs r hl => (hD (n + 1) (by omega) (by omega) hs).down (by omega) (fun h => by omega) hl⟩
/-- a part, in brackets where its rank is too low. -/
theorem Back.part {x : S25} {w : S25 → List Tk} {least a : Int} (hl : 0 ≤ least) (hs : Seg T a (partK w x least)) (h : ∀ a, Seg T a (w x) → Back nm num T x (rankOf x.f0) a (a + (w x).length)) :
    Back nm num T x least a (a + (partK w x least).length) := by
  unfold partK at hs ⊢
  by_cases hr : rankOf x.f0 < least
  · rw [if_pos hr] at hs ⊢
    have hin := h (a + 1) hs.tail.left
    have hr0 : 0 ≤ rankOf x.f0 := by
      unfold rankOf
      split
      · omega
      · split
        · rename_i f hf
          have hm := (findL_op hf).2
          unfold pairsL at hm
          simp only [List.mem_cons, List.not_mem_nil, or_false] at hm
          rcases hm with rfl | rfl | rfl | rfl | rfl | rfl | rfl | rfl | rfl | rfl | rfl | rfl <;> decide
        · split
          · rename_i f hf
            have hm := (findL_op hf).2
            unfold prefL at hm
            simp only [List.mem_cons, List.not_mem_nil, or_false] at hm
            rcases hm with rfl | rfl | rfl <;> decide
          · omega
    have h0 := hin.D 0 (Int.le_refl _) (by omega) hr0 (fun q _ _ => frm_no hs.tail.right no_cl q)
    have hp := Pf.bracket hs h0
    have hb : a + 1 + ((w x).length : Int) + 1 = a + (((3, opS) :: (w x ++ [(3, clS)])).length : Nat) := by simp only [List.length_cons, List.length_append, List.length_nil]; omega
    rw [hb] at hp
    exact Back.ofPf (by rw [hs.at]; simp) hp least
  · rw [if_neg hr] at hs ⊢
    have hx := h a hs
    exact ⟨fun h1 => hx.noIf (by omega), fun n h0 h6 hn hst => hx.D n h0 h6 (by omega) hst, fun h6 => hx.P (by omega), fun n h1 h5 h3 hn hst r hl => hx.S n h1 h5 h3 (by omega) hst r hl⟩
/-- an operator of two. -/
theorem Back.two {f : S83} (hf : f ∈ pairsL) {y z : S25} {a : Int} {L1 L2 : List Tk} (hs : Seg T a (L1 ++ (f.f2, f.f3) :: L2))
    (hy : Back nm num T y (asksOf f).1 a (a + L1.length)) (hz : Back nm num T z (asksOf f).2 (a + L1.length + 1) (a + L1.length + 1 + L2.length)) :
    Back nm num T ⟨f.f0, 0, ⟨#[]⟩, [y, z]⟩ f.f1 a (a + L1.length + 1 + L2.length) := by
  have hfr := fun q => frm_op hf hs.right q
  have hk : 0 ≤ f.f1 ∧ f.f1 ≤ 5 ∧ ((f.f1 = 0 ∧ asksOf f = (1, 0)) ∨ (f.f1 = 3 ∧ asksOf f = (4, 4)) ∨ (f.f1 ≠ 0 ∧ f.f1 ≠ 3 ∧ asksOf f = (f.f1, f.f1 + 1))) := by
    unfold pairsL at hf
    simp only [List.mem_cons, List.not_mem_nil, or_false] at hf
    rcases hf with rfl | rfl | rfl | rfl | rfl | rfl | rfl | rfl | rfl | rfl | rfl | rfl <;> decide
  obtain ⟨k0, k5, kk⟩ := hk
  have hstop : ∀ n, f.f1 < n → Stops T (a + L1.length) n := fun n hn q h1 h2 => by rw [hfr, if_neg (by omega)]
  have hsome : frm T f.f1 (a + L1.length) = some f := by rw [hfr, if_pos rfl]
  have hno : atK T a 1 ifS = false := by
    rcases kk with ⟨_, e⟩ | ⟨_, e⟩ | ⟨_, _, e⟩ <;> rw [e] at hy <;> exact hy.noIf (by simp only; omega)
  -- at its own rank, whatever goes on behind
  have own : ∀ n, n ≤ f.f1 → Stops T (a + L1.length + 1 + L2.length) n → Rk nm num T f.f1 a (.ok ⟨f.f0, 0, ⟨#[]⟩, [y, z]⟩ (a + L1.length + 1 + L2.length)) := by
    intro n hn hst
    rcases kk with ⟨e0, e⟩ | ⟨e0, e⟩ | ⟨e1, e3, e⟩
    · rw [e] at hy hz
      have r2 := hz.D 0 (Int.le_refl _) (by omega) (Int.le_refl _) (fun q h1 h2 => hst q (by omega) h2)
      have r1 := hy.D 1 (by omega) (by omega) (Int.le_refl _) (hstop 1 (by omega))
      rw [e0]
      rw [e0] at hsome
      exact r1.down (by omega) (fun _ => hno) (Lp.last hsome (by rw [e]; exact r2) (.inl rfl))
    · rw [e] at hy hz
      have r2 := hz.D 4 (by omega) (by omega) (Int.le_refl _) (fun q h1 h2 => hst q (by omega) h2)
      have r1 := hy.D 4 (by omega) (by omega) (Int.le_refl _) (hstop 4 (by omega))
      rw [e0]
      rw [e0] at hsome
      exact r1.down (by omega) (fun _ => hno) (Lp.last hsome (by rw [e]; exact r2) (.inr rfl))
    · rw [e] at hy hz
      have r2 := hz.D (f.f1 + 1) (by omega) (by omega) (Int.le_refl _) (fun q h1 h2 => hst q (by omega) h2)
      exact hy.S f.f1 (by omega) k5 e3 (Int.le_refl _) (hstop _ (by omega)) _ (Lp.more hsome (by rw [e]; exact r2) (by omega) (Lp.stop (hst _ hn k5)))
  have hD : ∀ n, 0 ≤ n → n ≤ f.f1 → Stops T (a + L1.length + 1 + L2.length) n → Rk nm num T n a (.ok ⟨f.f0, 0, ⟨#[]⟩, [y, z]⟩ (a + L1.length + 1 + L2.length)) := fun n h0 hn hst =>
    Rk.downs hno (f.f1 - n).toNat n (by omega) (by rw [show n + ((f.f1 - n).toNat : Int) = f.f1 by omega]; exact own n hn hst) (fun q h1 h2 => hst q h1 (by omega))
  refine ⟨fun _ => hno, fun n h0 _ hn hst => hD n h0 hn hst, fun h6 => by omega, fun n h1 h5 h3 hn hst r hl => ?_⟩
  by_cases hlt : n < f.f1
  · exact (hD (n + 1) (by omega) (by omega) hst).down (by omega) (fun h => by omega) hl
  · obtain rfl : n = f.f1 := by omega
    rcases kk with ⟨e0, e⟩ | ⟨e0, e⟩ | ⟨e1, e3, e⟩
    · omega
    · omega
    · rw [e] at hy hz
      have r2 := hz.D (f.f1 + 1) (by omega) (by omega) (Int.le_refl _) hst
      exact hy.S f.f1 (by omega) k5 e3 (Int.le_refl _) (hstop _ (by omega)) _ (Lp.more hsome (by rw [e]; exact r2) (by omega) hl)
end
end Go.Proofs.YtbdciibbgiphcaaDoor.V
