/- What is written is read again: the tokens of what is written; the reader on them. Plain Lean. -/
import Derived.Test.YtbdciibbgiphcaaDoorParM
namespace Go.Proofs.YtbdciibbgiphcaaDoor.V
set_option linter.unusedVariables false
set_option linter.unusedSimpArgs false
set_option linter.unusedSectionVars false
open Go.RowKit Go.Proofs.YtbdciibbgiphcaaDoorW.PrintWords Go.Proofs.YtbdciibbgiphcaaDoorW.PrintLast Go.Proofs.YtbdciibbgiphcaaDoorW.PrintMore
abbrev Tk := Int × ByteArray
def partK (w : S25 → List Tk) (x : S25) (least : Int) : List Tk := if rankOf x.f0 < least then (3, opS) :: (w x ++ [(3, clS)]) else w x
/-- the tokens of what is written. -/
def tkE : Nat → S25 → List Tk
  | 0, _ => []
  | d + 1, x => match findL pairsL x.f0 with
    | some f => partK (tkE d) (hd0 x 0) (asksOf f).1 ++ (f.f2, f.f3) :: partK (tkE d) (hd0 x 1) (asksOf f).2
    | none => match findL prefL x.f0 with
      | some f => (f.f2, f.f3) :: partK (tkE d) (hd0 x 0) 6
      | none => if x.f0 = 1 then [(2, ⟨(Lib.itoa x.f1).toArray⟩)] else if x.f0 = 2 then [(1, boolW (decide (x.f1 = 1)))] else if x.f0 = 3 then [(1, x.f2)]
        else (1, ifS) :: (partK (tkE d) (hd0 x 0) 0 ++ (1, thenS) :: (partK (tkE d) (hd0 x 1) 0 ++ (1, elseS) :: partK (tkE d) (hd0 x 2) 0))
/-- from a on the tokens are these. -/
def Seg (T : List S45) (a : Int) (l : List Tk) : Prop := ∀ (j : Nat) (t : Tk), l[j]? = some t → a + j < (T.length : Int) ∧ (rd_T45 T (a + j)).f0 = t.1 ∧ (rd_T45 T (a + j)).f1 = t.2
section
variable {nm : ByteArray → Bool} {num : ByteArray → Option (Int × Int)} {T : List S45}
theorem Seg.left {a : Int} {l m : List Tk} (h : Seg T a (l ++ m)) : Seg T a l := fun j t ht => h j t (by rw [List.getElem?_append_left (List.getElem?_eq_some_iff.1 ht).1]; exact ht)
theorem Seg.right {a : Int} {l m : List Tk} (h : Seg T a (l ++ m)) : Seg T (a + l.length) m := fun j t ht => by
  have := h (l.length + j) t (by rw [List.getElem?_append_right (by omega)]; simpa using ht)
  rw [show a + ((l.length + j : Nat) : Int) = a + l.length + j by omega] at this
  exact this
theorem Seg.head {a : Int} {t : Tk} {l : List Tk} (h : Seg T a (t :: l)) : a < (T.length : Int) ∧ (rd_T45 T a).f0 = t.1 ∧ (rd_T45 T a).f1 = t.2 := by
  have := h 0 t rfl
  simpa using this
theorem Seg.tail {a : Int} {t : Tk} {l : List Tk} (h : Seg T a (t :: l)) : Seg T (a + 1) l := fun j u hu => by
  have := h (j + 1) u (by simpa using hu)
  rw [show a + ((j + 1 : Nat) : Int) = a + 1 + j by omega] at this
  exact this
theorem Seg.at {a : Int} {t : Tk} {l : List Tk} (h : Seg T a (t :: l)) (k : Int) (s : ByteArray) : atK T a k s = (decide (t.1 = k) && decide (t.2.toList = s.toList)) := by
  obtain ⟨h1, h2, h3⟩ := h.head
  unfold atK
  rw [decide_eq_true h1, h2, h3, Bool.true_and]
/-- with some fuel. -/
def Rk (nm : ByteArray → Bool) (num : ByteArray → Option (Int × Int)) (T : List S45) (n a : Int) (r : PR) : Prop := ∃ f, rk nm num T f n a = some r
def Lp (nm : ByteArray → Bool) (num : ByteArray → Option (Int × Int)) (T : List S45) (n : Int) (x : S25) (a : Int) (r : PR) : Prop := ∃ f, lp nm num T f n x a = some r
def Pf (nm : ByteArray → Bool) (num : ByteArray → Option (Int × Int)) (T : List S45) (a : Int) (r : PR) : Prop := ∃ f, pf nm num T f a = some r
theorem pf_fuel {f f' : Nat} (h : f ≤ f') {a : Int} {r : PR} (hr : pf nm num T f a = some r) : pf nm num T f' a = some r := by
  induction h with
  | refl => exact hr
  | step _ ih => exact (fuel_step _).2.2.2 _ _ ih
theorem lp_fuel {f f' : Nat} (h : f ≤ f') {n : Int} {x : S25} {a : Int} {r : PR} (hr : lp nm num T f n x a = some r) : lp nm num T f' n x a = some r := by
  induction h with
  | refl => exact hr
  | step _ ih => exact (fuel_step _).2.1 _ _ _ _ ih
/-- a rank below 6: the next one, then the loop. -/
theorem Rk.down {n a : Int} {x : S25} {b : Int} {r : PR} (h6 : ¬ 6 ≤ n) (hi : n = 0 → atK T a 1 ifS = false) (h1 : Rk nm num T (n + 1) a (.ok x b)) (h2 : Lp nm num T n x b r) : Rk nm num T n a r := by
  obtain ⟨f, hf⟩ := h1
  obtain ⟨g, hg⟩ := h2
  refine ⟨max f g + 1, ?_⟩
  rw [rk, if_neg h6, if_neg (fun h => by rw [hi h.1] at h; simp at h), rk_fuel (Nat.le_max_left f g) hf]
  exact lp_fuel (Nat.le_max_right f g) hg
theorem Lp.stop {n : Int} {x : S25} {a : Int} (h : frm T n a = none) : Lp nm num T n x a (.ok x a) := ⟨1, by rw [lp, h]⟩
/-- nothing goes on behind: from a higher rank down to a lower one. -/
theorem Rk.downs {a : Int} {x : S25} {b : Int} (hi : atK T a 1 ifS = false) : ∀ (k : Nat) (n : Int), n + k ≤ 6 → Rk nm num T (n + k) a (.ok x b) → (∀ q, n ≤ q → q < n + k → frm T q b = none) → Rk nm num T n a (.ok x b)
  | 0, n, _, h, _ => by simpa using h
  | k + 1, n, hk, h, hs => by
    have h' : Rk nm num T ((n + 1) + k) a (.ok x b) := by rw [show n + 1 + (k : Int) = n + ((k + 1 : Nat) : Int) by omega]; exact h
    have := Rk.downs hi k (n + 1) (by omega) h' (fun q h1 h2 => hs q (by omega) (by omega))
    exact this.down (by omega) (fun _ => hi) (Lp.stop (hs n (by omega) (by omega)))
theorem Pf.rk {a : Int} {r : PR} (h : Pf nm num T a r) {n : Int} (hn : 6 ≤ n) : Rk nm num T n a r := by
  obtain ⟨f, hf⟩ := h
  exact ⟨f + 1, by rw [Go.Proofs.YtbdciibbgiphcaaDoor.V.rk, if_pos hn]; exact hf⟩
/-- in brackets. -/
theorem Pf.bracket {a : Int} {l : List Tk} {x : S25} (hs : Seg T a ((3, opS) :: (l ++ [(3, clS)]))) (h : Rk nm num T 0 (a + 1) (.ok x (a + 1 + l.length))) : Pf nm num T a (.ok x (a + 1 + l.length + 1)) := by
  obtain ⟨f, hf⟩ := h
  have ho := hs.at
  have hc := hs.tail.right.at 3 clS
  have hp : pfx T a = none := by
    unfold pfx prefL
    rw [List.find?_eq_none]
    intro g hg
    rw [ho]
    simp only [List.mem_cons, List.not_mem_nil, or_false] at hg
    rcases hg with rfl | rfl | rfl <;> simp [opS, ByteArray.toList_eq]
  refine ⟨f + 1, ?_⟩
  rw [pf, hp]
  dsimp only
  rw [if_pos (by rw [ho]; simp), hf]
  show (if atK T (a + 1 + l.length) 3 clS = true then _ else _) = _
  rw [if_pos (by rw [hc]; simp)]
/-- one more operand behind. -/
theorem Lp.more {n a : Int} {x y : S25} {g : S83} {c : Int} {r : PR} (hf : frm T n a = some g) (hy : Rk nm num T (asksOf g).2 (a + 1) (.ok y c)) (hn : ¬ (n = 0 ∨ n = 3)) (h : Lp nm num T n ⟨g.f0, 0, ⟨#[]⟩, [x, y]⟩ c r) : Lp nm num T n x a r := by
  obtain ⟨f1, h1⟩ := hy
  obtain ⟨f2, h2⟩ := h
  refine ⟨max f1 f2 + 1, ?_⟩
  rw [lp, hf]
  dsimp only
  rw [rk_fuel (Nat.le_max_left f1 f2) h1]
  show (if n = 0 ∨ n = 3 then _ else _) = _
  rw [if_neg hn]
  exact lp_fuel (Nat.le_max_right f1 f2) h2
theorem Lp.last {n a : Int} {x y : S25} {g : S83} {c : Int} (hf : frm T n a = some g) (hy : Rk nm num T (asksOf g).2 (a + 1) (.ok y c)) (hn : n = 0 ∨ n = 3) : Lp nm num T n x a (.ok ⟨g.f0, 0, ⟨#[]⟩, [x, y]⟩ c) := by
  obtain ⟨f1, h1⟩ := hy
  refine ⟨f1 + 1, ?_⟩
  rw [lp, hf]
  dsimp only
  rw [h1]
  show (if n = 0 ∨ n = 3 then _ else _) = _
  rw [if_pos hn]
theorem Pf.pre {a : Int} {x : S25} {g : S83} {c : Int} (hp : pfx T a = some g) (h : Pf nm num T (a + 1) (.ok x c)) : Pf nm num T a (.ok ⟨g.f0, 0, ⟨#[]⟩, [x]⟩ c) := by
  obtain ⟨f, hf⟩ := h
  refine ⟨f + 1, ?_⟩
  rw [pf, hp]
  dsimp only
  rw [hf]
  rfl
/-- what an operator's token is, and at which rank. -/
theorem frm_op {f : S83} (hf : f ∈ pairsL) {a : Int} {l : List Tk} (hs : Seg T a ((f.f2, f.f3) :: l)) (q : Int) : frm T q a = if f.f1 = q then some f else none := by
  have hat : (fun g : S83 => decide (g.f1 = q) && atK T a g.f2 g.f3) = fun g : S83 => decide (g.f1 = q) && (decide (f.f2 = g.f2) && decide (f.f3.data.toList = g.f3.data.toList)) := by
    funext g
    rw [hs.at]
    simp only [ByteArray.toList_eq]
  unfold frm
  rw [hat]
  clear hat hs
  unfold pairsL at hf ⊢
  simp only [List.mem_cons, List.not_mem_nil, or_false] at hf
  by_cases hq : f.f1 = q
  · rw [if_pos hq]
    subst hq
    rcases hf with rfl | rfl | rfl | rfl | rfl | rfl | rfl | rfl | rfl | rfl | rfl | rfl <;> rfl
  · rw [if_neg hq, List.find?_eq_none]
    intro g hg
    simp only [List.mem_cons, List.not_mem_nil, or_false] at hg
    rcases hf with rfl | rfl | rfl | rfl | rfl | rfl | rfl | rfl | rfl | rfl | rfl | rfl <;> rcases hg with rfl | rfl | rfl | rfl | rfl | rfl | rfl | rfl | rfl | rfl | rfl | rfl <;> simp at hq ⊢ <;> first | exact hq | omega | skip
end
end Go.Proofs.YtbdciibbgiphcaaDoor.V
