/- What 'full' computes, of all that may be. Plain Lean. -/
import Derived.Test.YtbdciibbgiphcaaDoorFuD
import Derived.Test.YtbdciibbgiphcaaDoorRtV
namespace Go.Proofs.YtbdciibbgiphcaaDoor.V
set_option linter.unusedVariables false
set_option linter.unusedSimpArgs false
set_option linter.unusedSectionVars false
open Go.RowKit Go.Proofs.YtbdciibbgiphcaaDoorW.PrintWords Go.Proofs.YtbdciibbgiphcaaDoorW.PrintLast Go.Proofs.YtbdciibbgiphcaaDoorW.PrintMore
def brW (t : ByteArray) : ByteArray := ((⟨#[40]⟩ : ByteArray) ++ t) ++ (⟨#[41]⟩ : ByteArray)
theorem brW_size (t : ByteArray) : (brW t).size = t.size + 2 := by
  unfold brW
  rw [size_app, size_app]
  show 1 + t.size + 1 = _
  omega
def SG : List ByteArray := [(⟨#[43]⟩ : ByteArray), (⟨#[45]⟩ : ByteArray), (⟨#[42]⟩ : ByteArray), (⟨#[47]⟩ : ByteArray), (⟨#[37]⟩ : ByteArray), (⟨#[61, 61]⟩ : ByteArray), (⟨#[33, 61]⟩ : ByteArray), (⟨#[60]⟩ : ByteArray), (⟨#[60, 61]⟩ : ByteArray), (⟨#[97, 110, 100]⟩ : ByteArray), (⟨#[111, 114]⟩ : ByteArray)]
def OG : List Int := [6, 7, 8, 9, 10, 11, 12, 13, 14, 15, 16]
theorem full_l0 {o n : Int} {s : ByteArray} {xs : List S25} (g : S25 → ByteArray) (hg : ∀ y ∈ xs, Ev (fun k => belfrylaw05_full.f k y.f0 y.f1 y.f2 y.f3) (g y)) (hsz : ∀ y ∈ xs, (g y).size ≤ 20000) (hx : xs.length ≤ 3) {R : ByteArray}
    (hR : Ev (fun k => belfrylaw05_full.l0 k (xs.map fun y => brW (g y)) (xs.length : Int) o n s xs) R) :
    ∀ (m i : Nat), i + m = xs.length → Ev (fun k => belfrylaw05_full.l0 k ((xs.take i).map fun y => brW (g y)) (i : Int) o n s xs) R
  | 0, i, h => by
    obtain rfl : i = xs.length := by omega
    rw [List.take_length]
    exact hR
  | m + 1, i, h => by
    have hi : i < xs.length := by omega
    have hm := List.getElem_mem hi
    have ih := full_l0 g hg hsz hx hR m (i + 1) (by omega)
    have hz := hsz _ hm
    refine Ev.step (f := fun k => (belfrylaw05_full.f k xs[i].f0 xs[i].f1 xs[i].f2 xs[i].f3).bind fun t => (if 1 + t.size ≤ 9223372036854775807 then (if ((⟨#[40]⟩ : ByteArray) ++ t).size + 1 ≤ 9223372036854775807 then (if ((xs.take i).map fun y => brW (g y)).length < 8796093022208 then (belfrylaw05_full.l0 k (((xs.take i).map fun y => brW (g y)) ++ [((⟨#[40]⟩ : ByteArray) ++ t) ++ (⟨#[41]⟩ : ByteArray)]) (wrap64 ((i : Int) + 1)) o n s xs) else (none)) else (none)) else (none))) (fun k => ?_) ?_
    · simp only [belfrylaw05_full.l0]
      rw [if_pos (by omega), if_pos (by omega), rdT25 xs i hi]
    · refine Ev.bind (f := fun k t => (if 1 + t.size ≤ 9223372036854775807 then (if ((⟨#[40]⟩ : ByteArray) ++ t).size + 1 ≤ 9223372036854775807 then (if ((xs.take i).map fun y => brW (g y)).length < 8796093022208 then (belfrylaw05_full.l0 k (((xs.take i).map fun y => brW (g y)) ++ [((⟨#[40]⟩ : ByteArray) ++ t) ++ (⟨#[41]⟩ : ByteArray)]) (wrap64 ((i : Int) + 1)) o n s xs) else (none)) else (none)) else (none))) (hg _ hm) ?_
      have e1 : ((⟨#[40]⟩ : ByteArray) ++ g xs[i]).size = 1 + (g xs[i]).size := by rw [size_app]; rfl
      refine Ev.congr (fun k => (if_pos (by omega)).trans ((if_pos (by omega)).trans (if_pos (by rw [List.length_map, List.length_take]; omega)))) ?_
      rw [w64 (by omega) (by omega)]
      have e : ((xs.take i).map fun y => brW (g y)) ++ [((⟨#[40]⟩ : ByteArray) ++ g xs[i]) ++ (⟨#[41]⟩ : ByteArray)] = (xs.take (i + 1)).map fun y => brW (g y) := by
        rw [List.take_succ_eq_append_getElem hi, List.map_append]
        rfl
      rw [e]
      exact_mod_cast ih
/-- of what has parts: what the end says of all in brackets. -/
theorem full_parts {o n : Int} {s : ByteArray} {xs : List S25} (g : S25 → ByteArray) (hg : ∀ y ∈ xs, Ev (fun k => belfrylaw05_full.f k y.f0 y.f1 y.f2 y.f3) (g y)) (hsz : ∀ y ∈ xs, (g y).size ≤ 20000) (hx : xs.length ≤ 3) (h0 : xs.length ≠ 0) {R : ByteArray}
    (hR : Ev (fun k => belfrylaw05_full.l0 k (xs.map fun y => brW (g y)) (xs.length : Int) o n s xs) R) : Ev (fun k => belfrylaw05_full.f k o n s xs) R := by
  have := full_l0 g hg hsz hx hR xs.length 0 (by omega)
  refine Ev.step (fun k => ?_) this
  simp only [belfrylaw05_full.f]
  rw [if_neg (by omega)]
  rfl
theorem full_one {o n : Int} {s : ByteArray} {y : S25} {a p : ByteArray} (ha : a.size ≤ 30000) (h : (o = 4 ∧ p = ⟨#[45]⟩) ∨ (o = 5 ∧ p = ⟨#[110, 111, 116, 32]⟩) ∨ (o = 19 ∧ p = ⟨#[112, 114, 101, 32]⟩)) :
    Ev (fun k => belfrylaw05_full.l0 k [a] 1 o n s [y]) (p ++ a) := by
  have e : rdOf ByteArray.empty [a] 0 = a := rfl
  rcases h with ⟨rfl, rfl⟩ | ⟨rfl, rfl⟩ | ⟨rfl, rfl⟩
  all_goals
    refine Ev.step (fun k => ?_) (Ev.now _)
    simp only [belfrylaw05_full.l0, e]
    rw [if_neg (by simp)]
    simp only [List.length_cons, List.length_nil]
    repeat (first | rw [if_pos trivial] | rw [if_pos (by omega)] | rw [if_neg (by omega)])
theorem full_three {n : Int} {s : ByteArray} {x y z : S25} {a b c : ByteArray} (ha : a.size ≤ 30000) (hb : b.size ≤ 30000) (hc : c.size ≤ 30000) :
    Ev (fun k => belfrylaw05_full.l0 k [a, b, c] 3 17 n s [x, y, z]) ((((((⟨#[105, 102, 32]⟩ : ByteArray) ++ a) ++ (⟨#[32, 116, 104, 101, 110, 32]⟩ : ByteArray)) ++ b) ++ (⟨#[32, 101, 108, 115, 101, 32]⟩ : ByteArray)) ++ c) := by
  have e0 : rdOf ByteArray.empty [a, b, c] 0 = a := rfl
  have e1 : rdOf ByteArray.empty [a, b, c] 1 = b := rfl
  have e2 : rdOf ByteArray.empty [a, b, c] 2 = c := rfl
  refine Ev.step (fun k => ?_) (Ev.now _)
  have q1 : (⟨#[105, 102, 32]⟩ : ByteArray).size = 3 := rfl
  have q2 : (⟨#[32, 116, 104, 101, 110, 32]⟩ : ByteArray).size = 6 := rfl
  have q3 : (⟨#[32, 101, 108, 115, 101, 32]⟩ : ByteArray).size = 6 := rfl
  simp only [belfrylaw05_full.l0, e0, e1, e2]
  rw [if_neg (by simp)]
  simp only [List.length_cons, List.length_nil, size_app, q1, q2, q3]
  repeat (first | rw [if_pos trivial] | rw [if_pos (by omega)] | rw [if_neg (by omega)])
theorem full_l1 {x5 : List ByteArray} {o n : Int} {s : ByteArray} {xs : List S25} {R : ByteArray} (i : Nat) (hi : i < 11) (x9 : ByteArray)
    (h : Ev (fun k => belfrylaw05_full.l1 k x5 SG OG (if rd OG (i : Int) = o then rdOf ByteArray.empty SG (i : Int) else x9) ((i + 1 : Nat) : Int) o n s xs) R) :
    Ev (fun k => belfrylaw05_full.l1 k x5 SG OG x9 (i : Int) o n s xs) R := by
  have hO : (OG.length : Int) = 11 := rfl
  have hS : (SG.length : Int) = 11 := rfl
  have hw : wrap64 ((i : Int) + 1) = ((i + 1 : Nat) : Int) := by rw [w64 (by omega) (by omega)]; omega
  by_cases hr : rd OG (i : Int) = o
  · rw [if_pos hr] at h
    refine Ev.step (fun k => ?_) h
    simp only [belfrylaw05_full.l1]
    rw [if_pos (by omega), if_pos (by omega), if_pos hr, if_pos (by omega), hw]
  · rw [if_neg hr] at h
    refine Ev.step (fun k => ?_) h
    simp only [belfrylaw05_full.l1]
    rw [if_pos (by omega), if_pos (by omega), if_neg hr, hw]
theorem full_l1_end {a b x9 : ByteArray} {o n : Int} {s : ByteArray} {xs : List S25} (ha : a.size ≤ 30000) (hb : b.size ≤ 30000) (h9 : x9.size ≤ 3) :
    Ev (fun k => belfrylaw05_full.l1 k [a, b] SG OG x9 ((11 : Nat) : Int) o n s xs) ((((a ++ sp) ++ x9) ++ sp) ++ b) := by
  have e0 : rdOf ByteArray.empty [a, b] 0 = a := rfl
  have e1 : rdOf ByteArray.empty [a, b] 1 = b := rfl
  have hO : (OG.length : Int) = 11 := rfl
  have q1 : (⟨#[32]⟩ : ByteArray).size = 1 := rfl
  refine Ev.step (fun k => ?_) (Ev.now _)
  simp only [belfrylaw05_full.l1, e0, e1]
  rw [if_neg (by omega)]
  simp only [List.length_cons, List.length_nil, size_app, q1]
  repeat (first | rw [if_pos trivial] | rw [if_pos (by omega)] | rw [if_neg (by omega)])
  rfl
theorem full_two {f : S83} (hf : f ∈ pairsL) {n : Int} {s : ByteArray} {x y : S25} {a b : ByteArray} (ha : a.size ≤ 30000) (hb : b.size ≤ 30000) :
    Ev (fun k => belfrylaw05_full.l0 k [a, b] 2 f.f0 n s [x, y]) ((((a ++ sp) ++ f.f3) ++ sp) ++ b) := by
  have h4 : ¬ f.f0 = 4 ∧ ¬ f.f0 = 5 ∧ ¬ f.f0 = 19 ∧ ¬ f.f0 = 17 := by
    unfold pairsL at hf
    simp only [List.mem_cons, List.not_mem_nil, or_false] at hf
    rcases hf with rfl | rfl | rfl | rfl | rfl | rfl | rfl | rfl | rfl | rfl | rfl | rfl <;> decide
  have h9 := form_text (.inl hf)
  refine Ev.step (f := fun k => belfrylaw05_full.l1 k [a, b] SG OG (⟨#[45, 62]⟩ : ByteArray) ((0 : Nat) : Int) f.f0 n s [x, y]) (fun k => ?_) ?_
  · simp only [belfrylaw05_full.l0]
    rw [if_neg (by simp), if_neg h4.1, if_neg h4.2.1, if_neg h4.2.2.1, if_neg h4.2.2.2]
    rfl
  · have hlast := full_l1_end (a := a) (b := b) (x9 := f.f3) (o := f.f0) (n := n) (s := s) (xs := [x, y]) ha hb h9
    refine full_l1 0 (by omega) _ (full_l1 1 (by omega) _ (full_l1 2 (by omega) _ (full_l1 3 (by omega) _ (full_l1 4 (by omega) _ (full_l1 5 (by omega) _ (full_l1 6 (by omega) _ (full_l1 7 (by omega) _ (full_l1 8 (by omega) _ (full_l1 9 (by omega) _ (full_l1 10 (by omega) _ ?_))))))))))
    have e : ∀ u : ByteArray, u = f.f3 → Ev (fun k => belfrylaw05_full.l1 k [a, b] SG OG u ((10 + 1 : Nat) : Int) f.f0 n s [x, y]) ((((a ++ sp) ++ f.f3) ++ sp) ++ b) := fun u hu => by rw [hu]; exact hlast
    apply e
    clear e hlast h9 h4
    unfold pairsL at hf
    simp only [List.mem_cons, List.not_mem_nil, or_false] at hf
    rcases hf with rfl | rfl | rfl | rfl | rfl | rfl | rfl | rfl | rfl | rfl | rfl | rfl <;> rfl
theorem full_leaf {d : Nat} {x : S25} {l l' : Int} (h : Ok nameOk (d + 1) x l l') (hx : x.f3 = []) (hwf : WfE x) : Ev (fun k => belfrylaw05_full.f k x.f0 x.f1 x.f2 x.f3) (wr (d + 1) x) := by
  obtain ⟨o, n, s, xs⟩ := x
  dsimp only at hx
  subst hx
  have hok : okE nameOk ⟨o, n, s, []⟩ = true ∧ ∀ e, wr (e + 1) ⟨o, n, s, []⟩ = wr (d + 1) ⟨o, n, s, []⟩ := by
    cases h with
    | int _ _ _ _ h1 h2 h3 =>
      refine ⟨?_, fun e => ?_⟩
      · unfold okE chk
        rw [if_neg (by omega), if_neg (by rw [parts_zero (.inl rfl)]; simp), if_pos rfl]
        simp [h2, h3]
      · simp only [wr]
        rw [findL_pairs_none.1, findL_pairs_none.2.2.2.2.2.1]
        simp only [if_true]
    | bool _ _ _ _ h1 h2 h3 =>
      refine ⟨?_, fun e => ?_⟩
      · unfold okE chk
        rw [if_neg (by omega), if_neg (by rw [parts_zero (.inr (.inl rfl))]; simp), if_neg (by simp), if_pos rfl]
        simp [h2, h3]
      · simp only [wr]
        rw [findL_pairs_none.2.1, findL_pairs_none.2.2.2.2.2.2.1]
        simp
    | name _ _ _ h1 h2 =>
      refine ⟨?_, fun e => ?_⟩
      · unfold okE chk
        rw [if_neg (by omega), if_neg (by rw [parts_zero (.inr (.inr rfl))]; simp), if_neg (by simp), if_neg (by simp), if_pos rfl]
        simp [h2]
      · simp only [wr]
        rw [findL_pairs_none.2.2.1, findL_pairs_none.2.2.2.2.2.2.2]
        simp
  cases hwf with
  | mk _ _ _ _ g1 g2 g3 g4 g5 g6 g7 =>
    have hf : exprs_Text.f o n s [] = some (wr (d + 1) ⟨o, n, s, []⟩, 0) := by
      unfold exprs_Text.f
      rw [if_pos ⟨⟨g1, g2⟩, ⟨g3, g4⟩, g5, rfl⟩, ← hok.2 31]
      exact congrArg some (if_pos hok.1)
    refine Ev.step (fun k => ?_) (Ev.now _)
    simp only [belfrylaw05_full.f]
    rw [if_pos (by simp), hf]
    rfl
theorem full_ev {d : Nat} {x : S25} {l l' : Int} (h : Ok nameOk d x l l') : WfE x → l ≤ 200 → Ev (fun k => belfrylaw05_full.f k x.f0 x.f1 x.f2 x.f3) (fullP d x) := by
  induction h with
  | int d n s l h1 h2 h3 =>
    intro hw hl
    have e : fullP (d + 1) ⟨1, n, s, []⟩ = wr (d + 1) ⟨1, n, s, []⟩ := by
      simp only [fullP]
      rw [findL_pairs_none.1, findL_pairs_none.2.2.2.2.2.1]
      rfl
    rw [e]
    exact full_leaf (.int d n s l h1 h2 h3) rfl hw
  | bool d n s l h1 h2 h3 =>
    intro hw hl
    have e : fullP (d + 1) ⟨2, n, s, []⟩ = wr (d + 1) ⟨2, n, s, []⟩ := by
      simp only [fullP]
      rw [findL_pairs_none.2.1, findL_pairs_none.2.2.2.2.2.2.1]
      rfl
    rw [e]
    exact full_leaf (.bool d n s l h1 h2 h3) rfl hw
  | name d s l h1 h2 =>
    intro hw hl
    have e : fullP (d + 1) ⟨3, 0, s, []⟩ = wr (d + 1) ⟨3, 0, s, []⟩ := by
      simp only [fullP]
      rw [findL_pairs_none.2.2.1, findL_pairs_none.2.2.2.2.2.2.2]
      rfl
    rw [e]
    exact full_leaf (.name d s l h1 h2) rfl hw
  | two d f s y z l l1 l2 h1 h2 h3 hy hz ihy ihz =>
    intro hw hl
    cases hw with
    | mk _ _ _ _ _ _ _ _ _ _ wk =>
    have e : fullP (d + 1) ⟨f.f0, 0, s, [y, z]⟩ = (((brW (fullP d y) ++ sp) ++ f.f3) ++ sp) ++ brW (fullP d z) := by
      simp only [fullP]
      rw [h2]
      show (((partW (fullP d) y 100 ++ sp) ++ f.f3) ++ sp) ++ partW (fullP d) z 100 = _
      rw [partW_all, partW_all]
      rfl
    rw [e]
    have g1 := full_size hy (wk y (by simp))
    have g2 := full_size hz (wk z (by simp))
    have k1 := hy.lt
    have k2 := hz.lt
    refine full_parts (xs := [y, z]) (fullP d) (fun u hu => ?_) (fun u hu => ?_) (by simp) (by simp) (full_two (findL_op h2).2 (by rw [brW_size]; omega) (by rw [brW_size]; omega))
    · simp only [List.mem_cons, List.not_mem_nil, or_false] at hu
      rcases hu with rfl | rfl
      · exact ihy (wk u (by simp)) (by omega)
      · exact ihz (wk u (by simp)) (by omega)
    · simp only [List.mem_cons, List.not_mem_nil, or_false] at hu
      rcases hu with rfl | rfl <;> omega
  | one d f s y l l1 h1 h2 h3 h4 hy ihy =>
    intro hw hl
    cases hw with
    | mk _ _ _ _ _ _ _ _ _ _ wk =>
    have e : fullP (d + 1) ⟨f.f0, 0, s, [y]⟩ = (if f.f2 = 3 then f.f3 else f.f3 ++ sp) ++ brW (fullP d y) := by
      simp only [fullP]
      rw [h2, h3]
      show (if f.f2 = 3 then f.f3 else f.f3 ++ sp) ++ partW (fullP d) y 100 = _
      rw [partW_all]
      rfl
    rw [e]
    have g1 := full_size hy (wk y (by simp))
    have k1 := hy.lt
    refine full_parts (xs := [y]) (fullP d) (fun u hu => ?_) (fun u hu => ?_) (by simp) (by simp) (full_one (by rw [brW_size]; omega) ?_)
    · simp only [List.mem_cons, List.not_mem_nil, or_false] at hu
      subst hu
      exact ihy (wk u (by simp)) (by omega)
    · simp only [List.mem_cons, List.not_mem_nil, or_false] at hu
      subst hu
      omega
    · have hm := (findL_op h3).2
      unfold prefL at hm
      simp only [List.mem_cons, List.not_mem_nil, or_false] at hm
      rcases hm with rfl | rfl | rfl
      · exact .inl ⟨rfl, rfl⟩
      · exact .inr (.inl ⟨rfl, rfl⟩)
      · exact .inr (.inr ⟨rfl, rfl⟩)
  | three d s x y z l l1 l2 l3 h1 h2 hx hy hz ihx ihy ihz =>
    intro hw hl
    cases hw with
    | mk _ _ _ _ _ _ _ _ _ _ wk =>
    have e : fullP (d + 1) ⟨17, 0, s, [x, y, z]⟩ = (((((⟨#[105, 102, 32]⟩ : ByteArray) ++ brW (fullP d x)) ++ (⟨#[32, 116, 104, 101, 110, 32]⟩ : ByteArray)) ++ brW (fullP d y)) ++ (⟨#[32, 101, 108, 115, 101, 32]⟩ : ByteArray)) ++ brW (fullP d z) := by
      simp only [fullP]
      rw [findL_pairs_none.2.2.2.1, findL_pairs_none.2.2.2.2.1]
      show ((((⟨#[105, 102, 32]⟩ : ByteArray) ++ partW (fullP d) x 100) ++ (⟨#[32, 116, 104, 101, 110, 32]⟩ : ByteArray)) ++ partW (fullP d) y 100) ++ (⟨#[32, 101, 108, 115, 101, 32]⟩ : ByteArray) ++ partW (fullP d) z 100 = _
      rw [partW_all, partW_all, partW_all]
      rfl
    rw [e]
    have g1 := full_size hx (wk x (by simp))
    have g2 := full_size hy (wk y (by simp))
    have g3 := full_size hz (wk z (by simp))
    have k1 := hx.lt
    have k2 := hy.lt
    have k3 := hz.lt
    refine full_parts (xs := [x, y, z]) (fullP d) (fun u hu => ?_) (fun u hu => ?_) (by simp) (by simp) (full_three (by rw [brW_size]; omega) (by rw [brW_size]; omega) (by rw [brW_size]; omega))
    · simp only [List.mem_cons, List.not_mem_nil, or_false] at hu
      rcases hu with rfl | rfl | rfl
      · exact ihx (wk u (by simp)) (by omega)
      · exact ihy (wk u (by simp)) (by omega)
      · exact ihz (wk u (by simp)) (by omega)
    · simp only [List.mem_cons, List.not_mem_nil, or_false] at hu
      rcases hu with rfl | rfl | rfl <;> omega
end Go.Proofs.YtbdciibbgiphcaaDoor.V
