-- Written for this claim by wip/myprint.py (a program of this session over the kit's printer).
import Derived.Test.YtgenhcanaoejkaaDoorSx0
import Derived.Test.YtgenhcanaoejkaaDoorExt
namespace Go.Proofs.YtgenhcanaoejkaaDoor.S
open Go.RowKit Go.Proofs.YtgenhcanaoejkaaDoorW.PrintWords Go.Proofs.YtgenhcanaoejkaaDoorW.PrintLast Go.Proofs.YtgenhcanaoejkaaDoorW.PrintMore
attribute [local go_sem] max2_int min2_int max_two min_two max_three min_three max_four min_four   -- for this text's walks alone
set_option linter.unusedVariables false
set_option linter.unusedSimpArgs false

/-! ### belfrylaw04_TokensPlaces: function 4 -/
mutual
def belfrylaw04_TokensPlaces.j0 : Nat → ByteArray → Bool → Option (Bool)
  | 0, _, _ => none
  | k + 1, x0, x17 => if x17 = true then ((belfrylaw04_alive.f).bind fun t150 => (some t150)) else ((tokens_Read.f x0).bind fun bt151 => (if bt151.2.2 = 0 then (belfrylaw04_TokensPlaces.l0 k x0 bt151.1 bt151.2.1 0 0) else (if bt151.2.2 = 5 then (if bt151.2.1 ≥ 0 then (if bt151.2.1 < (x0.size : Int) then (some ((bt151.1.length : Int) == 0)) else (some false)) else (some false)) else (some false))))
def belfrylaw04_TokensPlaces.l0 : Nat → ByteArray → List (S32) → Int → Int → Int → Option (Bool)
  | 0, _, _, _, _, _ => none
  | k + 1, x0, x3, x4, x6, x7 => if x7 ≤ (x3.length : Int) then (if x7 < (x3.length : Int) then (if 0 ≤ x7 then (if ((rd_T32 x3 x7).f2) < x6 then (some false) else (if ((rd_T32 x3 x7).f1).toList = ([] : List UInt8) then (some false) else (if (wrap64 ((x0.size : Int) - ((rd_T32 x3 x7).f2))) < (((rd_T32 x3 x7).f1).size : Int) then (some false) else (if 0 ≤ ((rd_T32 x3 x7).f2) then (if ((rd_T32 x3 x7).f2) ≤ (wrap64 (((rd_T32 x3 x7).f2) + (((rd_T32 x3 x7).f1).size : Int))) then (if (wrap64 (((rd_T32 x3 x7).f2) + (((rd_T32 x3 x7).f1).size : Int))) ≤ (x0.size : Int) then (if (x0.extract (((rd_T32 x3 x7).f2) : Int).toNat ((wrap64 (((rd_T32 x3 x7).f2) + (((rd_T32 x3 x7).f1).size : Int))) : Int).toNat).toList = ((rd_T32 x3 x7).f1).toList then (if ((rd_T32 x3 x7).f0) < 1 then (some false) else (if ((rd_T32 x3 x7).f0) > 3 then (some false) else (belfrylaw04_TokensPlaces.j2 k x0 x3 x4 x6 x7 ((rd_T32 x3 x7).f2)))) else (some false)) else (none)) else (none)) else (none))))) else (none)) else (belfrylaw04_TokensPlaces.j2 k x0 x3 x4 x6 x7 (x0.size : Int))) else (some (x4 == 0))
def belfrylaw04_TokensPlaces.j2 : Nat → ByteArray → List (S32) → Int → Int → Int → Int → Option (Bool)
  | 0, _, _, _, _, _, _ => none
  | k + 1, x0, x3, x4, x6, x7, x8 => belfrylaw04_TokensPlaces.l1 k x0 x3 x4 x6 x7 x8 false x6
def belfrylaw04_TokensPlaces.l1 : Nat → ByteArray → List (S32) → Int → Int → Int → Int → Bool → Int → Option (Bool)
  | 0, _, _, _, _, _, _, _, _ => none
  | k + 1, x0, x3, x4, x6, x7, x8, x9, x10 => if x10 < x8 then (if 0 ≤ x10 then (if x10 < (x0.size : Int) then (if (bt x0 x10) = 10 then (belfrylaw04_TokensPlaces.l1 k x0 x3 x4 x6 x7 x8 false (wrap64 (x10 + 1))) else (if x9 = true then (belfrylaw04_TokensPlaces.l1 k x0 x3 x4 x6 x7 x8 true (wrap64 (x10 + 1))) else (if (wrap64 (x10 + 1)) < (x0.size : Int) then (if (bt x0 x10) = 45 then (if 0 ≤ (wrap64 (x10 + 1)) then (if ((bt x0 (wrap64 (x10 + 1))) = 45) then (belfrylaw04_TokensPlaces.l1 k x0 x3 x4 x6 x7 x8 ((bt x0 (wrap64 (x10 + 1))) == 45) (wrap64 (x10 + 1))) else (if (bt x0 x10) = 32 then (belfrylaw04_TokensPlaces.l1 k x0 x3 x4 x6 x7 x8 ((bt x0 (wrap64 (x10 + 1))) == 45) (wrap64 (x10 + 1))) else (if (bt x0 x10) = 9 then (belfrylaw04_TokensPlaces.l1 k x0 x3 x4 x6 x7 x8 ((bt x0 (wrap64 (x10 + 1))) == 45) (wrap64 (x10 + 1))) else (if (bt x0 x10) = 13 then (belfrylaw04_TokensPlaces.l1 k x0 x3 x4 x6 x7 x8 ((bt x0 (wrap64 (x10 + 1))) == 45) (wrap64 (x10 + 1))) else (some false))))) else (none)) else (if (bt x0 x10) = 32 then (belfrylaw04_TokensPlaces.l1 k x0 x3 x4 x6 x7 x8 false (wrap64 (x10 + 1))) else (if (bt x0 x10) = 9 then (belfrylaw04_TokensPlaces.l1 k x0 x3 x4 x6 x7 x8 false (wrap64 (x10 + 1))) else (if (bt x0 x10) = 13 then (belfrylaw04_TokensPlaces.l1 k x0 x3 x4 x6 x7 x8 false (wrap64 (x10 + 1))) else (some false))))) else (if (bt x0 x10) = 32 then (belfrylaw04_TokensPlaces.l1 k x0 x3 x4 x6 x7 x8 false (wrap64 (x10 + 1))) else (if (bt x0 x10) = 9 then (belfrylaw04_TokensPlaces.l1 k x0 x3 x4 x6 x7 x8 false (wrap64 (x10 + 1))) else (if (bt x0 x10) = 13 then (belfrylaw04_TokensPlaces.l1 k x0 x3 x4 x6 x7 x8 false (wrap64 (x10 + 1))) else (some false))))))) else (none)) else (none)) else (if x7 < (x3.length : Int) then (if 0 ≤ x7 then (belfrylaw04_TokensPlaces.l0 k x0 x3 x4 (wrap64 (x8 + (((rd_T32 x3 x7).f1).size : Int))) (wrap64 (x7 + 1))) else (none)) else (belfrylaw04_TokensPlaces.l0 k x0 x3 x4 x6 (wrap64 (x7 + 1))))
end
def belfrylaw04_TokensPlaces.f (k : Nat) (a0 : ByteArray) : Option (Bool) := (belfrylaw04_alive.f).bind fun t149 => (if t149 = true then (belfrylaw04_TokensPlaces.j0 k a0 (decide ((a0.size : Int) > 65536))) else (belfrylaw04_TokensPlaces.j0 k a0 true))
theorem belfrylaw04_TokensPlaces.mono_l : ∀ k, (∀ y0 y1, LeO (belfrylaw04_TokensPlaces.j0 k y0 y1) (belfrylaw04_TokensPlaces.j0 (k + 1) y0 y1)) ∧ (∀ y0 y1 y2 y3 y4, LeO (belfrylaw04_TokensPlaces.l0 k y0 y1 y2 y3 y4) (belfrylaw04_TokensPlaces.l0 (k + 1) y0 y1 y2 y3 y4)) ∧ (∀ y0 y1 y2 y3 y4 y5, LeO (belfrylaw04_TokensPlaces.j2 k y0 y1 y2 y3 y4 y5) (belfrylaw04_TokensPlaces.j2 (k + 1) y0 y1 y2 y3 y4 y5)) ∧ (∀ y0 y1 y2 y3 y4 y5 y6 y7, LeO (belfrylaw04_TokensPlaces.l1 k y0 y1 y2 y3 y4 y5 y6 y7) (belfrylaw04_TokensPlaces.l1 (k + 1) y0 y1 y2 y3 y4 y5 y6 y7))
  | 0 => ⟨fun _ _ r h => by simp [belfrylaw04_TokensPlaces.j0] at h, fun _ _ _ _ _ r h => by simp [belfrylaw04_TokensPlaces.l0] at h, fun _ _ _ _ _ _ r h => by simp [belfrylaw04_TokensPlaces.j2] at h, fun _ _ _ _ _ _ _ _ r h => by simp [belfrylaw04_TokensPlaces.l1] at h⟩
  | k + 1 => by
    obtain ⟨ih0, ih1, ih2, ih3⟩ := belfrylaw04_TokensPlaces.mono_l k
    refine ⟨?_, ?_, ?_, ?_⟩
    · intro y0 y1
      unfold belfrylaw04_TokensPlaces.j0
      repeat' first
      | (with_reducible exact ih0 _ _)
      | (with_reducible exact ih1 _ _ _ _ _)
      | (with_reducible exact ih2 _ _ _ _ _ _)
      | (with_reducible exact ih3 _ _ _ _ _ _ _ _)
      | (with_reducible exact LeO.refl _)
      | (with_reducible exact LeO.none _)
      | (with_reducible refine LeO.ite ?_ ?_)
      | (with_reducible refine LeO.bind ?_ (fun _ => ?_))
      | exact ih0 _ _
      | exact ih1 _ _ _ _ _
      | exact ih2 _ _ _ _ _ _
      | exact ih3 _ _ _ _ _ _ _ _
      | exact LeO.none _
      | refine LeO.ite ?_ ?_
      | refine LeO.bind ?_ (fun _ => ?_)
    · intro y0 y1 y2 y3 y4
      unfold belfrylaw04_TokensPlaces.l0
      repeat' first
      | (with_reducible exact ih0 _ _)
      | (with_reducible exact ih1 _ _ _ _ _)
      | (with_reducible exact ih2 _ _ _ _ _ _)
      | (with_reducible exact ih3 _ _ _ _ _ _ _ _)
      | (with_reducible exact LeO.refl _)
      | (with_reducible exact LeO.none _)
      | (with_reducible refine LeO.ite ?_ ?_)
      | (with_reducible refine LeO.bind ?_ (fun _ => ?_))
      | exact ih0 _ _
      | exact ih1 _ _ _ _ _
      | exact ih2 _ _ _ _ _ _
      | exact ih3 _ _ _ _ _ _ _ _
      | exact LeO.none _
      | refine LeO.ite ?_ ?_
      | refine LeO.bind ?_ (fun _ => ?_)
    · intro y0 y1 y2 y3 y4 y5
      unfold belfrylaw04_TokensPlaces.j2
      repeat' first
      | (with_reducible exact ih0 _ _)
      | (with_reducible exact ih1 _ _ _ _ _)
      | (with_reducible exact ih2 _ _ _ _ _ _)
      | (with_reducible exact ih3 _ _ _ _ _ _ _ _)
      | (with_reducible exact LeO.refl _)
      | (with_reducible exact LeO.none _)
      | (with_reducible refine LeO.ite ?_ ?_)
      | (with_reducible refine LeO.bind ?_ (fun _ => ?_))
      | exact ih0 _ _
      | exact ih1 _ _ _ _ _
      | exact ih2 _ _ _ _ _ _
      | exact ih3 _ _ _ _ _ _ _ _
      | exact LeO.none _
      | refine LeO.ite ?_ ?_
      | refine LeO.bind ?_ (fun _ => ?_)
    · intro y0 y1 y2 y3 y4 y5 y6 y7
      unfold belfrylaw04_TokensPlaces.l1
      repeat' first
      | (with_reducible exact ih0 _ _)
      | (with_reducible exact ih1 _ _ _ _ _)
      | (with_reducible exact ih2 _ _ _ _ _ _)
      | (with_reducible exact ih3 _ _ _ _ _ _ _ _)
      | (with_reducible exact LeO.refl _)
      | (with_reducible exact LeO.none _)
      | (with_reducible refine LeO.ite ?_ ?_)
      | (with_reducible refine LeO.bind ?_ (fun _ => ?_))
      | exact ih0 _ _
      | exact ih1 _ _ _ _ _
      | exact ih2 _ _ _ _ _ _
      | exact ih3 _ _ _ _ _ _ _ _
      | exact LeO.none _
      | refine LeO.ite ?_ ?_
      | refine LeO.bind ?_ (fun _ => ?_)
theorem belfrylaw04_TokensPlaces.mono : ∀ a0 k, LeO (belfrylaw04_TokensPlaces.f k a0) (belfrylaw04_TokensPlaces.f (k + 1) a0) := by
  intro a0 k
  obtain ⟨ih0, ih1, ih2, ih3⟩ := belfrylaw04_TokensPlaces.mono_l k
  unfold belfrylaw04_TokensPlaces.f
  repeat' first
      | (with_reducible exact ih0 _ _)
      | (with_reducible exact ih1 _ _ _ _ _)
      | (with_reducible exact ih2 _ _ _ _ _ _)
      | (with_reducible exact ih3 _ _ _ _ _ _ _ _)
      | (with_reducible exact LeO.refl _)
      | (with_reducible exact LeO.none _)
      | (with_reducible refine LeO.ite ?_ ?_)
      | (with_reducible refine LeO.bind ?_ (fun _ => ?_))
      | exact ih0 _ _
      | exact ih1 _ _ _ _ _
      | exact ih2 _ _ _ _ _ _
      | exact ih3 _ _ _ _ _ _ _ _
      | exact LeO.none _
      | refine LeO.ite ?_ ?_
      | refine LeO.bind ?_ (fun _ => ?_)
def belfrylaw04_TokensPlaces.Pure : Prop := ∀ (a0 : ByteArray), a0.size ≤ 140737488351232 → ∃ k, belfrylaw04_TokensPlaces.f k a0 = some true
end Go.Proofs.YtgenhcanaoejkaaDoor.S
