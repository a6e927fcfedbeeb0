/- The laws' own 'full': printed by wip/myprint.py, turned by wip/exprs/mkfull.py. -/
import Derived.Test.YtbdciibbgiphcaaDoorNF
namespace Go.Proofs.YtbdciibbgiphcaaDoor.V
open Go.RowKit Go.Proofs.YtbdciibbgiphcaaDoorW.PrintWords Go.Proofs.YtbdciibbgiphcaaDoorW.PrintLast Go.Proofs.YtbdciibbgiphcaaDoorW.PrintMore
attribute [local go_sem] max2_int min2_int max_two min_two max_three min_three max_four min_four
set_option linter.unusedVariables false
set_option linter.unusedSimpArgs false
/-- Text of what has no parts. -/
def exprs_Text.f (o n : Int) (s : ByteArray) (l : List S25) : Option (ByteArray × Int) :=
  if (0 ≤ o ∧ o ≤ 255) ∧ (-9223372036854775808 ≤ n ∧ n ≤ 9223372036854775807) ∧ s.size ≤ 140737488351232 ∧ l.length = 0 then some (textE nameOk ⟨o, n, s, l⟩) else none
mutual
def belfrylaw05_full.l0 : Nat → List ByteArray → Int → Int → Int → ByteArray → List (S25) → Option (ByteArray)
  | 0, _, _, _, _, _, _ => none
  | k + 1, x5, x6, x372000, x372001, x372002, x372003 => if x6 < (x372003.length : Int) then (if 0 ≤ x6 then ((belfrylaw05_full.f k ((rd_T25 x372003 x6).f0) ((rd_T25 x372003 x6).f1) ((rd_T25 x372003 x6).f2) ((rd_T25 x372003 x6).f3)).bind fun t375 => (if 1 + t375.size ≤ 9223372036854775807 then (if ((⟨#[40]⟩ : ByteArray) ++ t375).size + 1 ≤ 9223372036854775807 then (if x5.length < 8796093022208 then (belfrylaw05_full.l0 k (x5 ++ [((⟨#[40]⟩ : ByteArray) ++ t375) ++ (⟨#[41]⟩ : ByteArray)]) (wrap64 (x6 + 1)) x372000 x372001 x372002 x372003) else (none)) else (none)) else (none))) else (none)) else (if x372000 = 4 then (if 0 < (x5.length : Int) then (if 1 + (rdOf ByteArray.empty x5 0).size ≤ 9223372036854775807 then (some ((⟨#[45]⟩ : ByteArray) ++ (rdOf ByteArray.empty x5 0))) else (none)) else (none)) else (if x372000 = 5 then (if 0 < (x5.length : Int) then (if 4 + (rdOf ByteArray.empty x5 0).size ≤ 9223372036854775807 then (some ((⟨#[110, 111, 116, 32]⟩ : ByteArray) ++ (rdOf ByteArray.empty x5 0))) else (none)) else (none)) else (if x372000 = 19 then (if 0 < (x5.length : Int) then (if 4 + (rdOf ByteArray.empty x5 0).size ≤ 9223372036854775807 then (some ((⟨#[112, 114, 101, 32]⟩ : ByteArray) ++ (rdOf ByteArray.empty x5 0))) else (none)) else (none)) else (if x372000 = 17 then (if (x5.length : Int) = 3 then (if 0 < (x5.length : Int) then (if 3 + (rdOf ByteArray.empty x5 0).size ≤ 9223372036854775807 then (if ((⟨#[105, 102, 32]⟩ : ByteArray) ++ (rdOf ByteArray.empty x5 0)).size + 6 ≤ 9223372036854775807 then (if 1 < (x5.length : Int) then (if (((⟨#[105, 102, 32]⟩ : ByteArray) ++ (rdOf ByteArray.empty x5 0)) ++ (⟨#[32, 116, 104, 101, 110, 32]⟩ : ByteArray)).size + (rdOf ByteArray.empty x5 1).size ≤ 9223372036854775807 then (if ((((⟨#[105, 102, 32]⟩ : ByteArray) ++ (rdOf ByteArray.empty x5 0)) ++ (⟨#[32, 116, 104, 101, 110, 32]⟩ : ByteArray)) ++ (rdOf ByteArray.empty x5 1)).size + 6 ≤ 9223372036854775807 then (if 2 < (x5.length : Int) then (if (((((⟨#[105, 102, 32]⟩ : ByteArray) ++ (rdOf ByteArray.empty x5 0)) ++ (⟨#[32, 116, 104, 101, 110, 32]⟩ : ByteArray)) ++ (rdOf ByteArray.empty x5 1)) ++ (⟨#[32, 101, 108, 115, 101, 32]⟩ : ByteArray)).size + (rdOf ByteArray.empty x5 2).size ≤ 9223372036854775807 then (some ((((((⟨#[105, 102, 32]⟩ : ByteArray) ++ (rdOf ByteArray.empty x5 0)) ++ (⟨#[32, 116, 104, 101, 110, 32]⟩ : ByteArray)) ++ (rdOf ByteArray.empty x5 1)) ++ (⟨#[32, 101, 108, 115, 101, 32]⟩ : ByteArray)) ++ (rdOf ByteArray.empty x5 2))) else (none)) else (none)) else (none)) else (none)) else (none)) else (none)) else (none)) else (none)) else (some (⟨#[]⟩ : ByteArray))) else (belfrylaw05_full.l1 k x5 (([(⟨#[43]⟩ : ByteArray), (⟨#[45]⟩ : ByteArray), (⟨#[42]⟩ : ByteArray), (⟨#[47]⟩ : ByteArray), (⟨#[37]⟩ : ByteArray), (⟨#[61, 61]⟩ : ByteArray), (⟨#[33, 61]⟩ : ByteArray), (⟨#[60]⟩ : ByteArray), (⟨#[60, 61]⟩ : ByteArray), (⟨#[97, 110, 100]⟩ : ByteArray), (⟨#[111, 114]⟩ : ByteArray)] : List ByteArray)) (([6, 7, 8, 9, 10, 11, 12, 13, 14, 15, 16] : List Int)) (⟨#[45, 62]⟩ : ByteArray) 0 x372000 x372001 x372002 x372003)))))
def belfrylaw05_full.l1 : Nat → List ByteArray → List ByteArray → List Int → ByteArray → Int → Int → Int → ByteArray → List (S25) → Option (ByteArray)
  | 0, _, _, _, _, _, _, _, _, _ => none
  | k + 1, x5, x7, x8, x9, x10, x372000, x372001, x372002, x372003 => if x10 < (x8.length : Int) then (if 0 ≤ x10 then (if (rd x8 x10) = x372000 then (if x10 < (x7.length : Int) then (belfrylaw05_full.l1 k x5 x7 x8 (rdOf ByteArray.empty x7 x10) (wrap64 (x10 + 1)) x372000 x372001 x372002 x372003) else (none)) else (belfrylaw05_full.l1 k x5 x7 x8 x9 (wrap64 (x10 + 1)) x372000 x372001 x372002 x372003)) else (none)) else (if (x5.length : Int) = 2 then (if 0 < (x5.length : Int) then (if (rdOf ByteArray.empty x5 0).size + 1 ≤ 9223372036854775807 then (if ((rdOf ByteArray.empty x5 0) ++ (⟨#[32]⟩ : ByteArray)).size + x9.size ≤ 9223372036854775807 then (if (((rdOf ByteArray.empty x5 0) ++ (⟨#[32]⟩ : ByteArray)) ++ x9).size + 1 ≤ 9223372036854775807 then (if 1 < (x5.length : Int) then (if ((((rdOf ByteArray.empty x5 0) ++ (⟨#[32]⟩ : ByteArray)) ++ x9) ++ (⟨#[32]⟩ : ByteArray)).size + (rdOf ByteArray.empty x5 1).size ≤ 9223372036854775807 then (some (((((rdOf ByteArray.empty x5 0) ++ (⟨#[32]⟩ : ByteArray)) ++ x9) ++ (⟨#[32]⟩ : ByteArray)) ++ (rdOf ByteArray.empty x5 1))) else (none)) else (none)) else (none)) else (none)) else (none)) else (none)) else (some (⟨#[]⟩ : ByteArray)))
def belfrylaw05_full.f : Nat → Int → Int → ByteArray → List (S25) → Option (ByteArray)
  | 0, _, _, _, _ => none
  | k + 1, a0_0, a0_1, a0_2, l0_3 => if (l0_3.length : Int) = 0 then ((exprs_Text.f a0_0 a0_1 a0_2 l0_3).bind fun bt372 => (some bt372.1)) else (belfrylaw05_full.l0 k ([] : List ByteArray) 0 a0_0 a0_1 a0_2 l0_3)
end
theorem belfrylaw05_full.mono_l : ∀ k, (∀ y0 y1 y2 y3, LeO (belfrylaw05_full.f k y0 y1 y2 y3) (belfrylaw05_full.f (k + 1) y0 y1 y2 y3)) ∧ (∀ y0 y1 y2 y3 y4 y5, LeO (belfrylaw05_full.l0 k y0 y1 y2 y3 y4 y5) (belfrylaw05_full.l0 (k + 1) y0 y1 y2 y3 y4 y5)) ∧ (∀ y0 y1 y2 y3 y4 y5 y6 y7 y8, LeO (belfrylaw05_full.l1 k y0 y1 y2 y3 y4 y5 y6 y7 y8) (belfrylaw05_full.l1 (k + 1) y0 y1 y2 y3 y4 y5 y6 y7 y8))
  | 0 => ⟨fun _ _ _ _ r h => by simp [belfrylaw05_full.f] at h, fun _ _ _ _ _ _ r h => by simp [belfrylaw05_full.l0] at h, fun _ _ _ _ _ _ _ _ _ r h => by simp [belfrylaw05_full.l1] at h⟩
  | k + 1 => by
    obtain ⟨ih0, ih1, ih2⟩ := belfrylaw05_full.mono_l k
    refine ⟨?_, ?_, ?_⟩
    · intro y0 y1 y2 y3
      unfold belfrylaw05_full.f
      repeat' first
      | (with_reducible exact ih0 _ _ _ _)
      | (with_reducible exact ih1 _ _ _ _ _ _)
      | (with_reducible exact ih2 _ _ _ _ _ _ _ _ _)
      | (with_reducible exact LeO.refl _)
      | (with_reducible exact LeO.none _)
      | (with_reducible refine LeO.ite ?_ ?_)
      | (with_reducible refine LeO.bind ?_ (fun _ => ?_))
      | exact ih0 _ _ _ _
      | exact ih1 _ _ _ _ _ _
      | exact ih2 _ _ _ _ _ _ _ _ _
      | exact LeO.none _
      | refine LeO.ite ?_ ?_
      | refine LeO.bind ?_ (fun _ => ?_)
    · intro y0 y1 y2 y3 y4 y5
      unfold belfrylaw05_full.l0
      repeat' first
      | (with_reducible exact ih0 _ _ _ _)
      | (with_reducible exact ih1 _ _ _ _ _ _)
      | (with_reducible exact ih2 _ _ _ _ _ _ _ _ _)
      | (with_reducible exact LeO.refl _)
      | (with_reducible exact LeO.none _)
      | (with_reducible refine LeO.ite ?_ ?_)
      | (with_reducible refine LeO.bind ?_ (fun _ => ?_))
      | exact ih0 _ _ _ _
      | exact ih1 _ _ _ _ _ _
      | exact ih2 _ _ _ _ _ _ _ _ _
      | exact LeO.none _
      | refine LeO.ite ?_ ?_
      | refine LeO.bind ?_ (fun _ => ?_)
    · intro y0 y1 y2 y3 y4 y5 y6 y7 y8
      unfold belfrylaw05_full.l1
      repeat' first
      | (with_reducible exact ih0 _ _ _ _)
      | (with_reducible exact ih1 _ _ _ _ _ _)
      | (with_reducible exact ih2 _ _ _ _ _ _ _ _ _)
      | (with_reducible exact LeO.refl _)
      | (with_reducible exact LeO.none _)
      | (with_reducible refine LeO.ite ?_ ?_)
      | (with_reducible refine LeO.bind ?_ (fun _ => ?_))
      | exact ih0 _ _ _ _
      | exact ih1 _ _ _ _ _ _
      | exact ih2 _ _ _ _ _ _ _ _ _
      | exact LeO.none _
      | refine LeO.ite ?_ ?_
      | refine LeO.bind ?_ (fun _ => ?_)
theorem belfrylaw05_full.mono : ∀ a0 a1 a2 a3 k, LeO (belfrylaw05_full.f k a0 a1 a2 a3) (belfrylaw05_full.f (k + 1) a0 a1 a2 a3) := by
  intro a0 a1 a2 a3 k
  obtain ⟨ih0, ih1, ih2⟩ := belfrylaw05_full.mono_l k
  exact ih0 a0 a1 a2 a3
end Go.Proofs.YtbdciibbgiphcaaDoor.V
