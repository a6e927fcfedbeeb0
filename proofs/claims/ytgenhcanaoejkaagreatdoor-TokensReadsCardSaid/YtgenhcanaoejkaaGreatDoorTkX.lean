/- tokens.ofSigns: walk. -/
import Derived.Test.YtgenhcanaoejkaaGreatDoorTok
import Derived.Test.YtgenhcanaoejkaaGreatDoorShelf
import Derived.Test.YtgenhcanaoejkaaGreatDoorWMore
import Derived.Tactics
import Derived.Tactics2
import Derived.OwnWalk
import Derived.LoopTactic
import Derived.WalkKit
import Derived.KernelRfl
import Derived.Lib.Hide
import Derived.Deep.DeepCutAuto
namespace Go.Proofs.YtgenhcanaoejkaaGreatDoor
set_option linter.unusedVariables false
set_option linter.unusedSimpArgs false
set_option linter.unusedSectionVars false
open Go.RowKit
open Go.Proofs.YtgenhcanaoejkaaGreatDoorW.PrintWords
def NoTwo (s : ByteArray) (j : Nat) : Prop := ∀ i x, i < j → [[60, 61], [61, 61], [33, 61], [45, 62]][i]? = some x → Lib.hasPrefix s.data.toList x = false
theorem NoTwo.zero (s : ByteArray) : NoTwo s 0 := fun i x h => absurd h (by omega)
theorem NoTwo.next {s : ByteArray} {j : Nat} {x : List UInt8} (h : NoTwo s j) (hx : [[60, 61], [61, 61], [33, 61], [45, 62]][j]? = some x) (hb : Lib.hasPrefix s.data.toList x = false) : NoTwo s (j + 1) := by
  intro i y hi hy
  by_cases e : i = j
  · subst e
    rw [hx] at hy
    injection hy with hy
    subst hy
    exact hb
  · exact h i y (by omega) hy
def toI (b : UInt8) : Int := (b.toNat : Int)
theorem toI_eq (a b : UInt8) : (toI a == toI b) = (a == b) := by
  rw [Bool.eq_iff_iff]
  simp only [beq_iff_eq, toI]
  constructor
  · intro h; exact UInt8.toNat_inj.1 (by omega)
  · intro h; rw [h]
theorem prefix_map : ∀ (x l : List UInt8), (x.map toI).isPrefixOf (l.map toI) = x.isPrefixOf l
  | [], _ => by simp
  | a :: x, [] => rfl
  | a :: x, b :: l => by
    simp only [List.map_cons, List.isPrefixOf, toI_eq, prefix_map x l]
theorem bytes_map (s : ByteArray) : bytesOf s = s.data.toList.map toI := rfl
theorem two_iff (s : ByteArray) : Tok.two (bytesOf s) = true ↔ ∃ x ∈ ([[60, 61], [61, 61], [33, 61], [45, 62]] : List (List UInt8)), Lib.hasPrefix s.data.toList x = true := by
  unfold Tok.two Lib.hasPrefix
  rw [bytes_map]
  have h1 := prefix_map [60, 61] s.data.toList
  have h2 := prefix_map [61, 61] s.data.toList
  have h3 := prefix_map [33, 61] s.data.toList
  have h4 := prefix_map [45, 62] s.data.toList
  simp only [List.any_cons, List.any_nil, Bool.or_false, Bool.or_eq_true, List.mem_cons, List.not_mem_nil, or_false, exists_eq_or_imp, exists_eq_left]
  rw [← h1, ← h2, ← h3, ← h4]
  rfl
theorem sign_two (s : ByteArray) (x : List UInt8) (hm : x ∈ ([[60, 61], [61, 61], [33, 61], [45, 62]] : List (List UInt8))) (h : Lib.hasPrefix s.data.toList x = true) : Tok.signLen (bytesOf s) = 2 := by
  unfold Tok.signLen
  rw [if_pos ((two_iff s).2 ⟨x, hm, h⟩)]
theorem index_nonneg : ∀ (l : List UInt8) (c : UInt8), 0 ≤ Lib.indexByte l c ↔ (l.map toI).contains (toI c) = true
  | [], c => by simp [Lib.indexByte]
  | b :: l, c => by
    have ih := index_nonneg l c
    have hlow : ∀ m : List UInt8, -1 ≤ Lib.indexByte m c := by
      intro m
      induction m with
      | nil => simp [Lib.indexByte]
      | cons d m ih2 =>
        simp only [Lib.indexByte]
        split
        · omega
        · split <;> omega
    have hl := hlow l
    simp only [Lib.indexByte, List.map_cons, List.contains_cons, Bool.or_eq_true]
    rw [← ih]
    have e : (toI c == toI b) = (b == c) := by rw [toI_eq]; exact Bool.beq_comm ..
    rw [e]
    by_cases hb : (b == c) = true
    · simp [hb]
    · simp only [hb, if_neg, Bool.false_eq_true, false_or]
      by_cases h1 : Lib.indexByte l c = -1
      · simp [h1]
      · simp [h1]; omega
theorem sign_one (s : ByteArray) (h0 : 0 < s.size) (h : NoTwo s 4) : (Tok.signLen (bytesOf s) : Int) = if 0 ≤ (Lib.indexByte [40, 41, 58, 59, 44, 61, 43, 45, 42, 47, 37, 60] (s[0]'h0) : Int) then 1 else 0 := by
  have ht : ¬ Tok.two (bytesOf s) = true := by
    rw [two_iff]
    rintro ⟨x, hm, hx⟩
    obtain ⟨i, hi, e⟩ := List.getElem_of_mem hm
    have := h i x (by simpa using hi) (by rw [List.getElem?_eq_getElem hi, e])
    rw [this] at hx
    cases hx
  obtain ⟨c, r, hc⟩ : ∃ c r, bytesOf s = c :: r := by
    cases hb : bytesOf s with
    | nil => have := bytesOf_length s; rw [hb] at this; simp at this; omega
    | cons c r => exact ⟨c, r, rfl⟩
  have hc0 : c = toI (s[0]'h0) := by
    have : (bytesOf s)[0]? = some (toI (s[0]'h0)) := by
      have hl : 0 < (bytesOf s).length := by rw [bytesOf_length]; exact h0
      rw [List.getElem?_eq_getElem hl]
      simp [bytesOf, toI]
      rfl
    rw [hc] at this
    simpa using this
  unfold Tok.signLen
  rw [if_neg ht, hc]
  simp only
  have hi := index_nonneg [40, 41, 58, 59, 44, 61, 43, 45, 42, 47, 37, 60] (s[0]'h0)
  have hs : ([40, 41, 58, 59, 44, 61, 43, 45, 42, 47, 37, 60] : List UInt8).map toI = Tok.signs := by rfl
  rw [hs, ← hc0] at hi
  by_cases hx : 0 ≤ Lib.indexByte [40, 41, 58, 59, 44, 61, 43, 45, 42, 47, 37, 60] (s[0]'h0)
  · rw [if_pos hx, if_pos (hi.1 hx)]; rfl
  · rw [if_neg hx, if_neg (fun q => hx (hi.2 q))]; rfl
set_option maxHeartbeats 4000000 in
set_option maxRecDepth 100000 in
theorem ofSigns_walk (s : ByteArray) (w : World) (h0 : 0 < s.size) : Calls Tryz.prog 11 #[.string s] w fun e w' => e = .returned (.int .i64 (Tok.signLen (bytesOf s) : Nat)) ∧ w' = w := by
  go_enter Tryz.func11, Tryz.ntmps11
  go_wp2_with fail
  go_loopw [6] (fun iv wr => ∃ J : Int, iv = .int .i64 J ∧ wr = w ∧ ((J = 0 ∧ Hid (NoTwo s 0)) ∨ (J = 1 ∧ Hid (NoTwo s 1)) ∨ (J = 2 ∧ Hid (NoTwo s 2)) ∨ (J = 3 ∧ Hid (NoTwo s 3)) ∨ (J = 4 ∧ Hid (NoTwo s 4)))) (fun iv _ => 4 - (intOf iv).toNat)
  case atStart => exact ⟨0, rfl, rfl, .inl ⟨rfl, Lib.hid (NoTwo.zero s)⟩⟩
  case round =>
    obtain ⟨J, rfl, rfl, ⟨rfl, HN⟩ | ⟨rfl, HN⟩ | ⟨rfl, HN⟩ | ⟨rfl, HN⟩ | ⟨rfl, HN⟩⟩ := hrel
    · have hix : ∀ W : World, (Instr.index 60 (Value.agg #[Value.string { data := #[60, 61] }, Value.string { data := #[61, 61] }, Value.string { data := #[33, 61] }, Value.string { data := #[45, 62] }]) (Value.int IntKind.i64 0)).run Tryz.prog W = .ok (.string { data := #[60, 61] }) W := fun W => by kernel_rfl
      go_wp2_with fail
      refine (Tryz.strings_HasPrefix s { data := #[60, 61] } _).mono ?_
      rintro _ _ ⟨rfl, rfl⟩
      cases hb : Lib.hasPrefix s.data.toList [60, 61] with
      | true =>
        have HB := Lib.hid hb
        clear hb
        go_wp2_with fail
        go_ret
        exact ⟨by rw [sign_two s [60, 61] (by simp) HB.out]; rfl, rfl⟩
      | false =>
        have HB := Lib.hid hb
        clear hb
        go_wp2_with fail
        exact ⟨⟨1, rfl, trivial, .inr (.inl ⟨rfl, Lib.hid (HN.out.next (x := [60, 61]) rfl HB.out)⟩)⟩, by simp [intOf]⟩
    · have hix : ∀ W : World, (Instr.index 60 (Value.agg #[Value.string { data := #[60, 61] }, Value.string { data := #[61, 61] }, Value.string { data := #[33, 61] }, Value.string { data := #[45, 62] }]) (Value.int IntKind.i64 1)).run Tryz.prog W = .ok (.string { data := #[61, 61] }) W := fun W => by kernel_rfl
      go_wp2_with fail
      refine (Tryz.strings_HasPrefix s { data := #[61, 61] } _).mono ?_
      rintro _ _ ⟨rfl, rfl⟩
      cases hb : Lib.hasPrefix s.data.toList [61, 61] with
      | true =>
        have HB := Lib.hid hb
        clear hb
        go_wp2_with fail
        go_ret
        exact ⟨by rw [sign_two s [61, 61] (by simp) HB.out]; rfl, rfl⟩
      | false =>
        have HB := Lib.hid hb
        clear hb
        go_wp2_with fail
        exact ⟨⟨2, rfl, trivial, .inr (.inr (.inl ⟨rfl, Lib.hid (HN.out.next (x := [61, 61]) rfl HB.out)⟩))⟩, by simp [intOf]⟩
    · have hix : ∀ W : World, (Instr.index 60 (Value.agg #[Value.string { data := #[60, 61] }, Value.string { data := #[61, 61] }, Value.string { data := #[33, 61] }, Value.string { data := #[45, 62] }]) (Value.int IntKind.i64 2)).run Tryz.prog W = .ok (.string { data := #[33, 61] }) W := fun W => by kernel_rfl
      go_wp2_with fail
      refine (Tryz.strings_HasPrefix s { data := #[33, 61] } _).mono ?_
      rintro _ _ ⟨rfl, rfl⟩
      cases hb : Lib.hasPrefix s.data.toList [33, 61] with
      | true =>
        have HB := Lib.hid hb
        clear hb
        go_wp2_with fail
        go_ret
        exact ⟨by rw [sign_two s [33, 61] (by simp) HB.out]; rfl, rfl⟩
      | false =>
        have HB := Lib.hid hb
        clear hb
        go_wp2_with fail
        exact ⟨⟨3, rfl, trivial, .inr (.inr (.inr (.inl ⟨rfl, Lib.hid (HN.out.next (x := [33, 61]) rfl HB.out)⟩)))⟩, by simp [intOf]⟩
    · have hix : ∀ W : World, (Instr.index 60 (Value.agg #[Value.string { data := #[60, 61] }, Value.string { data := #[61, 61] }, Value.string { data := #[33, 61] }, Value.string { data := #[45, 62] }]) (Value.int IntKind.i64 3)).run Tryz.prog W = .ok (.string { data := #[45, 62] }) W := fun W => by kernel_rfl
      go_wp2_with fail
      refine (Tryz.strings_HasPrefix s { data := #[45, 62] } _).mono ?_
      rintro _ _ ⟨rfl, rfl⟩
      cases hb : Lib.hasPrefix s.data.toList [45, 62] with
      | true =>
        have HB := Lib.hid hb
        clear hb
        go_wp2_with fail
        go_ret
        exact ⟨by rw [sign_two s [45, 62] (by simp) HB.out]; rfl, rfl⟩
      | false =>
        have HB := Lib.hid hb
        clear hb
        go_wp2_with fail
        exact ⟨⟨4, rfl, trivial, .inr (.inr (.inr (.inr ⟨rfl, Lib.hid (HN.out.next (x := [45, 62]) rfl HB.out)⟩)))⟩, by simp [intOf]⟩
    · go_wp2_with fail
      refine (Tryz.strings_IndexByte { data := #[40, 41, 58, 59, 44, 61, 43, 45, 42, 47, 37, 60] } _ _).mono ?_
      rintro _ _ ⟨rfl, rfl⟩
      have h1 := sign_one s h0 HN.out
      by_cases hi : 0 ≤ Lib.indexByte [40, 41, 58, 59, 44, 61, 43, 45, 42, 47, 37, 60] (s[0]'h0)
      · rw [if_pos hi] at h1
        have H1 := Lib.hid h1
        clear h1
        go_wp2_with fail
        go_ret
        exact ⟨by rw [H1.out]; rfl, rfl⟩
      · rw [if_neg hi] at h1
        have H1 := Lib.hid h1
        clear h1
        go_wp2_with fail
        go_ret
        exact ⟨by rw [H1.out]; rfl, rfl⟩
end Go.Proofs.YtgenhcanaoejkaaGreatDoor
