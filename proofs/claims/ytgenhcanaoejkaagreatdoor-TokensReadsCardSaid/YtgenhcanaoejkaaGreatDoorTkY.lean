/- tokens.silent: walk. -/
import Derived.Test.YtgenhcanaoejkaaGreatDoorTkX
import Derived.Test.YtgenhcanaoejkaaGreatDoorTokQ
import Derived.Shelf.Strings.SlTrimAscii
namespace Go.Proofs.YtgenhcanaoejkaaGreatDoor
set_option linter.unusedVariables false
set_option linter.unusedSimpArgs false
set_option linter.unusedSectionVars false
open Go.RowKit
open Go.Proofs.YtgenhcanaoejkaaGreatDoorW.PrintWords
theorem toI_blank (b : UInt8) : Tok.blank (toI b) = [32, 9, 10, 13].contains b := by
  have h : ∀ c : UInt8, (toI b == toI c) = (b == c) := fun c => toI_eq b c
  have h1 := h 32; have h2 := h 9; have h3 := h 10; have h4 := h 13
  simp only [Tok.blank, List.contains_cons, List.contains_nil, Bool.or_false, ← h1, ← h2, ← h3, ← h4, Bool.or_assoc]
  rfl
theorem drop_map (p : UInt8 → Bool) (q : Int → Bool) (h : ∀ b, q (toI b) = p b) : ∀ l : List UInt8, (l.dropWhile p).map toI = (l.map toI).drop (Tok.tw q (l.map toI))
  | [] => rfl
  | b :: l => by
    rw [List.dropWhile_cons, List.map_cons]
    cases hb : p b with
    | true => rw [Tok.tw_yes _ (by rw [h, hb]), List.drop_succ_cons, if_pos rfl]; exact drop_map p q h l
    | false => rw [Tok.tw_no _ (by rw [h, hb]), List.drop_zero, if_neg (by simp)]; rfl
theorem index_ten : ∀ l : List UInt8, Lib.indexByte l 10 = if Tok.tw (fun c => c != 10) (l.map toI) = l.length then -1 else (Tok.tw (fun c => c != 10) (l.map toI) : Int)
  | [] => rfl
  | b :: l => by
    have ih := index_ten l
    have hle : Tok.tw (fun c => c != 10) (l.map toI) ≤ l.length := by have := Tok.tw_le (fun c => c != 10) (l.map toI); rwa [List.length_map] at this
    simp only [Lib.indexByte, List.map_cons]
    have e : (toI b == 10) = (b == 10) := toI_eq b 10
    by_cases hb : (b == 10) = true
    · rw [if_pos hb, Tok.tw_no _ (by rw [bne, e, hb]; rfl), if_neg (by simp)]; rfl
    · rw [if_neg hb, Tok.tw_yes _ (by rw [bne, e]; simp [hb]), List.length_cons, ih]
      by_cases hx : Tok.tw (fun c => c != 10) (l.map toI) = l.length
      · rw [if_pos hx, if_pos (show Tok.tw (fun c => c != 10) (List.map toI l) + 1 = l.length + 1 by omega)]; rfl
      · have hn : ¬ (((Tok.tw (fun c => c != 10) (List.map toI l) : Nat) : Int) == -1) = true := by rw [beq_iff_eq]; omega
        rw [if_neg hx, if_neg hn, if_neg (by omega)]; omega
def RestIs (s rest : ByteArray) : Prop := bytesOf rest = (bytesOf s).drop (Tok.tw Tok.blank (bytesOf s)) ∧ rest.size = s.size - Tok.tw Tok.blank (bytesOf s) ∧ Tok.tw Tok.blank (bytesOf s) ≤ s.size
theorem rest_is (s : ByteArray) : RestIs s ⟨(Lib.trimLeftS s.data.toList [32, 9, 10, 13]).toArray⟩ := by
  have e : bytesOf ⟨(Lib.trimLeftS s.data.toList [32, 9, 10, 13]).toArray⟩ = (bytesOf s).drop (Tok.tw Tok.blank (bytesOf s)) := drop_map _ _ toI_blank s.data.toList
  refine ⟨e, ?_, ?_⟩
  · rw [← bytesOf_length, e, List.length_drop, bytesOf_length]
  · rw [← bytesOf_length]; exact Tok.tw_le _ _
theorem dash_prefix (s : ByteArray) : Lib.hasPrefix s.data.toList [45, 45] = Tok.dash (bytesOf s) := (prefix_map [45, 45] s.data.toList).symm
def SilentPost (s : ByteArray) (w : World) (e : Ending) (w' : World) : Prop := e = .returned (.int .i64 (Tok.silentLen (bytesOf s) : Nat)) ∧ Below w.heap.size w w'
set_option maxHeartbeats 4000000 in
set_option maxRecDepth 100000 in
theorem silent_walk (s : ByteArray) (w : World) (hs : s.size ≤ 9223372036854775806) : Calls Tryz.prog 12 #[.string s] w (SilentPost s w) := by
  go_enter Tryz.func12, Tryz.ntmps12
  go_wp2_with fail
  refine (Any.strings_TrimLeft_laid Tryz.lays161 (by kernel_rfl) s ⟨#[32, 9, 10, 13]⟩ _ (by decide) (ascii_of_all (by decide))).mono ?_
  rintro _ w1 ⟨rfl, hb⟩
  have HB := Lib.hid hb
  clear hb
  have hr := rest_is s
  generalize (⟨(Lib.trimLeftS s.data.toList (ByteArray.mk #[32, 9, 10, 13]).data.toList).toArray⟩ : ByteArray) = rest at *
  go_wp2_with fail
  refine (Tryz.strings_HasPrefix rest { data := #[45, 45] } _).mono ?_
  rintro _ _ ⟨rfl, rfl⟩
  obtain ⟨hr1, hr2, hr3⟩ := hr
  have hsl := Tok.silent_eq (bytesOf s)
  rw [← hr1, ← dash_prefix] at hsl
  have hlt : Tok.tw (fun c => c != 10) (bytesOf rest) ≤ rest.size := by rw [← bytesOf_length]; exact Tok.tw_le _ _
  cases hd : Lib.hasPrefix rest.data.toList [45, 45] with
  | true =>
    rw [hd, if_pos rfl] at hsl
    have HS := Lib.hid hsl
    have HD := Lib.hid hd
    clear hd hsl
    have hi := index_ten rest.data.toList
    rw [← bytes_map, show rest.data.toList.length = rest.size by rfl] at hi
    generalize hn : Tok.tw (fun c => c != 10) (bytesOf rest) = n at *
    generalize hk : Tok.tw Tok.blank (bytesOf s) = k at *
    have HR := Lib.hid hr1
    clear hr1
    go_wp2_with fail
    refine (Tryz.strings_IndexByte rest _ _).mono ?_
    rintro _ _ ⟨rfl, rfl⟩
    by_cases hx : n = rest.size
    · rw [if_pos hx] at hi
      have HI := Lib.hid hi
      clear hi
      rw [show (Int.toNat 10).toUInt8 = 10 from rfl, HI.out]
      go_wp2_with fail
      go_ret
      refine ⟨?_, HB.out⟩
      rw [HS.out]
      show Ending.returned (Value.int .i64 _) = _
      congr 2
      omega
    · rw [if_neg hx] at hi
      have HI := Lib.hid hi
      clear hi
      rw [show (Int.toNat 10).toUInt8 = 10 from rfl, HI.out]
      go_wp2_with fail
      go_ret
      refine ⟨?_, HB.out⟩
      rw [HS.out]
      show Ending.returned (Value.int .i64 _) = _
      congr 2
      omega
  | false =>
    rw [hd, if_neg (by simp)] at hsl
    have HS := Lib.hid hsl
    have HD := Lib.hid hd
    clear hd hsl hr1
    generalize hk : Tok.tw Tok.blank (bytesOf s) = k at *
    go_wp2_with fail
    go_ret
    refine ⟨?_, HB.out⟩
    rw [HS.out]
    go_num
end Go.Proofs.YtgenhcanaoejkaaGreatDoor
