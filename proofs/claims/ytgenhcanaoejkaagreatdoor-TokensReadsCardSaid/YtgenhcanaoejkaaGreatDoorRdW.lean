/- tokens.Read: walk. Printed by wip/tokens/rdw.py. -/
import Derived.Test.YtgenhcanaoejkaaGreatDoorRdV
import Derived.Test.YtgenhcanaoejkaaGreatDoorTkW
import Derived.WalkSmall
import Derived.OwnWalk
import Derived.WalkMore
import Derived.Deep.RegionHeld3
import Derived.Laws.EntriesVeiled
namespace Go.Proofs.YtgenhcanaoejkaaGreatDoor.S
set_option linter.unusedVariables false
set_option linter.unusedSimpArgs false
set_option linter.unusedSectionVars false
open Go.RowKit Go.Proofs.YtgenhcanaoejkaaGreatDoorW.PrintWords Go.Proofs.YtgenhcanaoejkaaGreatDoorW.PrintLast Go.Proofs.YtgenhcanaoejkaaGreatDoorW.PrintMore
set_option maxHeartbeats 8000000 in
set_option maxRecDepth 100000 in
theorem read_walk (s : ByteArray) (w : World) (hs : s.size ≤ 65536) : Calls Tryz.prog 4 #[.string s] w (ReadPost s w) := by
  have hd1 : decide (65536 < (s.size : Int)) = false := decide_eq_false (by omega)
  have hd2 : decide (65536 < s.size) = false := decide_eq_false (by omega)
  go_enter Tryz.func4, Tryz.ntmps4
  go_wp2_with fail
  apply wp_scope_straight
  go_wp2_with fail
  apply wp_label
  go_wp2_with fail
  go_loopw [2, 3] (fun v2 v3 wr => ∃ (ts : List Tok.T) (p : Nat) (A : Option Addr) (c : Nat), v2 = .slice A ts.length c ∧ v3 = .int .i64 p ∧ Hid (ReadInv s w wr (.slice A ts.length c) ts p)) (fun _ v3 _ => s.size - (intOf v3).toNat)
  case atStart =>
    refine ⟨[], 0, none, 0, rfl, rfl, Lib.hid ⟨Nat.zero_le _, Nat.zero_le _, Kd.R_nil _ _ _ _ _, ?_, ?_⟩⟩
    · exact Below.refl _ _
    · rw [List.drop_zero]; rcases Tok.R (bytesOf s) 0 with ⟨_ | us, q⟩ <;> rfl
  case round =>
    obtain ⟨ts, p, A, c, rfl, rfl, HI⟩ := hrel
    by_cases hlt : p < s.size
    · have hde := Lib.hid (drop_extract s p)
      have hsz := extract_size s p
      go_wp2_with fail
      refine (silent_walk (s.extract p s.size) _ (by omega)).mono ?_
      rintro _ w1 ⟨rfl, hb1⟩
      have HI1 := Lib.hid (HI.out.step hb1)
      clear HI hb1
      have hsl := Tok.silentLen_le (bytesOf (s.extract p s.size))
      rw [bytesOf_length, hsz] at hsl
      obtain ⟨n, hn⟩ : ∃ n, n = Tok.silentLen (bytesOf (s.extract p s.size)) := ⟨_, rfl⟩
      rw [← hn] at hsl ⊢
      have HN := Lib.hid hn
      clear hn
      by_cases h0 : 0 < n
      · have HI2 := Lib.hid (HI1.out.skip (n := n) (by rw [HN.out, hde.out]) h0)
        clear HI1
        go_wp2_with fail
        exact ⟨⟨ts, p + n, A, c, rfl, by go_num, HI2⟩, by simp [intOf]; omega⟩
      · obtain rfl : n = 0 := by omega
        have c0 := HI1.out.cell 0
        have c1 := HI1.out.cell 1
        have c2 := HI1.out.cell 2
        have c3 := HI1.out.cell 3
        have c4 := HI1.out.cell 4
        have c5 := HI1.out.cell 5
        dsimp at c0 c1 c2 c3 c4 c5
        go_wp2_with fail
        clear c0 c1 c2 c3 c4 c5
        go_loopw [2, 3, 31] (fun v2 v3 v31 wr2 => ∃ (J : Int), v2 = .slice A ts.length c ∧ v3 = .int .i64 p ∧ v31 = .int .i64 J ∧ Hid (ReadInv s w wr2 (.slice A ts.length c) ts p) ∧ ((J = 0 ∧ True) ∨ (J = 1 ∧ Hid (Tok.wordLen (bytesOf (s.extract p s.size)) = 0)) ∨ (J = 2 ∧ Hid (Tok.wordLen (bytesOf (s.extract p s.size)) = 0 ∧ Tok.numLen (bytesOf (s.extract p s.size)) = 0)) ∨ (J = 3 ∧ Hid (Tok.wordLen (bytesOf (s.extract p s.size)) = 0 ∧ Tok.numLen (bytesOf (s.extract p s.size)) = 0 ∧ Tok.signLen (bytesOf (s.extract p s.size)) = 0)))) (fun _ _ v31 _ => 3 - (intOf v31).toNat)
        case atStart => exact ⟨0, rfl, rfl, rfl, HI1, .inl ⟨rfl, trivial⟩⟩
        case round =>
          clear HI1
          obtain ⟨J, rfl, rfl, rfl, HI, ⟨rfl, HZ⟩ | ⟨rfl, HZ⟩ | ⟨rfl, HZ⟩ | ⟨rfl, HZ⟩⟩ := hrel
          · have hix : ∀ W : World, (Instr.index 52 (Value.agg #[Value.int IntKind.u8 1, Value.func (Fn.func 9) #[] #[], Value.int IntKind.u8 2, Value.func (Fn.func 10) #[] #[], Value.int IntKind.u8 3, Value.func (Fn.func 11) #[] #[]]) (Value.int IntKind.i64 0)).run Tryz.prog W = .ok (.agg #[Value.int IntKind.u8 1, Value.func (Fn.func 9) #[] #[]]) W := fun W => by kernel_rfl
            go_wp2_with fail
            have hp1 : (0 : Int) ≤ (p : Int) := by omega
            have hp2 : (p : Int) ≤ (s.size : Int) := by omega
            go_region_held3 (fun w' => w'.cell? ⟨wr.heap.size, 1, none⟩ = some (.func (.func 9) #[] #[])) (first | assumption | go_keep) (first | (go_at_call 9; refine (ofWord_walk (s.extract p s.size) _ (by omega)).mono ?_; rintro e w2 ⟨rfl, hb2⟩; obtain ⟨hk, hb3⟩ := box_kept hb2; have hk0 := cell_block hk 0; have hk1 := cell_block hk 1; dsimp at hk0 hk1))
            clear hb2 hix
            rw [pre_word]
            have hml := Tok.wordLen_le (bytesOf (s.extract p s.size))
            rw [bytesOf_length, hsz] at hml
            obtain ⟨m, hm⟩ : ∃ m, m = Tok.wordLen (bytesOf (s.extract p s.size)) := ⟨_, rfl⟩
            rw [← hm] at hml ⊢
            have HM := Lib.hid hm
            clear hm
            have HI2 := Lib.hid (HI.out.step hb3)
            have hne : some wr.heap.size ≠ (Value.slice A ts.length c).ownBlock := fun e => absurd (Kd.R_lt HI.out.row _ e.symm) (by omega)
            have hB2 : w.heap.size + 1 ≤ w2.heap.size := by have := HI2.out.bel.size; simpa using this
            clear HI hb3
            by_cases hm0 : 0 < m
            · have hh : Tok.head ((bytesOf s).drop p) = (1, m) := by rw [← hde.out]; unfold Tok.head; rw [← HM.out, if_pos hm0]
              have hss : Tok.silentLen ((bytesOf s).drop p) = 0 := by rw [← hde.out]; exact HN.out.symm
              have HH := Lib.hid hh
              have HSS := Lib.hid hss
              clear hh hss
              have htl := HI2.out.hn
              go_wp2_with fail
              have hrd : Kd.R k54 54 w2.drew (w.heap.size + 1) (fun _ => True) (.slice A ts.length c) (ts.map toS) := Kd.R_drew HI2.out.row
              have hbd := HI2.out.bel.drew
              have hsf := slice_fact s p m (by omega) hs
              go_region_held3 (fun w' => w'.cell? ⟨wr.heap.size, 0, none⟩ = some (.int .u8 1)) (first | trivial | assumption | go_keep) (first | (refine Kd.R_append_step k54 (w0 := w.alloc (.cells #[.int .u8 1, .func (.func 9) #[] #[], .int .u8 2, .func (.func 10) #[] #[], .int .u8 3, .func (.func 11) #[] #[]] 52)) (W := w2.drew) (w.heap.size + 1) rfl (.tmp 42) (.tmp 53) 22 54 (.agg #[.int .u8 0, .string ⟨#[]⟩, .int .i64 0]) 32 rfl Tryz.underlying22 info54 rfl (by decide) (by omega) (.slice A ts.length c) (ts.map toS) (⟨1, s.extract p (p + m), p⟩ : S54) [.int .u8 1, .string (s.extract p (p + m)), .int .i64 p] (fun _ => True) (fun _ => False) rfl rfl (k54_mkM _ _ _ (⟨1, s.extract p (p + m), p⟩ : S54)) (fun _ h => h.elim) (fun _ _ => trivial) hrd hbd (by simpa using hB2) (by rw [List.length_map]; omega) ?_; intro v1 w3 hrow hbel hg hat; have hk9 := hg.cell (a := ⟨wr.heap.size, 0, none⟩) (by simpa using hk0) hne; clear hg hat))
              have HI3 := Lib.hid (HI2.out.take HSS.out HH.out hm0 hrow hbel)
              clear hrow hbel hrd hbd HI2
              obtain ⟨A3, c3, hv3⟩ := Kd.R_slice HI3.out.row
              rw [List.length_map] at hv3
              subst hv3
              go_wp2_with fail
              exact ⟨⟨ts ++ [⟨1, ((bytesOf s).drop p).take m, p⟩], p + m, A3, c3, rfl, by go_num, HI3⟩, by simp [intOf]; omega⟩
            · obtain rfl : m = 0 := by omega
              go_wp2_with fail
              exact ⟨⟨1, rfl, rfl, rfl, HI2, .inr (.inl ⟨rfl, Lib.hid HM.out.symm⟩)⟩, by simp [intOf]⟩
          · have hix : ∀ W : World, (Instr.index 52 (Value.agg #[Value.int IntKind.u8 1, Value.func (Fn.func 9) #[] #[], Value.int IntKind.u8 2, Value.func (Fn.func 10) #[] #[], Value.int IntKind.u8 3, Value.func (Fn.func 11) #[] #[]]) (Value.int IntKind.i64 1)).run Tryz.prog W = .ok (.agg #[Value.int IntKind.u8 2, Value.func (Fn.func 10) #[] #[]]) W := fun W => by kernel_rfl
            go_wp2_with fail
            have hp1 : (0 : Int) ≤ (p : Int) := by omega
            have hp2 : (p : Int) ≤ (s.size : Int) := by omega
            go_region_held3 (fun w' => w'.cell? ⟨wr.heap.size, 1, none⟩ = some (.func (.func 10) #[] #[])) (first | assumption | go_keep) (first | (go_at_call 10; refine (ofNumber_walk (s.extract p s.size) _ (by omega)).mono ?_; rintro e w2 ⟨rfl, hb2⟩; obtain ⟨hk, hb3⟩ := box_kept hb2; have hk0 := cell_block hk 0; have hk1 := cell_block hk 1; dsimp at hk0 hk1))
            clear hb2 hix
            skip
            have hml := Tok.numLen_le (bytesOf (s.extract p s.size))
            rw [bytesOf_length, hsz] at hml
            obtain ⟨m, hm⟩ : ∃ m, m = Tok.numLen (bytesOf (s.extract p s.size)) := ⟨_, rfl⟩
            rw [← hm] at hml ⊢
            have HM := Lib.hid hm
            clear hm
            have HI2 := Lib.hid (HI.out.step hb3)
            have hne : some wr.heap.size ≠ (Value.slice A ts.length c).ownBlock := fun e => absurd (Kd.R_lt HI.out.row _ e.symm) (by omega)
            have hB2 : w.heap.size + 1 ≤ w2.heap.size := by have := HI2.out.bel.size; simpa using this
            clear HI hb3
            by_cases hm0 : 0 < m
            · have hh : Tok.head ((bytesOf s).drop p) = (2, m) := by rw [← hde.out]; unfold Tok.head; rw [← HM.out, HZ.out, if_neg (Nat.lt_irrefl 0), if_pos hm0]
              have hss : Tok.silentLen ((bytesOf s).drop p) = 0 := by rw [← hde.out]; exact HN.out.symm
              have HH := Lib.hid hh
              have HSS := Lib.hid hss
              clear hh hss
              have htl := HI2.out.hn
              go_wp2_with fail
              have hrd : Kd.R k54 54 w2.drew (w.heap.size + 1) (fun _ => True) (.slice A ts.length c) (ts.map toS) := Kd.R_drew HI2.out.row
              have hbd := HI2.out.bel.drew
              have hsf := slice_fact s p m (by omega) hs
              go_region_held3 (fun w' => w'.cell? ⟨wr.heap.size, 0, none⟩ = some (.int .u8 2)) (first | trivial | assumption | go_keep) (first | (refine Kd.R_append_step k54 (w0 := w.alloc (.cells #[.int .u8 1, .func (.func 9) #[] #[], .int .u8 2, .func (.func 10) #[] #[], .int .u8 3, .func (.func 11) #[] #[]] 52)) (W := w2.drew) (w.heap.size + 1) rfl (.tmp 42) (.tmp 53) 22 54 (.agg #[.int .u8 0, .string ⟨#[]⟩, .int .i64 0]) 32 rfl Tryz.underlying22 info54 rfl (by decide) (by omega) (.slice A ts.length c) (ts.map toS) (⟨2, s.extract p (p + m), p⟩ : S54) [.int .u8 2, .string (s.extract p (p + m)), .int .i64 p] (fun _ => True) (fun _ => False) rfl rfl (k54_mkM _ _ _ (⟨2, s.extract p (p + m), p⟩ : S54)) (fun _ h => h.elim) (fun _ _ => trivial) hrd hbd (by simpa using hB2) (by rw [List.length_map]; omega) ?_; intro v1 w3 hrow hbel hg hat; have hk9 := hg.cell (a := ⟨wr.heap.size, 0, none⟩) (by simpa using hk0) hne; clear hg hat))
              have HI3 := Lib.hid (HI2.out.take HSS.out HH.out hm0 hrow hbel)
              clear hrow hbel hrd hbd HI2
              obtain ⟨A3, c3, hv3⟩ := Kd.R_slice HI3.out.row
              rw [List.length_map] at hv3
              subst hv3
              go_wp2_with fail
              exact ⟨⟨ts ++ [⟨2, ((bytesOf s).drop p).take m, p⟩], p + m, A3, c3, rfl, by go_num, HI3⟩, by simp [intOf]; omega⟩
            · obtain rfl : m = 0 := by omega
              go_wp2_with fail
              exact ⟨⟨2, rfl, rfl, rfl, HI2, .inr (.inr (.inl ⟨rfl, Lib.hid ⟨HZ.out, HM.out.symm⟩⟩))⟩, by simp [intOf]⟩
          · have hix : ∀ W : World, (Instr.index 52 (Value.agg #[Value.int IntKind.u8 1, Value.func (Fn.func 9) #[] #[], Value.int IntKind.u8 2, Value.func (Fn.func 10) #[] #[], Value.int IntKind.u8 3, Value.func (Fn.func 11) #[] #[]]) (Value.int IntKind.i64 2)).run Tryz.prog W = .ok (.agg #[Value.int IntKind.u8 3, Value.func (Fn.func 11) #[] #[]]) W := fun W => by kernel_rfl
            go_wp2_with fail
            have hp1 : (0 : Int) ≤ (p : Int) := by omega
            have hp2 : (p : Int) ≤ (s.size : Int) := by omega
            go_region_held3 (fun w' => w'.cell? ⟨wr.heap.size, 1, none⟩ = some (.func (.func 11) #[] #[])) (first | assumption | go_keep) (first | (go_at_call 11; refine (ofSigns_walk (s.extract p s.size) _ (by omega)).mono ?_; rintro e w2 ⟨rfl, hw2⟩; have hb2 := below_of_eq hw2; clear hw2; obtain ⟨hk, hb3⟩ := box_kept hb2; have hk0 := cell_block hk 0; have hk1 := cell_block hk 1; dsimp at hk0 hk1))
            clear hb2 hix
            skip
            have hml := Tok.signLen_le (bytesOf (s.extract p s.size))
            rw [bytesOf_length, hsz] at hml
            obtain ⟨m, hm⟩ : ∃ m, m = Tok.signLen (bytesOf (s.extract p s.size)) := ⟨_, rfl⟩
            rw [← hm] at hml ⊢
            have HM := Lib.hid hm
            clear hm
            have HI2 := Lib.hid (HI.out.step hb3)
            have hne : some wr.heap.size ≠ (Value.slice A ts.length c).ownBlock := fun e => absurd (Kd.R_lt HI.out.row _ e.symm) (by omega)
            have hB2 : w.heap.size + 1 ≤ w2.heap.size := by have := HI2.out.bel.size; simpa using this
            clear HI hb3
            by_cases hm0 : 0 < m
            · have hh : Tok.head ((bytesOf s).drop p) = (3, m) := by rw [← hde.out]; unfold Tok.head; rw [← HM.out, HZ.out.1, HZ.out.2, if_neg (Nat.lt_irrefl 0), if_neg (Nat.lt_irrefl 0)]
              have hss : Tok.silentLen ((bytesOf s).drop p) = 0 := by rw [← hde.out]; exact HN.out.symm
              have HH := Lib.hid hh
              have HSS := Lib.hid hss
              clear hh hss
              have htl := HI2.out.hn
              go_wp2_with fail
              have hrd : Kd.R k54 54 w2.drew (w.heap.size + 1) (fun _ => True) (.slice A ts.length c) (ts.map toS) := Kd.R_drew HI2.out.row
              have hbd := HI2.out.bel.drew
              have hsf := slice_fact s p m (by omega) hs
              go_region_held3 (fun w' => w'.cell? ⟨wr.heap.size, 0, none⟩ = some (.int .u8 3)) (first | trivial | assumption | go_keep) (first | (refine Kd.R_append_step k54 (w0 := w.alloc (.cells #[.int .u8 1, .func (.func 9) #[] #[], .int .u8 2, .func (.func 10) #[] #[], .int .u8 3, .func (.func 11) #[] #[]] 52)) (W := w2.drew) (w.heap.size + 1) rfl (.tmp 42) (.tmp 53) 22 54 (.agg #[.int .u8 0, .string ⟨#[]⟩, .int .i64 0]) 32 rfl Tryz.underlying22 info54 rfl (by decide) (by omega) (.slice A ts.length c) (ts.map toS) (⟨3, s.extract p (p + m), p⟩ : S54) [.int .u8 3, .string (s.extract p (p + m)), .int .i64 p] (fun _ => True) (fun _ => False) rfl rfl (k54_mkM _ _ _ (⟨3, s.extract p (p + m), p⟩ : S54)) (fun _ h => h.elim) (fun _ _ => trivial) hrd hbd (by simpa using hB2) (by rw [List.length_map]; omega) ?_; intro v1 w3 hrow hbel hg hat; have hk9 := hg.cell (a := ⟨wr.heap.size, 0, none⟩) (by simpa using hk0) hne; clear hg hat))
              have HI3 := Lib.hid (HI2.out.take HSS.out HH.out hm0 hrow hbel)
              clear hrow hbel hrd hbd HI2
              obtain ⟨A3, c3, hv3⟩ := Kd.R_slice HI3.out.row
              rw [List.length_map] at hv3
              subst hv3
              go_wp2_with fail
              exact ⟨⟨ts ++ [⟨3, ((bytesOf s).drop p).take m, p⟩], p + m, A3, c3, rfl, by go_num, HI3⟩, by simp [intOf]; omega⟩
            · obtain rfl : m = 0 := by omega
              go_wp2_with fail
              exact ⟨⟨3, rfl, rfl, rfl, HI2, .inr (.inr (.inr ⟨rfl, Lib.hid ⟨HZ.out.1, HZ.out.2, HM.out.symm⟩⟩))⟩, by simp [intOf]⟩
          · have hnn := HI.out.none hlt (by rw [← hde.out]; exact HN.out.symm) (by rw [← hde.out]; unfold Tok.head; rw [HZ.out.1, HZ.out.2.1, HZ.out.2.2]; rfl)
            have HNN := Lib.hid hnn
            clear hnn
            go_wp2_with fail
            go_ret3
            refine ⟨.slice none 0 0, by rw [HNN.out]; rfl, by rw [HNN.out]; exact Kd.R_nil _ _ _ _ _, HI.out.kept⟩
    · have hnn := HI.out.done hlt
      have HNN := Lib.hid hnn
      clear hnn
      go_wp2_with fail
      go_ret3
      refine ⟨.slice A ts.length c, by rw [HNN.out]; rfl, by rw [HNN.out]; exact Kd.R_lower HI.out.row (Nat.le_succ _), HI.out.kept⟩
end Go.Proofs.YtgenhcanaoejkaaGreatDoor.S
