/- Book, lists of one kind: Apart. Printed by bookone.py (ours). -/
import Derived.Test.YtodgeciggbeolaaGreatDoorBkIntL
import Derived.Test.YtodgeciggbeolaaGreatDoorBkIntP
import Derived.Test.YtodgeciggbeolaaGreatDoorBkE
namespace Go.Proofs.YtodgeciggbeolaaGreatDoor.B
set_option linter.unusedVariables false
set_option linter.unusedSimpArgs false
set_option linter.unusedSectionVars false
open Go.RowKit Go.Proofs.YtodgeciggbeolaaGreatDoorW.PrintWords Go.Proofs.YtodgeciggbeolaaGreatDoorW.PrintLast Go.Proofs.YtodgeciggbeolaaGreatDoorW.PrintMore
open Go.Proofs.YtodgeciggbeolaaGreatDoor.S
theorem Bk.nils {w : World} {base kb N : Nat} {bc : Array Value} {tv : Value} {rows : List (Value × Value × Nat)} (h : Bk w base kb 49 75 2 bc N tv rows) (hn : ∀ j, 1 ≤ j → j < 18 → j ≠ 2 → bc[j]? = some (.slice none 0 0)) : w.cell? ⟨kb, 1, none⟩ = some (.slice none 0 0) ∧ w.cell? ⟨kb, 3, none⟩ = some (.slice none 0 0) ∧ w.cell? ⟨kb, 4, none⟩ = some (.slice none 0 0) ∧ w.cell? ⟨kb, 5, none⟩ = some (.slice none 0 0) ∧ w.cell? ⟨kb, 6, none⟩ = some (.slice none 0 0) ∧ w.cell? ⟨kb, 7, none⟩ = some (.slice none 0 0) ∧ w.cell? ⟨kb, 8, none⟩ = some (.slice none 0 0) ∧ w.cell? ⟨kb, 9, none⟩ = some (.slice none 0 0) ∧ w.cell? ⟨kb, 10, none⟩ = some (.slice none 0 0) ∧ w.cell? ⟨kb, 11, none⟩ = some (.slice none 0 0) ∧ w.cell? ⟨kb, 12, none⟩ = some (.slice none 0 0) ∧ w.cell? ⟨kb, 13, none⟩ = some (.slice none 0 0) ∧ w.cell? ⟨kb, 14, none⟩ = some (.slice none 0 0) ∧ w.cell? ⟨kb, 15, none⟩ = some (.slice none 0 0) ∧ w.cell? ⟨kb, 16, none⟩ = some (.slice none 0 0) ∧ w.cell? ⟨kb, 17, none⟩ = some (.slice none 0 0) := by
  refine ⟨?_, ?_, ?_, ?_, ?_, ?_, ?_, ?_, ?_, ?_, ?_, ?_, ?_, ?_, ?_, ?_⟩ <;> exact (h.cell _).trans (hn _ (by omega) (by omega) (by omega))
theorem keep_nils {w w2 : World} {kb : Nat} {B : Nat} (hb : Below B w w2) (hB : w.heap.size ≤ B) (h : w.cell? ⟨kb, 1, none⟩ = some (.slice none 0 0) ∧ w.cell? ⟨kb, 3, none⟩ = some (.slice none 0 0) ∧ w.cell? ⟨kb, 4, none⟩ = some (.slice none 0 0) ∧ w.cell? ⟨kb, 5, none⟩ = some (.slice none 0 0) ∧ w.cell? ⟨kb, 6, none⟩ = some (.slice none 0 0) ∧ w.cell? ⟨kb, 7, none⟩ = some (.slice none 0 0) ∧ w.cell? ⟨kb, 8, none⟩ = some (.slice none 0 0) ∧ w.cell? ⟨kb, 9, none⟩ = some (.slice none 0 0) ∧ w.cell? ⟨kb, 10, none⟩ = some (.slice none 0 0) ∧ w.cell? ⟨kb, 11, none⟩ = some (.slice none 0 0) ∧ w.cell? ⟨kb, 12, none⟩ = some (.slice none 0 0) ∧ w.cell? ⟨kb, 13, none⟩ = some (.slice none 0 0) ∧ w.cell? ⟨kb, 14, none⟩ = some (.slice none 0 0) ∧ w.cell? ⟨kb, 15, none⟩ = some (.slice none 0 0) ∧ w.cell? ⟨kb, 16, none⟩ = some (.slice none 0 0) ∧ w.cell? ⟨kb, 17, none⟩ = some (.slice none 0 0)) : w2.cell? ⟨kb, 1, none⟩ = some (.slice none 0 0) ∧ w2.cell? ⟨kb, 3, none⟩ = some (.slice none 0 0) ∧ w2.cell? ⟨kb, 4, none⟩ = some (.slice none 0 0) ∧ w2.cell? ⟨kb, 5, none⟩ = some (.slice none 0 0) ∧ w2.cell? ⟨kb, 6, none⟩ = some (.slice none 0 0) ∧ w2.cell? ⟨kb, 7, none⟩ = some (.slice none 0 0) ∧ w2.cell? ⟨kb, 8, none⟩ = some (.slice none 0 0) ∧ w2.cell? ⟨kb, 9, none⟩ = some (.slice none 0 0) ∧ w2.cell? ⟨kb, 10, none⟩ = some (.slice none 0 0) ∧ w2.cell? ⟨kb, 11, none⟩ = some (.slice none 0 0) ∧ w2.cell? ⟨kb, 12, none⟩ = some (.slice none 0 0) ∧ w2.cell? ⟨kb, 13, none⟩ = some (.slice none 0 0) ∧ w2.cell? ⟨kb, 14, none⟩ = some (.slice none 0 0) ∧ w2.cell? ⟨kb, 15, none⟩ = some (.slice none 0 0) ∧ w2.cell? ⟨kb, 16, none⟩ = some (.slice none 0 0) ∧ w2.cell? ⟨kb, 17, none⟩ = some (.slice none 0 0) := by
  obtain ⟨h1, h3, h4, h5, h6, h7, h8, h9, h10, h11, h12, h13, h14, h15, h16, h17⟩ := h
  refine ⟨?_, ?_, ?_, ?_, ?_, ?_, ?_, ?_, ?_, ?_, ?_, ?_, ?_, ?_, ?_, ?_⟩ <;> exact keep_cell hb hB (by assumption)
set_option maxHeartbeats 8000000 in
set_option maxRecDepth 100000 in
theorem apart_Int (base kb N : Nat) (bc : Array Value) (A : Option Addr) (ct : Nat) (es : List Lst) (w : World) (h : Bk w base kb 49 75 2 bc N (.slice A es.length ct) (rowsOf es)) (hz : ∀ j, 1 ≤ j → j < 18 → j ≠ 2 → bc[j]? = some (.slice none 0 0)) (hs : Sep kb (.slice A es.length ct) es)
    (hl : ∀ x, x ∈ es → S1 3 1 w base x) (hm : es.length ≤ 300) (hn : ∀ x, x ∈ es → x.2.1 ≤ 1000000) (hb : ∀ x, x ∈ es → x.2.2 ≤ 1000) :
    Calls Tryz.prog 12 #[.pointer (some ⟨kb, 0, none⟩)] w (fun e w' => e = .returned (.bool true) ∧ Below base w w') := by
  obtain ⟨c1, c3, c4, c5, c6, c7, c8, c9, c10, c11, c12, c13, c14, c15, c16, c17⟩ := h.nils hz
  have HB := Lib.hid h; have HS := Lib.hid hs; have HL := Lib.hid hl; have HN := Lib.hid hn; have HNB := Lib.hid hb; have HZ := Lib.hid hz
  clear h hs hl hn hb hz
  go_enter Tryz.func12, Tryz.ntmps12
  go_wp2_with (first | (go_at_call 24; refine (e24 _ kb (by assumption)).mono ?_; rintro _ _ ⟨rfl, rfl⟩) | (go_at_call 26; refine (e26 _ kb (by assumption)).mono ?_; rintro _ _ ⟨rfl, rfl⟩) | (go_at_call 27; refine (e27 _ kb (by assumption)).mono ?_; rintro _ _ ⟨rfl, rfl⟩) | (go_at_call 28; refine (e28 _ kb (by assumption)).mono ?_; rintro _ _ ⟨rfl, rfl⟩) | (go_at_call 29; refine (e29 _ kb (by assumption)).mono ?_; rintro _ _ ⟨rfl, rfl⟩) | (go_at_call 30; refine (e30 _ kb (by assumption)).mono ?_; rintro _ _ ⟨rfl, rfl⟩) | (go_at_call 31; refine (e31 _ kb (by assumption)).mono ?_; rintro _ _ ⟨rfl, rfl⟩) | (go_at_call 32; refine (e32 _ kb (by assumption)).mono ?_; rintro _ _ ⟨rfl, rfl⟩) | (go_at_call 33; refine (e33 _ kb (by assumption)).mono ?_; rintro _ _ ⟨rfl, rfl⟩) | (go_at_call 34; refine (e34 _ kb (by assumption)).mono ?_; rintro _ _ ⟨rfl, rfl⟩) | (go_at_call 35; refine (e35 _ kb (by assumption)).mono ?_; rintro _ _ ⟨rfl, rfl⟩) | (go_at_call 36; refine (e36 _ kb (by assumption)).mono ?_; rintro _ _ ⟨rfl, rfl⟩) | (go_at_call 37; refine (e37 _ kb (by assumption)).mono ?_; rintro _ _ ⟨rfl, rfl⟩) | (go_at_call 38; refine (e38 _ kb (by assumption)).mono ?_; rintro _ _ ⟨rfl, rfl⟩) | (go_at_call 39; refine (e39 _ kb (by assumption)).mono ?_; rintro _ _ ⟨rfl, rfl⟩) | (go_at_call 40; refine (e40 _ kb (by assumption)).mono ?_; rintro _ _ ⟨rfl, rfl⟩) | (go_at_call 41; refine (e41 _ kb (by assumption)).mono ?_; rintro _ _ ⟨rfl, rfl⟩) | (go_at_call 43; refine (e43 _ kb (by assumption)).mono ?_; rintro _ _ ⟨rfl, rfl⟩) | (go_at_call 44; refine (e44 _ kb (by assumption)).mono ?_; rintro _ _ ⟨rfl, rfl⟩) | (go_at_call 45; refine (e45 _ kb (by assumption)).mono ?_; rintro _ _ ⟨rfl, rfl⟩) | (go_at_call 46; refine (e46 _ kb (by assumption)).mono ?_; rintro _ _ ⟨rfl, rfl⟩) | (go_at_call 47; refine (e47 _ kb (by assumption)).mono ?_; rintro _ _ ⟨rfl, rfl⟩) | (go_at_call 48; refine (e48 _ kb (by assumption)).mono ?_; rintro _ _ ⟨rfl, rfl⟩) | (go_at_call 49; refine (e49 _ kb (by assumption)).mono ?_; rintro _ _ ⟨rfl, rfl⟩) | (go_at_call 50; refine (e50 _ kb (by assumption)).mono ?_; rintro _ _ ⟨rfl, rfl⟩) | (go_at_call 51; refine (e51 _ kb (by assumption)).mono ?_; rintro _ _ ⟨rfl, rfl⟩) | (go_at_call 52; refine (e52 _ kb (by assumption)).mono ?_; rintro _ _ ⟨rfl, rfl⟩) | (go_at_call 53; refine (e53 _ kb (by assumption)).mono ?_; rintro _ _ ⟨rfl, rfl⟩) | (go_at_call 54; refine (e54 _ kb (by assumption)).mono ?_; rintro _ _ ⟨rfl, rfl⟩) | (go_at_call 55; refine (e55 _ kb (by assumption)).mono ?_; rintro _ _ ⟨rfl, rfl⟩) | (go_at_call 56; refine (e56 _ kb (by assumption)).mono ?_; rintro _ _ ⟨rfl, rfl⟩) | (go_at_call 57; refine (e57 _ kb (by assumption)).mono ?_; rintro _ _ ⟨rfl, rfl⟩) | (go_at_call 58; refine (e58 _ kb (by assumption)).mono ?_; rintro _ _ ⟨rfl, rfl⟩) | (go_at_call 60; refine (e60 _ kb (by assumption)).mono ?_; rintro _ _ ⟨rfl, rfl⟩) | (go_at_call 61; refine (e61 _ kb (by assumption)).mono ?_; rintro _ _ ⟨rfl, rfl⟩) | (go_at_call 62; refine (e62 _ kb (by assumption)).mono ?_; rintro _ _ ⟨rfl, rfl⟩) | (go_at_call 63; refine (e63 _ kb (by assumption)).mono ?_; rintro _ _ ⟨rfl, rfl⟩) | (go_at_call 64; refine (e64 _ kb (by assumption)).mono ?_; rintro _ _ ⟨rfl, rfl⟩) | (go_at_call 65; refine (e65 _ kb (by assumption)).mono ?_; rintro _ _ ⟨rfl, rfl⟩) | (go_at_call 66; refine (e66 _ kb (by assumption)).mono ?_; rintro _ _ ⟨rfl, rfl⟩) | (go_at_call 67; refine (e67 _ kb (by assumption)).mono ?_; rintro _ _ ⟨rfl, rfl⟩) | (go_at_call 68; refine (e68 _ kb (by assumption)).mono ?_; rintro _ _ ⟨rfl, rfl⟩) | (go_at_call 69; refine (e69 _ kb (by assumption)).mono ?_; rintro _ _ ⟨rfl, rfl⟩) | (go_at_call 70; refine (e70 _ kb (by assumption)).mono ?_; rintro _ _ ⟨rfl, rfl⟩) | (go_at_call 71; refine (e71 _ kb (by assumption)).mono ?_; rintro _ _ ⟨rfl, rfl⟩) | (go_at_call 72; refine (e72 _ kb (by assumption)).mono ?_; rintro _ _ ⟨rfl, rfl⟩) | (go_at_call 73; refine (e73 _ kb (by assumption)).mono ?_; rintro _ _ ⟨rfl, rfl⟩) | (go_at_call 74; refine (e74 _ kb (by assumption)).mono ?_; rintro _ _ ⟨rfl, rfl⟩) | (go_at_call 25; refine (fill_Int base kb N bc A ct es _ HB.out HS.out HL.out hm HN.out HNB.out).mono ?_; rintro _ w1 ⟨rfl, HI⟩; have HI := Lib.hid HI; clear c1 c3 c4 c5 c6 c7 c8 c9 c10 c11 c12 c13 c14 c15 c16 c17; obtain ⟨c1, c3, c4, c5, c6, c7, c8, c9, c10, c11, c12, c13, c14, c15, c16, c17⟩ := HI.out.bk.nils HZ.out) | (go_at_call 42; refine (grow_Int base kb N bc A ct es _ ⟨Below.refl _ _, fun _ _ _ _ => rfl, HI.out.bk, HI.out.done, HI.out.left⟩ HS.out hm HN.out HNB.out).mono ?_; rintro _ w2 ⟨rfl, lg, HG⟩; have HG := Lib.hid HG; clear c1 c3 c4 c5 c6 c7 c8 c9 c10 c11 c12 c13 c14 c15 c16 c17; obtain ⟨rows2, hbk2, hrest2⟩ := HG.out.bk; have hkb2 := hbk2.hkb; have hsz2 := (Array.getElem?_eq_some_iff.1 hbk2.book).1; clear hrest2; obtain ⟨c1, c3, c4, c5, c6, c7, c8, c9, c10, c11, c12, c13, c14, c15, c16, c17⟩ := hbk2.nils HZ.out; clear hbk2) | (go_at_call 59; refine (look_Int base kb N bc A ct es lg _ _ HG.out hm HN.out HNB.out).mono ?_; rintro _ w3 ⟨rfl, hb3⟩; have HT := Lib.hid hb3; obtain ⟨f1, f3, f4, f5, f6, f7, f8, f9, f10, f11, f12, f13, f14, f15, f16, f17⟩ := keep_nils hb3 (Nat.le_refl _) ⟨c1, c3, c4, c5, c6, c7, c8, c9, c10, c11, c12, c13, c14, c15, c16, c17⟩; clear hb3))
  all_goals (go_ret; exact ⟨rfl, HI.out.bel.trans (HG.out.bel.trans (HT.out.mono (by omega)))⟩)
theorem Kp.apart {w wr : World} {base kb : Nat} {xs : List (Value × Nat)} (h : Kp w wr base kb xs) (hkb : kb < w.heap.size) (hl : ∀ x, x ∈ xs → ∃ ys, w.ownsRow base 3 1 x.1 x.2 ys) (hne : ∀ x, x ∈ xs → x.1.ownBlock ≠ some kb)
    (hsep : ∀ (i j : Nat) (x y : Value × Nat), xs[i]? = some x → xs[j]? = some y → i ≠ j → ∀ k, x.1.ownBlock = some k → y.1.ownBlock ≠ some k) (hm : xs.length ≤ 300) (hlim : xs.length ≤ 1000) (hn : ∀ x, x ∈ xs → x.2 ≤ 1000000) :
    Calls Tryz.prog 12 #[.pointer (some ⟨kb, 0, none⟩)] wr (fun e w' => e = .returned (.bool true) ∧ Below base wr w') := by
  obtain ⟨bc, tv, hbk, htv, hnil⟩ := h.bk
  obtain ⟨A, ct, hv⟩ := own_slice hbk.tok
  have hlen : (rowsOf (numb 0 xs)).length = (numb 0 xs).length := rowsOf_len _
  rw [hlen] at hv
  subst hv
  have hmem : ∀ y, y ∈ numb 0 xs → ∃ i x, xs[i]? = some x ∧ y = (x.1, x.2, i + 1) := by
    intro y hy
    obtain ⟨i, hi⟩ := List.mem_iff_getElem?.1 hy
    obtain ⟨x, h1, h2⟩ := numb_get xs 0 i y hi
    exact ⟨i, x, h1, by rw [h2]; congr 2; omega⟩
  have hlt : ∀ x, x ∈ xs → ∀ q, x.1.ownBlock = some q → q < w.heap.size := by
    intro x hx q hq
    obtain ⟨ys, ho⟩ := hl x hx
    exact own_lt ho q hq
  refine apart_Int base kb _ bc A ct (numb 0 xs) wr hbk hnil ⟨?_, ?_, ?_⟩ ?_ (by rw [numb_len]; exact hm) ?_ ?_
  · intro y hy
    obtain ⟨i, x, h1, rfl⟩ := hmem y hy
    exact hne x (List.mem_of_getElem? h1)
  · intro y hy q hq e
    obtain ⟨i, x, h1, rfl⟩ := hmem y hy
    have := htv q e
    have := hlt x (List.mem_of_getElem? h1) q hq
    omega
  · intro i j y z hy hz hij q hq
    obtain ⟨x1, h1, rfl⟩ := numb_get xs 0 i y hy
    obtain ⟨x2, h2, rfl⟩ := numb_get xs 0 j z hz
    exact hsep i j x1 x2 h1 h2 hij q hq
  · intro y hy
    obtain ⟨i, x, h1, rfl⟩ := hmem y hy
    obtain ⟨ys, ho⟩ := hl x (List.mem_of_getElem? h1)
    exact ⟨ys, own_kept ho (fun q hq => h.fr q (own_lt ho q hq) (fun e => hne x (List.mem_of_getElem? h1) (by rw [hq, e])))⟩
  · intro y hy
    obtain ⟨i, x, h1, rfl⟩ := hmem y hy
    exact hn x (List.mem_of_getElem? h1)
  · intro y hy
    obtain ⟨i, x, h1, rfl⟩ := hmem y hy
    have := (List.getElem?_eq_some_iff.1 h1).1
    show i + 1 ≤ 1000
    omega
end Go.Proofs.YtodgeciggbeolaaGreatDoor.B
