/- The reader of tokens: rank, prefix, atoms. Joined by wip/merge.py (ours) from several texts of this seat. -/
import Derived.Test.YtbdciibbgiphcaaDoorND
import Derived.Laws.EntriesVeiled
import Derived.Test.YtbdciibbgiphcaaDoorNA
import Derived.Maps.OwnOps
import Derived.Maps.Keyed
import Derived.DeepKeys4
import Derived.Test.YtbdciibbgiphcaaDoorNB
import Derived.StillTailTactics
/- exprs' reader: rank, its loop. -/
namespace Go.Proofs.YtbdciibbgiphcaaDoor.V
set_option linter.unusedVariables false
set_option linter.unusedSimpArgs false
set_option linter.unusedSectionVars false
open Go.RowKit Go.Proofs.YtbdciibbgiphcaaDoorW.PrintWords Go.Proofs.YtbdciibbgiphcaaDoorW.PrintLast Go.Proofs.YtbdciibbgiphcaaDoorW.PrintMore
variable {PV : World → Prop} {nm : ByteArray → Bool} {num : ByteArray → Option (Int × Int)} {T : List S45}
theorem wp_scope_jumps2 {P : Program} {a : Act} {w : World} {Q : Exit → Act → World → Prop} {c rest : Code} (l : Nat) (J : Act → World → Prop) (μ : Act → World → Nat) (hf : findLabel c l = some (Code.seq Code.skip rest))
  (pass : ∀ a w, J a w → rest.wp P (Exit.jump l (fun a' w' => J a' w' ∧ μ a' w' < μ a w) Q) a w)
  (first : (∀ a w, J a w → rest.wp P (Exit.jump l J Q) a w) → c.wp P (Exit.jump l J Q) a w) : (Code.scope c).wp P Q a w :=
 wp_scope_jumps l J μ hf (first (fun a w hJ => Code.wp_mono (fun e a' w' h => by
  cases e with
  | goto l' => exact ⟨h.1, h.2.1⟩
  | _ => exact h) (pass a w hJ))) (fun a w hJ => wp_seq (wp_skip (pass a w hJ)))
theorem add_block (ad : Addr) (j : Nat) : (ad.add j).block = ad.block := by unfold Addr.add; split <;> rfl
theorem take_next {α : Type} {l : List α} {p : α → Bool} {i : Nat} {x : α} (h : (l.take i).find? p = none) (hx : l[i]? = some x) (hp : p x = false) : (l.take (i + 1)).find? p = none := by
 have hi : i < l.length := (List.getElem?_eq_some_iff.1 hx).1
 rw [List.take_succ_eq_append_getElem hi, List.find?_append, h]
 have : l[i] = x := (List.getElem?_eq_some_iff.1 hx).2
 rw [this]
 simp [hp]
theorem take_hit {α : Type} {l : List α} {p : α → Bool} {i : Nat} {x : α} (h : (l.take i).find? p = none) (hx : l[i]? = some x) (hp : p x = true) : l.find? p = some x := by
 have hi : i < l.length := (List.getElem?_eq_some_iff.1 hx).1
 have h2 : l = l.take i ++ l.drop i := (List.take_append_drop i l).symm
 have h3 : l.drop i = x :: l.drop (i + 1) := by
  rw [List.drop_eq_getElem_cons hi, (List.getElem?_eq_some_iff.1 hx).2]
 rw [h2, List.find?_append, h, h3]
 simp [hp]
/-- a row of forms, read while the reader goes on. -/
theorem row83 {w0 W : World} {g base : Nat} {a : Int} {ok : Nat → Prop} {v : Value} {xs : List S83} (h : IsS75 w0 W g T a) (hR : Kd.R k83 83 W base ok v xs) :
  ∃ A c, v = .slice A xs.length c ∧ ∀ (W' : World), KeepBut W W' g none → ∀ (i : Nat) (x : S83), xs[i]? = some x → ∃ ad, A = some ad ∧ W'.cell? (ad.add (i * 4)) = some (.int .u8 x.f0) ∧ W'.cell? ⟨(ad.add (i * 4)).block, (ad.add (i * 4)).off + 1, none⟩ = some (.int .i64 x.f1) ∧
   W'.cell? ⟨(ad.add (i * 4)).block, (ad.add (i * 4)).off + 2, none⟩ = some (.int .u8 x.f2) ∧ W'.cell? ⟨(ad.add (i * 4)).block, (ad.add (i * 4)).off + 3, none⟩ = some (.string x.f3) := by
 obtain ⟨A, c, rfl, hl, hC⟩ := Kd.R_reads hR
 have hne := h.own_ne hR (by decide)
 refine ⟨A, c, rfl, fun W' hk i x hx => ?_⟩
 have hi : i < xs.length := (List.getElem?_eq_some_iff.1 hx).1
 obtain ⟨ad, hA, c0, c1, c2, c3⟩ := at_T83 hC (i : Int) (by omega) (by omega)
 rw [rdT83 xs i hi, (List.getElem?_eq_some_iff.1 hx).2] at c0 c1 c2 c3
 simp only [Int.toNat_natCast] at c0 c1 c2 c3
 have hb : (ad.add (i * 4)).block ≠ g := by
  rw [add_block]
  intro e
  subst hA
  exact hne (by simp [Value.ownBlock, e])
 exact ⟨ad, hA, kb_cell hk c0 hb, kb_cell hk c1 hb, kb_cell hk c2 hb, kb_cell hk c3 hb⟩
theorem pairs_small : ∀ f ∈ pairsL, 0 ≤ f.f1 ∧ f.f1 ≤ 5 := by
 intro f hf
 simp only [pairsL, List.mem_cons, List.not_mem_nil, or_false] at hf
 rcases hf with rfl | rfl | rfl | rfl | rfl | rfl | rfl | rfl | rfl | rfl | rfl | rfl <;> decide
theorem asks_is {f : S83} (h0 : 0 ≤ f.f1) (h1 : f.f1 ≤ 5) : exprs_form_asks.f f.f0 f.f1 f.f2 f.f3 = some ((asksOf f).1, (asksOf f).2) := by
 unfold exprs_form_asks.f asksOf
 rw [w64 (n := f.f1 + 1) (by omega) (by omega)]
 split
 ·rfl
 ·split <;> rfl
theorem asks_small {f : S83} (h0 : 0 ≤ f.f1) : 0 ≤ (asksOf f).2 := by
 unfold asksOf
 split
 ·simp
 ·split
  ·simp
  ·show 0 ≤ f.f1 + 1; omega
/-- where the reader stands. -/
def rdAt (g : Nat) (w : World) : Int := match w.cell? ⟨g, 1, none⟩ with
 | some (.int _ a) => a
 | _ => 0
theorem rdAt_is {w0 W : World} {g : Nat} {a : Int} (h : IsS75 w0 W g T a) : rdAt g W = a := by
 obtain ⟨A, c, hb, _, _⟩ := h
 unfold rdAt
 rw [cellS75_1 hb]
/-- at the label. -/
def JR (nm : ByteArray → Bool) (num : ByteArray → Option (Int × Int)) (T : List S45) (w0 : World) (g : Nat) (W : World) (n : Int) (f : Nat) (r : PR) (a : Act) (w : World) : Prop :=
 ∃ (v2 v3 v6 v7 v8 v9 v10 v11 v12 v13 v14 v15 v16 v17 v18 v19 v20 v21 v22 v23 v24 v25 v26 v27 v28 v29 v30 v31 v32 v33 v34 v35 v36 v37 v38 v39 v40 v41 v42 v43 v44 v45 v46 v47 v48 v49 v50 v51 v52 v53 v54 v55 v56 v57 v58 v59 v60 : Value) (x : S25) (A : Option Addr) (c : Nat) (b : Int) (k p5 : Nat), a = ⟨#[.pointer (some ⟨g, 0, none⟩), .int .i64 n, v2, v3, .pointer (some ⟨W.heap.size, 0, none⟩), .pointer (some ⟨p5, 0, none⟩), v6, v7, v8, v9, v10, v11, v12, v13, v14, v15, v16, v17, v18, v19, v20, v21, v22, v23, v24, v25, v26, v27, v28, v29, v30, v31, v32, v33, v34, v35, v36, v37, v38, v39, v40, v41, v42, v43, v44, v45, v46, v47, v48, v49, v50, v51, v52, v53, v54, v55, v56, v57, v58, v59, v60], []⟩ ∧ lp nm num T k n x b = some r ∧ k ≤ f ∧ x.f3.length ≤ c ∧
  w.heap[W.heap.size]? = some (.cells #[.int .u8 0, .int .i64 0, .string ⟨#[]⟩, .slice none 0 0] 25 (0, 0)) ∧ w.heap[p5]? = some (.cells #[.int .u8 x.f0, .int .i64 x.f1, .string x.f2, .slice A x.f3.length c] 25 (0, 0)) ∧
  W.heap.size < p5 ∧ Kd.F k25 w (fun k => W.heap.size + 1 ≤ k ∧ k ≠ p5) A x.f3.length x.f3 ∧ St w0 g T W w b
set_option maxHeartbeats 8000000 in
set_option maxRecDepth 100000 in
theorem rk_main (f : Nat) (hr : ∀ k, k ≤ f → RkIs PV nm num T k) (hmono : ∀ k n a x b, rk nm num T k n a = some (.ok x b) → a ≤ b) (n a : Int) (r : PR) (g : Nat) (w0 W : World) (H : PR.go (rk nm num T f (n + 1) a) (fun x b => lp nm num T f n x b) = some r) (h0 : 0 ≤ n) (h6 : ¬ 6 ≤ n) (hif : ¬ (n = 0 ∧ atK T a 1 ifS = true)) (hS : St w0 g T W W a) (hv : PV w0) :
  Calls Tryd.prog 42 #[.pointer (some ⟨g, 0, none⟩), .int .i64 n] W (RdPost w0 g T W r) := by
 have hgl := hS.I.lt
 have hww := hS.B.size
 have HS0 := Lib.hid (hS.alloc (.cells #[.int .u8 0, .int .i64 0, .string ⟨#[]⟩, .slice none 0 0] 25))
 have HRK := Lib.hid hr; have HV := Lib.hid hv; have HH := Lib.hid H; have HM := Lib.hid hmono
 have g1 : decide (6 ≤ n) = false := decide_eq_false h6
 clear hr hv hS H hmono
 go_enter Tryd.func42, Tryd.ntmps42
 go_wp2_with fail
 refine wp_scope_jumps2 (rest := _) 0 (JR nm num T w0 g W n f r) (fun _ w => T.length - (rdAt g w).toNat) (by rfl) ?pass ?first
 case first =>
  intro hp0
  have hpass := Lib.hid hp0
  clear hp0
  have hgz : W.heap.size ≠ g := by omega
  have hZ0 := Lib.hid (heap_alloc_new W (.cells #[.int .u8 0, .int .i64 0, .string ⟨#[]⟩, .slice none 0 0] 25))
  by_cases c0 : n = 0
  ·subst c0
   have hat : atK T a 1 ifS = false := by
    cases e : atK T a 1 ifS with
    | false => rfl
    | true => exact absurd ⟨rfl, e⟩ hif
   go_wp2_with fail
   refine (takes_walk g T a 1 ifS w0 _ HS0.out.self).mono ?_
   rintro e wX ⟨rfl, hs2⟩
   rw [hat] at hs2 ⊢
   rw [if_neg (by simp)] at hs2
   have HSX := Lib.hid (HS0.out.trans hs2)
   have HZX := Lib.hid (kb_blk hs2.K hZ0.out (by omega))
   have hzx : W.heap.size < wX.heap.size := blk_lt HZX.out
   clear hs2
   go_wp2_with fail
   obtain ⟨r1, h1, h1b, H3⟩ := two_pr HH.out
   have HC1 := Lib.hid (HRK.out f (Nat.le_refl _) 1 a r1 g w0 _ h1 (by omega) HSX.out.self HV.out)
   have HB1 := Lib.hid h1b; have HQ := Lib.hid H3
   clear h1 h1b H3
   refine HC1.out.mono ?_
   intro e w1 hp
   have HZ1 := Lib.hid (kb_blk hp.keep HZX.out (by omega))
   have hz1 := hp.keep.1
   have HP := Lib.hid hp
   clear hp HC1
   cases r1 with
   | bad er b =>
    obtain ⟨hs1, rfl⟩ := HP.out
    have er2 := HB1.out er b rfl
    subst er2
    exact ⟨rfl, HSX.out.trans hs1, rfl⟩
   | ok x b =>
    obtain ⟨hs1, A, c, rfl, hl, hF⟩ := HP.out
    have HF := Lib.hid (Kd.F_alloc (Kd.F_bound hF) (.cells #[.int .u8 x.f0, .int .i64 x.f1, .string x.f2, .slice A x.f3.length c] 25))
    have HS1 := Lib.hid ((HSX.out.trans hs1).alloc (.cells #[.int .u8 x.f0, .int .i64 x.f1, .string x.f2, .slice A x.f3.length c] 25))
    have HX1 := Lib.hid (heap_alloc_new w1 (.cells #[.int .u8 x.f0, .int .i64 x.f1, .string x.f2, .slice A x.f3.length c] 25))
    have HZ2 := Lib.hid (blk_alloc HZ1.out (.cells #[.int .u8 x.f0, .int .i64 x.f1, .string x.f2, .slice A x.f3.length c] 25))
    have hwz : W.heap.size < w1.heap.size := blk_lt HZ1.out
    clear hF hs1 HP
    go_wp2_with fail
    apply wp_label
    rename_i K0 hK0
    apply hK0
    refine hpass.out _ _ ?_
    exact ⟨_, _, _, _, _, _, _, _, _, _, _, _, _, _, _, _, _, _, _, _, _, _, _, _, _, _, _, _, _, _, _, _, _, _, _, _, _, _, _, _, _, _, _, _, _, _, _, _, _, _, _, _, _, _, _, _, _, x, A, c, b, f, w1.heap.size, rfl, HQ.out x b rfl, Nat.le_refl _, hl, HZ2.out, HX1.out, hwz, Kd.F_mono HF.out (fun k hk => ⟨by have := hk.1; (try simp only [World.size_alloc] at this); omega, by have := hk.2; omega⟩), HS1.out⟩
  ·have g3 : (n == 0) = false := by simpa using c0
   have hw1 : wrap64 (n + 1) = n + 1 := w64 (by omega) (by omega)
   go_wp2_with fail
   obtain ⟨r1, h1, h1b, H3⟩ := two_pr HH.out
   have HC1 := Lib.hid (HRK.out f (Nat.le_refl _) (n + 1) a r1 g w0 _ h1 (by omega) HS0.out.self HV.out)
   have HB1 := Lib.hid h1b; have HQ := Lib.hid H3
   clear h1 h1b H3
   refine HC1.out.mono ?_
   intro e w1 hp
   have HZ1 := Lib.hid (kb_blk hp.keep hZ0.out (by omega))
   have hz1 := hp.keep.1
   have HP := Lib.hid hp
   clear hp HC1
   cases r1 with
   | bad er b =>
    obtain ⟨hs1, rfl⟩ := HP.out
    have er2 := HB1.out er b rfl
    subst er2
    exact ⟨rfl, HS0.out.trans hs1, rfl⟩
   | ok x b =>
    obtain ⟨hs1, A, c, rfl, hl, hF⟩ := HP.out
    have HF := Lib.hid (Kd.F_alloc (Kd.F_bound hF) (.cells #[.int .u8 x.f0, .int .i64 x.f1, .string x.f2, .slice A x.f3.length c] 25))
    have HS1 := Lib.hid ((HS0.out.trans hs1).alloc (.cells #[.int .u8 x.f0, .int .i64 x.f1, .string x.f2, .slice A x.f3.length c] 25))
    have HX1 := Lib.hid (heap_alloc_new w1 (.cells #[.int .u8 x.f0, .int .i64 x.f1, .string x.f2, .slice A x.f3.length c] 25))
    have HZ2 := Lib.hid (blk_alloc HZ1.out (.cells #[.int .u8 x.f0, .int .i64 x.f1, .string x.f2, .slice A x.f3.length c] 25))
    have hwz : W.heap.size < w1.heap.size := blk_lt HZ1.out
    clear hF hs1 HP
    go_wp2_with fail
    apply wp_label
    rename_i K0 hK0
    apply hK0
    refine hpass.out _ _ ?_
    exact ⟨_, _, _, _, _, _, _, _, _, _, _, _, _, _, _, _, _, _, _, _, _, _, _, _, _, _, _, _, _, _, _, _, _, _, _, _, _, _, _, _, _, _, _, _, _, _, _, _, _, _, _, _, _, _, _, _, _, x, A, c, b, f, w1.heap.size, rfl, HQ.out x b rfl, Nat.le_refl _, hl, HZ2.out, HX1.out, hwz, Kd.F_mono HF.out (fun k hk => ⟨by have := hk.1; (try simp only [World.size_alloc] at this); omega, by have := hk.2; omega⟩), HS1.out⟩
 case pass =>
  intro a w hJ
  obtain ⟨v2, v3, v6, v7, v8, v9, v10, v11, v12, v13, v14, v15, v16, v17, v18, v19, v20, v21, v22, v23, v24, v25, v26, v27, v28, v29, v30, v31, v32, v33, v34, v35, v36, v37, v38, v39, v40, v41, v42, v43, v44, v45, v46, v47, v48, v49, v50, v51, v52, v53, v54, v55, v56, v57, v58, v59, v60, x, A, c, b, k, p5, rfl, hlp, hk, hl, hz, hx, hp5, hF, hs⟩ := hJ
  obtain ⟨k, rfl⟩ : ∃ k', k = k' + 1 := by
   cases k with
   | zero => simp [lp] at hlp
   | succ k => exact ⟨k, rfl⟩
  unfold lp at hlp
  have HLP := Lib.hid hlp; have HZ := Lib.hid hz; have HX := Lib.hid hx; have HF := Lib.hid hF; have HS := Lib.hid hs
  clear hlp hz hx hF hs HS0 HH
  go_wp2_with fail
  refine (exprs_pairs.calls pairsL _ pairs_f).mono ?_
  rintro e wl ⟨v0, rfl, hR, hbl⟩
  have hkl := KeepBut.of_below hbl g none
  have hIl : IsS75 w0 wl g T b := HS.out.I.below hbl
  obtain ⟨Ap, cp, rfl, hrow⟩ := row83 hIl hR
  have hl12 : pairsL.length = 12 := rfl
  rw [hl12]
  have HROW := Lib.hid hrow
  have HSL : Hid (St w0 g T w wl b) := Lib.hid ⟨hIl, HS.out.B.trans (hbl.mono HS.out.B.size), hkl, HS.out.a0, HS.out.a1⟩
  clear hrow hR hbl hkl hIl
  go_wp2_with fail
  go_loopw [26] (fun v26 wr => ∃ i : Nat, v26 = .int .i64 i ∧ i ≤ 12 ∧ Hid ((pairsL.take i).find? (fun f => decide (f.f1 = n) && atK T b f.f2 f.f3) = none) ∧ Hid (St w0 g T wl wr b)) (fun v26 _ => 12 - (intOf v26).toNat)
  case atStart => exact ⟨0, rfl, Nat.zero_le _, Lib.hid (by simp), Lib.hid HSL.out.self⟩
  case round =>
   obtain ⟨i, rfl, hi, HNM, HSR⟩ := hrel
   have HXR := Lib.hid (kb_blk HSR.out.K (kb_blk HSL.out.K HX.out (by omega)) (by omega))
   have HZR := Lib.hid (kb_blk HSR.out.K (kb_blk HSL.out.K HZ.out (by omega)) (by omega))
   have HFR := Lib.hid (Kd.F_keep (Kd.F_keep HF.out HSL.out.K (fun k hk => by have := hk.1; omega)) HSR.out.K (fun k hk => by have := hk.1; omega))
   by_cases hlt : i < 12
   ·obtain ⟨fm, hfm⟩ : ∃ fm, pairsL[i]? = some fm := ⟨_, List.getElem?_eq_getElem (by rw [hl12]; exact hlt)⟩
    obtain ⟨ad, hA, q0, q1, q2, q3⟩ := HROW.out wr HSR.out.K i fm hfm
    subst hA
    have HFM := Lib.hid hfm
    clear hfm
    by_cases hn : fm.f1 = n
    ·have g2 : (fm.f1 != n) = false := by simp [hn]
     go_wp2_with fail
     refine (takes_walk g T b fm.f2 fm.f3 w0 _ (HSR.out.alloc _).self).mono ?_
     rintro e w2 ⟨rfl, hs2⟩
     have HS2 := Lib.hid hs2
     clear hs2
     cases hat : atK T b fm.f2 fm.f3 with
     | false =>
      rw [hat] at HS2
      rw [if_neg (by simp)] at HS2
      go_wp2_with fail
      exact ⟨⟨i + 1, by go_num, by omega, Lib.hid (take_next HNM.out HFM.out (by simp [hat])), Lib.hid ((HSR.out.alloc _).trans HS2.out)⟩, by simp [intOf]; omega⟩
     | true =>
      rw [hat] at HS2
      rw [if_pos rfl] at HS2
      have hfrm : frm T n b = some fm := take_hit HNM.out HFM.out (by simp [hn, hat])
      have hq := HLP.out
      rw [hfrm] at hq
      dsimp only at hq
      obtain ⟨r1, h1, h1b, hq⟩ := two_pr hq
      have HQ := Lib.hid hq; have H1 := Lib.hid h1; have HB1 := Lib.hid h1b
      clear hq h1 h1b hfrm
      have HM2 := Lib.hid (kb_blk HS2.out.K (heap_alloc_new wr (.cells #[.int .u8 fm.f0, .int .i64 n, .int .u8 fm.f2, .string fm.f3] 83)) (by have := HSR.out.I.lt; omega))
      have HX2 := Lib.hid (kb_blk HS2.out.K (blk_alloc HXR.out _) (by omega))
      have HZ2 := Lib.hid (kb_blk HS2.out.K (blk_alloc HZR.out _) (by omega))
      have HF2 := Lib.hid (Kd.F_keep (Kd.F_alloc HFR.out _) HS2.out.K (fun k hk => by have := hk.1; omega))
      go_wp2_with fail
      rename_i K0 hK0
      have hfr := pairs_small fm (List.mem_of_getElem? HFM.out)
      have hbq : b + 1 ≤ (T.length : Int) := HS2.out.a1
      have fin : ∀ (z2 z3 z6 z7 z8 z9 z10 z11 z12 z13 z14 z15 z16 z17 z18 z19 z20 z21 z22 z23 z24 z25 z26 z27 z28 z29 z30 z31 z32 z33 z34 z35 z36 z37 z38 z39 z40 z41 z42 z43 z44 z45 z46 z47 z48 z49 z50 z51 z52 z53 z54 z55 z56 z57 z58 z59 z60 : Value) (Wf : World) (y : S25) (q : Int) (A2 : Option Addr) (c2 : Nat), r1 = .ok y q → b + 1 ≤ q → 2 ≤ c2 →
        Wf.heap[p5]? = some (.cells #[.int .u8 fm.f0, .int .i64 0, .string ⟨#[]⟩, .slice A2 2 c2] 25 (0, 0)) → Kd.F k25 Wf (fun k => W.heap.size + 1 ≤ k ∧ k ≠ p5) A2 2 [x, y] →
        Wf.heap[W.heap.size]? = some (.cells #[.int .u8 0, .int .i64 0, .string ⟨#[]⟩, .slice none 0 0] 25 (0, 0)) → St w0 g T W Wf q → K0 ⟨#[.pointer (some ⟨g, 0, none⟩), .int .i64 n, z2, z3, .pointer (some ⟨W.heap.size, 0, none⟩), .pointer (some ⟨p5, 0, none⟩), z6, z7, z8, z9, z10, z11, z12, z13, z14, z15, z16, z17, z18, z19, z20, z21, z22, z23, z24, z25, z26, z27, z28, z29, z30, z31, z32, z33, z34, z35, z36, z37, z38, z39, z40, z41, z42, z43, z44, z45, z46, z47, z48, z49, z50, z51, z52, z53, z54, z55, z56, z57, z58, z59, z60], []⟩ Wf := by
       intro z2 z3 z6 z7 z8 z9 z10 z11 z12 z13 z14 z15 z16 z17 z18 z19 z20 z21 z22 z23 z24 z25 z26 z27 z28 z29 z30 z31 z32 z33 z34 z35 z36 z37 z38 z39 z40 z41 z42 z43 z44 z45 z46 z47 z48 z49 z50 z51 z52 z53 z54 z55 z56 z57 z58 z59 z60 Wf y q A2 c2 hr1 hbq2 hc2 hxf hff hzf hsf
       have hq := HQ.out y q hr1
       have HXF := Lib.hid hxf; have HFF := Lib.hid hff; have HZF := Lib.hid hzf; have HSF := Lib.hid hsf
       have xu0 := blk_cell hxf 0; have xu1 := blk_cell hxf 1; have xu2 := blk_cell hxf 2; have xu3 := blk_cell hxf 3
       have r0 := blk_cell hzf 0; have r1 := blk_cell hzf 1; have r2 := blk_cell hzf 2; have r3 := blk_cell hzf 3
       have f0 := blk_frozen hzf 0; have f1 := blk_frozen hzf 1; have f2 := blk_frozen hzf 2; have f3 := blk_frozen hzf 3
       dsimp at r0 r1 r2 r3 xu0 xu1 xu2 xu3
       clear hxf hff hzf hsf HROW q0 q1 q2 q3 HM2 HX2 HZ2 HF2 HXR HZR HFR hr1
       apply hK0
       by_cases c0 : n = 0
       ·subst c0
        rw [if_pos (.inl rfl)] at hq
        obtain rfl := Option.some.inj hq
        go_wp2_with fail
        refine bodyPost_ret (results_c1 rfl _ _ W.heap.size _ _ _ _ rfl (put4 HZF.out _ _ _ _)) rfl (RdPost.set4 (x := ⟨fm.f0, 0, ⟨#[]⟩, [x, y]⟩) HSF.out (by omega) hww hc2 (Kd.F_mono HFF.out (fun k hk => hk.1)))
       ·by_cases c3 : n = 3
        ·subst c3
         rw [if_pos (.inr rfl)] at hq
         obtain rfl := Option.some.inj hq
         go_wp2_with fail
         refine bodyPost_ret (results_c1 rfl _ _ W.heap.size _ _ _ _ rfl (put4 HZF.out _ _ _ _)) rfl (RdPost.set4 (x := ⟨fm.f0, 0, ⟨#[]⟩, [x, y]⟩) HSF.out (by omega) hww hc2 (Kd.F_mono HFF.out (fun k hk => hk.1)))
        ·rw [if_neg (by omega)] at hq
         have g3 : (n == 0) = false := by simpa using c0
         have g4 : (n == 3) = false := by simpa using c3
         clear xu0 xu1 xu2 xu3 r0 r1 r2 r3 f0 f1 f2 f3
         go_wp2_with fail
         apply wp_goto
         refine ⟨rfl, ⟨_, _, _, _, _, _, _, _, _, _, _, _, _, _, _, _, _, _, _, _, _, _, _, _, _, _, _, _, _, _, _, _, _, _, _, _, _, _, _, _, _, _, _, _, _, _, _, _, _, _, _, _, _, _, _, _, _, ⟨fm.f0, 0, ⟨#[]⟩, [x, y]⟩, A2, c2, q, k, p5, rfl, hq, by omega, hc2, HZF.out, HXF.out, hp5, HFF.out, HSF.out⟩, ?_⟩
         show T.length - (rdAt g Wf).toNat < T.length - (rdAt g w).toNat
         rw [rdAt_is HSF.out.I, rdAt_is HS.out.I]
         have e0 := HS.out.a0
         have e1 := HSF.out.a1
         omega
      have hask : exprs_form_asks.f fm.f0 n fm.f2 fm.f3 = some ((asksOf fm).1, (asksOf fm).2) := by rw [← hn]; exact asks_is hfr.1 hfr.2
      have has2 := asks_small hfr.1
      have hgi := HSR.out.I.lt
      have hsz2 := HS2.out.K.1
      rw [World.size_alloc] at hsz2
      have hgm : wr.heap.size ≠ g := by omega
      have hgp : p5 ≠ g := by omega
      have hgz : W.heap.size ≠ g := by omega
      have HST := Lib.hid (HSL.out.trans ((HSR.out.alloc _).trans HS2.out))
      have hpw : p5 < w2.heap.size := blk_lt HX2.out
      have hww2 : w.heap.size ≤ w2.heap.size := HST.out.K.1
      have hWw := HS.out.K.1
      have m0 := blk_cell HM2.out 0; have m1 := blk_cell HM2.out 1; have m2 := blk_cell HM2.out 2; have m3 := blk_cell HM2.out 3
      have x0 := blk_cell HX2.out 0; have x1 := blk_cell HX2.out 1; have x2 := blk_cell HX2.out 2; have x3 := blk_cell HX2.out 3
      dsimp at m0 m1 m2 m3 x0 x1 x2 x3
      have hidx : ∀ (a0 a1 : Int) (w : World), (Instr.index 88 (.agg #[.int .i64 a0, .int .i64 a1]) (.int .i64 1)).run Tryd.prog w = .ok (.int .i64 a1) w := fun _ _ _ => by kernel_rfl
      have fin2 : ∀ (z2 z3 z6 z7 z8 z9 z10 z11 z12 z13 z14 z15 z16 z17 z18 z19 z20 z21 z22 z23 z24 z25 z26 z27 z28 z29 z30 z31 z32 z33 z34 z35 z36 z37 z38 z39 z40 z41 z42 z43 z44 z45 z46 z47 z48 z49 z50 z51 z52 z53 z54 z55 z56 z57 z58 z59 z60 : Value) (wa w6 : World) (y : S25) (q : Int) (A2 : Option Addr) (c2 : Nat), r1 = .ok y q → y.f3.length ≤ c2 → Kd.F k25 w6 (fun k => wa.heap.size ≤ k) A2 y.f3.length y.f3 → KeepBut w2 wa g none → KeepBut wa w6 g none → St w0 g T W w6 q →
        K0 ⟨#[.pointer (some ⟨g, 0, none⟩), .int .i64 n, z2, z3, .pointer (some ⟨W.heap.size, 0, none⟩), .pointer (some ⟨p5, 0, none⟩), z6, z7, z8, z9, z10, z11, z12, z13, z14, z15, z16, z17, z18, z19, z20, z21, z22, z23, z24, z25, z26, z27, z28, z29, z30, z31, z32, z33, z34, z35, z36, z37, z38, z39, z40, z41, z42, z43, z44, z45, z46, z47, z48, z49, z50, z51, z52, z53, z54, z55, z56, z57, z58, z59, z60], []⟩ (((((w6.alloc (.cells #[.int .u8 x.f0, .int .i64 x.f1, .string x.f2, .slice A x.f3.length c, .int .u8 y.f0, .int .i64 y.f1, .string y.f2, .slice A2 y.f3.length c2] 25)).setCell ⟨p5, 0, none⟩ (.int .u8 fm.f0)).setCell ⟨p5, 1, none⟩ (.int .i64 0)).setCell ⟨p5, 2, none⟩ (.string ⟨#[]⟩)).setCell ⟨p5, 3, none⟩ (.slice (some ⟨w6.heap.size, 0, none⟩) 2 2)) := by
       intro z2 z3 z6 z7 z8 z9 z10 z11 z12 z13 z14 z15 z16 z17 z18 z19 z20 z21 z22 z23 z24 z25 z26 z27 z28 z29 z30 z31 z32 z33 z34 z35 z36 z37 z38 z39 z40 z41 z42 z43 z44 z45 z46 z47 z48 z49 z50 z51 z52 z53 z54 z55 z56 z57 z58 z59 z60 wa w6 y q A2 c2 hr1 hl2 hF6 hka hk6 hs6
       have e1 := hka.1
       have e2 := hk6.1
       have hP6 := kb_blk hk6 (kb_blk hka HX2.out hgp) hgp
       have hZ6 := kb_blk hk6 (kb_blk hka HZ2.out hgz) hgz
       have hX6 := Kd.F_keep (Kd.F_keep HF2.out hka (fun k hk => by have := hk.1; omega)) hk6 (fun k hk => by have := hk.1; omega)
       refine fin _ _ _ _ _ _ _ _ _ _ _ _ _ _ _ _ _ _ _ _ _ _ _ _ _ _ _ _ _ _ _ _ _ _ _ _ _ _ _ _ _ _ _ _ _ _ _ _ _ _ _ _ _ _ _ _ _  _ y q (some ⟨w6.heap.size, 0, none⟩) 2 hr1 (HM.out k _ _ y q (by rw [H1.out, hr1])) (Nat.le_refl _) (put4 (blk_alloc hP6 _) _ _ _ _) ?_ (blk_far4 (blk_alloc hZ6 _) (by omega) _ _ _ _) (hs6.far4 hgp (by omega) hww _ _ _ _ _)
       exact lit_F (b := w6.heap.size) [(x, A, c), (y, A2, c2)] _ rfl (blk_far4 (heap_alloc_new w6 _) (by omega) _ _ _ _) ⟨by omega, by omega⟩ (by
        intro p hp
        simp only [List.mem_cons, List.not_mem_nil, or_false] at hp
        rcases hp with rfl | rfl
        ·exact ⟨hl, F_far4 hX6 (fun k hk => hk.2) _ _ _ _ _⟩
        ·exact ⟨hl2, F_far4 (Kd.F_mono hF6 (fun k hk => ⟨by omega, by omega⟩)) (fun k hk => hk.2) _ _ _ _ _⟩) (by simp [maxLen])
      clear q0 q1 q2 q3 HROW hat g2
      go_region_with (first | (go_at_call 46; refine (exprs_form_asks.calls _ _ _ _ _ _ _ hask).mono ?_; rintro e wa ⟨rfl, hba⟩; have HBA := Lib.hid hba; have hka := KeepBut.of_below hba g none; have xm0 := kb_cell hka m0 hgm; have xm1 := kb_cell hka m1 hgm; have xm2 := kb_cell hka m2 hgm; have xm3 := kb_cell hka m3 hgm; have xx0 := kb_cell hka x0 hgp; have xx1 := kb_cell hka x1 hgp; have xx2 := kb_cell hka x2 hgp; have xx3 := kb_cell hka x3 hgp; have HSA : Hid (St w0 g T w2 wa (b + 1)) := Lib.hid ⟨HST.out.I.drew.below hba, HST.out.B.drew.trans (hba.mono HST.out.B.size), hka, HST.out.a0, HST.out.a1⟩; clear hba hka) | (go_at_call 42; refine (HRK.out k (by omega) (asksOf fm).2 (b + 1) r1 g w0 wa H1.out has2 HSA.out.self HV.out).mono ?_; intro e w6 hp6; rcases r1 with ⟨y, q⟩ | ⟨er, q⟩; rotate_left; (focus (obtain ⟨hs6, rfl⟩ := hp6; have er2 := HB1.out er q rfl; subst er2; exact ⟨rfl, HS.out.trans (HST.out.trans (HSA.out.trans hs6)), rfl⟩)); obtain ⟨hs6, A2, c2, rfl, hl2, hF6⟩ := hp6; have hk6 := hs6.K; have ym0 := kb_cell hk6 xm0 hgm; have ym1 := kb_cell hk6 xm1 hgm; have ym2 := kb_cell hk6 xm2 hgm; have ym3 := kb_cell hk6 xm3 hgm; have yx0 := kb_cell hk6 xx0 hgp; have yx1 := kb_cell hk6 xx1 hgp; have yx2 := kb_cell hk6 xx2 hgp; have yx3 := kb_cell hk6 xx3 hgp; have HS6 := Lib.hid (HS.out.trans (HST.out.trans (HSA.out.trans hs6))); have HL6 := Lib.hid (And.intro hl2 hF6); have HK6 := Lib.hid hk6; have HP6 := Lib.hid (kb_blk hk6 (kb_blk HSA.out.K HX2.out hgp) hgp); have HZ6 := Lib.hid (kb_blk hk6 (kb_blk HSA.out.K HZ2.out hgz) hgz); have HM6 := Lib.hid (kb_blk hk6 (kb_blk HSA.out.K HM2.out hgm) hgm); have zm0 := fun o => blk_cell (blk_alloc HM6.out o) 0; dsimp at zm0; have r0 := fun o => blk_cell (blk_alloc HP6.out o) 0; have r1 := fun o => blk_cell (blk_alloc HP6.out o) 1; have r2 := fun o => blk_cell (blk_alloc HP6.out o) 2; have r3 := fun o => blk_cell (blk_alloc HP6.out o) 3; have f0 := fun o => blk_frozen (blk_alloc HP6.out o) 0; have f1 := fun o => blk_frozen (blk_alloc HP6.out o) 1; have f2 := fun o => blk_frozen (blk_alloc HP6.out o) 2; have f3 := fun o => blk_frozen (blk_alloc HP6.out o) 3; dsimp at r0 r1 r2 r3; clear hs6 hF6 hk6))
      all_goals exact fin2 _ _ _ _ _ _ _ _ _ _ _ _ _ _ _ _ _ _ _ _ _ _ _ _ _ _ _ _ _ _ _ _ _ _ _ _ _ _ _ _ _ _ _ _ _ _ _ _ _ _ _ _ _ _ _ _ _ wa w6 y q A2 c2 rfl HL6.out.1 HL6.out.2 HSA.out.K HK6.out HS6.out
    ·have g2 : (fm.f1 != n) = true := by simp [hn]
     go_wp2_with fail
     exact ⟨⟨i + 1, by go_num, by omega, Lib.hid (take_next HNM.out HFM.out (by simp [hn])), Lib.hid (HSR.out.alloc _)⟩, by simp [intOf]; omega⟩
   ·obtain rfl : i = 12 := by omega
    have hnone : frm T n b = none := by
     have := HNM.out
     rw [List.take_of_length_le (by rw [hl12]; omega)] at this
     exact this
    have hq := HLP.out
    rw [hnone] at hq
    obtain rfl := Option.some.inj hq
    have xu0 := blk_cell HXR.out 0; have xu1 := blk_cell HXR.out 1; have xu2 := blk_cell HXR.out 2; have xu3 := blk_cell HXR.out 3
    have r0 := blk_cell HZR.out 0; have r1 := blk_cell HZR.out 1; have r2 := blk_cell HZR.out 2; have r3 := blk_cell HZR.out 3
    have f0 := blk_frozen HZR.out 0; have f1 := blk_frozen HZR.out 1; have f2 := blk_frozen HZR.out 2; have f3 := blk_frozen HZR.out 3
    dsimp at r0 r1 r2 r3 xu0 xu1 xu2 xu3
    go_wp2_with fail
    refine bodyPost_ret (results_c1 rfl _ _ W.heap.size _ _ _ _ rfl (put4 HZR.out _ _ _ _)) rfl (RdPost.set4 (HS.out.trans (HSL.out.trans HSR.out)) (by omega) hww hl (Kd.F_mono HFR.out (fun k hk => hk.1)))
end Go.Proofs.YtbdciibbgiphcaaDoor.V

/- exprs' reader: prefix. -/
namespace Go.Proofs.YtbdciibbgiphcaaDoor.V
set_option linter.unusedVariables false
set_option linter.unusedSimpArgs false
set_option linter.unusedSectionVars false
open Go.RowKit Go.Proofs.YtbdciibbgiphcaaDoorW.PrintWords Go.Proofs.YtbdciibbgiphcaaDoorW.PrintLast Go.Proofs.YtbdciibbgiphcaaDoorW.PrintMore
variable {PV : World → Prop} {nm : ByteArray → Bool} {num : ByteArray → Option (Int × Int)} {T : List S45}
theorem pref_off {a : Int} (h : pfx T a = none) {f : S83} (hf : f ∈ prefL) : atK T a f.f2 f.f3 = false := by
 have := List.find?_eq_none.1 h f hf
 simpa using this
set_option maxHeartbeats 8000000 in
set_option maxRecDepth 100000 in
theorem pf_par (f : Nat) (hr : RkIs PV nm num T f) (a : Int) (r : PR) (g : Nat) (w0 W : World) (hS : St w0 g T W W a) (hv : PV w0) (hn : pfx T a = none) (hop : atK T a 3 opS = true) (H : PR.go (rk nm num T f 0 (a + 1)) (fun x b => if atK T b 3 clS = true then some (.ok x (b + 1)) else some (.bad 5 b)) = some r) :
  Calls Tryd.prog 67 #[.pointer (some ⟨g, 0, none⟩)] W (RdPost w0 g T W r) := by
 have hgl := hS.I.lt
 have hww := hS.B.size
 have HS0 := Lib.hid (hS.alloc (.cells #[.int .u8 0, .int .i64 0, .string ⟨#[]⟩, .slice none 0 0] 25))
 have hZ0 := Lib.hid (heap_alloc_new W (.cells #[.int .u8 0, .int .i64 0, .string ⟨#[]⟩, .slice none 0 0] 25))
 have HV := Lib.hid hv
 have hgz : W.heap.size ≠ g := by omega
 have HR := Lib.hid hr; have HN := Lib.hid hn; have HH := Lib.hid H; have HOP := Lib.hid hop
 clear hr hn H hop
 clear hv hS
 go_enter Tryd.func67, Tryd.ntmps67
 go_wp2_with fail
 refine (exprs_prefixes.calls prefL _ prefixes_f).mono ?_
 rintro e wl ⟨v0, rfl, hR, hbl⟩
 have hkl := KeepBut.of_below hbl g none
 have hIl : IsS75 w0 wl g T a := HS0.out.I.below hbl
 obtain ⟨Ap, cp, rfl, hrow⟩ := row83 hIl hR
 have hl3 : prefL.length = 3 := rfl
 rw [hl3]
 have HROW := Lib.hid hrow
 have HSL : Hid (St w0 g T W wl a) := Lib.hid (HS0.out.trans ⟨hIl, HS0.out.B.trans (hbl.mono HS0.out.B.size), hkl, HS0.out.a0, HS0.out.a1⟩)
 have HZL := Lib.hid (kb_blk hkl hZ0.out (by omega))
 clear hrow hR hbl hkl hIl
 go_wp2_with fail
 go_loopw [14] (fun v14 wr => ∃ i : Nat, v14 = .int .i64 i ∧ i ≤ 3 ∧ Hid (St w0 g T wl wr a)) (fun v14 _ => 3 - (intOf v14).toNat)
 case atStart => exact ⟨0, rfl, Nat.zero_le _, Lib.hid HSL.out.self⟩
 case round =>
  obtain ⟨i, rfl, hi, HSR⟩ := hrel
  by_cases hlt : i < 3
  ·obtain ⟨fm, hfm⟩ : ∃ fm, prefL[i]? = some fm := ⟨_, List.getElem?_eq_getElem (by rw [hl3]; exact hlt)⟩
   obtain ⟨ad, hA, q0, q1, q2, q3⟩ := HROW.out wr HSR.out.K i fm hfm
   subst hA
   have hat := pref_off HN.out (List.mem_of_getElem? hfm)
   have HAT := Lib.hid hat
   clear hfm hat
   go_wp2_with fail
   refine (takes_walk g T a fm.f2 fm.f3 w0 _ (HSR.out.alloc _).self).mono ?_
   rintro e w2 ⟨rfl, hs2⟩
   rw [HAT.out] at hs2 ⊢
   rw [if_neg (by simp)] at hs2
   have HS2 := Lib.hid hs2
   clear hs2
   go_wp2_with fail
   exact ⟨⟨i + 1, by go_num, by omega, Lib.hid ((HSR.out.alloc _).trans HS2.out)⟩, by simp [intOf]; omega⟩
  ·obtain rfl : i = 3 := by omega
   have HSX := Lib.hid (HSL.out.trans HSR.out)
   have HZX := Lib.hid (kb_blk HSR.out.K HZL.out hgz)
   have hzx : W.heap.size < wr.heap.size := blk_lt HZX.out
   clear HROW
   go_wp2_with fail
   refine (takes_walk g T a 3 opS w0 _ HSX.out.self).mono ?_
   rintro e w3 ⟨rfl, hs3⟩
   rw [HOP.out] at hs3 ⊢
   rw [if_pos rfl] at hs3
   have HS3 := Lib.hid (HSX.out.trans hs3)
   have HZ3 := Lib.hid (kb_blk hs3.K HZX.out hgz)
   have hz3 : W.heap.size < w3.heap.size := blk_lt HZ3.out
   clear hs3 HSX HZX
   obtain ⟨r1, h1, h1b, H3⟩ := two_pr HH.out
   have HC1 := Lib.hid (HR.out 0 (a + 1) r1 g w0 _ h1 (by omega) HS3.out.self HV.out)
   have HB1 := Lib.hid h1b; have HQ := Lib.hid H3
   clear h1 h1b H3
   go_wp2_with fail
   refine HC1.out.mono ?_
   intro e w4 hp
   have HZ4 := Lib.hid (kb_blk hp.keep HZ3.out hgz)
   have HP := Lib.hid hp
   clear hp HC1
   cases r1 with
   | bad er b =>
    obtain ⟨hs1, rfl⟩ := HP.out
    have er2 := HB1.out er b rfl
    subst er2
    exact ⟨rfl, HS3.out.trans hs1, rfl⟩
   | ok x b =>
    obtain ⟨hs1, A, c, rfl, hl, hF⟩ := HP.out
    have HF := Lib.hid (Kd.F_mono (Kd.F_alloc (Kd.F_bound hF) (.cells #[.int .u8 x.f0, .int .i64 x.f1, .string x.f2, .slice A x.f3.length c] 25)) (ok' := fun k => W.heap.size + 1 ≤ k) (fun k hk => by have := hk.1; omega))
    have HS4 := Lib.hid ((HS3.out.trans hs1).alloc (.cells #[.int .u8 x.f0, .int .i64 x.f1, .string x.f2, .slice A x.f3.length c] 25))
    have HX4 := Lib.hid (heap_alloc_new w4 (.cells #[.int .u8 x.f0, .int .i64 x.f1, .string x.f2, .slice A x.f3.length c] 25))
    have hz4 : W.heap.size < w4.heap.size := blk_lt HZ4.out
    have hq := HQ.out x b rfl
    clear hF hs1 HP
    go_wp2_with fail
    refine (takes_walk g T b 3 clS w0 _ HS4.out.self).mono ?_
    rintro e w5 ⟨rfl, hs5⟩
    have HS5 := Lib.hid (HS4.out.trans hs5)
    have HZ5 := Lib.hid (kb_blk hs5.K (blk_alloc HZ4.out _) hgz)
    have HX5 := Lib.hid (kb_blk hs5.K HX4.out (by omega))
    have HF5 := Lib.hid (Kd.F_keep HF.out hs5.K (fun k hk => by omega))
    cases hat : atK T b 3 clS with
    | false =>
     rw [hat] at HS5 hq
     rw [if_neg (by simp)] at hq
     injection hq with hq
     subst hq
     go_wp2_with fail
     refine (must_bad g w5).mono ?_
     rintro e w6 ⟨rfl, rfl⟩
     exact ⟨rfl, HS5.out, rfl⟩
    | true =>
     rw [hat] at HS5 hq
     rw [if_pos rfl] at hq HS5
     injection hq with hq
     subst hq
     clear hs5
     go_wp2_with fail
     refine (must_ok g w5).mono ?_
     rintro e w6 ⟨rfl, rfl⟩
     have xu0 := blk_cell HX5.out 0; have xu1 := blk_cell HX5.out 1; have xu2 := blk_cell HX5.out 2; have xu3 := blk_cell HX5.out 3
     have r0 := blk_cell HZ5.out 0; have r1 := blk_cell HZ5.out 1; have r2 := blk_cell HZ5.out 2; have r3 := blk_cell HZ5.out 3
     have f0 := blk_frozen HZ5.out 0; have f1 := blk_frozen HZ5.out 1; have f2 := blk_frozen HZ5.out 2; have f3 := blk_frozen HZ5.out 3
     dsimp at r0 r1 r2 r3 xu0 xu1 xu2 xu3
     go_wp2_with fail
     refine bodyPost_ret (results_c1 rfl _ _ W.heap.size _ _ _ _ rfl (put4 HZ5.out _ _ _ _)) rfl (RdPost.set4 HS5.out hgz hww hl HF5.out)
set_option maxHeartbeats 8000000 in
set_option maxRecDepth 100000 in
theorem pf_pre (f : Nat) (hp : PfIs PV nm num T f) (a : Int) (r : PR) (g : Nat) (w0 W : World) (hS : St w0 g T W W a) (hv : PV w0) (fm : S83) (hn : pfx T a = some fm) (H : PR.go (pf nm num T f (a + 1)) (fun x b => some (.ok ⟨fm.f0, 0, ⟨#[]⟩, [x]⟩ b)) = some r) :
  Calls Tryd.prog 67 #[.pointer (some ⟨g, 0, none⟩)] W (RdPost w0 g T W r) := by
 have hgl := hS.I.lt
 have hww := hS.B.size
 have HS0 := Lib.hid (hS.alloc (.cells #[.int .u8 0, .int .i64 0, .string ⟨#[]⟩, .slice none 0 0] 25))
 have hZ0 := Lib.hid (heap_alloc_new W (.cells #[.int .u8 0, .int .i64 0, .string ⟨#[]⟩, .slice none 0 0] 25))
 have HV := Lib.hid hv
 have hgz : W.heap.size ≠ g := by omega
 have HPF := Lib.hid hp; have HN := Lib.hid hn; have HH := Lib.hid H
 clear hp hn H
 clear hv hS
 go_enter Tryd.func67, Tryd.ntmps67
 go_wp2_with fail
 refine (exprs_prefixes.calls prefL _ prefixes_f).mono ?_
 rintro e wl ⟨v0, rfl, hR, hbl⟩
 have hkl := KeepBut.of_below hbl g none
 have hIl : IsS75 w0 wl g T a := HS0.out.I.below hbl
 obtain ⟨Ap, cp, rfl, hrow⟩ := row83 hIl hR
 have hl3 : prefL.length = 3 := rfl
 rw [hl3]
 have HROW := Lib.hid hrow
 have HSL : Hid (St w0 g T W wl a) := Lib.hid (HS0.out.trans ⟨hIl, HS0.out.B.trans (hbl.mono HS0.out.B.size), hkl, HS0.out.a0, HS0.out.a1⟩)
 have HZL := Lib.hid (kb_blk hkl hZ0.out (by omega))
 clear hrow hR hbl hkl hIl
 go_wp2_with fail
 go_loopw [14] (fun v14 wr => ∃ i : Nat, v14 = .int .i64 i ∧ i ≤ 3 ∧ Hid ((prefL.take i).find? (fun f => atK T a f.f2 f.f3) = none) ∧ Hid (St w0 g T wl wr a)) (fun v14 _ => 3 - (intOf v14).toNat)
 case atStart => exact ⟨0, rfl, Nat.zero_le _, Lib.hid (by simp), Lib.hid HSL.out.self⟩
 case round =>
  obtain ⟨i, rfl, hi, HNM, HSR⟩ := hrel
  by_cases hlt : i < 3
  ·obtain ⟨f2, hfm⟩ : ∃ f2, prefL[i]? = some f2 := ⟨_, List.getElem?_eq_getElem (by rw [hl3]; exact hlt)⟩
   obtain ⟨ad, hA, q0, q1, q2, q3⟩ := HROW.out wr HSR.out.K i f2 hfm
   subst hA
   have HFM := Lib.hid hfm
   have HZR := Lib.hid (kb_blk HSR.out.K HZL.out hgz)
   have hzr : W.heap.size < wr.heap.size := blk_lt HZR.out
   clear hfm
   go_wp2_with fail
   refine (takes_walk g T a f2.f2 f2.f3 w0 _ (HSR.out.alloc _).self).mono ?_
   rintro e w2 ⟨rfl, hs2⟩
   have HS2 := Lib.hid hs2
   clear hs2
   cases hat : atK T a f2.f2 f2.f3 with
   | false =>
    rw [hat] at HS2
    rw [if_neg (by simp)] at HS2
    go_wp2_with fail
    exact ⟨⟨i + 1, by go_num, by omega, Lib.hid (take_next HNM.out HFM.out hat), Lib.hid ((HSR.out.alloc _).trans HS2.out)⟩, by simp [intOf]; omega⟩
   | true =>
    rw [hat] at HS2
    rw [if_pos rfl] at HS2
    have hfe : pfx T a = some f2 := take_hit HNM.out HFM.out hat
    rw [HN.out] at hfe
    obtain rfl := Option.some.inj hfe
    obtain ⟨r1, h1, h1b, H3⟩ := two_pr HH.out
    have HST := Lib.hid (HSL.out.trans ((HSR.out.alloc _).trans HS2.out))
    have HC1 := Lib.hid (HPF.out (a + 1) r1 g w0 _ h1 HST.out.drew.self HV.out)
    have HB1 := Lib.hid h1b; have HQ := Lib.hid H3
    have HM2 := Lib.hid (kb_blk HS2.out.K (heap_alloc_new wr (.cells #[.int .u8 fm.f0, .int .i64 fm.f1, .int .u8 fm.f2, .string fm.f3] 83)) (by omega))
    have HZ2 := Lib.hid (kb_blk HS2.out.K (blk_alloc HZR.out _) hgz)
    have hgm : wr.heap.size ≠ g := by omega
    have hmz : wr.heap.size ≠ W.heap.size := by omega
    have hz2 : W.heap.size < w2.heap.size := blk_lt HZ2.out
    have m0 := blk_cell HM2.out 0
    dsimp at m0
    clear h1 h1b H3 q0 q1 q2 q3 HROW hfe
    go_wp2_with fail
    go_region_held2 (fun w' => w'.cell? ⟨wr.heap.size, 0, none⟩ = some (.int .u8 fm.f0)) (first | with_reducible exact xm0 | with_reducible exact far4 xm0 hmz _ _ _ _ _ | go_keep) (first | (go_at_call 67; refine HC1.out.mono ?_; intro e w6 hp6; rcases r1 with ⟨y, q⟩ | ⟨er, q⟩; rotate_left; (focus (obtain ⟨hs6, rfl⟩ := hp6; have er2 := HB1.out er q rfl; subst er2; exact ⟨rfl, HST.out.drew.trans hs6, rfl⟩)); obtain ⟨hs6, A2, c2, rfl, hl2, hF6⟩ := hp6; have hk6 := hs6.K; have xm0 := kb_cell hk6 m0 hgm; have HS6 := Lib.hid (HST.out.drew.trans hs6); have HL6 := Lib.hid (And.intro hl2 hF6); have HK6 := Lib.hid hk6; have HP6 := Lib.hid (kb_blk hk6 (o := .cells #[.int .u8 0, .int .i64 0, .string ⟨#[]⟩, .slice none 0 0] 25) (b := W.heap.size) HZ2.out hgz); have r0 := fun o => blk_cell (blk_alloc HP6.out o) 0; have r1 := fun o => blk_cell (blk_alloc HP6.out o) 1; have r2 := fun o => blk_cell (blk_alloc HP6.out o) 2; have r3 := fun o => blk_cell (blk_alloc HP6.out o) 3; have f0 := fun o => blk_frozen (blk_alloc HP6.out o) 0; have f1 := fun o => blk_frozen (blk_alloc HP6.out o) 1; have f2 := fun o => blk_frozen (blk_alloc HP6.out o) 2; have f3 := fun o => blk_frozen (blk_alloc HP6.out o) 3; dsimp at r0 r1 r2 r3; clear hs6 hF6 hk6))
    have hz6 : w2.heap.size ≤ w6.heap.size := HK6.out.1
    obtain rfl := Option.some.inj (HQ.out y q rfl)
    clear r0 r1 r2 r3 f0 f1 f2 f3 xm0 m0
    go_wp2_with fail
    refine bodyPost_ret (results_c1 rfl _ _ W.heap.size _ _ _ _ rfl (put4 (blk_alloc HP6.out _) _ _ _ _)) rfl (RdPost.set4 (x := ⟨fm.f0, 0, ⟨#[]⟩, [y]⟩) (HS6.out.alloc _) hgz hww (Nat.le_refl _) ?_)
    exact lit_F (b := w6.heap.size) [(y, A2, c2)] _ rfl (heap_alloc_new w6 _) (by show W.heap.size + 1 ≤ w6.heap.size; omega) (by
     intro p hp
     simp only [List.mem_cons, List.not_mem_nil, or_false] at hp
     subst hp
     exact ⟨HL6.out.1, Kd.F_alloc (Kd.F_mono HL6.out.2 (fun k hk => by have hk : w2.heap.size ≤ k := hk; omega)) _⟩) (by simp [maxLen])
  ·obtain rfl : i = 3 := by omega
   exfalso
   have := HNM.out
   rw [List.take_of_length_le (by rw [hl3]; omega)] at this
   have h2 := HN.out
   unfold pfx at h2
   rw [this] at h2
   cases h2
end Go.Proofs.YtbdciibbgiphcaaDoor.V


/- Maps whose keys are of whatever kind that has its law (structs too): what a look-up and a store do, over any program; the map is told as a function of its keys. -/
namespace Go.Proofs.MapG
set_option linter.unusedVariables false
set_option linter.unusedSimpArgs false
set_option linter.unusedSectionVars false
open Go.RowKit Go.MapKept Go.ChangeShapes Go.WideShapes Go.ChangeMaps

/-- block b is a map over keys of α that holds f. -/
def MapE {α : Type} (enc : α → Value) (ok : α → Prop) (w : World) (b : Nat) (f : α → Option Value) : Prop :=
 ∃ es clock, w.heap[b]? = some (.map es clock) ∧ Stamped es clock ∧ (∀ x ∈ es.toList, ∃ a, x.key = enc a ∧ f a = some x.val ∧ ok a) ∧ (∀ a v, f a = some v → ∃ x ∈ es.toList, x.key = enc a)

section
variable {α : Type} [DecidableEq α] {enc : α → Value} {ok : α → Prop} {P : Program} {w w1 : World} {b : Nat} {f : α → Option Value} {T K E : TypeId} {z : Value}

omit [DecidableEq α] in
theorem MapE.made (w : World) : MapE enc ok (w.alloc (.map #[] 0)) w.heap.size (fun _ => none) :=
 ⟨#[], 0, (heap_alloc w _).1, stamped_empty 0, by simp, fun a v h => by cases h⟩
omit [DecidableEq α] in
theorem MapE.lt (h : MapE enc ok w b f) : b < w.heap.size := by
 obtain ⟨es, clock, hb, _⟩ := h
 exact (Array.getElem?_eq_some_iff.1 hb).1
omit [DecidableEq α] in
theorem MapE.move (h : MapE enc ok w b f) (e : w1.heap[b]? = w.heap[b]?) : MapE enc ok w1 b f := by
 obtain ⟨es, clock, hb, r⟩ := h
 exact ⟨es, clock, e.trans hb, r⟩

omit [DecidableEq α] in
theorem run_lookup (hT : P.underlying T = some (.map K E)) (hK : Go.Maps.Keyed P K) (hz : (zeroValue E).run P w = .ok z w) (hinj : ∀ a a', enc a = enc a' → a = a') (hkey : ∀ a, ok a → ∃ l, keyOf P K (enc a) = some l) (h : MapE enc ok w b f) (a : α) (ha : ok a) (c : Bool) :
  (Instr.lookup T (.map (some b)) (enc a) c).run P w = .ok (if c then .tuple #[(f a).getD z, .bool (f a).isSome] else (f a).getD z) w := by
 obtain ⟨es, clock, hb, hs, h1, h2⟩ := h
 have hks : ∀ x ∈ es.toList, ∃ l, keyOf P K x.key = some l := fun x hx => by obtain ⟨a', e, _, ho⟩ := h1 x hx; rw [e]; exact hkey a' ho
 obtain ⟨kl, hkl⟩ := hkey a ha
 rcases hK.find w hkl es.toList hks with ⟨q1, q2⟩ | ⟨j, e, q1, q2, q3⟩
 ·have hf : f a = none := by
   cases hfa : f a with
   | none => rfl
   | some v => obtain ⟨x, hx, e⟩ := h2 a v hfa; exact absurd e (q2 x hx)
  cases c <;> simp [Instr.lookup, run_underlying hT, MapKept.run_getObj_map hb, hK.check w es.isEmpty hkl, hK.check w false hkl, q1, hz, hf, Result.andThen]
 ·have hf : f a = some e.val := by
   obtain ⟨a', e1, e2, ho⟩ := h1 e (List.mem_of_getElem? q2)
   rw [q3] at e1
   rw [hinj _ _ e1]; exact e2
  cases c <;> simp [Instr.lookup, run_underlying hT, MapKept.run_getObj_map hb, hK.check w es.isEmpty hkl, hK.check w false hkl, q1, hf, Result.andThen]

theorem run_update (hT : P.underlying T = some (.map K E)) (hK : Go.Maps.Keyed P K) (hinj : ∀ a a', enc a = enc a' → a = a') (hkey : ∀ a, ok a → ∃ l, keyOf P K (enc a) = some l) (h : MapE enc ok w b f) (a : α) (ha : ok a) (v : Value) :
  ∃ w', (Instr.mapUpdate T (.map (some b)) (enc a) v).run P w = .ok () w' ∧ MapE enc ok w' b (fun m => if m = a then some v else f m) ∧ w.grownBy w' (some b) := by
 obtain ⟨es, clock, hb, hs, h1, h2⟩ := h
 have hks : ∀ x ∈ es.toList, ∃ l, keyOf P K x.key = some l := fun x hx => by obtain ⟨a', e, _, ho⟩ := h1 x hx; rw [e]; exact hkey a' ho
 obtain ⟨kl, hkl⟩ := hkey a ha
 have hgr : ∀ o, w.grownBy { w with heap := w.heap.setIfInBounds b o } (some b) := fun o =>
  ⟨rfl, rfl, rfl, by simp, fun k _ hne => (heap_set hb).2 k (fun e => hne (by rw [e]))⟩
 rcases hK.find w hkl es.toList hks with ⟨q1, q2⟩ | ⟨j, e, q1, q2, q3⟩
 ·refine ⟨_, by simp [Instr.mapUpdate, run_underlying hT, MapKept.run_getObj_map hb, hK.check w es.isEmpty hkl, hK.check w false hkl, q1, MapKept.run_setObj_map _ hb, Result.andThen]; rfl, ?_, hgr _⟩
  refine ⟨_, _, (heap_set hb).1, stamped_push hs q2, ?_, ?_⟩
  ·intro x hx
   simp only [Array.toList_push, List.mem_append, List.mem_singleton] at hx
   rcases hx with hx | rfl
   ·obtain ⟨a', e1, e2, ho⟩ := h1 x hx
    refine ⟨a', e1, ?_, ho⟩
    simp only []
    rw [if_neg (fun e => q2 x hx (by rw [e1, e])), e2]
   ·exact ⟨a, rfl, by simp, ha⟩
  ·intro a' v' hf
   by_cases e : a' = a
   ·subst e; exact ⟨_, by simp; exact .inr rfl, rfl⟩
   ·simp only [if_neg e] at hf
    obtain ⟨x, hx, e⟩ := h2 a' v' hf
    exact ⟨x, by simp [Array.mem_toList_iff.1 hx], e⟩
 ·have hj : es[j]? = some e := by simpa using q2
  have hkeyq : ∀ e', es[j]? = some e' → ({ e' with key := enc a, val := v } : MapEntry).key = e'.key := fun e' he' => by rw [hj] at he'; cases he'; exact q3.symm
  refine ⟨_, by simp [Instr.mapUpdate, run_underlying hT, MapKept.run_getObj_map hb, hK.check w es.isEmpty hkl, hK.check w false hkl, q1, hj, q3, hK.stays w hkl, MapKept.run_setObj_map _ hb, Result.andThen]; rfl, ?_, hgr _⟩
  refine ⟨_, _, (heap_set hb).1, stamped_modify hs _ _ (fun _ _ => rfl) (fun e' _ he' => hkeyq e' he'), ?_, ?_⟩
  ·intro x hx
   obtain ⟨i, hi⟩ := List.mem_iff_getElem?.1 hx
   rw [Array.getElem?_toList, Array.getElem?_modify] at hi
   by_cases e1 : j = i
   ·subst e1
    rw [if_pos rfl, hj] at hi
    simp at hi
    subst hi
    exact ⟨a, rfl, by simp, ha⟩
   ·rw [if_neg e1] at hi
    have hx' : x ∈ es.toList := List.mem_iff_getElem?.2 ⟨i, by simpa using hi⟩
    obtain ⟨a', k1, k2, ho⟩ := h1 x hx'
    refine ⟨a', k1, ?_, ho⟩
    have hne : a' ≠ a := by
     intro e2
     have hp := ((stamped_iff es clock).1 hs).2.2
     rw [List.pairwise_iff_getElem] at hp
     obtain ⟨l1, l2⟩ := List.getElem?_eq_some_iff.1 q2
     have hi' : es.toList[i]? = some x := by simpa using hi
     obtain ⟨l3, l4⟩ := List.getElem?_eq_some_iff.1 hi'
     rcases Nat.lt_or_ge i j with h | h
     ·exact hp i j l3 l1 h (by rw [l4, l2, k1, q3, e2])
     ·exact hp j i l1 l3 (by omega) (by rw [l4, l2, k1, q3, e2])
    simp only []
    rw [if_neg hne, k2]
  ·intro a' v' hf
   by_cases e1 : a' = a
   ·subst e1
    refine ⟨{ e with key := enc a', val := v }, List.mem_iff_getElem?.2 ⟨j, ?_⟩, rfl⟩
    rw [Array.getElem?_toList, Array.getElem?_modify, if_pos rfl, hj]; rfl
   ·simp only [if_neg e1] at hf
    obtain ⟨x, hx, k1⟩ := h2 a' v' hf
    obtain ⟨i, hi⟩ := List.mem_iff_getElem?.1 hx
    have hne : j ≠ i := by
     intro e2
     subst e2
     rw [q2] at hi
     injection hi with hi
     rw [← hi, q3] at k1
     exact e1 (hinj _ _ k1).symm
    exact ⟨x, List.mem_iff_getElem?.2 ⟨i, by rw [Array.getElem?_toList, Array.getElem?_modify, if_neg hne]; simpa using hi⟩, k1⟩

/-- 'm[k] = v' at the operation. -/
theorem wpList_upd {ops : Array Oper} {rest : List Oper} {o : Oper} {act : Act} {Q : Exit → Act → World → Prop} (hg : o.guard = none) (m x y : Operand) (hop : o.op = Op.mapUpdate T m x y)
  (hT : P.underlying T = some (.map K E)) (hK : Go.Maps.Keyed P K) (hinj : ∀ a a', enc a = enc a' → a = a') (hkey : ∀ a, ok a → ∃ l, keyOf P K (enc a) = some l) (h : MapE enc ok w b f) (a : α) (ha : ok a) (v : Value)
  (hm : act.eval m = .map (some b)) (hx : act.eval x = enc a) (hy : act.eval y = v)
  (hK2 : ∀ w', MapE enc ok w' b (fun k => if k = a then some v else f k) → w.grownBy w' (some b) → wpList P ops Q rest (act.put o.dst undef) w') :
  wpList P ops Q (o :: rest) act w := by
 refine wpList_plain hg fun K' hK' => ?_
 obtain ⟨w', hrun, h1, h2⟩ := run_update hT hK hinj hkey h a ha v
 unfold Oper.wp
 simp [execOp, hop, hm, hx, hy, hrun, Result.andThen]
 exact hK' _ _ (hK2 w' h1 h2)
end
end Go.Proofs.MapG

/- What anything that is worked out asks for: plain Lean. -/
namespace Go.Proofs.YtbdciibbgiphcaaDoor.V
set_option linter.unusedVariables false
set_option linter.unusedSimpArgs false
set_option linter.unusedSectionVars false
open Go.RowKit Go.Proofs.YtbdciibbgiphcaaDoorW.PrintWords Go.Proofs.YtbdciibbgiphcaaDoorW.PrintLast Go.Proofs.YtbdciibbgiphcaaDoorW.PrintMore
abbrev Rf := ByteArray × Int
instance decRf : DecidableEq Rf := fun a b => decidable_of_iff (a.1.data = b.1.data ∧ a.2 = b.2) ⟨fun h => Prod.ext (ByteArray.ext h.1) h.2, fun h => by subst h; exact ⟨rfl, rfl⟩⟩
def inR (r : Rf) (l : List Rf) : Bool := l.any fun y => decide (y = r)
def addR (r : Rf) (l : List Rf) : List Rf := if inR r l = true then l else l ++ [r]
mutual
def go1 : S25 → Int → List Rf → List Rf
 | ⟨o, n, s, xs⟩, ago, l => goL xs (if o = 19 then wrap64 (ago + 1) else ago) (if o = 3 then addR (s, ago) l else l)
def goL : List S25 → Int → List Rf → List Rf
 | [], _, l => l
 | x :: r, ago, l => goL r ago (go1 x ago l)
end
theorem goL_append : ∀ (a b : List S25) (ago : Int) (l : List Rf), goL (a ++ b) ago l = goL b ago (goL a ago l)
 | [], b, ago, l => by simp [goL]
 | x :: a, b, ago, l => by simp only [List.cons_append, goL]; exact goL_append a b ago _
/-- how many parts there are. -/
inductive Nodes : S25 → Nat → Prop
 | mk (o n : Int) (s : ByteArray) (xs : List S25) (ns : List Nat) : ns.length = xs.length → (∀ (i : Nat) (y : S25) (m : Nat), xs[i]? = some y → ns[i]? = some m → Nodes y m) → Nodes ⟨o, n, s, xs⟩ (1 + ns.sum)
def encR (r : Rf) : Value := .agg #[.string r.1, .int .i64 r.2]
def okR (r : Rf) : Prop := r.1.size ≤ maxLen ∧ -9223372036854775808 ≤ r.2 ∧ r.2 ≤ 9223372036854775807
theorem encR_inj (a b : Rf) (h : encR a = encR b) : a = b := by
 unfold encR at h
 injection h with h
 have h1 := congrArg (fun l : Array Value => l[0]?) h
 have h2 := congrArg (fun l : Array Value => l[1]?) h
 simp at h1 h2
 exact Prod.ext h1 h2
theorem laidOutT : laidOutB Tryd.prog = true := by kernel_rfl
theorem keyed51 : Go.Maps.Keyed Tryd.prog 51 := Go.Maps.Keyed.of_law (Go.deep_law_laid (m := 2) laidOutT (by decide) (of_decide_eq_true (by kernel_rfl)) (by kernel_rfl) (by kernel_rfl))
theorem wf64 {n : Int} (h0 : -9223372036854775808 ≤ n) (h1 : n ≤ 9223372036854775807) : (Lit.int .i64 n).wf = true := by
 simp [Lit.wf, IntKind.min, IntKind.max, IntKind.bits, IntKind.signed]
 omega
theorem lits51 (m : Nat) (r : Rf) (h : okR r) : Tryd.prog.keyLits (m + 2) 51 (encR r).cells.toList = some [.string r.1.data.toList, .int .i64 r.2] := by
 have c51 : Tryd.prog.cellsOf 51 = 2 := by kernel_rfl
 have c9 : Tryd.prog.cellsOf 9 = 1 := by kernel_rfl
 have c3 : Tryd.prog.cellsOf 3 = 1 := by kernel_rfl
 have hw := wf64 h.2.1 h.2.2
 have h1 := h.1
 simp [Program.keyLits, Tryd.underlying51, Tryd.underlying9, Tryd.underlying3, encR, Value.cells, c51, c9, c3, hw, h1]
theorem key51 (r : Rf) (h : okR r) : ∃ l, keyOf Tryd.prog 51 (encR r) = some l := by
 have hf : (Tryd.prog.keyType 51 && (encR r).formed Tryd.prog 51) = true := by kernel_rfl
 obtain ⟨m, hm⟩ : ∃ m, Tryd.prog.types.size + 1 = m + 2 := ⟨Tryd.prog.types.size - 1, by have : 2 ≤ Tryd.prog.types.size := of_decide_eq_true (by kernel_rfl); omega⟩
 refine ⟨.string (keyBytes [.string r.1.data.toList, .int .i64 r.2]), ?_⟩
 unfold keyOf
 rw [Tryd.underlying51]
 simp only []
 rw [if_pos hf, hm, lits51 m r h]
 rfl
end Go.Proofs.YtbdciibbgiphcaaDoor.V

/- exprs' reader: an atom. -/
namespace Go.Proofs.YtbdciibbgiphcaaDoor.V
set_option linter.unusedVariables false
set_option linter.unusedSimpArgs false
set_option linter.unusedSectionVars false
open Go.RowKit Go.Proofs.YtbdciibbgiphcaaDoorW.PrintWords Go.Proofs.YtbdciibbgiphcaaDoorW.PrintLast Go.Proofs.YtbdciibbgiphcaaDoorW.PrintMore
variable {T : List S45}
/-- kinds of tokens are bytes. -/
def TokOk (T : List S45) : Prop := ∀ t ∈ T, 0 ≤ t.f0 ∧ t.f0 ≤ 255
def PV (T : List S45) (w : World) : Prop := VarOk w ∧ TokOk T
theorem keyed5 : Go.Maps.Keyed Tryd.prog 5 := Go.Maps.int_keyed Tryd.underlying5
def encB (n : Int) : Value := .int .u8 n
def okB (n : Int) : Prop := 0 ≤ n ∧ n ≤ 255
theorem encB_inj (a b : Int) (h : encB a = encB b) : a = b := by
 unfold encB at h
 injection h
theorem key5 (n : Int) (h : okB n) : ∃ l, keyOf Tryd.prog 5 (encB n) = some l := by
 have hw : (Lit.int .u8 n).wf = true := by
  simp [Lit.wf, IntKind.min, IntKind.max, IntKind.bits, IntKind.signed]
  obtain ⟨h0, h1⟩ := h
  omega
 have hu := Tryd.underlying5
 refine ⟨.int .u8 n, ?_⟩
 unfold keyOf encB
 rw [hu]
 simp [mapKey, hu, hw]
theorem zero117 (w : World) : (zeroValue 117).run Tryd.prog w = .ok .nilFunc w := by kernel_rfl
theorem St.step {w0 W w : World} {g : Nat} {a : Int} (h : St w0 g T W w a) (ha : a < (T.length : Int)) : St w0 g T W (w.setCell ⟨g, 1, none⟩ (.int .i64 (a + 1))) (a + 1) :=
 ⟨h.I.set_1 (a + 1), h.B.setCell (p := ⟨g, 1, none⟩) h.I.ge _, h.K.set_ 1 _, by have := h.a0; omega, by omega⟩
theorem F_none (W : World) (ok : Nat → Prop) (A : Option Addr) : Kd.F k25 W ok A ([] : List S25).length [] := fun W' _ => ⟨rfl, by simp, fun h => absurd h (Nat.lt_irrefl 0)⟩
theorem word_is (s : ByteArray) (a : Int) : ∃ (x : S25) (e : Int), exprs_ofWord.f s = some (x.f0, x.f1, x.f2, x.f3, e) ∧ x.f3 = [] ∧
  (if s.toList = trueS.toList then some (PR.ok ⟨2, 1, ⟨#[]⟩, []⟩ (a + 1)) else if s.toList = falseS.toList then some (.ok ⟨2, 0, ⟨#[]⟩, []⟩ (a + 1)) else if nameOk s = true then some (.ok ⟨3, 0, s, []⟩ (a + 1)) else some (.bad 5 a)) = (if e = 0 then some (.ok x (a + 1)) else some (.bad e a)) := by
 have et : trueS.toList = ([116, 114, 117, 101] : List UInt8) := by kernel_rfl
 have ef : falseS.toList = ([102, 97, 108, 115, 101] : List UInt8) := by kernel_rfl
 unfold exprs_ofWord.f
 rw [et, ef]
 by_cases h1 : s.toList = ([116, 114, 117, 101] : List UInt8)
 ·exact ⟨⟨2, 1, ⟨#[]⟩, []⟩, 0, by rw [if_pos h1], rfl, by rw [if_pos h1]; rfl⟩
 ·by_cases h2 : s.toList = ([102, 97, 108, 115, 101] : List UInt8)
  ·exact ⟨⟨2, 0, ⟨#[]⟩, []⟩, 0, by rw [if_neg h1, if_pos h2], rfl, by rw [if_neg h1, if_pos h2]; rfl⟩
  ·cases h3 : nameOk s with
   | true => exact ⟨⟨3, 0, s, []⟩, 0, by rw [if_neg h1, if_neg h2]; simp [tokens_Name.f, h3], rfl, by rw [if_neg h1, if_neg h2]; simp⟩
   | false => exact ⟨⟨0, 0, ⟨#[]⟩, []⟩, 5, by rw [if_neg h1, if_neg h2]; simp [tokens_Name.f, h3], rfl, by rw [if_neg h1, if_neg h2]; simp⟩
def fn83 : Value := .func (.func 83) #[] #[]
def fn84 : Value := .func (.func 84) #[] #[]
set_option maxHeartbeats 8000000 in
set_option maxRecDepth 100000 in
theorem pf_atom  (a : Int) (r : PR) (g : Nat) (w0 W : World) (hS : St w0 g T W W a) (hv : PV T w0) (hn : pfx T a = none) (hop : atK T a 3 opS = false) (H : atomP nameOk tokens_Number.f T a = some r) :
  Calls Tryd.prog 67 #[.pointer (some ⟨g, 0, none⟩)] W (RdPost w0 g T W r) := by
 have hgl := hS.I.lt
 have hww := hS.B.size
 have HS0 := Lib.hid (hS.alloc (.cells #[.int .u8 0, .int .i64 0, .string ⟨#[]⟩, .slice none 0 0] 25))
 have hZ0 := Lib.hid (heap_alloc_new W (.cells #[.int .u8 0, .int .i64 0, .string ⟨#[]⟩, .slice none 0 0] 25))
 have HV := Lib.hid hv
 have hgz : W.heap.size ≠ g := by omega
 have HN := Lib.hid hn; have HH := Lib.hid H; have HOP := Lib.hid hop
 clear hn H hop
 clear hv hS
 go_enter Tryd.func67, Tryd.ntmps67
 go_wp2_with fail
 refine (exprs_prefixes.calls prefL _ prefixes_f).mono ?_
 rintro e wl ⟨v0, rfl, hR, hbl⟩
 have hkl := KeepBut.of_below hbl g none
 have hIl : IsS75 w0 wl g T a := HS0.out.I.below hbl
 obtain ⟨Ap, cp, rfl, hrow⟩ := row83 hIl hR
 have hl3 : prefL.length = 3 := rfl
 rw [hl3]
 have HROW := Lib.hid hrow
 have HSL : Hid (St w0 g T W wl a) := Lib.hid (HS0.out.trans ⟨hIl, HS0.out.B.trans (hbl.mono HS0.out.B.size), hkl, HS0.out.a0, HS0.out.a1⟩)
 have HZL := Lib.hid (kb_blk hkl hZ0.out (by omega))
 clear hrow hR hbl hkl hIl
 go_wp2_with fail
 go_loopw [14] (fun v14 wr => ∃ i : Nat, v14 = .int .i64 i ∧ i ≤ 3 ∧ Hid (St w0 g T wl wr a)) (fun v14 _ => 3 - (intOf v14).toNat)
 case atStart => exact ⟨0, rfl, Nat.zero_le _, Lib.hid HSL.out.self⟩
 case round =>
  obtain ⟨i, rfl, hi, HSR⟩ := hrel
  by_cases hlt : i < 3
  ·obtain ⟨fm, hfm⟩ : ∃ fm, prefL[i]? = some fm := ⟨_, List.getElem?_eq_getElem (by rw [hl3]; exact hlt)⟩
   obtain ⟨ad, hA, q0, q1, q2, q3⟩ := HROW.out wr HSR.out.K i fm hfm
   subst hA
   have hat := pref_off HN.out (List.mem_of_getElem? hfm)
   have HAT := Lib.hid hat
   clear hfm hat
   go_wp2_with fail
   refine (takes_walk g T a fm.f2 fm.f3 w0 _ (HSR.out.alloc _).self).mono ?_
   rintro e w2 ⟨rfl, hs2⟩
   rw [HAT.out] at hs2 ⊢
   rw [if_neg (by simp)] at hs2
   have HS2 := Lib.hid hs2
   clear hs2
   go_wp2_with fail
   exact ⟨⟨i + 1, by go_num, by omega, Lib.hid ((HSR.out.alloc _).trans HS2.out)⟩, by simp [intOf]; omega⟩
  ·obtain rfl : i = 3 := by omega
   have HSX := Lib.hid (HSL.out.trans HSR.out)
   have HZX := Lib.hid (kb_blk HSR.out.K HZL.out hgz)
   have hzx : W.heap.size < wr.heap.size := blk_lt HZX.out
   clear HROW
   go_wp2_with fail
   refine (takes_walk g T a 3 opS w0 _ HSX.out.self).mono ?_
   rintro e w3 ⟨rfl, hs3⟩
   rw [HOP.out] at hs3 ⊢
   rw [if_neg (by simp)] at hs3
   have HS3 := Lib.hid (HSX.out.trans hs3)
   have HZ3 := Lib.hid (kb_blk hs3.K HZX.out hgz)
   have hz3 : W.heap.size < w3.heap.size := blk_lt HZ3.out
   have hgl3 : g < w3.heap.size := HS3.out.I.lt
   obtain ⟨A0, c0, hgb, hg0, hC0⟩ := HS3.out.I
   have HGB := Lib.hid hgb; have HC0 := Lib.hid hC0
   have l0 := cellS75_0 hgb
   have l1 := cellS75_1 hgb
   clear hs3 HSX HZX hgb hC0
   go_wp2_with fail
   go_still_tail 11, (by kernel_rfl)
   change wpList _ _ _ _ _ w3.drew
   have hmm := @run_makeMap Tryd.prog
   have HS4 := Lib.hid HS3.out.drew
   have HZ4 : Hid (w3.drew.heap[W.heap.size]? = some (.cells #[.int .u8 0, .int .i64 0, .string ⟨#[]⟩, .slice none 0 0] 25 (0, 0))) := HZ3
   have HG4 : Hid (w3.drew.heap[g]? = some (.cells #[.slice A0 T.length c0, .int .i64 a] 75 (0, 0))) := HGB
   have l4 := cellS75_0 HG4.out
   have l5 := cellS75_1 HG4.out
   have hz4 : W.heap.size < w3.drew.heap.size := hz3
   have hgl4 : g < w3.drew.heap.size := hgl3
   clear HS3 HZ3 HGB l0 l1 hz3 hgl3
   generalize w3.drew = w4 at *
   by_cases hat : a < (T.length : Int)
   ·have g5 : decide (a < (T.length : Int)) = true := decide_eq_true hat
    go_wp2_with fail
    refine (must_ok g w4).mono ?_
    rintro e w5 ⟨rfl, rfl⟩
    obtain ⟨w6, hrun6, hm6, hg6⟩ := MapG.run_update Tryd.underlying118 keyed5 encB_inj key5 (MapG.MapE.made (enc := encB) (ok := okB) w5) 1 ⟨by omega, by omega⟩ fn83
    obtain ⟨w7, hrun7, hm7, hg7⟩ := MapG.run_update Tryd.underlying118 keyed5 encB_inj key5 hm6 2 ⟨by omega, by omega⟩ fn84
    replace hrun6 : (Instr.mapUpdate 118 (.map (some w5.heap.size)) (.int .u8 1) (.func (.func 83) #[] #[])).run Tryd.prog (w5.alloc (.map #[] 0)) = .ok () w6 := hrun6
    replace hrun7 : (Instr.mapUpdate 118 (.map (some w5.heap.size)) (.int .u8 2) (.func (.func 84) #[] #[])).run Tryd.prog w6 = .ok () w7 := hrun7
    have HM7 := Lib.hid hm7
    have hs6 := hg6.size
    rw [World.size_alloc] at hs6
    have hs7 := hg7.size
    have hB57 : Below w5.heap.size w5 w7 := by
     refine ⟨(hg7.os.trans hg6.os), (hg7.tape.trans hg6.tape), (hg7.output.trans hg6.output), by omega, fun k hk => ?_⟩
     rw [hg7.block k (by omega) (fun e => by have := Option.some.inj e; omega), hg6.block k (by rw [World.size_alloc]; omega) (fun e => by have := Option.some.inj e; omega)]
     exact Below.heap_alloc w5 _ k hk
    have HS7 : Hid (St w0 g T W w7 a) := Lib.hid (HS4.out.trans ⟨HS4.out.I.below hB57, HS4.out.B.trans (hB57.mono HS4.out.B.size), KeepBut.of_below hB57 g none, HS4.out.a0, HS4.out.a1⟩)
    have HZ7 := Lib.hid ((hB57.block _ hz4).trans HZ4.out)
    have HG7 := Lib.hid ((hB57.block _ hgl4).trans HG4.out)
    have l6 := cellS75_0 HG7.out
    have l7 := cellS75_1 HG7.out
    obtain ⟨ad, hA, q0, q1, q2⟩ := at_T45 (Kd.C_below HC0.out HS7.out.B) a HS7.out.a0 hat
    subst hA
    clear hm6 hm7 hg6 hg7 hB57
    generalize hmap : w5.heap.size = mp at *
    have hadlt := cell_lt q0
    rw [add_block] at hadlt
    go_wp2_with fail
    have ha0 : (0 : Int) ≤ a := HS7.out.a0
    have hbb : 0 ≤ a ∧ a < (T.length : Int) := ⟨ha0, hat⟩
    have nn0 := World.new_ne w7.drew _ l6
    have nn2 := World.new_ne w7.drew _ q0
    go_region_held2 (fun w' => w'.cell? ⟨g, 0, none⟩ = some (.slice (some ad) T.length c0) ∧ w'.cell? ⟨g, 1, none⟩ = some (.int .i64 a) ∧ w'.cell? (ad.add (a.toNat * 3)) = some (.int .u8 (rd_T45 T a).f0) ∧ w'.cell? ⟨(ad.add (a.toNat * 3)).block, (ad.add (a.toNat * 3)).off + 1, none⟩ = some (.string (rd_T45 T a).f1) ∧ w'.cell? ⟨(ad.add (a.toNat * 3)).block, (ad.add (a.toNat * 3)).off + 2, none⟩ = some (.int .i64 (rd_T45 T a).f2)) (go_keep) (fail)
    have hq := HH.out
    unfold atomP at hq
    rw [if_pos hat] at hq
    have hmem : rd_T45 T a ∈ T := by
     unfold rd_T45
     rw [List.getD_eq_getElem?_getD, List.getElem?_eq_getElem (by omega)]
     exact List.getElem_mem _
    have hkd := HV.out.2 _ hmem
    have HS8 := Lib.hid (HS7.out.alloc (.cells #[.int .u8 (rd_T45 T a).f0, .string (rd_T45 T a).f1, .int .i64 (rd_T45 T a).f2] 45)).drew
    have HZ8 : Hid ((w7.alloc (.cells #[.int .u8 (rd_T45 T a).f0, .string (rd_T45 T a).f1, .int .i64 (rd_T45 T a).f2] 45)).drew.heap[W.heap.size]? = some (.cells #[.int .u8 0, .int .i64 0, .string ⟨#[]⟩, .slice none 0 0] 25 (0, 0))) := Lib.hid (blk_alloc HZ7.out _)
    have HG8 : Hid ((w7.alloc (.cells #[.int .u8 (rd_T45 T a).f0, .string (rd_T45 T a).f1, .int .i64 (rd_T45 T a).f2] 45)).drew.heap[g]? = some (.cells #[.slice (some ad) T.length c0, .int .i64 a] 75 (0, 0))) := Lib.hid (blk_alloc HG7.out _)
    have HT8 : Hid ((w7.alloc (.cells #[.int .u8 (rd_T45 T a).f0, .string (rd_T45 T a).f1, .int .i64 (rd_T45 T a).f2] 45)).drew.heap[w7.heap.size]? = some (.cells #[.int .u8 (rd_T45 T a).f0, .string (rd_T45 T a).f1, .int .i64 (rd_T45 T a).f2] 45 (0, 0))) := Lib.hid (heap_alloc_new w7 _)
    have HM8 : Hid (MapG.MapE encB okB (w7.alloc (.cells #[.int .u8 (rd_T45 T a).f0, .string (rd_T45 T a).f1, .int .i64 (rd_T45 T a).f2] 45)).drew mp fun m => if m = 2 then some fn84 else if m = 1 then some fn83 else none) := Lib.hid (HM7.out.move (Below.heap_alloc w7 _ mp HM7.out.lt))
    have hlk := MapG.run_lookup Tryd.underlying118 keyed5 (zero117 _) encB_inj key5 HM8.out (rd_T45 T a).f0 hkd true
    have hz8 : W.heap.size < (w7.alloc (.cells #[.int .u8 (rd_T45 T a).f0, .string (rd_T45 T a).f1, .int .i64 (rd_T45 T a).f2] 45)).drew.heap.size := blk_lt HZ8.out
    have hgl8 : g < (w7.alloc (.cells #[.int .u8 (rd_T45 T a).f0, .string (rd_T45 T a).f1, .int .i64 (rd_T45 T a).f2] 45)).drew.heap.size := blk_lt HG8.out
    have HV8 : Hid (VarOk (w7.alloc (.cells #[.int .u8 (rd_T45 T a).f0, .string (rd_T45 T a).f1, .int .i64 (rd_T45 T a).f2] 45)).drew) := Lib.hid (HV.out.1.step HS8.out.B)
    generalize (w7.alloc (.cells #[.int .u8 (rd_T45 T a).f0, .string (rd_T45 T a).f1, .int .i64 (rd_T45 T a).f2] 45)).drew = w8 at *
    have m0 := blk_cell HT8.out 0; have m1 := blk_cell HT8.out 1
    dsimp at m0 m1
    clear q0 q1 q2 HS7 HZ7 HG7 HM7 hmem HH nn0 nn2 l4 l5 l6 l7
    generalize (rd_T45 T a).f0 = kd at *
    generalize (rd_T45 T a).f1 = tx at *
    generalize (rd_T45 T a).f2 = px at *
    by_cases k1 : kd = 1
    ·subst k1
     rw [if_pos rfl] at hq
     replace hlk : (Instr.lookup 118 (.map (some mp)) (.int .u8 1) true).run Tryd.prog w8 = .ok (.tuple #[.func (.func 83) #[] #[], .bool true]) w8 := hlk
     obtain ⟨x, ee, hof, hx3, hqe⟩ := word_is tx a
     rw [hqe] at hq
     have HX3 := Lib.hid hx3
     clear hqe hx3
     go_wp2_with fail
     refine (must_ok g w8).mono ?_
     rintro e w10 ⟨rfl, rfl⟩
     go_wp2_with fail
     refine (exprs_ofWord.calls tx _ _ _ _ _ _ hof).mono ?_
     rintro e2 w9 ⟨v3, rfl, hR9, hb9⟩
     obtain ⟨A9, c9, rfl, hl9, _⟩ := Kd.R_reads hR9
     have HS9 : Hid (St w0 g T W w9 a) := Lib.hid (HS8.out.trans ⟨HS8.out.I.below hb9, HS8.out.B.trans (hb9.mono HS8.out.B.size), KeepBut.of_below hb9 g none, HS8.out.a0, HS8.out.a1⟩)
     have HZ9 := Lib.hid ((hb9.block _ hz8).trans HZ8.out)
     have HG9 := Lib.hid ((hb9.block _ hgl8).trans HG8.out)
     have hz9 : W.heap.size < w9.heap.size := blk_lt HZ9.out
     have hgl9 : g < w9.heap.size := blk_lt HG9.out
     clear hR9 hb9 HS8 HZ8 HG8 HM8 HT8 m0 m1 hlk
     by_cases he : ee = 0
     ·subst he
      have g7 : ((0 : Int) != 0) = false := rfl
      rw [if_pos rfl] at hq
      obtain rfl := Option.some.inj hq
      have hw1 : wrap64 (a + 1) = a + 1 := w64 (by omega) (by have := HS9.out.I.max; omega)
      have esz : (w9.setCell ⟨g, 1, none⟩ (.int .i64 (a + 1))).heap.size = w9.heap.size := by simp [World.setCell]
      have n0 := fun o => cellS75_1 (blk_alloc HG9.out o)
      have n1 := fun o => blk_frozen (blk_alloc HG9.out o) 1
      have HXA := Lib.hid (heap_alloc_new (w9.setCell ⟨g, 1, none⟩ (.int .i64 (a + 1))) (.cells #[.int .u8 x.f0, .int .i64 x.f1, .string x.f2, .slice A9 x.f3.length c9] 25))
      rw [esz] at HXA
      have HZA := Lib.hid ((Below.heap_setCell w9 ⟨g, 1, none⟩ (.int .i64 (a + 1)) W.heap.size hgz).trans HZ9.out)
      have xu0 := blk_cell HXA.out 0; have xu1 := blk_cell HXA.out 1; have xu2 := blk_cell HXA.out 2; have xu3 := blk_cell HXA.out 3
      have s0 := blk_cell HZ9.out 0; have s1 := blk_cell HZ9.out 1; have s2 := blk_cell HZ9.out 2; have s3 := blk_cell HZ9.out 3
      have t0 := blk_frozen HZ9.out 0; have t1 := blk_frozen HZ9.out 1; have t2 := blk_frozen HZ9.out 2; have t3 := blk_frozen HZ9.out 3
      dsimp at xu0 xu1 xu2 xu3 s0 s1 s2 s3
      go_wp2_with fail
      refine bodyPost_ret (results_c1 rfl _ _ W.heap.size _ _ _ _ rfl (blk_alloc (put4 HZA.out _ _ _ _) _)) rfl ⟨((HS9.out.step hat).set4 hgz (Nat.le_refl _) hww _ _ _ _).alloc _, A9, c9, rfl, hl9, ?_⟩
      rw [HX3.out]
      exact F_none _ _ _
     ·have g7 : (ee != 0) = true := by simpa using he
      rw [if_neg he] at hq
      obtain rfl := Option.some.inj hq
      have HSA := Lib.hid (HS9.out.alloc (.cells #[.int .u8 x.f0, .int .i64 x.f1, .string x.f2, .slice A9 x.f3.length c9] 25))
      go_wp2_with fail
      exact ⟨rfl, HSA.out, rfl⟩
    ·by_cases k2 : kd = 2
     ·subst k2
      rw [if_neg (by omega), if_pos rfl] at hq
      replace hlk : (Instr.lookup 118 (.map (some mp)) (.int .u8 2) true).run Tryd.prog w8 = .ok (.tuple #[.func (.func 84) #[] #[], .bool true]) w8 := hlk
      obtain ⟨x, ee, hof, hx3, hqe⟩ : ∃ (x : S25) (ee : Int), exprs_ofNumber.f tx = some (x.f0, x.f1, x.f2, x.f3, ee) ∧ x.f3 = [] ∧ (if ee = 0 then some (PR.ok x (a + 1)) else some (.bad ee a)) = some r := by
       cases hnum : tokens_Number.f tx with
       | none => rw [hnum] at hq; cases hq
       | some p =>
        obtain ⟨n, ee⟩ := p
        rw [hnum] at hq
        exact ⟨⟨1, n, ⟨#[]⟩, []⟩, ee, by unfold exprs_ofNumber.f; rw [hnum]; rfl, rfl, hq⟩
      replace hq := hqe
      have HX3 := Lib.hid hx3
      clear hqe hx3
      go_wp2_with fail
      refine (must_ok g w8).mono ?_
      rintro e w10 ⟨rfl, rfl⟩
      go_wp2_with fail
      refine (exprs_ofNumber.calls tx _ _ _ _ _ _ HV8.out hof).mono ?_
      rintro e2 w9 ⟨v3, rfl, hR9, hb9⟩
      obtain ⟨A9, c9, rfl, hl9, _⟩ := Kd.R_reads hR9
      have HS9 : Hid (St w0 g T W w9 a) := Lib.hid (HS8.out.trans ⟨HS8.out.I.below hb9, HS8.out.B.trans (hb9.mono HS8.out.B.size), KeepBut.of_below hb9 g none, HS8.out.a0, HS8.out.a1⟩)
      have HZ9 := Lib.hid ((hb9.block _ hz8).trans HZ8.out)
      have HG9 := Lib.hid ((hb9.block _ hgl8).trans HG8.out)
      have hz9 : W.heap.size < w9.heap.size := blk_lt HZ9.out
      have hgl9 : g < w9.heap.size := blk_lt HG9.out
      clear hR9 hb9 HS8 HZ8 HG8 HM8 HT8 m0 m1 hlk
      by_cases he : ee = 0
      ·subst he
       have g7 : ((0 : Int) != 0) = false := rfl
       rw [if_pos rfl] at hq
       obtain rfl := Option.some.inj hq
       have hw1 : wrap64 (a + 1) = a + 1 := w64 (by omega) (by have := HS9.out.I.max; omega)
       have esz : (w9.setCell ⟨g, 1, none⟩ (.int .i64 (a + 1))).heap.size = w9.heap.size := by simp [World.setCell]
       have n0 := fun o => cellS75_1 (blk_alloc HG9.out o)
       have n1 := fun o => blk_frozen (blk_alloc HG9.out o) 1
       have HXA := Lib.hid (heap_alloc_new (w9.setCell ⟨g, 1, none⟩ (.int .i64 (a + 1))) (.cells #[.int .u8 x.f0, .int .i64 x.f1, .string x.f2, .slice A9 x.f3.length c9] 25))
       rw [esz] at HXA
       have HZA := Lib.hid ((Below.heap_setCell w9 ⟨g, 1, none⟩ (.int .i64 (a + 1)) W.heap.size hgz).trans HZ9.out)
       have xu0 := blk_cell HXA.out 0; have xu1 := blk_cell HXA.out 1; have xu2 := blk_cell HXA.out 2; have xu3 := blk_cell HXA.out 3
       have s0 := blk_cell HZ9.out 0; have s1 := blk_cell HZ9.out 1; have s2 := blk_cell HZ9.out 2; have s3 := blk_cell HZ9.out 3
       have t0 := blk_frozen HZ9.out 0; have t1 := blk_frozen HZ9.out 1; have t2 := blk_frozen HZ9.out 2; have t3 := blk_frozen HZ9.out 3
       dsimp at xu0 xu1 xu2 xu3 s0 s1 s2 s3
       go_wp2_with fail
       refine bodyPost_ret (results_c1 rfl _ _ W.heap.size _ _ _ _ rfl (blk_alloc (put4 HZA.out _ _ _ _) _)) rfl ⟨((HS9.out.step hat).set4 hgz (Nat.le_refl _) hww _ _ _ _).alloc _, A9, c9, rfl, hl9, ?_⟩
       rw [HX3.out]
       exact F_none _ _ _
      ·have g7 : (ee != 0) = true := by simpa using he
       rw [if_neg he] at hq
       obtain rfl := Option.some.inj hq
       have HSA := Lib.hid (HS9.out.alloc (.cells #[.int .u8 x.f0, .int .i64 x.f1, .string x.f2, .slice A9 x.f3.length c9] 25))
       go_wp2_with fail
       exact ⟨rfl, HSA.out, rfl⟩
     ·rw [if_neg k1, if_neg k2] at hq
      obtain rfl := Option.some.inj hq
      simp only [if_neg k1, if_neg k2, Option.getD_none, Option.isSome_none] at hlk
      replace hlk : (Instr.lookup 118 (.map (some mp)) (.int .u8 kd) true).run Tryd.prog w8 = .ok (.tuple #[.nilFunc, .bool false]) w8 := hlk
      go_wp2_with fail
      refine (must_bad g w8).mono ?_
      rintro e w10 ⟨rfl, rfl⟩
      exact ⟨rfl, HS8.out, rfl⟩
   ·have g5 : decide (a < (T.length : Int)) = false := decide_eq_false hat
    go_wp2_with fail
    refine (must_bad g w4).mono ?_
    rintro e w5 ⟨rfl, rfl⟩
    have hq := HH.out
    unfold atomP at hq
    rw [if_neg (by omega)] at hq
    obtain rfl := Option.some.inj hq
    exact ⟨rfl, HS4.out, rfl⟩
end Go.Proofs.YtbdciibbgiphcaaDoor.V

