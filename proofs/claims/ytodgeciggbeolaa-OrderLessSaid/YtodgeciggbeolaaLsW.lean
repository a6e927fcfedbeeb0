/- OrderLess' walk. -/
import Derived.Test.YtodgeciggbeolaaRgW
import Derived.Test.YtodgeciggbeolaaPuL
namespace Go.Proofs.Ytodgeciggbeolaa.S
set_option linter.unusedVariables false
set_option linter.unusedSimpArgs false
set_option linter.unusedSectionVars false
open Go.RowKit Go.Proofs.YtodgeciggbeolaaW.PrintWords Go.Proofs.YtodgeciggbeolaaW.PrintLast Go.Proofs.YtodgeciggbeolaaW.PrintMore
open Go.Proofs.Ord hiding W

/-- lists of the call's own: the outer row's values, and what each leads to. -/
def Tw (B : Nat) (v : Value) (l : List (List Int)) (wr : World) : Prop :=
  ∃ vs, wr.ownsRow B 25 1 v l.length vs ∧ ∀ j u, vs[j]? = some u → ∃ ok, Kd.R (Kd.int .i64) 3 wr B ok u (at_ l j)

section
variable {B g n c K : Nat} {v u : Value} {l : List (List Int)} {xs : List Int} {wr w1 : World}
theorem Tw.of_S {ok : Nat → Prop} (h : Kd.S (Kd.slice 3 (Kd.int .i64)) 25 wr B ok v l) : Tw B v l wr := by
  obtain ⟨h0, inner, ho, hr⟩ := Kd.S_R h
  refine ⟨inner, ho, fun j u hu => ?_⟩
  have hl : inner.length = l.length := by simpa [show (Kd.slice 3 (Kd.int .i64)).sz = 1 from rfl] using hr.1
  have hj : j < l.length := by rw [← hl]; exact (List.getElem?_eq_some_iff.1 hu).1
  obtain ⟨v', e, hR⟩ := hr.2 j l[j] (List.getElem?_eq_getElem hj)
  have e1 : (Kd.slice 3 (Kd.int .i64)).sz = 1 := rfl
  rw [e1, Nat.mul_one] at e
  have e2 : (inner.drop j).take 1 = [u] := by
    obtain ⟨h1, h2⟩ := List.getElem?_eq_some_iff.1 hu
    rw [List.drop_eq_getElem_cons h1, h2]; rfl
  rw [e2] at e
  injection e with e
  subst e
  have : at_ l j = l[j] := by unfold at_; rw [List.getD_eq_getElem?_getD, List.getElem?_eq_getElem hj]; rfl
  rw [this]
  exact ⟨_, hR⟩
theorem Tw.below (h : Tw B v l wr) (hb : Below wr.heap.size wr w1) : Tw B v l w1 := by
  obtain ⟨vs, h1, h2⟩ := h
  refine ⟨vs, own_move h1 (fun k hk => hb.block k (own_lt h1 k hk)), fun j u hu => ?_⟩
  obtain ⟨ok, h3⟩ := h2 j u hu
  exact ⟨ok, Kd.R_below h3 hb⟩
theorem Tw.reads {A : Option Addr} (h : Tw B (.slice A n c) l wr) (hl : l.length = n) (hm : n ≤ 9223372036854775807) : Kd.C (Kd.slice 3 (Kd.int .i64)) wr A n l := by
  obtain ⟨vs, h1, h2⟩ := h
  rw [hl] at h1
  refine own_C h1 hl hm (fun j u hu => ?_)
  obtain ⟨ok, h3⟩ := h2 j u hu
  exact Kd.R_reads h3
theorem Tw.hdr (h : Tw B (.slice (some ⟨g, 0, none⟩) n c) l wr) (hn : 0 < l.length) : ∃ cells, wr.heap[g]? = some (.cells cells 25 (0, 0)) := by
  obtain ⟨vs, h1, h2⟩ := h
  rcases h1.2 with ⟨h', h3⟩ | ⟨g', cap', cur, h', hb, hh, _⟩
  · cases h'
  · injection h' with e1 e2 e3
    injection e1 with e1
    injection e1 with e1
    subst e1
    exact ⟨_, hh⟩
theorem Tw.room (h : Tw B (.slice (some ⟨g, 0, none⟩) n c) l wr) (hK : K < l.length) : ∃ cells, wr.heap[g]? = some (.cells cells 25 (0, 0)) ∧ ∃ u, wr.cell? ⟨g, K, none⟩ = some u := by
  obtain ⟨vs, h1, h2⟩ := h
  rcases h1.2 with ⟨h', h3⟩ | ⟨g', cap', cur, h', hb, hh, hn, hc, hs, ht⟩
  · cases h'
  · injection h' with e1 e2 e3
    injection e1 with e1
    injection e1 with e1
    subst e1
    have hcs : K < cur.size := by omega
    exact ⟨_, hh, cur[K], (blk_cell hh K).trans (Array.getElem?_eq_getElem hcs)⟩
theorem Tw.head (h : Tw B v l wr) (hl : 0 < l.length) : ∃ g c, v = .slice (some ⟨g, 0, none⟩) l.length c ∧ B ≤ g ∧ g < wr.heap.size := by
  obtain ⟨vs, h1, h2⟩ := h
  obtain ⟨A', c', rfl⟩ := own_slice h1
  obtain ⟨g, rfl⟩ := own_head h1 hl
  exact ⟨g, c', rfl, (h1.lt g rfl).1, (h1.lt g rfl).2⟩
theorem Tw.set (h : Tw B (.slice (some ⟨g, 0, none⟩) n c) l wr) (hn : l.length = n) (hK : K < l.length) {ok : Nat → Prop} (hu : Kd.R (Kd.int .i64) 3 wr B ok u xs) :
    Tw B (.slice (some ⟨g, 0, none⟩) n c) (l.set K xs) (wr.setCell ⟨g, K, none⟩ u) := by
  obtain ⟨cells, hh⟩ := h.hdr (by omega)
  obtain ⟨vs, h1, h2⟩ := h
  have h1' := h1
  rw [hn] at h1'
  have hs := h1'.stored K u
  refine ⟨vs.set K u, by rw [List.length_set, hn]; exact hs.1, fun j q hq => ?_⟩
  rw [List.getElem?_set] at hq
  rw [U.at_set hK]
  by_cases e : K = j
  · subst e
    rw [if_pos rfl] at hq ⊢
    split at hq
    · injection hq with hq
      subst hq
      exact ⟨ok, Kd.R_set hu hh (by decide) K u⟩
    · cases hq
  · rw [if_neg e] at hq
    rw [if_neg (fun h => e h.symm)]
    obtain ⟨ok', h3⟩ := h2 j q hq
    exact ⟨ok', Kd.R_set h3 hh (by decide) K u⟩
/-- another block of lists is written. -/
theorem Tw.other (h : Tw B (.slice (some ⟨g, 0, none⟩) n c) l wr) {g2 : Nat} {cells : Array Value} (hh : wr.heap[g2]? = some (.cells cells 25 (0, 0))) (hne : g ≠ g2) : Tw B (.slice (some ⟨g, 0, none⟩) n c) l (wr.setCell ⟨g2, K, none⟩ u) := by
  obtain ⟨vs, h1, h2⟩ := h
  refine ⟨vs, ownsRow_setCell_other h1 (by simp [Value.ownBlock]; exact fun e => hne e) u, fun j q hq => ?_⟩
  obtain ⟨ok', h3⟩ := h2 j q hq
  exact ⟨ok', Kd.R_set h3 hh (by decide) K u⟩
end

theorem twin_call (q : Nat) (A : Option Addr) (c n : Nat) (l : List (List Int)) (w : World) (hn : n = l.length) (hr : Kd.C (Kd.slice 3 (Kd.int .i64)) w A l.length l) (hc : l.length ≤ c) (hq : U.belfrylaw01_TwinLists.f q l = some l) :
    Calls Try.prog 11 #[.slice A n c] w fun e w' => ∃ v, e = .returned v ∧ Tw w.heap.size v l w' ∧ Below w.heap.size w w' := by
  subst hn
  refine (U.belfrylaw01_TwinLists.calls q A c l l w hr hc hq).mono ?_
  rintro e w' ⟨v, rfl, hS, hb⟩
  exact ⟨v, rfl, Tw.of_S hS, hb⟩
theorem of_short (l : List (List Int)) : (of l).1.length ≤ l.length := by
  rcases of_cases l with ⟨_, _, h, _⟩ | ⟨_, h⟩
  · omega
  · rw [h]; simp
theorem cell_below {w w1 : World} {a : Addr} {u : Value} (hb : Below w.heap.size w w1) (h : w.cell? a = some u) : w1.cell? a = some u := by
  have hlt : a.block < w.heap.size := by
    apply Classical.byContradiction
    intro hc
    have : w.heap[a.block]? = none := Array.getElem?_eq_none (by omega)
    simp [World.cell?, this] at h
  exact (World.cell?_of_block (hb.block a.block hlt)).trans h
def LessPost (w : World) (e : Ending) (w' : World) : Prop := e = .returned (.bool true) ∧ Below w.heap.size w w'

set_option maxHeartbeats 4000000 in
set_option maxRecDepth 100000 in
theorem less_walk (A : Option Addr) (c n : Nat) (l : List (List Int)) (y : Int) (hy : 0 ≤ y ∧ y ≤ 255) (w : World) (hn : n = l.length) (hr : Kd.C (Kd.slice 3 (Kd.int .i64)) w A l.length l) (hc : l.length ≤ c) (hx : WfL l) :
    Calls Try.prog 4 #[.slice A n c, .int .u8 y] w (LessPost w) := by
  obtain ⟨b, hb, hs⟩ := great_ev l hx
  obtain ⟨q, hq⟩ := hb.rounds
  have hxl := hx.1
  have HN := Lib.hid hn
  have HR := Lib.hid hr
  have HC := Lib.hid hc
  have HX := Lib.hid hx
  have HS := Lib.hid hs
  have HQ := Lib.hid hq
  have hnl : n ≤ 140737488351232 := by omega
  clear hn hr hc hx hs hq hb hxl
  go_enter Try.func4, Try.ntmps4
  go_wp2_with fail
  refine (belfrylaw13_alive.calls true w rfl).mono ?_
  rintro _ w1 ⟨rfl, b1⟩
  have R1 := Lib.hid (Kd.C_below HR.out b1)
  have G1 := Lib.hid b1
  clear b1
  go_wp2_with fail
  have hg : Calls Try.prog 9 #[.slice A n c] w1 fun e w' => e = .returned (.bool b) ∧ Drawn0 w1 w' := by
    have := HN.out
    subst this
    exact belfrylaw13_great.calls q A c l b w1 R1.out HC.out HQ.out
  refine hg.mono ?_
  rintro _ w2 ⟨rfl, d2⟩
  have R2 := Lib.hid (Kd.C_below R1.out d2.below)
  have G2 := Lib.hid (cut_ _ _ G1.out d2.below)
  clear d2 G1 R1 hg
  cases b with
  | true =>
    go_wp2_with fail
    refine (belfrylaw13_alive.calls true w2 rfl).mono ?_
    rintro _ w3 ⟨rfl, b3⟩
    have G3 := Lib.hid (cut_ _ _ G2.out b3)
    go_wp2_with fail
    go_ret
    exact ⟨rfl, G3.out⟩
  | false =>
    by_cases h0 : n = 0
    · subst h0
      go_wp2_with fail
      refine (belfrylaw13_alive.calls true w2 rfl).mono ?_
      rintro _ w3 ⟨rfl, b3⟩
      have G3 := Lib.hid (cut_ _ _ G2.out b3)
      go_wp2_with fail
      go_ret
      exact ⟨rfl, G3.out⟩
    · obtain ⟨hl1, hl2⟩ := HS.out rfl
      have hn1 : n ≤ 200 := by rw [HN.out]; exact hl1
      have HL2 := Lib.hid hl2
      clear hl1 hl2
      go_wp2_with fail
      refine (of_lit A c n l w2 (of l).1 (of l).2 HN.out.symm R2.out (by rw [← HN.out]; omega) (fun k => by have := HL2.out k; omega) rfl).mono ?_
      rintro _ w3 ⟨v3, rfl, o3, b3⟩
      have O3 := Lib.hid o3
      have R3 := Lib.hid (Kd.C_below R2.out b3)
      have G3 := Lib.hid (cut_ _ _ G2.out b3)
      have G3s := Lib.hid (Nat.le_trans G2.out.size b3.size)
      clear o3 b3 R2 G2
      obtain ⟨e3, he3⟩ : ∃ e, e = (of l).2 := ⟨_, rfl⟩
      have HE3 := Lib.hid he3
      rw [← he3]
      clear he3
      obtain ⟨K, hK⟩ : ∃ K : Nat, (K : Int) = y % (n : Int) := ⟨(y % (n : Int)).toNat, by have := Int.emod_nonneg y (b := (n : Int)) (by omega); omega⟩
      have hK1 : K < n := by have := Int.emod_lt_of_pos y (b := (n : Int)) (by omega); omega
      have HK := Lib.hid hK
      clear hK
      obtain ⟨q1, hq1⟩ := (U.twin_ev l (by rw [← HN.out]; omega) (fun k => by have := HL2.out k; omega)).rounds
      have HQ1 := Lib.hid hq1
      clear hq1
      go_wp2_with fail
      rw [← HK.out]
      refine (twin_call q1 A c n l w3 HN.out R3.out HC.out HQ1.out).mono ?_
      rintro _ w4 ⟨v4, rfl, t4, b4⟩
      obtain ⟨g4, c4, hv4, hg4, hg4'⟩ := t4.head (by rw [← HN.out]; omega)
      rw [← HN.out] at hv4
      subst hv4
      obtain ⟨cells4, hh4, u4, hu4⟩ := t4.room (K := K) (by rw [← HN.out]; exact hK1)
      have hfz4 := blk_frozen hh4 K
      have T4 := Lib.hid t4
      have R4 := Lib.hid (Kd.C_below R3.out b4)
      have G4 := Lib.hid (cut_ _ _ G3.out b4)
      have O4 := Lib.hid (own_move O3.out (fun k hk => b4.block k (own_lt O3.out k hk)))
      have HH4 := Lib.hid hh4
      clear t4 b4 R3 G3 O3
      go_wp2_with fail
      have hgw : w.heap.size ≤ g4 := Nat.le_trans G3s.out hg4
      obtain ⟨w5, hw5⟩ : ∃ w5 : World, w5 = w4.setCell ⟨g4, K, none⟩ (.slice none 0 0) := ⟨_, rfl⟩
      have G5 : Hid (Below w.heap.size w w5) := Lib.hid (by rw [hw5]; exact G4.out.setCell (p := ⟨g4, K, none⟩) hgw _)
      have T5 : Hid (Tw w3.heap.size (.slice (some ⟨g4, 0, none⟩) n c4) (l.set K []) w5) := Lib.hid (by rw [hw5]; exact T4.out.set (K := K) (xs := []) HN.out.symm (by rw [← HN.out]; exact hK1) (Kd.R_nil _ _ _ _ (fun _ => True)))
      have O5 : Hid (w5.ownsRow w2.heap.size 3 1 v3 (of l).1.length (nums .i64 (of l).1)) := Lib.hid (by rw [hw5]; exact ownsRow_setCell_other O4.out (fun e => own_ne O4.out HH4.out (by decide) e.symm) _)
      have R5 := Lib.hid (Kd.C_below HR.out G5.out)
      have hs5 : g4 < w5.heap.size := by rw [hw5]; simpa [World.setCell] using hg4'
      rw [← hw5]
      clear hw5 O4 T4 R4 G4 HH4 hu4 hfz4 hh4 hg4'
      refine (twin_call q1 A c n l w5 HN.out R5.out HC.out HQ1.out).mono ?_
      rintro _ w6 ⟨v6, rfl, t6, b6⟩
      obtain ⟨g6, c6, hv6, hg6, hg6'⟩ := t6.head (by rw [← HN.out]; omega)
      rw [← HN.out] at hv6
      subst hv6
      have G6 := Lib.hid (cut_ _ _ G5.out b6)
      have O6 := Lib.hid (own_move O5.out (fun k hk => b6.block k (own_lt O5.out k hk)))
      have T6 := Lib.hid t6
      have L6 := Lib.hid (T5.out.below b6)
      have R6 := Lib.hid (Kd.C_below HR.out G6.out)
      have hne46 : g4 ≠ g6 := by omega
      have hgw6 : w.heap.size ≤ g6 := by omega
      have hs56 := b6.size
      clear t6 b6 O5 T5 R5 G5
      obtain ⟨cells6, hh6, u6, hu6⟩ := T6.out.room (K := K) (by rw [← HN.out]; exact hK1)
      have hfz6 := blk_frozen hh6 K
      obtain ⟨ad, A1, c1, hA, hcell, hle, hC1⟩ := at_L1 R6.out (K : Int) (by omega) (by rw [← HN.out]; omega)
      rw [rdL_nat] at hcell hle hC1
      simp only [Int.toNat_natCast] at hcell
      subst hA
      have HC1 := Lib.hid hC1
      clear hC1
      have hll := HL2.out K
      have hcl := hcell
      have HC1d := Lib.hid (Kd.C_drew HC1.out)
      have hlim1 : ([] : List Int).length + (at_ l K).length ≤ 100000 := by simp; omega
      have hb1 : (([] : List Int).length + (at_ l K).length) * 8 ≤ 140737488355328 := by omega
      have hb2 : ((([] : List Int) ++ at_ l K).length + (at_ l K).length) * 8 ≤ 140737488355328 := by simp; omega
      have HLE := Lib.hid hle
      have HH6 := Lib.hid hh6
      clear hle hh6 hll hlim1
      go_upto_region 8 with fail
      go_region_law (first
        | ((refine Kd.R_append_rows_step (Kd.int .i64) (w0 := w6) (W := w6.drew) w6.heap.size rfl (.const (.slice none 0 0)) (.tmp 48) 25 3 (.int .i64 0) 8 rfl Try.underlying25 info3 rfl (by decide) (by decide) (.slice none 0 0) [] (at_ l K) A1 (at_ l K).length c1 (fun _ => True) (fun _ => False) rfl rfl (Kd.R_nil _ _ _ _ _) HC1d.out (fun _ _ h => h) (fun _ h => h.elim) (fun _ _ => trivial) (Below.refl _ _).drew (Nat.le_refl _) hb1 ?_; intro v7 w7 ho7 hB7 hg7 hat7; have hcell7 := cell_below hB7 hcl; have hh7 := (hB7.block g6 hg6').trans HH6.out; have hu7 := (cell_below hB7 hu6); have hfz7 := blk_frozen hh7 K; have HC7 := Lib.hid (Kd.C_below HC1.out hB7)))
        | ((refine Kd.R_append_rows_step (Kd.int .i64) (w0 := w6) (W := w7) w6.heap.size rfl (.tmp 49) (.tmp 53) 25 3 (.int .i64 0) 8 rfl Try.underlying25 info3 rfl (by decide) (by decide) v7 ([] ++ at_ l K) (at_ l K) A1 (at_ l K).length c1 (fun _ => True) (fun _ => False) rfl rfl ho7 HC7.out (fun _ _ h => h) (fun _ h => h.elim) (fun _ _ => trivial) hB7 hB7.size hb2 ?_; intro v8 w8 ho8 hB8 hg8 hat8; obtain ⟨A8, c8, hv8⟩ := Kd.R_slice ho8; obtain ⟨m8, hm8⟩ : ∃ m, m = (([] ++ at_ l K) ++ at_ l K).length := ⟨_, rfl⟩; rw [← hm8] at hv8; subst hv8; clear hm8; have hh8 := (hB8.block g6 hg6').trans HH6.out; have hu8 := (cell_below hB8 hu6); have hfz8 := blk_frozen hh8 K)))
      all_goals
        obtain ⟨w9, hw9⟩ : ∃ w9 : World, w9 = w8.setCell ⟨g6, K, none⟩ (.slice A8 m8 c8) := ⟨_, rfl⟩
        have T9 : Hid (Tw w5.heap.size (.slice (some ⟨g6, 0, none⟩) n c6) (l.set K (([] ++ at_ l K) ++ at_ l K)) w9) := Lib.hid (by rw [hw9]; exact (T6.out.below hB8).set (K := K) HN.out.symm (by rw [← HN.out]; exact hK1) (Kd.R_lower ho8 hs56))
        have L9 : Hid (Tw w3.heap.size (.slice (some ⟨g4, 0, none⟩) n c4) (l.set K []) w9) := Lib.hid (by rw [hw9]; exact (L6.out.below hB8).other hh8 hne46)
        have O8 := own_move O6.out (fun k hk => hB8.block k (own_lt O6.out k hk))
        have O9 : Hid (w9.ownsRow w2.heap.size 3 1 v3 (of l).1.length (nums .i64 (of l).1)) := Lib.hid (by rw [hw9]; exact ownsRow_setCell_other O8 (fun e => own_ne O8 hh8 (by decide) e.symm) _)
        have G9 : Hid (Below w.heap.size w w9) := Lib.hid (by rw [hw9]; exact (cut_ _ _ G6.out hB8).setCell (p := ⟨g6, K, none⟩) hgw6 _)
        rw [← hw9]
        clear hw9 O8
        have hln : (l.set K []).length = n := by rw [List.length_set]; exact HN.out.symm
        have hln2 : (l.set K (([] ++ at_ l K) ++ at_ l K)).length = n := by rw [List.length_set]; exact HN.out.symm
        have hKl : K < l.length := by rw [← HN.out]; exact hK1
        go_wp2_with fail
        refine (of_lit (some ⟨g4, 0, none⟩) c4 n (l.set K []) w9 (of (l.set K [])).1 (of (l.set K [])).2 hln (by rw [hln]; exact L9.out.reads hln (by omega)) (by omega) (fun k => by rw [U.at_set hKl]; have := HL2.out k; split; simp; omega) rfl).mono ?_
        rintro _ w10 ⟨v10, rfl, _, b10⟩
        have T10 := Lib.hid (T9.out.below b10)
        have O10 := Lib.hid (own_move O9.out (fun k hk => b10.block k (own_lt O9.out k hk)))
        have G10 := Lib.hid (cut_ _ _ G9.out b10)
        have HF : Hid ((of l).2 = 0 → (of (l.set K [])).2 = 0) := Lib.hid (of_less (by rw [List.length_set]) (fun k x hx => by rw [U.at_set hKl] at hx; split at hx; simp at hx; exact hx))
        obtain ⟨f10, hf10⟩ : ∃ f, f = (of (l.set K [])).2 := ⟨_, rfl⟩
        rw [← hf10] at HF ⊢
        clear b10 hf10
        go_wp2_with fail
        refine (of_lit (some ⟨g6, 0, none⟩) c6 n (l.set K (([] ++ at_ l K) ++ at_ l K)) w10 (of l).1 (of l).2 hln2 (by rw [hln2]; exact T10.out.reads hln2 (by omega)) (by omega) (fun k => by rw [U.at_set hKl]; have := HL2.out k; have := HL2.out K; split; simp; omega; omega) (by rw [of_same (l := l) (by rw [List.length_set]) (fun k x => by rw [U.at_set hKl]; split; simp [*]; rfl)])).mono ?_
        rintro _ w11 ⟨v11, rfl, o11, b11⟩
        have O11 := Lib.hid (own_move O10.out (fun k hk => b11.block k (own_lt O10.out k hk)))
        have G11 := Lib.hid (cut_ _ _ G10.out b11)
        rw [← HE3.out]
        obtain ⟨X3, d3, hv3⟩ := own_slice O11.out
        subst hv3
        obtain ⟨X11, d11, hv11⟩ := own_slice o11
        subst hv11
        obtain ⟨C3, hd3⟩ := own_reads O11.out rfl
        obtain ⟨C11, hd11⟩ := own_reads o11 rfl
        have H3 := Lib.hid C3
        have H11 := Lib.hid C11
        obtain ⟨q2, hq2⟩ := (same_ev (of l).1 (of l).1 (by have := of_short l; rw [← HN.out] at this; omega)).rounds
        rw [decide_eq_true rfl] at hq2
        have HQ2 := Lib.hid hq2
        obtain ⟨m, hm⟩ : ∃ m, m = (of l).1.length := ⟨_, rfl⟩
        have HM := Lib.hid hm
        rw [← hm] at H3 H11 hd3 hd11 ⊢
        clear C3 C11 hq2 b11 hm
        by_cases he : e3 = 0
        · subst he
          have hf0 := HF.out HE3.out.symm
          subst hf0
          go_wp2_with fail
          refine (same_of q2 X11 d11 X3 d3 m (of l).1 w11 HM.out.symm H11.out hd11 H3.out hd3 HQ2.out).mono ?_
          rintro _ w12 ⟨rfl, b12⟩
          have G12 := Lib.hid (cut_ _ _ G11.out b12)
          go_wp2_with fail
          go_ret
          exact ⟨rfl, G12.out⟩
        · go_wp2_with fail
          refine (same_of q2 X11 d11 X3 d3 m (of l).1 w11 HM.out.symm H11.out hd11 H3.out hd3 HQ2.out).mono ?_
          rintro _ w12 ⟨rfl, b12⟩
          have G12 := Lib.hid (cut_ _ _ G11.out b12)
          have he2 : (e3 != 0) = true := by simp [he]
          go_wp2_with fail
          go_ret
          exact ⟨rfl, G12.out⟩
end Go.Proofs.Ytodgeciggbeolaa.S
