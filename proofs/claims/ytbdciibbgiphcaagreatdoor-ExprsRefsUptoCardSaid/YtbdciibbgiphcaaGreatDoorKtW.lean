/- Book: all lists of a tree are kept, those of refs too: walks. -/
import Derived.Test.YtbdciibbgiphcaaGreatDoorBkX
import Derived.Test.YtbdciibbgiphcaaGreatDoorZrB
namespace Go.Proofs.YtbdciibbgiphcaaGreatDoor.V
set_option linter.unusedVariables false
set_option linter.unusedSimpArgs false
set_option linter.unusedSectionVars false
open Go.RowKit Go.Proofs.YtbdciibbgiphcaaGreatDoorW.PrintWords Go.Proofs.YtbdciibbgiphcaaGreatDoorW.PrintLast Go.Proofs.YtbdciibbgiphcaaGreatDoorW.PrintMore
open Go.Proofs.YtbdciibbgiphcaaGreatDoor.B (Kp Lst Pre own_kept)
/-- what was kept of a tree: its lists, each with its own block. -/
structure KtR (w : World) (base : Nat) (bs : List Nat) (es : List Lst) : Prop where
  perm : (es.map fun x => x.1.ownBlock).Perm (bs.map some)
  own : ∀ x ∈ es, ∃ ys, w.ownsRow base 25 4 x.1 x.2.1 ys
  len : ∀ x ∈ es, x.2.1 ≤ 3000000
  num : ∀ x ∈ es, x.2.2 ≤ 1000000000
theorem KtR.length {w : World} {base : Nat} {bs : List Nat} {es : List Lst} (h : KtR w base bs es) : es.length = bs.length := by
  have := h.perm.length_eq
  simpa using this
theorem KtR.append {w : World} {base : Nat} {bs bs2 : List Nat} {es es2 : List Lst} (h : KtR w base bs es) (h2 : KtR w base bs2 es2) : KtR w base (bs ++ bs2) (es ++ es2) := by
  refine ⟨?_, fun x hx => ?_, fun x hx => ?_, fun x hx => ?_⟩
  · rw [List.map_append, List.map_append]; exact h.perm.append h2.perm
  · rcases List.mem_append.1 hx with hx | hx
    · exact h.own x hx
    · exact h2.own x hx
  · rcases List.mem_append.1 hx with hx | hx
    · exact h.len x hx
    · exact h2.len x hx
  · rcases List.mem_append.1 hx with hx | hx
    · exact h.num x hx
    · exact h2.num x hx
theorem KtR.nil (w : World) (base : Nat) : KtR w base [] [] := ⟨.nil, fun x hx => (by cases hx), fun x hx => (by cases hx), fun x hx => (by cases hx)⟩
theorem KtR.last {w : World} {base g n c num : Nat} {bs : List Nat} {es : List Lst} (h : KtR w base bs es) {ys : List Value} (ho : w.ownsRow base 25 4 (.slice (some ⟨g, 0, none⟩) n c) n ys) (hn : n ≤ 3000000) (hm : num ≤ 1000000000) : KtR w base (g :: bs) (es ++ [(.slice (some ⟨g, 0, none⟩) n c, n, num)]) := by
  refine ⟨?_, fun x hx => ?_, fun x hx => ?_, fun x hx => ?_⟩
  · rw [List.map_append, List.map_cons]
    exact (List.Perm.append_right _ h.perm).trans (List.perm_append_singleton _ _)
  · rcases List.mem_append.1 hx with hx | hx
    · exact h.own x hx
    · rw [List.mem_singleton] at hx; subst hx; exact ⟨ys, ho⟩
  · rcases List.mem_append.1 hx with hx | hx
    · exact h.len x hx
    · rw [List.mem_singleton] at hx; subst hx; exact hn
  · rcases List.mem_append.1 hx with hx | hx
    · exact h.num x hx
    · rw [List.mem_singleton] at hx; subst hx; exact hm
theorem Kp.stay {w wr wr' : World} {base kb N : Nat} {es rs : List Lst} (h : Kp w wr base kb es rs N) (hbb : base ≤ wr.heap.size) (hb : Below wr.heap.size wr wr') : Kp w wr' base kb es rs N := by
  obtain ⟨bc, tvE, tvR, hbE, hbR, htE, htR, hne, hnil⟩ := h.bk
  have hkb := (Array.getElem?_eq_some_iff.1 hbE.book).1
  exact ⟨h.bel.trans (hb.mono hbb), fun q hq hk => (hb.block q (Nat.lt_of_lt_of_le hq h.bel.size)).trans (h.fr q hq hk), bc, tvE, tvR,
    hbE.other ((hb.block kb hkb).trans hbE.book) hbE.n0 rfl (fun q hq => hb.block q (own_lt hbE.tok q hq)), hbR.other ((hb.block kb hkb).trans hbR.book) hbR.n0 rfl (fun q hq => hb.block q (own_lt hbR.tok q hq)), htE, htR, hne, hnil⟩
theorem Kp.low {w wr : World} {base kb N : Nat} {es rs : List Lst} (h : Kp w wr base kb es rs N) : base ≤ wr.heap.size := by
  obtain ⟨bc, tvE, tvR, hbE, _⟩ := h.bk
  have h1 := (Array.getElem?_eq_some_iff.1 hbE.book).1
  have h2 := hbE.hkb
  omega
def KtPost (w : World) (base kb : Nat) (es rs : List Lst) (N : Nat) (bs : List Nat) (e : Ending) (w' : World) : Prop := e = .returned (.tuple #[]) ∧ ∃ es', KtR w base bs es' ∧ Kp w w' base kb (es ++ es') rs (N + es'.length)
def KeepsIs (xs : List S25) : Prop := ∀ (w wr : World) (base kb : Nat) (es rs : List Lst) (N : Nat) (v : Value) (bs : List Nat), TwR w base xs v bs → kb ∉ bs → es.length + bs.length ≤ 2999999 → N + bs.length ≤ 2999999 → Kp w wr base kb es rs N →
  Calls Tryz.prog 18 #[.pointer (some ⟨kb, 0, none⟩), v] wr (KtPost w base kb es rs N bs)
def KeepIs (x : S25) : Prop := ∀ (w wr : World) (base kb : Nat) (es rs : List Lst) (N : Nat) (v : Value) (bs : List Nat), TwR w base x.f3 v bs → kb ∉ bs → es.length + bs.length ≤ 2999999 → N + bs.length ≤ 2999999 → Kp w wr base kb es rs N →
  Calls Tryz.prog 10 #[.pointer (some ⟨kb, 0, none⟩), .agg #[.int .u8 x.f0, .int .i64 x.f1, .string x.f2, v]] wr (KtPost w base kb es rs N bs)
set_option maxHeartbeats 4000000 in
set_option maxRecDepth 100000 in
theorem keep_walk (x : S25) (h : KeepsIs x.f3) : KeepIs x := by
  intro w wr base kb es rs N v bs ht hkb he hN hp
  have HB0 := (Below.refl wr.heap.size wr).alloc (Nat.le_refl _) (.cells #[.int .u8 x.f0, .int .i64 x.f1, .string x.f2, v] 25)
  have HX0 := Lib.hid (heap_alloc_new wr (.cells #[.int .u8 x.f0, .int .i64 x.f1, .string x.f2, v] 25))
  have HY := Lib.hid (h w _ base kb es rs N v bs ht hkb he hN (Kp.stay hp (Kp.low hp) HB0))
  obtain ⟨b0, b1, b2, b3⟩ := box_cells HX0.out
  clear ht hp HB0 h
  go_enter Tryz.func10, Tryz.ntmps10
  go_wp2_with fail
  refine HY.out.mono ?_
  rintro e w2 ⟨rfl, es', hr, hk⟩
  have HR := Lib.hid hr; have HK := Lib.hid hk
  clear hr hk HY
  go_wp2_with fail
  go_end0
  exact ⟨rfl, es', HR.out, HK.out⟩
theorem take_flat {bss : List (List Nat)} {i : Nat} (h : i < bss.length) : (bss.take (i + 1)).flatten = (bss.take i).flatten ++ bss[i] := by
  rw [List.take_succ_eq_append_getElem h, List.flatten_append, List.flatten_singleton]
theorem take_flat_le (bss : List (List Nat)) (i : Nat) : (bss.take i).flatten.length ≤ bss.flatten.length := by
  conv => rhs; rw [← List.take_append_drop i bss, List.flatten_append, List.length_append]
  omega
theorem flat_len : ∀ (bss : List (List Nat)), (∀ bs ∈ bss, 1 ≤ bs.length) → bss.length ≤ bss.flatten.length
  | [], _ => by simp
  | b :: r, h => by
    have := flat_len r (fun k hk => h k (List.mem_cons_of_mem _ hk))
    have := h b List.mem_cons_self
    simp only [List.length_cons, List.flatten_cons, List.length_append]
    omega
theorem TwR.some {w : World} {base : Nat} {xs : List S25} {v : Value} {bs : List Nat} (h : TwR w base xs v bs) : 1 ≤ bs.length := by
  cases h
  simp
set_option maxHeartbeats 4000000 in
set_option maxRecDepth 100000 in
theorem keeps_walk (xs : List S25) (hi : ∀ y ∈ xs, KeepIs y) : KeepsIs xs := by
  intro w wr base kb es rs N v bs ht hkb hes hN hp
  cases ht with
  | mk _ g c vs bss hv hbl ho he hn =>
  have hlen : xs.length ≤ bss.flatten.length := by
    rw [← hbl]
    refine flat_len bss (fun b hb => ?_)
    obtain ⟨i, hi2, rfl⟩ := List.getElem_of_mem hb
    exact (he i _ _ _ (List.getElem?_eq_getElem (by omega)) (List.getElem?_eq_getElem (by omega)) (List.getElem?_eq_getElem hi2)).some
  simp only [List.length_cons] at hes hN
  have hkg : g ≠ kb := fun e => hkb (by rw [e]; exact List.mem_cons_self)
  have hglt : g < w.heap.size := own_lt ho g rfl
  obtain ⟨n, hnn⟩ : ∃ n, n = xs.length := ⟨_, rfl⟩
  have HO := Lib.hid ho; have HV := Lib.hid hv; have HL := Lib.hid hbl; have HE := Lib.hid he; have HN := Lib.hid hnn; have HI := Lib.hid hi; have HP := Lib.hid hp; have HKB := Lib.hid hkb
  rw [← hnn] at hlen ⊢
  clear hv hbl ho he hn hnn hi hp hkb
  go_enter Tryz.func18, Tryz.ntmps18
  go_wp2_with fail
  go_loopw [4] (fun iv wk => ∃ (i : Nat) (es' : List Lst), iv = .int .i64 i ∧ i ≤ n ∧ Hid (KtR w base (bss.take i).flatten es') ∧ Hid (Kp w wk base kb (es ++ es') rs (N + es'.length))) (fun iv _ => n - (intOf iv).toNat)
  case atStart => exact ⟨0, [], rfl, Nat.zero_le _, Lib.hid (KtR.nil _ _), Lib.hid (by rw [List.append_nil]; exact HP.out)⟩
  case round =>
    clear HP
    obtain ⟨i, es', rfl, hi, HR, HK⟩ := hrel
    have hel := eCells_len xs vs HV.out
    have hrl := HR.out.length
    by_cases hlt : i < n
    · have hix : i < xs.length := by rw [← HN.out]; exact hlt
      have hiv : i < vs.length := by rw [HV.out]; exact hix
      have hib : i < bss.length := by rw [HL.out]; exact hix
      have hx : xs[i]? = some xs[i] := List.getElem?_eq_getElem hix
      have hvi : vs[i]? = some vs[i] := List.getElem?_eq_getElem hiv
      have hbi : bss[i]? = some bss[i] := List.getElem?_eq_getElem hib
      have htw := HE.out i _ _ _ hx hvi hbi
      have hp := (Pre.of_own HO.out).kept (w' := wr) (fun k hk => HK.out.fr k (own_lt HO.out k hk) (fun e => hkg (by
        have : g = k := by injection hk
        omega)))
      have hget : ∀ j u, j < 4 → (e4 xs[i] vs[i])[j]? = some u → (eCells xs vs ++ spareE)[i * 4 + j]? = some u := by
        intro j u hj hu
        rw [List.getElem?_append_left (by rw [hel]; omega), eCells_get HV.out hx hvi j hj]
        exact hu
      have t0 := hp.cell _ _ (hget 0 _ (by omega) rfl)
      rw [Nat.add_zero] at t0
      have t1 := hp.cell _ _ (hget 1 _ (by omega) rfl)
      have t2 := hp.cell _ _ (hget 2 _ (by omega) rfl)
      have t3 := hp.cell _ _ (hget 3 _ (by omega) rfl)
      have htf := take_flat hib
      have htl := take_flat_le bss (i + 1)
      rw [htf, List.length_append] at htl
      have hknb : kb ∉ bss[i] := fun hm => HKB.out (List.mem_cons_of_mem _ (List.mem_flatten.2 ⟨_, List.getElem_mem hib, hm⟩))
      have HY := Lib.hid (HI.out xs[i] (List.getElem_mem hix) w wr base kb (es ++ es') rs (N + es'.length) vs[i] bss[i] htw hknb (by rw [List.length_append]; omega) (by omega) HK.out)
      have HTF := Lib.hid htf
      clear hget htw hx hvi hbi hp htf hknb
      generalize xs[i] = y at *
      generalize bss[i] = bsi at *
      generalize vs[i] = vi at *
      go_wp2_with fail
      refine HY.out.mono ?_
      rintro e w2 ⟨rfl, es2, hr2, hk2⟩
      have HR2 := Lib.hid (HR.out.append hr2)
      have HK2 : Hid (Kp w w2 base kb (es ++ (es' ++ es2)) rs (N + (es' ++ es2).length)) := Lib.hid (by
        rw [← List.append_assoc, List.length_append, ← Nat.add_assoc]; exact hk2)
      clear hr2 hk2 HY t0 t1 t2 t3
      go_wp2_with fail
      exact ⟨⟨i + 1, es' ++ es2, by go_num, by omega, by rw [HTF.out]; exact HR2, HK2⟩, by simp [intOf]; omega⟩
    · obtain rfl : i = n := by omega
      have htk : bss.take i = bss := List.take_of_length_le (Nat.le_of_eq (by rw [HL.out, HN.out]))
      rw [htk] at HR
      have hrl2 := HR.out.length
      go_wp2_with fail
      refine ((HK.out).keepExpr (by omega) (by rw [List.length_append]; omega) (some ⟨g, 0, none⟩) i c).mono ?_
      rintro e w2 ⟨rfl, hk2⟩
      have HK2 : Hid (Kp w w2 base kb (es ++ (es' ++ [(.slice (some ⟨g, 0, none⟩) i c, i, N + es'.length + 1)])) rs (N + (es' ++ [((.slice (some ⟨g, 0, none⟩) i c : Value), i, N + es'.length + 1)]).length)) := Lib.hid (by
        rw [← List.append_assoc, List.length_append, List.length_singleton, ← Nat.add_assoc]; exact hk2)
      have HR2 := Lib.hid (HR.out.last (num := N + es'.length + 1) (own_prefix (m := i) HO.out (by have := HN.out; omega)) (by omega) (by omega))
      clear hk2
      go_wp2_with fail
      go_end0
      exact ⟨rfl, _, HR2.out, HK2.out⟩
theorem keep_any {x : S25} (h : SmE x) : KeepIs x := by
  induction h with
  | mk o n s xs hl hy ih => exact keep_walk _ (keeps_walk xs ih)
end Go.Proofs.YtbdciibbgiphcaaGreatDoor.V
