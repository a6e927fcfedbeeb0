/- TwinInts, TwinLists, LeftInts, LeftLists: lists of numbers in memory of their own, each with a spare place; are they as they were. -/
import Derived.Test.YtodgeciggbeolaaGreatDoorOrdW
import Derived.Test.YtodgeciggbeolaaGreatDoorBkK
namespace Go.Proofs.YtodgeciggbeolaaGreatDoor.B
set_option linter.unusedVariables false
set_option linter.unusedSimpArgs false
set_option linter.unusedSectionVars false
open Go.RowKit Go.Proofs.YtodgeciggbeolaaGreatDoorW.PrintWords Go.Proofs.YtodgeciggbeolaaGreatDoorW.PrintLast Go.Proofs.YtodgeciggbeolaaGreatDoorW.PrintMore
open Go.Proofs.YtodgeciggbeolaaGreatDoor.S Go.Proofs.YtodgeciggbeolaaGreatDoor
open Go.Proofs.Ord hiding W
theorem C_belowI {w w' : World} {A : Option Addr} {n : Nat} {xs : List Int} (h : Kd.C (Kd.int .i64) w A n xs) (hb : Below w.heap.size w w') : Kd.C (Kd.int .i64) w' A n xs := Kd.C_below h hb
theorem below_gn {w w1 : World} (h : w.grownBy w1 none) : Below w.heap.size w w1 := ⟨h.os, h.tape, h.output, h.size, fun i hi => h.block i hi (by simp)⟩
theorem own_cap {w : World} {base n c e sz : Nat} {A : Option Addr} {xs : List Value} (h : w.ownsRow base e sz (.slice A n c) n xs) : n ≤ c := by
  rcases h.2 with ⟨h', h2⟩ | ⟨g', cap', cur, h', hb, hh, hn, hc, hs, ht⟩
  · injection h' with h1 h2 h3; omega
  · injection h' with h1 h2 h3; omega
theorem own_head {w : World} {base n c e sz : Nat} {A : Option Addr} {xs : List Value} (h : w.ownsRow base e sz (.slice A n c) n xs) (hn : 0 < n) : ∃ g, A = some ⟨g, 0, none⟩ := by
  rcases h.2 with ⟨h', h2⟩ | ⟨g', cap', cur, h', hb, hh, hn, hc, hs, ht⟩
  · injection h' with h1 h2 h3; omega
  · injection h' with h1 h2 h3; exact ⟨g', h1⟩
theorem rd_lt' {xs : List Int} {i : Nat} (h : i < xs.length) : rd xs (i : Int) = xs[i] := by
  show xs.getD i 0 = _
  rw [List.getD_eq_getElem?_getD, List.getElem?_eq_getElem h]; rfl
/-- numbers in memory of their own, with a spare place behind. -/
def Tw (w : World) (base : Nat) (x : Value) (l : List Int) : Prop := ∃ g c, x = .slice (some ⟨g, 0, none⟩) l.length c ∧ w.ownsRow base 3 1 (.slice (some ⟨g, 0, none⟩) (l.length + 1) c) (l.length + 1) (nums .i64 (l ++ [77]))
theorem Tw.own {w : World} {base : Nat} {x : Value} {l : List Int} (h : Tw w base x l) : w.ownsRow base 3 1 x l.length (nums .i64 l) := by
  obtain ⟨g, c, rfl, ho⟩ := h
  have h9 := own_shorter ho (m := l.length) (by omega)
  rw [List.take_left] at h9
  exact h9
theorem Tw.some {w : World} {base : Nat} {x : Value} {l : List Int} (h : Tw w base x l) : ∃ q, x.ownBlock = Option.some q ∧ q < w.heap.size ∧ base ≤ q := by
  obtain ⟨g, c, rfl, ho⟩ := h
  exact ⟨g, rfl, own_lt ho g rfl, own_base ho g rfl⟩
theorem Tw.kept {w w' : World} {base : Nat} {x : Value} {l : List Int} (h : Tw w base x l) (hk : ∀ k, x.ownBlock = Option.some k → w'.heap[k]? = w.heap[k]?) : Tw w' base x l := by
  obtain ⟨g, c, rfl, ho⟩ := h
  exact ⟨g, c, rfl, own_kept ho (fun k hq => hk k hq)⟩
theorem Tw.lower {w : World} {base b : Nat} {x : Value} {l : List Int} (h : Tw w base x l) (hb : b ≤ base) : Tw w b x l := by
  obtain ⟨g, c, rfl, ho⟩ := h
  exact ⟨g, c, rfl, own_weaken ho hb⟩
def TwinPost (l : List Int) (w : World) (e : Ending) (w' : World) : Prop := ∃ v, e = .returned v ∧ Tw w' w.heap.size v l ∧ Below w.heap.size w w'
set_option maxHeartbeats 2000000 in
set_option maxRecDepth 100000 in
theorem twin_ints (A : Option Addr) (c n : Nat) (l : List Int) (w : World) (hn : n = l.length) (hr : Kd.C (Kd.int .i64) w A n l) (hm : n ≤ 17592186044000) :
    Calls Tryz.prog 14 #[.slice A n c] w (TwinPost l w) := by
  have HN := Lib.hid hn
  have HR := Lib.hid hr
  clear hr hn
  obtain ⟨B, hB⟩ : ∃ B, B = w.heap.size := ⟨_, rfl⟩
  have HB := Lib.hid hB
  clear hB
  obtain ⟨i3, hi3, hz30, hz31, hz32⟩ := info_parts info3
  go_enter Tryz.func14, Tryz.ntmps14
  go_wp2_with (at_make; go_loud (refine wpList_make_own _ rfl _ _ 25 rfl w.heap.size 3 i3 (.int .i64 0) 1 Tryz.underlying25 hi3 hz30 hz31 .i64 .i64 _ (n + 1) rfl rfl (by omega) ?b2 ?b3 (Nat.le_refl _) ?_))
  case b2 => rw [hz32]; omega
  case b3 => unfold maxLen; omega
  intro w1 hown hgr
  have HO := Lib.hid hown
  have HB1 := Lib.hid ((below_gn hgr))
  clear hown hgr hi3 hz30 hz31 hz32
  obtain ⟨r, hrr⟩ : ∃ r, r = w.heap.size := ⟨_, rfl⟩
  go_wp2_with fail
  go_loopw [3, 4] (fun tv iv wr => ∃ (i : Nat) (T : Option Addr) (cc : Nat), tv = .slice T i cc ∧ iv = .int .i64 i ∧ i ≤ n ∧ Hid (wr.ownsRow w.heap.size 3 1 (.slice T i cc) i (nums .i64 (l.take i))) ∧ Hid (Below w.heap.size w wr)) (fun _ iv _ => n - (intOf iv).toNat)
  case atStart => exact ⟨0, _, _, rfl, rfl, Nat.zero_le _, HO, HB1⟩
  case round =>
    clear HO HB1
    obtain ⟨i, T, cc, rfl, rfl, hi, HO, HB1⟩ := hrel
    by_cases hlt : i < n
    · obtain ⟨ad, hA, hcell⟩ := Kd.at_int (C_belowI HR.out HB1.out) (i : Int) (by omega) (by omega)
      subst hA
      simp only [Int.toNat_natCast] at hcell
      have hs1 := HB1.out.size
      have hlen : (l.take i).length = i := by rw [List.length_take]; have := HN.out; omega
      have hO := HO.out
      have hO' : wr.ownsRow w.heap.size 3 1 (.slice T i cc) (l.take i).length (nums .i64 (l.take i)) := by rw [hlen]; exact hO
      have HO' := Lib.hid hO'
      have hb9 : ((l.take i).length + 1) * 8 ≤ 140737488355328 := by rw [hlen]; omega
      clear hO hO'
      go_wp2_with (at_builtin; go_loud (refine print_append_num (w0 := w) (W := wr) w.heap.size rfl _ _ 25 3 .i64 8 rfl Tryz.underlying25 info3 (by decide) (.slice T i cc) (l.take i) (rd l i) rfl rfl HO'.out HB1.out hs1 hb9 ?_; intro v1 w2 hown hB2 hg hat))
      obtain ⟨T2, cc2, rfl⟩ := own_slice hown
      have htk : l.take i ++ [rd l (i : Int)] = l.take (i + 1) := by
        rw [rd_lt' (by have := HN.out; omega), List.take_succ_eq_append_getElem (by have := HN.out; omega)]
      rw [htk] at hown
      have hl2 : (l.take (i + 1)).length = i + 1 := by rw [List.length_take]; have := HN.out; omega
      have hl3 : (l.take i ++ [rd l (i : Int)]).length = i + 1 := by simp [hlen]
      rw [hl2] at hown
      rw [hl3]
      exact ⟨⟨i + 1, T2, cc2, rfl, by go_num, by omega, Lib.hid hown, Lib.hid hB2⟩, by simp [intOf]; omega⟩
    · obtain rfl : i = n := by omega
      have hlen : (l.take i).length = i := by rw [List.length_take]; have := HN.out; omega
      have hO := HO.out
      have hO' : wr.ownsRow w.heap.size 3 1 (.slice T i cc) (l.take i).length (nums .i64 (l.take i)) := by rw [hlen]; exact hO
      have HO' := Lib.hid hO'
      have hb9 : ((l.take i).length + 1) * 8 ≤ 140737488355328 := by rw [hlen]; omega
      have hs1 := HB1.out.size
      clear hO hO'
      have hl4 : (l.take i ++ [(77 : Int)]).length = i + 1 := by simp [hlen]
      go_wp2_with (at_builtin; go_loud (refine print_append_num (w0 := w) (W := wr) w.heap.size rfl _ _ 25 3 .i64 8 rfl Tryz.underlying25 info3 (by decide) (.slice T i cc) (l.take i) 77 rfl rfl HO'.out HB1.out hs1 hb9 ?_; intro v1 w2 hown hB2 hg hat; obtain ⟨T2, cc2, rfl⟩ := own_slice hown; have hcap := own_cap hown; rw [hl4] at hcap))
      go_ret
      rw [hl4] at hown
      obtain ⟨g, rfl⟩ := own_head hown (by omega)
      have hN := HN.out
      subst hN
      rw [List.take_length] at hown
      exact ⟨_, rfl, ⟨g, cc2, rfl, hown⟩, hB2⟩
/-- lists of numbers, all in memory of their own. -/
structure TwL (w : World) (base : Nat) (v : Value) (vs : List Value) (l : List (List Int)) : Prop where
  row : w.ownsRow base 25 1 v vs.length vs
  len : vs.length = l.length
  each : ∀ (j : Nat) (x : Value), vs[j]? = some x → Tw w base x (at_ l j)
  ne : ∀ (j : Nat) (x : Value), vs[j]? = some x → x.ownBlock ≠ v.ownBlock
  sep : ∀ (i j : Nat) (x y : Value), vs[i]? = some x → vs[j]? = some y → i ≠ j → x.ownBlock ≠ y.ownBlock
theorem TwL.below {w w' : World} {base : Nat} {v : Value} {vs : List Value} {l : List (List Int)} (h : TwL w base v vs l) (hb : Below w.heap.size w w') : TwL w' base v vs l :=
  ⟨own_kept h.row (fun k hk => hb.block k (own_lt h.row k hk)), h.len, fun j x hx => (h.each j x hx).kept (fun k hk => by
    obtain ⟨q, e, hq, _⟩ := (h.each j x hx).some
    rw [e] at hk; injection hk with hk; subst hk; exact hb.block q hq), h.ne, h.sep⟩
theorem at_take (l : List (List Int)) (i j : Nat) (h : j < i) : at_ (l.take i) j = at_ l j := by
  unfold at_
  rw [List.getD_eq_getElem?_getD, List.getD_eq_getElem?_getD, List.getElem?_take, if_pos h]
theorem TwL.snoc {wr w2 w3 : World} {base i : Nat} {v v1 x : Value} {vs : List Value} {l : List (List Int)} (h : TwL wr base v vs (l.take i)) (hi : i < l.length) (hb : Below wr.heap.size wr w2) (hbase : base ≤ wr.heap.size) (hx : Tw w2 wr.heap.size x (at_ l i))
    (hown : w3.ownsRow base 25 1 v1 (vs.length + 1) (vs ++ [x])) (hat : (v1.ownBlock = v.ownBlock ∧ w2.grownBy w3 v.ownBlock) ∨ (∃ q, v1.ownBlock = some q ∧ w2.heap.size ≤ q ∧ w2.grownBy w3 none)) : TwL w3 base v1 (vs ++ [x]) (l.take (i + 1)) := by
  have hlen : vs.length = i := by rw [h.len, List.length_take]; omega
  have hg : ∀ q, q < w2.heap.size → v.ownBlock ≠ some q → w3.heap[q]? = w2.heap[q]? := by
    intro q hq hv
    rcases hat with ⟨_, g⟩ | ⟨p, _, _, g⟩
    · exact g.block q hq (fun e => hv e.symm)
    · exact g.block q hq (by simp)
  obtain ⟨qx, ex, hqx, hqb⟩ := hx.some
  have hvl : ∀ q, v.ownBlock = some q → q < wr.heap.size := fun q hq => own_lt h.row q hq
  have hvx : v.ownBlock ≠ some qx := fun e => by have := hvl qx e; omega
  have hget : ∀ (j : Nat) (y : Value), (vs ++ [x])[j]? = some y → (j < i ∧ vs[j]? = some y) ∨ (j = i ∧ y = x) := by
    intro j y hy
    rcases Nat.lt_or_ge j vs.length with h1 | h1
    · rw [List.getElem?_append_left h1] at hy; exact .inl ⟨by omega, hy⟩
    · rw [List.getElem?_append_right h1] at hy
      obtain ⟨h2, h3⟩ := List.getElem?_eq_some_iff.1 hy
      have h4 : j - vs.length = 0 := by simp at h2; omega
      simp only [h4] at h3
      exact .inr ⟨by omega, by simpa using h3.symm⟩
  have hold : ∀ (j : Nat) (y : Value), vs[j]? = some y → ∃ q, y.ownBlock = some q ∧ q < wr.heap.size ∧ v.ownBlock ≠ some q := by
    intro j y hy
    obtain ⟨q, e, hq, _⟩ := (h.each j y hy).some
    exact ⟨q, e, hq, fun e2 => h.ne j y hy (by rw [e, e2])⟩
  have hsz := hb.size
  refine ⟨by rw [List.length_append, List.length_singleton]; exact hown, by rw [List.length_append, List.length_singleton, List.length_take]; omega, ?_, ?_, ?_⟩
  · intro j y hy
    rcases hget j y hy with ⟨hj, hy⟩ | ⟨rfl, rfl⟩
    · have h1 := h.each j y hy
      rw [at_take _ _ _ hj] at h1
      rw [at_take _ _ _ (by omega)]
      obtain ⟨q, e, hq, hv⟩ := hold j y hy
      refine h1.kept (fun k hk => ?_)
      rw [e] at hk; injection hk with hk; subst hk
      rw [hg q (by omega) hv, hb.block q hq]
    · rw [at_take _ _ _ (by omega)]
      refine (hx.lower hbase).kept (fun k hk => ?_)
      rw [ex] at hk; injection hk with hk; subst hk
      exact hg qx hqx hvx
  · intro j y hy e1
    rcases hget j y hy with ⟨hj, hy⟩ | ⟨rfl, rfl⟩
    · obtain ⟨q, e, hq, hv⟩ := hold j y hy
      rcases hat with ⟨e2, _⟩ | ⟨p, e2, hp, _⟩
      · exact hv (by rw [← e2, ← e1, e])
      · rw [e, e2] at e1; injection e1 with e1; omega
    · rcases hat with ⟨e2, _⟩ | ⟨p, e2, hp, _⟩
      · exact hvx (by rw [← e2, ← e1, ex])
      · rw [ex, e2] at e1; injection e1 with e1; omega
  · intro j k y z hy hz hne e1
    rcases hget j y hy with ⟨hj, hy2⟩ | ⟨hj, hy2⟩
    · rcases hget k z hz with ⟨hk, hz2⟩ | ⟨hk, hz2⟩
      · exact h.sep j k y z hy2 hz2 hne e1
      · obtain ⟨q, e, hq, hv⟩ := hold j y hy2
        rw [hz2, e, ex] at e1; injection e1 with e1; omega
    · rcases hget k z hz with ⟨hk, hz2⟩ | ⟨hk, hz2⟩
      · obtain ⟨q, e, hq, hv⟩ := hold k z hz2
        rw [hy2, e, ex] at e1; injection e1 with e1; omega
      · exact hne (by omega)
theorem twl_below {w wr w2 w3 : World} {v v1 : Value} {vs : List Value} {l : List (List Int)} (h : TwL wr w.heap.size v vs l) (hB : Below w.heap.size w wr) (hb : Below wr.heap.size wr w2)
    (hat : (v1.ownBlock = v.ownBlock ∧ w2.grownBy w3 v.ownBlock) ∨ (∃ q, v1.ownBlock = some q ∧ w2.heap.size ≤ q ∧ w2.grownBy w3 none)) : Below w.heap.size w w3 := by
  have h2 := hB.trans (hb.mono hB.size)
  rcases hat with ⟨_, g⟩ | ⟨_, _, _, g⟩
  · exact h2.grown g h2.size (fun k hk => own_base h.row k hk)
  · exact h2.grown g h2.size (fun k hk => by cases hk)
def TwinsPost (l : List (List Int)) (w : World) (e : Ending) (w' : World) : Prop := ∃ v vs, e = .returned v ∧ TwL w' w.heap.size v vs l ∧ Below w.heap.size w w'
theorem info25 : (Tryz.prog.info? 25).map (fun i => (i.zero, i.size, i.bytes)) = some (some (.slice none 0 0), 1, 24) := by kernel_rfl
set_option maxHeartbeats 2000000 in
set_option maxRecDepth 100000 in
theorem twin_lists (A : Option Addr) (c : Nat) (l : List (List Int)) (w : World) (hr : Kd.C (Kd.slice 3 (Kd.int .i64)) w A l.length l) (hm : l.length ≤ 300) (hs : ∀ k, (at_ l k).length ≤ 20000) :
    Calls Tryz.prog 5 #[.slice A l.length c] w (TwinsPost l w) := by
  have HR := Lib.hid hr; have HSZ := Lib.hid hs
  clear hr hs
  go_enter Tryz.func5, Tryz.ntmps5
  go_wp2_with fail
  go_loopw [3, 4] (fun tv iv wr => ∃ (i : Nat) (T : Option Addr) (cc : Nat) (vs : List Value), tv = .slice T i cc ∧ iv = .int .i64 i ∧ i ≤ l.length ∧ Hid (TwL wr w.heap.size (.slice T i cc) vs (l.take i)) ∧ Hid (Below w.heap.size w wr)) (fun _ iv _ => l.length - (intOf iv).toNat)
  case atStart => exact ⟨0, none, 0, [], rfl, rfl, Nat.zero_le _, ⟨⟨rfl, .inl ⟨rfl, rfl⟩⟩, rfl, fun j x hx => by simp at hx, fun j x hx => by simp at hx, fun i j x y hx => by simp at hx⟩, Below.refl _ _⟩
  case round =>
    obtain ⟨i, T, cc, vs, rfl, rfl, hi, HT, HB⟩ := hrel
    by_cases hlt : i < l.length
    · have hC := Kd.C_below HR.out HB.out
      obtain ⟨ad, A1, c1, hA, hcell, hle, hC1⟩ := S.at_L1 hC i (by omega) (by omega)
      subst hA
      have hA1 : S.rd_L1 l ↑i = at_ l i := by simp [S.rd_L1, at_]
      rw [hA1] at hcell hle hC1
      simp only [Int.toNat_natCast] at hcell
      have HC1 := Lib.hid hC1
      clear hA1 hC hC1
      go_wp2_with fail
      refine (twin_ints A1 c1 _ (at_ l i) _ rfl HC1.out (by have := HSZ.out i; omega)).mono ?_
      rintro e w2 ⟨x, rfl, hx, hb2⟩
      have HX := Lib.hid hx; have HB2 := Lib.hid hb2
      obtain ⟨gx, cx, hxe, _⟩ := hx
      subst hxe
      clear hb2 hcell
      have hlen : vs.length = i := by rw [HT.out.len, List.length_take]; omega
      have ho2 : w2.ownsRow w.heap.size 25 1 (.slice T i cc) i vs := by
        have := own_kept HT.out.row (w' := w2) (fun k hk => HB2.out.block k (own_lt HT.out.row k hk))
        rw [hlen] at this
        exact this
      have HO2 := Lib.hid ho2
      have hbs : w.heap.size ≤ w2.heap.size := by have := HB.out.size; have := HB2.out.size; omega
      clear ho2
      go_wp2_with (at_builtin; refine wp_append_two (W := w2) w.heap.size rfl _ _ 22 25 (.slice none 0 0) 1 24 rfl Tryz.underlying22 info25 rfl (by decide) (by decide) (.slice T i cc) i vs [.slice (some ⟨gx, 0, none⟩) (at_ l i).length cx] rfl rfl rfl (by simp [Value.oneCell']) HO2.out hbs (by omega) ?_; intro v1 w3 hown3 hat3; obtain ⟨A3, c3, hv3⟩ := own_slice hown3; subst hv3; have HG3 := Lib.hid (HT.out.snoc hlt HB2.out HB.out.size HX.out (by rw [hlen]; exact hown3) hat3); have HB3 := Lib.hid (twl_below HT.out HB.out HB2.out hat3); clear hown3 hat3)
      exact ⟨⟨i + 1, A3, c3, vs ++ [.slice (some ⟨gx, 0, none⟩) (at_ l i).length cx], rfl, by go_num, by omega, HG3, HB3⟩, by simp [intOf]; omega⟩
    · obtain rfl : i = l.length := by omega
      go_wp2_with fail
      go_ret
      have := HT.out
      rw [List.take_length] at this
      exact ⟨_, vs, rfl, this, HB.out⟩
end Go.Proofs.YtodgeciggbeolaaGreatDoor.B
