/- JB: joined by wip/mkclaim.py (ours) from the texts PcA, PcW, NcP of this seat. -/
import Derived.Test.YtfkggeakjgphjaaThA
import Derived.Test.YtfkggeakjgphjaaRfA
import Derived.Test.YtfkggeakjgphjaaCx1
import Derived.BigQuiet
import Derived.Test.YtfkggeakjgphjaaAsA
import Derived.Test.YtfkggeakjgphjaaFnA
import Derived.Test.YtfkggeakjgphjaaMpA
/- progs.Check: walked. Printed by wip/circles/mkpc.py (ours). -/
namespace Go.Proofs.Ytfkggeakjgphjaa.C
set_option linter.unusedVariables false
set_option linter.unusedSimpArgs false
set_option linter.unusedSectionVars false
open Go.RowKit Go.Proofs.YtfkggeakjgphjaaW.PrintWords Go.Proofs.YtfkggeakjgphjaaW.PrintLast Go.Proofs.YtfkggeakjgphjaaW.PrintMore
theorem nameIs : NameIs nameOk := fun s w => tokens_Name.calls s (nameOk s) w rfl
def mayB (st : Int) (nm : ByteArray) (ty at_ : Int) : Bool := nameOk nm && (decide (ty = 1) || decide (ty = 2)) && decide (1 ≤ at_) && decide (at_ ≤ st)
theorem may_eq (st : Int) (nm : ByteArray) (ty at_ : Int) : progs_may.f st nm ty at_ = some (mayB st nm ty at_) := by
  unfold progs_may.f tokens_Name.f mayB
  rw [Option.bind_some]
  cases nameOk nm with
  | false => simp
  | true =>
    by_cases h1 : ty = 1
    · by_cases h3 : 1 ≤ at_
      · simp [h1, h3]
      · simp [h1, h3]
    · by_cases h2 : ty = 2
      · by_cases h3 : 1 ≤ at_
        · simp [h2, h3]
        · simp [h2, h3]
      · simp [h1, h2]
theorem may_any (st : Int) (nm : ByteArray) (ty at_ : Int) (w : World) : Calls Try.prog 37 #[.int .i64 st, .string nm, .int .u8 ty, .int .i64 at_] w fun e w' => e = .returned (.bool (mayB st nm ty at_)) ∧ Below w.heap.size w w' :=
  progs_may.calls st nm ty at_ _ w (may_eq st nm ty at_)
def IdxPost (b : Bool) (w : World) (e : Ending) (w' : World) : Prop := ∃ r : Int, e = .returned (.int .i64 r) ∧ decide (0 ≤ r) = b ∧ Below w.heap.size w w'
theorem any_hit {α : Type} {q : α → Bool} {xs : List α} {k : Nat} (h : k < xs.length) (hq : q xs[k] = true) : xs.any q = true := List.any_eq_true.2 ⟨_, List.getElem_mem h, hq⟩
theorem any_miss {α : Type} {q : α → Bool} {xs : List α} (h : ∀ j (hj : j < xs.length), q xs[j] = false) : xs.any q = false := by
  rw [List.any_eq_false]
  intro x hx
  obtain ⟨j, hj, rfl⟩ := List.getElem_of_mem hx
  rw [h j hj]; simp
theorem at_S {w : World} {A : Option Addr} {n : Nat} {xs : List ByteArray} (h : Kd.C Kd.string w A n xs) (j : Nat) (hj : j < n) (hx : j < xs.length) : ∃ ad, A = some ad ∧ w.cell? (ad.add j) = some (.string xs[j]) := by
  obtain ⟨ad, cs, hA, _, hK, hcc⟩ := Kd.C_get h ByteArray.empty (j : Int) (by omega) (by omega)
  obtain rfl : cs = [.string (xs.getD j ByteArray.empty)] := hK
  have p0 := hcc 0 _ rfl
  rw [show (j : Int).toNat * Kd.string.sz + 0 = j from Nat.mul_one j, List.getD_eq_getElem?_getD, List.getElem?_eq_getElem hx, Option.getD_some] at p0
  exact ⟨ad, hA, p0⟩
theorem below_cell {w W : World} (hb : Below w.heap.size w W) {a : Addr} {u : Value} (h : w.cell? a = some u) : W.cell? a = some u := by
  have hl : a.block < w.heap.size := by
    rcases Nat.lt_or_ge a.block w.heap.size with h1 | h1
    · exact h1
    · simp [World.cell?, Array.getElem?_eq_none h1] at h
  rw [hb.cell hl]; exact h

/-- what is asked of the predicate. -/
def PdI (q : S84 → Bool) (B : Nat) (w : World) (y : S84) : Prop := ∀ (W : World), Below w.heap.size w W → Calls Try.prog 36 (#[.agg #[.string y.f0, .int .u8 y.f1, .int .i64 y.f2]] ++ #[.pointer (some ⟨B, 0, none⟩)]) W fun e w' => e = .returned (.bool (q y)) ∧ Below w.heap.size w w'
set_option maxHeartbeats 2000000 in
set_option maxRecDepth 100000 in
theorem idxI (q : S84 → Bool) (B : Nat) (A : Option Addr) (c : Nat) (xs : List S84) (w : World) (hC : Kd.C k84 w A xs.length xs) (hl : xs.length ≤ 140737488351232) (hp : ∀ y ∈ xs, PdI q B w y) :
    Calls Try.prog 54 #[.slice A xs.length c, .func (.func 36) #[] #[.pointer (some ⟨B, 0, none⟩)]] w (IdxPost (xs.any q) w) := by
  have HC := Lib.hid hC; have HP := Lib.hid hp
  obtain ⟨n, hn⟩ : ∃ n, n = xs.length := ⟨_, rfl⟩
  have HN := Lib.hid hn
  rw [← hn] at hl ⊢
  clear hC hp hn
  go_enter Try.func54, Try.ntmps54
  go_wp2_with fail
  go_loopw [8] (fun s8 wr => ∃ k : Nat, k ≤ n ∧ s8 = .int .i64 k ∧ Hid (Below w.heap.size w wr) ∧ Hid (∀ j (hj : j < xs.length), j < k → q xs[j] = false)) (fun s8 _ => n - (intOf s8).toNat)
  case atStart => exact ⟨0, Nat.zero_le _, rfl, Below.refl _ _, fun j hj h => absurd h (Nat.not_lt_zero _)⟩
  case round =>
    obtain ⟨k, hk, rfl, HB, HQ⟩ := hrel
    by_cases hlt : k < n
    · have hix : k < xs.length := by rw [← HN.out]; exact hlt
      obtain ⟨ad, hA, p0, p1, p2⟩ := at_T84 (Kd.C_below HC.out HB.out) (k : Int) (by omega) (by have := HN.out; omega)
      subst hA
      rw [rdT84 xs k hix] at p0 p1 p2
      simp only [Int.toNat_natCast] at p0 p1 p2
      have HPK := Lib.hid (HP.out xs[k] (List.getElem_mem hix) wr HB.out)
      have HHIT := Lib.hid (any_hit (q := q) hix)
      have HSTEP : Hid (q xs[k] = false → ∀ j (hj : j < xs.length), j < k + 1 → q xs[j] = false) := Lib.hid (fun h0 j hj h => by
        by_cases e : j = k
        · subst e; exact h0
        · exact HQ.out j hj (by omega))
      generalize xs[k] = y at p0 p1 p2 HPK HHIT HSTEP
      cases hq : q y with
      | true =>
        rw [hq] at HPK
        have HANY := Lib.hid (HHIT.out hq)
        clear hq HSTEP
        go_wp2_with fail
        refine HPK.out.mono ?_
        rintro e w' ⟨rfl, hb'⟩
        go_wp2_with fail
        go_ret
        exact ⟨k, rfl, by rw [HANY.out]; simp, hb'⟩
      | false =>
        rw [hq] at HPK
        have HST := Lib.hid (HSTEP.out hq)
        clear hq HHIT HSTEP
        go_wp2_with fail
        refine HPK.out.mono ?_
        rintro e w' ⟨rfl, hb'⟩
        have HB' := Lib.hid hb'
        clear hb'
        go_wp2_with fail
        exact ⟨⟨k + 1, by omega, by go_num, HB', HST⟩, by simp [intOf]; omega⟩
    · obtain rfl : k = n := by omega
      go_wp2_with fail
      go_ret
      exact ⟨-1, rfl, by rw [any_miss (fun j hj => HQ.out j hj (by rw [HN.out]; exact hj))]; rfl, HB.out⟩
set_option maxHeartbeats 1000000 in
theorem hasI (q : S84 → Bool) (B : Nat) (A : Option Addr) (c : Nat) (xs : List S84) (w : World) (hC : Kd.C k84 w A xs.length xs) (hl : xs.length ≤ 140737488351232) (hp : ∀ y ∈ xs, PdI q B w y) :
    Calls Try.prog 35 #[.slice A xs.length c, .func (.func 36) #[] #[.pointer (some ⟨B, 0, none⟩)]] w fun e w' => e = .returned (.bool (xs.any q)) ∧ Below w.heap.size w w' := by
  have H := Lib.hid (idxI q B A c xs w hC hl hp)
  clear hC hp
  go_enter Try.func35, Try.ntmps35
  go_wp2_with fail
  refine H.out.mono ?_
  rintro e w' ⟨r, rfl, hr, hb⟩
  have HR := Lib.hid hr
  clear hr
  go_wp2_with fail
  go_ret
  exact ⟨by rw [← HR.out]; rfl, hb⟩

/-- what is asked of the predicate. -/
def PdF (q : S51 → Bool) (B : Nat) (w : World) (y : S51) : Prop := ∀ (W : World), Below w.heap.size w W → ∀ (A7 : Option Addr) (c7 : Nat), y.f4.f3.length ≤ c7 → Kd.C k49 w A7 y.f4.f3.length y.f4.f3 → Calls Try.prog 39 (#[.agg #[.string y.f0, .int .u8 y.f1, .int .i64 y.f2, .int .i64 y.f3, .int .u8 y.f4.f0, .int .i64 y.f4.f1, .string y.f4.f2, .slice A7 y.f4.f3.length c7]] ++ #[.pointer (some ⟨B, 0, none⟩)]) W fun e w' => e = .returned (.bool (q y)) ∧ Below w.heap.size w w'
set_option maxHeartbeats 2000000 in
set_option maxRecDepth 100000 in
theorem idxF (q : S51 → Bool) (B : Nat) (A : Option Addr) (c : Nat) (xs : List S51) (w : World) (hC : Kd.C k51 w A xs.length xs) (hl : xs.length ≤ 140737488351232) (hp : ∀ y ∈ xs, PdF q B w y) :
    Calls Try.prog 55 #[.slice A xs.length c, .func (.func 39) #[] #[.pointer (some ⟨B, 0, none⟩)]] w (IdxPost (xs.any q) w) := by
  have HC := Lib.hid hC; have HP := Lib.hid hp
  obtain ⟨n, hn⟩ : ∃ n, n = xs.length := ⟨_, rfl⟩
  have HN := Lib.hid hn
  rw [← hn] at hl ⊢
  clear hC hp hn
  go_enter Try.func55, Try.ntmps55
  go_wp2_with fail
  go_loopw [8] (fun s8 wr => ∃ k : Nat, k ≤ n ∧ s8 = .int .i64 k ∧ Hid (Below w.heap.size w wr) ∧ Hid (∀ j (hj : j < xs.length), j < k → q xs[j] = false)) (fun s8 _ => n - (intOf s8).toNat)
  case atStart => exact ⟨0, Nat.zero_le _, rfl, Below.refl _ _, fun j hj h => absurd h (Nat.not_lt_zero _)⟩
  case round =>
    obtain ⟨k, hk, rfl, HB, HQ⟩ := hrel
    by_cases hlt : k < n
    · have hix : k < xs.length := by rw [← HN.out]; exact hlt
      obtain ⟨ad, A7, c7, hA, p0, p1, p2, p3, p4, p5, p6, p7, hl7, _⟩ := at_T51 (Kd.C_below HC.out HB.out) (k : Int) (by omega) (by have := HN.out; omega)
      obtain ⟨ad', A8, c8, hA', q0, q1, q2, q3, q4, q5, q6, q7, hl8, hC8⟩ := at_T51 HC.out (k : Int) (by omega) (by have := HN.out; omega)
      obtain rfl : ad' = ad := by rw [hA] at hA'; exact (Option.some.inj hA').symm
      have hq7 := (below_cell HB.out q7).symm.trans p7
      injection hq7 with hq7
      injection hq7 with e1 e2 e3
      subst e1; subst e3
      subst hA
      rw [rdT51 xs k hix] at p0 p1 p2 p3 p4 p5 p6 p7 hl8 hC8
      simp only [Int.toNat_natCast] at p0 p1 p2 p3 p4 p5 p6 p7
      clear q0 q1 q2 q3 q4 q5 q6 q7 hl7 hA'
      have HPK := Lib.hid (HP.out xs[k] (List.getElem_mem hix) wr HB.out A8 c8 hl8 hC8)
      have HHIT := Lib.hid (any_hit (q := q) hix)
      have HSTEP : Hid (q xs[k] = false → ∀ j (hj : j < xs.length), j < k + 1 → q xs[j] = false) := Lib.hid (fun h0 j hj h => by
        by_cases e : j = k
        · subst e; exact h0
        · exact HQ.out j hj (by omega))
      generalize xs[k] = y at p0 p1 p2 p3 p4 p5 p6 p7 hl8 hC8 HPK HHIT HSTEP
      cases hq : q y with
      | true =>
        rw [hq] at HPK
        have HANY := Lib.hid (HHIT.out hq)
        clear hq HSTEP
        go_wp2_with fail
        refine HPK.out.mono ?_
        rintro e w' ⟨rfl, hb'⟩
        go_wp2_with fail
        go_ret
        exact ⟨k, rfl, by rw [HANY.out]; simp, hb'⟩
      | false =>
        rw [hq] at HPK
        have HST := Lib.hid (HSTEP.out hq)
        clear hq HHIT HSTEP
        go_wp2_with fail
        refine HPK.out.mono ?_
        rintro e w' ⟨rfl, hb'⟩
        have HB' := Lib.hid hb'
        clear hb'
        go_wp2_with fail
        exact ⟨⟨k + 1, by omega, by go_num, HB', HST⟩, by simp [intOf]; omega⟩
    · obtain rfl : k = n := by omega
      go_wp2_with fail
      go_ret
      exact ⟨-1, rfl, by rw [any_miss (fun j hj => HQ.out j hj (by rw [HN.out]; exact hj))]; rfl, HB.out⟩
set_option maxHeartbeats 1000000 in
theorem hasF (q : S51 → Bool) (B : Nat) (A : Option Addr) (c : Nat) (xs : List S51) (w : World) (hC : Kd.C k51 w A xs.length xs) (hl : xs.length ≤ 140737488351232) (hp : ∀ y ∈ xs, PdF q B w y) :
    Calls Try.prog 38 #[.slice A xs.length c, .func (.func 39) #[] #[.pointer (some ⟨B, 0, none⟩)]] w fun e w' => e = .returned (.bool (xs.any q)) ∧ Below w.heap.size w w' := by
  have H := Lib.hid (idxF q B A c xs w hC hl hp)
  clear hC hp
  go_enter Try.func38, Try.ntmps38
  go_wp2_with fail
  refine H.out.mono ?_
  rintro e w' ⟨r, rfl, hr, hb⟩
  have HR := Lib.hid hr
  clear hr
  go_wp2_with fail
  go_ret
  exact ⟨by rw [← HR.out]; rfl, hb⟩

/-- what is asked of the predicate. -/
def PdT (q : ByteArray → Bool) (w : World) (y : ByteArray) : Prop := ∀ (W : World), Below w.heap.size w W → Calls Try.prog 42 (#[.string y] ++ #[]) W fun e w' => e = .returned (.bool (q y)) ∧ Below w.heap.size w w'
set_option maxHeartbeats 2000000 in
set_option maxRecDepth 100000 in
theorem idxT (q : ByteArray → Bool) (A : Option Addr) (c : Nat) (xs : List ByteArray) (w : World) (hC : Kd.C Kd.string w A xs.length xs) (hl : xs.length ≤ 140737488351232) (hp : ∀ y ∈ xs, PdT q w y) :
    Calls Try.prog 57 #[.slice A xs.length c, .func (.func 42) #[] #[]] w (IdxPost (xs.any q) w) := by
  have HC := Lib.hid hC; have HP := Lib.hid hp
  obtain ⟨n, hn⟩ : ∃ n, n = xs.length := ⟨_, rfl⟩
  have HN := Lib.hid hn
  rw [← hn] at hl ⊢
  clear hC hp hn
  go_enter Try.func57, Try.ntmps57
  go_wp2_with fail
  go_loopw [8] (fun s8 wr => ∃ k : Nat, k ≤ n ∧ s8 = .int .i64 k ∧ Hid (Below w.heap.size w wr) ∧ Hid (∀ j (hj : j < xs.length), j < k → q xs[j] = false)) (fun s8 _ => n - (intOf s8).toNat)
  case atStart => exact ⟨0, Nat.zero_le _, rfl, Below.refl _ _, fun j hj h => absurd h (Nat.not_lt_zero _)⟩
  case round =>
    obtain ⟨k, hk, rfl, HB, HQ⟩ := hrel
    by_cases hlt : k < n
    · have hix : k < xs.length := by rw [← HN.out]; exact hlt
      obtain ⟨ad, hA, p0⟩ := at_S (Kd.C_below HC.out HB.out) k (by omega) hix
      subst hA
      have HPK := Lib.hid (HP.out xs[k] (List.getElem_mem hix) wr HB.out)
      have HHIT := Lib.hid (any_hit (q := q) hix)
      have HSTEP : Hid (q xs[k] = false → ∀ j (hj : j < xs.length), j < k + 1 → q xs[j] = false) := Lib.hid (fun h0 j hj h => by
        by_cases e : j = k
        · subst e; exact h0
        · exact HQ.out j hj (by omega))
      generalize xs[k] = y at p0 HPK HHIT HSTEP
      cases hq : q y with
      | true =>
        rw [hq] at HPK
        have HANY := Lib.hid (HHIT.out hq)
        clear hq HSTEP
        go_wp2_with fail
        refine HPK.out.mono ?_
        rintro e w' ⟨rfl, hb'⟩
        go_wp2_with fail
        go_ret
        exact ⟨k, rfl, by rw [HANY.out]; simp, hb'⟩
      | false =>
        rw [hq] at HPK
        have HST := Lib.hid (HSTEP.out hq)
        clear hq HHIT HSTEP
        go_wp2_with fail
        refine HPK.out.mono ?_
        rintro e w' ⟨rfl, hb'⟩
        have HB' := Lib.hid hb'
        clear hb'
        go_wp2_with fail
        exact ⟨⟨k + 1, by omega, by go_num, HB', HST⟩, by simp [intOf]; omega⟩
    · obtain rfl : k = n := by omega
      go_wp2_with fail
      go_ret
      exact ⟨-1, rfl, by rw [any_miss (fun j hj => HQ.out j hj (by rw [HN.out]; exact hj))]; rfl, HB.out⟩
set_option maxHeartbeats 1000000 in
theorem hasT (q : ByteArray → Bool) (A : Option Addr) (c : Nat) (xs : List ByteArray) (w : World) (hC : Kd.C Kd.string w A xs.length xs) (hl : xs.length ≤ 140737488351232) (hp : ∀ y ∈ xs, PdT q w y) :
    Calls Try.prog 41 #[.slice A xs.length c, .func (.func 42) #[] #[]] w fun e w' => e = .returned (.bool (xs.any q)) ∧ Below w.heap.size w w' := by
  have H := Lib.hid (idxT q A c xs w hC hl hp)
  clear hC hp
  go_enter Try.func41, Try.ntmps41
  go_wp2_with fail
  refine H.out.mono ?_
  rintro e w' ⟨r, rfl, hr, hb⟩
  have HR := Lib.hid hr
  clear hr
  go_wp2_with fail
  go_ret
  exact ⟨by rw [← HR.out]; rfl, hb⟩
end Go.Proofs.Ytfkggeakjgphjaa.C

/- progs.Check: walked. -/
namespace Go.Proofs.Ytfkggeakjgphjaa.C
set_option linter.unusedVariables false
set_option linter.unusedSimpArgs false
set_option linter.unusedSectionVars false
open Go.RowKit Go.Proofs.YtfkggeakjgphjaaW.PrintWords Go.Proofs.YtfkggeakjgphjaaW.PrintLast Go.Proofs.YtfkggeakjgphjaaW.PrintMore
def badI (st : Int) (y : S84) : Bool := !mayB st y.f0 y.f1 y.f2
def badF (st : Int) (y : S51) : Bool := !mayB st y.f0 y.f1 y.f2 || (y.f3 == -9223372036854775808 || !okE nameOk y.f4)
def badT (y : ByteArray) : Bool := !nameOk y
/-- may a program be? -/
def prOk (st : Int) (ins : List S84) (fls : List S51) (outs : List ByteArray) : Bool :=
  decide (1 ≤ st) && decide (st ≤ 8) && decide (ins.length ≤ 64) && decide (fls.length ≤ 128) && decide (outs.length ≤ ins.length + fls.length) && !ins.any (badI st) && !fls.any (badF st) && !outs.any badT
theorem box4' {w : World} {k : Nat} {t : TypeId} {a b c d : Value} (h : w.heap[k]? = some (.cells #[a, b, c, d] t (0, 0))) :
    w.cell? ⟨k, 0, none⟩ = some a ∧ w.cell? ⟨k, 1, none⟩ = some b ∧ w.cell? ⟨k, 2, none⟩ = some c ∧ w.cell? ⟨k, 3, none⟩ = some d := by
  simp [World.cell?, h]
set_option maxHeartbeats 1000000 in
theorem predI (st : Int) (B : Nat) (a b c : Value) (w : World) (hb : w.heap[B]? = some (.cells #[.int .i64 st, a, b, c] 26 (0, 0))) (y : S84) : PdI (badI st) B w y := by
  intro W hW
  have hB : B < w.heap.size := (Array.getElem?_eq_some_iff.1 hb).1
  have c0 := (box4' ((hW.block B hB).trans hb)).1
  have hW2 := hW.size
  have hBW : B < W.heap.size := by omega
  have HW := Lib.hid hW
  show Calls Try.prog 36 #[_, _] _ _
  clear hb hW
  go_enter Try.func36, Try.ntmps36
  go_wp2_with fail
  refine (may_any st y.f0 y.f1 y.f2 _).mono ?_
  rintro e w' ⟨rfl, hb'⟩
  go_wp2_with fail
  go_ret
  exact ⟨rfl, HW.out.trans (((Below.refl _ _).alloc (by omega) _).trans (hb'.mono (by simp; omega)))⟩
set_option maxHeartbeats 1000000 in
theorem predT (w : World) (y : ByteArray) : PdT badT w y := by
  intro W hW
  have hW2 := hW.size
  have HW := Lib.hid hW
  show Calls Try.prog 42 #[_] _ _
  clear hW
  go_enter Try.func42, Try.ntmps42
  go_wp2_with fail
  refine (tokens_Name.calls y (nameOk y) _ rfl).mono ?_
  rintro e w' ⟨rfl, hb'⟩
  go_wp2_with fail
  go_ret
  exact ⟨rfl, HW.out.trans (hb'.mono (by omega))⟩
theorem box8 (W : World) (n : ByteArray) (t s d o m : Int) (u : ByteArray) (v : Value) : ∀ w', Below (W.heap.size + 1) (W.alloc (.cells #[.string n, .int .u8 t, .int .i64 s, .int .i64 d, .int .u8 o, .int .i64 m, .string u, v] 51)) w' →
    w'.cell? ⟨W.heap.size, 3, none⟩ = some (.int .i64 d) ∧ w'.cell? ⟨W.heap.size, 4, none⟩ = some (.int .u8 o) ∧ w'.cell? ⟨W.heap.size, 5, none⟩ = some (.int .i64 m) ∧ w'.cell? ⟨W.heap.size, 6, none⟩ = some (.string u) ∧ w'.cell? ⟨W.heap.size, 7, none⟩ = some v := by
  intro w' hb
  have h := (hb.block W.heap.size (by omega)).trans (World.alloc_heap_new W _)
  simp [World.cell?, h]
set_option maxHeartbeats 2000000 in
theorem predF (st : Int) (B : Nat) (a b c : Value) (w : World) (hb : w.heap[B]? = some (.cells #[.int .i64 st, a, b, c] 26 (0, 0))) (y : S51) : PdF (badF st) B w y := by
  intro W hW A7 c7 hl7 hC7
  have hB : B < w.heap.size := (Array.getElem?_eq_some_iff.1 hb).1
  have c0 := (box4' ((hW.block B hB).trans hb)).1
  have hW2 := hW.size
  have hBW : B < W.heap.size := by omega
  have HW := Lib.hid hW
  obtain ⟨ws, hws⟩ : ∃ ws : World, ws = W.alloc (.cells #[.string y.f0, .int .u8 y.f1, .int .i64 y.f2, .int .i64 y.f3, .int .u8 y.f4.f0, .int .i64 y.f4.f1, .string y.f4.f2, .slice A7 y.f4.f3.length c7] 51) := ⟨_, rfl⟩
  have hCW : Kd.C k49 W A7 y.f4.f3.length y.f4.f3 := Kd.C_below hC7 hW
  have HCK := Lib.hid (fun W2 (h : Below W.heap.size W W2) => Check_walk nameOk nameIs y.f4 A7 c7 W2 hl7 (Kd.C_below hCW h))
  have hbx := box8 W y.f0 y.f1 y.f2 y.f3 y.f4.f0 y.f4.f1 y.f4.f2 (.slice A7 y.f4.f3.length c7)
  show Calls Try.prog 39 #[_, _] _ _
  clear hb hW hC7 hCW hws ws
  cases hm : mayB st y.f0 y.f1 y.f2 with
  | false =>
    have HM := Lib.hid hm
    clear hm hbx
    go_enter Try.func39, Try.ntmps39
    go_wp2_with fail
    refine (may_any st y.f0 y.f1 y.f2 _).mono ?_
    rw [HM.out]
    rintro e w' ⟨rfl, hb'⟩
    go_wp2_with fail
    go_ret
    exact ⟨by unfold badF; rw [HM.out]; rfl, HW.out.trans (((Below.refl _ _).alloc (by omega) _).trans (hb'.mono (by simp; omega)))⟩
  | true =>
    have HM := Lib.hid hm
    clear hm
    by_cases h3 : y.f3 = -9223372036854775808
    · have HF : Hid (badF st y = true) := Lib.hid (by unfold badF; rw [HM.out, h3]; rfl)
      have h3b : (y.f3 == -9223372036854775808) = true := by rw [h3]; rfl
      clear h3
      go_enter Try.func39, Try.ntmps39
      go_wp2_with fail
      refine (may_any st y.f0 y.f1 y.f2 _).mono ?_
      rw [HM.out]
      rintro e w' ⟨rfl, hb'⟩
      obtain ⟨d3, d4, d5, d6, d7⟩ := hbx _ (hb'.mono (by simp))
      have HB' := Lib.hid hb'
      clear hb' hbx
      go_wp2_with fail
      go_ret
      exact ⟨by rw [HF.out]; rfl, HW.out.trans (((Below.refl _ _).alloc (by omega) _).trans (HB'.out.mono (by simp; omega)))⟩
    · have HF : Hid (badF st y = !okE nameOk y.f4) := Lib.hid (by
        unfold badF
        rw [HM.out, show (y.f3 == -9223372036854775808) = false from beq_eq_false_iff_ne.2 h3]
        simp)
      have h3b : (y.f3 == -9223372036854775808) = false := beq_eq_false_iff_ne.2 h3
      clear h3
      go_enter Try.func39, Try.ntmps39
      go_wp2_with fail
      refine (may_any st y.f0 y.f1 y.f2 _).mono ?_
      rw [HM.out]
      rintro e w' ⟨rfl, hb'⟩
      obtain ⟨d3, d4, d5, d6, d7⟩ := hbx _ (hb'.mono (by simp))
      have HB' := Lib.hid hb'
      have HB2 : Hid (Below W.heap.size W w') := Lib.hid (((Below.refl _ _).alloc (Nat.le_refl _) _).trans (hb'.mono (by simp)))
      clear hb' hbx
      go_wp2_with fail
      refine (HCK.out _ HB2.out).mono ?_
      rintro e w2 ⟨rfl, hb2⟩
      have HB3 := Lib.hid hb2
      have hz := HB2.out.size
      clear hb2
      go_wp2_with fail
      go_ret
      exact ⟨by rw [HF.out]; rfl, HW.out.trans ((HB2.out.trans (HB3.out.mono hz)).mono (by omega))⟩
theorem prOk_odd {st : Int} {ins : List S84} {fls : List S51} {outs : List ByteArray} (h : st < 1 ∨ 8 < st ∨ 64 < ins.length ∨ 128 < fls.length ∨ ins.length + fls.length < outs.length) : prOk st ins fls outs = false := by
  unfold prOk
  rcases h with h | h | h | h | h
  · rw [show decide (1 ≤ st) = false from decide_eq_false (by omega)]; simp
  · rw [show decide (st ≤ 8) = false from decide_eq_false (by omega)]; simp
  · rw [show decide (ins.length ≤ 64) = false from decide_eq_false (by omega)]; simp
  · rw [show decide (fls.length ≤ 128) = false from decide_eq_false (by omega)]; simp
  · rw [show decide (outs.length ≤ ins.length + fls.length) = false from decide_eq_false (by omega)]; simp
theorem prOk_even {st : Int} {ins : List S84} {fls : List S51} {outs : List ByteArray} (h1 : 1 ≤ st) (h2 : st ≤ 8) (h3 : ins.length ≤ 64) (h4 : fls.length ≤ 128) (h5 : outs.length ≤ ins.length + fls.length) :
    prOk st ins fls outs = (!ins.any (badI st) && (!fls.any (badF st) && !outs.any badT)) := by
  unfold prOk
  rw [decide_eq_true h1, decide_eq_true h2, decide_eq_true h3, decide_eq_true h4, decide_eq_true h5]
  simp [Bool.and_assoc]
set_option maxHeartbeats 4000000 in
set_option maxRecDepth 100000 in
/-- progs.Check. -/
theorem pcheck_any (w : World) (st : Int) (ins : List S84) (fls : List S51) (outs : List ByteArray) (A1 A2 A3 : Option Addr) (c1 c2 c3 : Nat)
    (hl1 : ins.length ≤ 140737488351232) (hl2 : fls.length ≤ 140737488351232) (hl3 : outs.length ≤ 140737488351232)
    (hC1 : Kd.C k84 w A1 ins.length ins) (hC2 : Kd.C k51 w A2 fls.length fls) (hC3 : Kd.C Kd.string w A3 outs.length outs) :
    Calls Try.prog 21 #[.agg #[.int .i64 st, .slice A1 ins.length c1, .slice A2 fls.length c2, .slice A3 outs.length c3]] w fun e w' => e = .returned (.bool (prOk st ins fls outs)) ∧ Below w.heap.size w w' := by
  have hmf : ∀ (fn : Fn) (first cap : Array Value) (w : World), (Instr.makeFunc fn first cap).run Try.prog w = .ok (.func fn first cap) w := fun _ _ _ _ => rfl
  by_cases hodd : st < 1 ∨ 8 < st ∨ 64 < ins.length ∨ 128 < fls.length ∨ ins.length + fls.length < outs.length
  · have HF := Lib.hid (prOk_odd hodd)
    have HO := Lib.hid hodd
    obtain ⟨n1, hn1⟩ : ∃ n, n = ins.length := ⟨_, rfl⟩
    obtain ⟨n2, hn2⟩ : ∃ n, n = fls.length := ⟨_, rfl⟩
    obtain ⟨n3, hn3⟩ : ∃ n, n = outs.length := ⟨_, rfl⟩
    rw [← hn1, ← hn2, ← hn3] at hodd ⊢
    rw [← hn1] at hl1; rw [← hn2] at hl2; rw [← hn3] at hl3
    clear hC1 hC2 hC3 hn1 hn2 hn3 HO
    have fin : ∀ (r : Bool) (o : Obj), r = false → Ending.returned (.bool r) = .returned (.bool (prOk st ins fls outs)) ∧ Below w.heap.size w (w.alloc o) := fun r o h => ⟨by rw [HF.out, h], (Below.refl _ _).alloc (Nat.le_refl _) _⟩
    have FIN := Lib.hid fin
    clear fin
    by_cases h1 : st < 1
    · clear hodd
      go_enter Try.func21, Try.ntmps21
      go_wp2_with fail
      go_ret
      exact FIN.out _ _ rfl
    · by_cases h2 : 8 < st
      · clear hodd
        go_enter Try.func21, Try.ntmps21
        go_wp2_with fail
        go_ret
        exact FIN.out _ _ rfl
      · by_cases h3 : 64 < n1
        · clear hodd
          go_enter Try.func21, Try.ntmps21
          go_wp2_with fail
          go_ret
          exact FIN.out _ _ rfl
        · by_cases h4 : 128 < n2
          · clear hodd
            go_enter Try.func21, Try.ntmps21
            go_wp2_with fail
            go_ret
            exact FIN.out _ _ rfl
          · have h5 : n1 + n2 < n3 := by omega
            have h5i : (n1 : Int) + (n2 : Int) < (n3 : Int) := by omega
            clear hodd
            go_enter Try.func21, Try.ntmps21
            go_wp2_with fail
            go_ret
            exact FIN.out _ _ rfl
  · have g1 : 1 ≤ st := by omega
    have g2 : st ≤ 8 := by omega
    have g3 : ins.length ≤ 64 := by omega
    have g4 : fls.length ≤ 128 := by omega
    have g5 : outs.length ≤ ins.length + fls.length := by omega
    have HE := Lib.hid (prOk_even g1 g2 g3 g4 g5)
    obtain ⟨W1, hW1⟩ : ∃ W1, W1 = w.alloc (.cells #[.int .i64 st, .slice A1 ins.length c1, .slice A2 fls.length c2, .slice A3 outs.length c3] 26) := ⟨_, rfl⟩
    have hb1 : Below w.heap.size w W1 := by rw [hW1]; exact (Below.refl _ _).alloc (Nat.le_refl _) _
    have hz1 : W1.heap.size = w.heap.size + 1 := by rw [hW1]; simp
    have hx1 : W1.heap[w.heap.size]? = some (.cells #[.int .i64 st, .slice A1 ins.length c1, .slice A2 fls.length c2, .slice A3 outs.length c3] 26 (0, 0)) := by rw [hW1]; exact World.alloc_heap_new _ _
    have HP1 := Lib.hid (fun W2 (h : Below W1.heap.size W1 W2) => hasI (badI st) w.heap.size A1 c1 ins W2 (Kd.C_below hC1 (hb1.trans (h.mono hb1.size))) hl1 (fun y _ => predI st w.heap.size _ _ _ W2 ((h.block _ (by omega)).trans hx1) y))
    have HP2 := Lib.hid (fun W2 (h : Below W1.heap.size W1 W2) => hasF (badF st) w.heap.size A2 c2 fls W2 (Kd.C_below hC2 (hb1.trans (h.mono hb1.size))) hl2 (fun y _ => predF st w.heap.size _ _ _ W2 ((h.block _ (by omega)).trans hx1) y))
    have HP3 := Lib.hid (fun W2 (h : Below W1.heap.size W1 W2) => hasT badT A3 c3 outs W2 (Kd.C_below hC3 (hb1.trans (h.mono hb1.size))) hl3 (fun y _ => predT W2 y))
    have hcl := fun W2 (h : Below W1.heap.size W1 W2) => box4' ((h.block w.heap.size (by omega)).trans hx1)
    have HCL := Lib.hid hcl
    have HB1 := Lib.hid hb1
    have HW1 := Lib.hid hW1
    have HZ1 := Lib.hid hz1
    obtain ⟨n1, hn1⟩ : ∃ n, n = ins.length := ⟨_, rfl⟩
    obtain ⟨n2, hn2⟩ : ∃ n, n = fls.length := ⟨_, rfl⟩
    obtain ⟨n3, hn3⟩ : ∃ n, n = outs.length := ⟨_, rfl⟩
    rw [← hn1] at hl1 g3; rw [← hn2] at hl2 g4; rw [← hn1, ← hn2, ← hn3] at g5; rw [← hn3] at hl3
    rw [← hn1] at HP1; rw [← hn2] at HP2; rw [← hn3] at HP3
    rw [← hn1, ← hn2, ← hn3] at HCL HW1 ⊢
    clear hC1 hC2 hC3 hn1 hn2 hn3 hodd hb1 hz1 hx1 hW1 hcl
    have g5i : (n3 : Int) ≤ (n1 : Int) + (n2 : Int) := by omega
    go_enter Try.func21, Try.ntmps21
    go_wp2_with fail
    rw [← HW1.out]
    refine (HP1.out W1 (Below.refl _ _)).mono ?_
    rintro e w2 ⟨rfl, hb2⟩
    obtain ⟨d0, d1, d2, d3⟩ := HCL.out w2 hb2
    have HB2 := Lib.hid hb2
    have hsz2 := hb2.size
    have hz1 := HZ1.out
    have hlt2 : w.heap.size < w2.heap.size := by omega
    clear hb2
    cases h6 : ins.any (badI st) with
    | true =>
      have H6 := Lib.hid h6
      clear h6
      go_wp2_with fail
      go_ret
      exact ⟨by rw [HE.out, H6.out]; rfl, HB1.out.trans (HB2.out.mono (by omega))⟩
    | false =>
      have H6 := Lib.hid h6
      clear h6
      go_wp2_with fail
      refine (HP2.out w2 HB2.out).mono ?_
      rintro e w3 ⟨rfl, hb3⟩
      have HB3 := Lib.hid (HB2.out.trans (hb3.mono hsz2))
      obtain ⟨f0, f1, f2, f3⟩ := HCL.out w3 HB3.out
      have hsz3 := HB3.out.size
      have hlt3 : w.heap.size < w3.heap.size := by omega
      clear hb3
      cases h7 : fls.any (badF st) with
      | true =>
        have H7 := Lib.hid h7
        clear h7
        go_wp2_with fail
        go_ret
        exact ⟨by rw [HE.out, H6.out, H7.out]; rfl, HB1.out.trans (HB3.out.mono (by omega))⟩
      | false =>
        have H7 := Lib.hid h7
        clear h7
        go_wp2_with fail
        refine (HP3.out w3 HB3.out).mono ?_
        rintro e w4 ⟨rfl, hb4⟩
        have HB4 := Lib.hid (HB3.out.trans (hb4.mono hsz3))
        clear hb4
        go_wp2_with fail
        go_ret
        refine ⟨congrArg (fun b => Ending.returned (Value.bool b)) (?_ : _ = prOk st ins fls outs), HB1.out.trans (HB4.out.mono (by omega))⟩
        rw [HE.out, H6.out, H7.out]
        rw [show decide (st < 1) = false from decide_eq_false (by omega), show decide (8 < st) = false from decide_eq_false (by omega), show decide (64 < (n1 : Int)) = false from decide_eq_false (by omega), show decide (128 < (n2 : Int)) = false from decide_eq_false (by omega), show decide ((n1 : Int) + (n2 : Int) < (n3 : Int)) = false from decide_eq_false (by omega)]
        simp
end Go.Proofs.Ytfkggeakjgphjaa.C

/- names.Check, in plain words. -/
namespace Go.Proofs.Ytfkggeakjgphjaa.C
set_option linter.unusedVariables false
set_option linter.unusedSimpArgs false
open Go.RowKit Go.Shelf Go.Proofs.YtfkggeakjgphjaaW.PrintWords Go.Proofs.YtfkggeakjgphjaaW.PrintLast Go.Proofs.YtfkggeakjgphjaaW.PrintMore
/-- a row of keys and values as a map: the last one counts. -/
def mapOf {α : Type} [DecidableEq α] (l : List (α × Value)) : α → Option Value := l.foldl (fun f p => fun m => if m = p.1 then some p.2 else f m) (fun _ => none)
theorem mapOf_snoc {α : Type} [DecidableEq α] (l : List (α × Value)) (p : α × Value) : mapOf (l ++ [p]) = fun m => if m = p.1 then some p.2 else mapOf l m := by simp [mapOf]
theorem mapOf_some {α : Type} [DecidableEq α] : ∀ (l : List (α × Value)) (a : α), (mapOf l a).isSome = true ↔ a ∈ l.map (·.1) := by
  suffices h : ∀ (l : List (α × Value)) (f : α → Option Value) (a : α), (l.foldl (fun f p => fun m => if m = p.1 then some p.2 else f m) f a).isSome = true ↔ (a ∈ l.map (·.1) ∨ (f a).isSome = true) from fun l a => by
    have := h l (fun _ => none) a
    simpa [mapOf] using this
  intro l
  induction l with
  | nil => intro f a; simp
  | cons p l ih =>
    intro f a
    rw [List.foldl_cons, ih]
    by_cases h : a = p.1
    · simp [h]
    · simp [h]
theorem mapOf_none {α : Type} [DecidableEq α] (l : List (α × Value)) (a : α) (h : a ∉ l.map (·.1)) : mapOf l a = none := by
  cases hm : mapOf l a with
  | none => rfl
  | some v => exact absurd ((mapOf_some l a).1 (by rw [hm]; rfl)) h
def thV (x : Th) : Value := .agg #[.int .i64 x.2.1, .int .u8 x.2.2.1, .int .i64 x.2.2.2]
def thM (l : List Th) : ByteArray → Option Value := mapOf (l.map fun x => (x.1, thV x))
theorem thM_snoc (l : List Th) (x : Th) : thM (l ++ [x]) = fun m => if m = x.1 then some (thV x) else thM l m := by
  unfold thM
  rw [List.map_append]
  exact mapOf_snoc _ _
def thN (l : List Th) : List ByteArray := l.map (·.1)
theorem thM_some (l : List Th) (a : ByteArray) : (thM l a).isSome = true ↔ a ∈ thN l := by
  unfold thM thN
  rw [mapOf_some, List.map_map]
  rfl
theorem thM_in {l : List Th} {a : ByteArray} (h : a ∈ thN l) : (thM l a).isSome = true := (thM_some l a).2 h
theorem thM_out {l : List Th} {a : ByteArray} (h : a ∉ thN l) : (thM l a).isSome = false := by
  cases hs : (thM l a).isSome with
  | false => rfl
  | true => exact absurd ((thM_some l a).1 hs) h
theorem thM_no {l : List Th} {a : ByteArray} (h : a ∉ thN l) : thM l a = none := by
  cases hm : thM l a with
  | none => rfl
  | some v => exact absurd ((thM_some l a).1 (by rw [hm]; rfl)) h
theorem thM_th : ∀ (l : List Th) (a : ByteArray), a ∈ thN l → ∃ y : Th, thM l a = some (thV y) := by
  suffices h : ∀ (l : List Th) (f : ByteArray → Option Value) (a : ByteArray), (∀ v, f a = some v → ∃ y : Th, v = thV y) → ∀ v, (l.map fun x => (x.1, thV x)).foldl (fun f p => fun m => if m = p.1 then some p.2 else f m) f a = some v → ∃ y : Th, v = thV y from fun l a ha => by
    cases hm : thM l a with
    | none => exact absurd ((thM_some l a).2 ha) (by rw [hm]; simp)
    | some v =>
      obtain ⟨y, rfl⟩ := h l (fun _ => none) a (fun v h => by cases h) v hm
      exact ⟨y, rfl⟩
  intro l
  induction l with
  | nil => exact fun f a h v hv => h v hv
  | cons x l ih =>
    intro f a h v hv
    refine ih _ a (fun v hv => ?_) v hv
    simp only [] at hv
    split at hv
    · exact ⟨x, (Option.some.inj hv).symm⟩
    · exact h v hv
/-- the names that are declared. -/
def names (ins : List S84) (fls : List S51) : List ByteArray := thN (things ins fls)
def isIn (l : List ByteArray) (s : ByteArray) : Bool := l.any fun t => decide (t = s)
theorem isIn_iff (l : List ByteArray) (s : ByteArray) : isIn l s = true ↔ s ∈ l := by
  unfold isIn
  rw [List.any_eq_true]
  constructor
  · rintro ⟨t, ht, h⟩
    rw [← of_decide_eq_true h]; exact ht
  · intro h
    exact ⟨s, h, decide_eq_true rfl⟩
/-- does each name mean one thing, that is there? -/
def nmCheck (st : Int) (ins : List S84) (fls : List S51) (outs : List ByteArray) : Int :=
  if prOk st ins fls outs = false then 1 else if ¬ (names ins fls).Nodup then 6 else if ((asked fls outs).all (isIn (names ins fls))) = false then 6 else if ¬ outs.Nodup then 6 else 0
theorem names_eq (ins : List S84) (fls : List S51) : names ins fls = ins.map (·.f0) ++ fls.map (·.f0) := by
  unfold names thN things
  rw [List.map_append, List.map_map]
  congr 1
  apply List.ext_getElem
  · simp
  · intro i h1 h2; simp [thF]
/-- what is known of a program's sizes. -/
structure WfP (ins : List S84) (fls : List S51) (outs : List ByteArray) : Prop where
  li : ins.length ≤ 140737488351232
  lf : fls.length ≤ 140737488351232
  lo : outs.length ≤ 140737488351232
  ni : ∀ x ∈ ins, x.f0.size ≤ 140737488351232
  nf : ∀ x ∈ fls, x.f0.size ≤ 140737488351232
  no : ∀ s ∈ outs, s.size ≤ 140737488351232
  bf : ∀ x ∈ fls, WfE x.f4
theorem WfP.things {ins : List S84} {fls : List S51} {outs : List ByteArray} (h : WfP ins fls outs) : ∀ x ∈ things ins fls, okS x.1 := by
  intro x hx
  have : x.1 ∈ names ins fls := List.mem_map.2 ⟨x, hx, rfl⟩
  rw [names_eq] at this
  unfold okS maxLen
  rcases List.mem_append.1 this with h1 | h1
  · obtain ⟨y, hy, e⟩ := List.mem_map.1 h1
    have := h.ni y hy
    rw [← e]; omega
  · obtain ⟨y, hy, e⟩ := List.mem_map.1 h1
    have := h.nf y hy
    rw [← e]; omega
theorem WfP.asked {ins : List S84} {fls : List S51} {outs : List ByteArray} (h : WfP ins fls outs) : ∀ s ∈ asked fls outs, okS s := by
  intro s hs
  unfold okS maxLen
  rcases List.mem_append.1 hs with h1 | h1
  · obtain ⟨f, hf, h2⟩ := List.mem_flatMap.1 h1
    obtain ⟨r, hr, e⟩ := List.mem_map.1 h2
    have := go1_size f.f4 0 [] (h.bf f hf) (by simp) r hr
    rw [← e]; omega
  · have := h.no s h1; omega
theorem mem_pre {α : Type} {pre l : List α} {x : α} (h : pre ++ [x] <+: l) : x ∈ l := h.subset (by simp)
/-- what is checked is not too great. -/
theorem chks_nodes {f : S49 → Int → Bool × Int} (hf : ∀ y l, (f y l).1 = true → ∃ m : Nat, Nodes y m ∧ (m : Int) = l - (f y l).2) : ∀ (xs : List S49) (l : Int), (chks f xs l).1 = true →
    ∃ ns : List Nat, ns.length = xs.length ∧ (∀ (i : Nat) (y : S49) (m : Nat), xs[i]? = some y → ns[i]? = some m → Nodes y m) ∧ (ns.sum : Int) = l - (chks f xs l).2
  | [], l, _ => ⟨[], rfl, fun i y m h => by simp at h, by simp [chks]⟩
  | x :: xs, l, h => by
    simp only [chks] at h ⊢
    by_cases hb : (f x l).1 = true
    · rw [if_pos hb] at h ⊢
      obtain ⟨m, h1, h2⟩ := hf x l hb
      obtain ⟨ns, h3, h4, h5⟩ := chks_nodes hf xs _ h
      refine ⟨m :: ns, by simp [h3], fun i y k hy hk => ?_, by rw [List.sum_cons]; omega⟩
      cases i with
      | zero =>
        simp only [List.getElem?_cons_zero, Option.some.injEq] at hy hk
        subst hy; subst hk; exact h1
      | succ i => exact h4 i y k (by simpa using hy) (by simpa using hk)
    · rw [if_neg hb] at h; simp at h
theorem chk_nodes (nm : ByteArray → Bool) : ∀ (d : Nat) (x : S49) (l : Int), (chk nm d x l).1 = true → ∃ m : Nat, Nodes x m ∧ (m : Int) = l - (chk nm d x l).2
  | 0, x, l, h => by simp [chk] at h
  | d + 1, ⟨o, n, s, xs⟩, l, h => by
    have leaf : xs = [] → Nodes ⟨o, n, s, xs⟩ 1 := fun e => by
      subst e
      exact .mk o n s [] [] rfl (fun i y m h => by simp at h)
    unfold chk at h ⊢
    by_cases h1 : l - 1 < 0
    · rw [if_pos h1] at h; simp at h
    · rw [if_neg h1] at h ⊢
      by_cases h2 : parts o ≠ (xs.length : Int)
      · rw [if_pos h2] at h; simp at h
      · rw [if_neg h2] at h ⊢
        have hp : parts o = (xs.length : Int) := Classical.not_not.1 h2
        have h0 : (o = 1 ∨ o = 2 ∨ o = 3) → xs = [] := fun ho => by
          unfold parts at hp
          rw [if_pos ho] at hp
          exact List.eq_nil_of_length_eq_zero (by omega)
        dsimp only at h ⊢
        by_cases e1 : o = 1
        · rw [if_pos e1]; exact ⟨1, leaf (h0 (.inl e1)), by show (1 : Int) = l - (l - 1); omega⟩
        · rw [if_neg e1] at h ⊢
          by_cases e2 : o = 2
          · rw [if_pos e2]; exact ⟨1, leaf (h0 (.inr (.inl e2))), by show (1 : Int) = l - (l - 1); omega⟩
          · rw [if_neg e2] at h ⊢
            by_cases e3 : o = 3
            · rw [if_pos e3]; exact ⟨1, leaf (h0 (.inr (.inr e3))), by show (1 : Int) = l - (l - 1); omega⟩
            · rw [if_neg e3] at h ⊢
              simp only [Bool.and_eq_true] at h
              obtain ⟨ns, q1, q2, q3⟩ := chks_nodes (chk_nodes nm d) xs (l - 1) h.1
              exact ⟨1 + ns.sum, .mk o n s xs ns q1 q2, by simp only; omega⟩
theorem okE_nodes {nm : ByteArray → Bool} {x : S49} (h : okE nm x = true) : ∃ m : Nat, Nodes x m ∧ m ≤ 200 := by
  obtain ⟨m, h1, h2⟩ := chk_nodes nm 32 x 200 h
  have := (chk_le nm 32 x 200 (by omega)).2.2 h
  exact ⟨m, h1, by omega⟩
theorem prOk_sm {st : Int} {ins : List S84} {fls : List S51} {outs : List ByteArray} (h : prOk st ins fls outs = true) (hw : WfP ins fls outs) : ∀ x ∈ fls, Sm x.f4 := by
  intro x hx
  unfold prOk at h
  simp only [Bool.and_eq_true, Bool.not_eq_true', List.any_eq_false] at h
  have h1 := h.1.2 x hx
  unfold badF at h1
  have h2 : okE nameOk x.f4 = true := by
    cases e : okE nameOk x.f4 with
    | true => rfl
    | false => rw [e] at h1; simp at h1
  obtain ⟨m, h3, h4⟩ := okE_nodes h2
  exact ⟨hw.bf x hx, m, h3, by omega⟩
end Go.Proofs.Ytfkggeakjgphjaa.C
