/- JC: joined by wip/mkclaim.py (ours) from the texts ApI, CmA, CmW of this seat. -/
import Derived.Test.YtfkggeakjgphjaaNdW
import Derived.Maps.OwnIn
import Derived.Test.YtfkggeakjgphjaaCirc
/- An append of one number to a row of the call's own, within a fence; the library's functions over rows of numbers that are handed a predicate. -/
namespace Go.Proofs.Ytfkggeakjgphjaa.C
set_option linter.unusedVariables false
set_option linter.unusedSimpArgs false
set_option linter.unusedSectionVars false
open Go.RowKit Go.Shelf Go.Proofs.YtfkggeakjgphjaaW.PrintWords Go.Proofs.YtfkggeakjgphjaaW.PrintLast Go.Proofs.YtfkggeakjgphjaaW.PrintMore
open Go.Proofs.RngT
section
variable {F : Fence} {nF : Nat} {P : Program} {ops : Array Oper} {rest : List Oper} {o : Oper} {a : Act} {Q : Exit → Act → World → Prop}
theorem printIn_append {w0 W : World} (base : Nat) (hgd : o.guard = none) (s x : Operand) (t e : TypeId) (z : Value) (bytes : Nat)
    (ho : o.op = .call { callee := .builtin .append, args := #[s, x], argTypes := #[t, t] })
    (ht : P.underlying t = some (.slice e)) (hinfo : (P.info? e).map (fun i => (i.zero, i.size, i.bytes)) = some (some z, 1, bytes)) (hz : z.cells.size = 1) (hb0 : 0 < bytes)
    (v : Value) (xs : List Value) (y : Value) (hs : a.eval s = v) (hx : a.eval x = .slice (some ⟨W.heap.size, 0, none⟩) 1 1) (h1 : y.oneCell' = true)
    (HO : W.ownsRow base e 1 v xs.length xs) (HB : Below base w0 W) (hbase : base ≤ W.heap.size) (hl : (xs.length + 1) * bytes ≤ 140737488355328)
    (h : ∀ v1 w1, w1.ownsRow base e 1 v1 (xs ++ [y]).length (xs ++ [y]) → Below base w0 w1 → W.grownBy w1 v.ownBlock → (v1.ownBlock = v.ownBlock ∨ ∃ b, v1.ownBlock = some b ∧ W.heap.size ≤ b) → wpListIn F nF P ops Q rest (a.put o.dst v1) w1) :
    wpListIn F nF P ops Q (o :: rest) a (W.alloc (.cells #[y] e)) := by
  obtain ⟨i0, hi, hzz⟩ := Option.map_eq_some_iff.1 hinfo
  simp only [Prod.mk.injEq] at hzz
  obtain ⟨hz0, hz1, hz2⟩ := hzz
  have hlen : xs.length + 1 ≤ 140737488355328 := Nat.le_trans (Nat.le_mul_of_pos_right _ hb0) hl
  refine wpListIn_append_own_at (W.alloc (.cells #[y] e)) hgd s x t ho base e i0 z 1 bytes ht hi hz0 hz1 hz2 hz (by omega) v xs.length xs hs (HO.alloc _) ⟨W.heap.size, 0, none⟩ 1 1 [y] hx rfl
    (World.news_of_block (cs := #[y]) (t := e) (fr := (0, 0)) (heap_alloc_new W _)) (by simpa using h1) (by simp only [maxLen]; omega) hl (by simp; omega) ?_
  intro v1 w1 hown hg _ hat
  refine h v1 w1 (by simpa using hown) ((HB.alloc hbase _).grown hg (by simp; omega) (own_base HO)) (World.grownBy.trans (World.grownBy_alloc W _ _) hg) ?_
  rcases hat with hat | hat
  · exact .inl hat
  · exact .inr ⟨_, hat, by simp⟩
/-- a look-up that is guarded, and wanted. -/
theorem wpListIn_look1g {α : Type} [DecidableEq α] {enc : α → Value} {ok : α → Prop} {w : World} {b : Nat} {f : α → Option Value} {T K E : TypeId} {z : Value} {act : Act} (hw : Region.wanted o (yielded ops act.tmps) = true) (m x : Operand) (hop : o.op = Op.lookup T m x false)
    (hT : P.underlying T = some (.map K E)) (hK : Go.Maps.Keyed P K) (hz : (zeroValue E).run P w = .ok z w) (hinj : ∀ a a', enc a = enc a' → a = a') (hkey : ∀ a, ok a → ∃ l, keyOf P K (enc a) = some l) (h : MapG.MapE enc ok w b f) (a : α) (ha : ok a) (v : Value) (hf : (f a).getD z = v)
    (hm : act.eval m = .map (some b)) (hx : act.eval x = enc a)
    (hK2 : wpListIn F nF P ops Q rest (act.put o.dst v) w) :
    wpListIn F nF P ops Q (o :: rest) act w := by
  refine BigFrame.wpListIn_want hw fun K' hK' => ?_
  unfold Oper.wpIn
  refine ⟨by simp [Oper.about, hop], ?_⟩
  rw [Oper.semAt_plain F _ _ (by rw [hop]; intro c hc'; cases hc')]
  simp [execOp, hop, hm, hx, MapG.run_lookup hT hK hz hinj hkey h a ha, Result.andThen]
  rw [hf]
  exact hK' _ _ hK2
theorem printIn_append_num {w0 W : World} (base : Nat) (hgd : o.guard = none) (s x : Operand) (t e : TypeId) (k : IntKind) (bytes : Nat)
    (ho : o.op = .call { callee := .builtin .append, args := #[s, x], argTypes := #[t, t] })
    (ht : P.underlying t = some (.slice e)) (hinfo : (P.info? e).map (fun i => (i.zero, i.size, i.bytes)) = some (some (.int k 0), 1, bytes)) (hb0 : 0 < bytes)
    (v : Value) (xs : List Int) (y : Int) (hs : a.eval s = v) (hx : a.eval x = .slice (some ⟨W.heap.size, 0, none⟩) 1 1)
    (HO : W.ownsRow base e 1 v xs.length (nums k xs)) (HB : Below base w0 W) (hbase : base ≤ W.heap.size) (hl : (xs.length + 1) * bytes ≤ 140737488355328)
    (h : ∀ v1 w1, w1.ownsRow base e 1 v1 (xs ++ [y]).length (nums k (xs ++ [y])) → Below base w0 w1 → W.grownBy w1 v.ownBlock → (v1.ownBlock = v.ownBlock ∨ ∃ b, v1.ownBlock = some b ∧ W.heap.size ≤ b) → wpListIn F nF P ops Q rest (a.put o.dst v1) w1) :
    wpListIn F nF P ops Q (o :: rest) a (W.alloc (.cells #[.int k y] e)) :=
  printIn_append base hgd s x t e (.int k 0) bytes ho ht hinfo rfl hb0 v (nums k xs) (.int k y) hs hx rfl (by rw [nums_length]; exact HO) HB hbase (by rw [nums_length]; exact hl)
    fun v1 w1 hown hB hg hat => h v1 w1 (by simpa [nums] using hown) hB hg hat
end

theorem repsNums (w : World) : ∀ xs : List Int, Reps ((Kd.int .i64).K w) 1 xs (nums .i64 xs)
  | [] => Reps.none _ _
  | x :: xs => Reps.one (show (Kd.int .i64).K w x [.int .i64 x] from rfl) (repsNums w xs)
theorem own_C {w : World} {base n c : Nat} {A : Option Addr} {xs : List Int} (h : w.ownsRow base 3 1 (.slice A n c) n (nums .i64 xs)) (hn : xs.length = n) : Kd.C (Kd.int .i64) w A n xs := by
  obtain ⟨A', c', he, hr⟩ := own_reads_row h (repsNums w xs) hn
  injection he with e1 _ _
  subst e1
  exact hr
theorem at_N {w : World} {A : Option Addr} {n : Nat} {xs : List Int} (h : Kd.C (Kd.int .i64) w A n xs) (j : Nat) (hj : j < n) (hx : j < xs.length) : ∃ ad, A = some ad ∧ w.cell? (ad.add j) = some (.int .i64 xs[j]) := by
  obtain ⟨ad, cs, hA, _, hK, hcc⟩ := Kd.C_get h 0 (j : Int) (by omega) (by omega)
  obtain rfl : cs = [.int .i64 (xs.getD j 0)] := hK
  have p0 := hcc 0 _ rfl
  rw [show (j : Int).toNat * (Kd.int .i64).sz + 0 = j from Nat.mul_one j, List.getD_eq_getElem?_getD, List.getElem?_eq_getElem hx, Option.getD_some] at p0
  exact ⟨ad, hA, p0⟩
/-- slices.Contains. -/
theorem contains_any (A : Option Addr) (c : Nat) (xs : List Int) (x : Int) (w : World) (hC : Kd.C (Kd.int .i64) w A xs.length xs) (hl : xs.length ≤ 140737488351232) :
    Calls Try.prog 50 #[.slice A xs.length c, .int .i64 x] w fun e w' => e = .returned (.bool (decide (x ∈ xs))) ∧ w = w' := by
  by_cases h0 : xs.length = 0
  · have : xs = [] := List.eq_nil_of_length_eq_zero h0
    subst this
    refine (Try.slices_Contains_int_empty A c x w).mono ?_
    rintro e w' ⟨rfl, rfl⟩
    exact ⟨by simp, rfl⟩
  · obtain ⟨ad, hA, p0⟩ := at_N hC 0 (by omega) (by omega)
    subst hA
    obtain ⟨b, off, spot⟩ := ad
    have hsp : spot = none := by simpa [Addr.add] using World.cell?_spot p0
    subst hsp
    refine (Try.slices_Contains_int b off xs.length c xs x w (Nat.le_refl _) (by omega) (fun j hj => ?_)).mono ?_
    · obtain ⟨ad, hA, pj⟩ := at_N hC j hj hj
      injection hA with hA
      subst hA
      rw [Addr.add_lit] at pj
      rw [pj]
      simp [List.getD, hj]
    · rintro e w' ⟨rfl, rfl⟩
      refine ⟨?_, rfl⟩
      rw [List.take_length]
      simp
/-- which place an IndexFunc tells. -/
def IdxK (q : Int → Bool) (xs : List Int) (w : World) (e : Ending) (w' : World) : Prop := ∃ r : Int, e = .returned (.int .i64 r) ∧ ((∃ k : Nat, ∃ h : k < xs.length, r = k ∧ q xs[k] = true ∧ ∀ j (hj : j < xs.length), j < k → q xs[j] = false) ∨ (r = -1 ∧ ∀ j (hj : j < xs.length), q xs[j] = false)) ∧ Below w.heap.size w w'
/-- what is asked of the predicate. -/
def PnE (q : Int → Bool) (B : Nat) (w : World) : Prop := ∀ (y : Int) (W : World), Below w.heap.size w W → Calls Try.prog 49 (#[.int .i64 y] ++ #[.pointer (some ⟨B, 0, none⟩)]) W fun e w' => e = .returned (.bool (q y)) ∧ Below w.heap.size w w'
set_option maxHeartbeats 2000000 in
set_option maxRecDepth 100000 in
theorem idxNE (q : Int → Bool) (B : Nat) (A : Option Addr) (c : Nat) (xs : List Int) (w : World) (hC : Kd.C (Kd.int .i64) w A xs.length xs) (hl : xs.length ≤ 140737488351232) (hp : PnE q B w) :
    Calls Try.prog 26 #[.slice A xs.length c, .func (.func 49) #[] #[.pointer (some ⟨B, 0, none⟩)]] w (IdxK q xs w) := by
  have HC := Lib.hid hC; have HP := Lib.hid hp
  obtain ⟨n, hn⟩ : ∃ n, n = xs.length := ⟨_, rfl⟩
  have HN := Lib.hid hn
  rw [← hn] at hl ⊢
  clear hC hp hn
  go_enter Try.func26, Try.ntmps26
  go_wp2_with fail
  go_loopw [8] (fun s8 wr => ∃ k : Nat, k ≤ n ∧ s8 = .int .i64 k ∧ Hid (Below w.heap.size w wr) ∧ Hid (∀ j (hj : j < xs.length), j < k → q xs[j] = false)) (fun s8 _ => n - (intOf s8).toNat)
  case atStart => exact ⟨0, Nat.zero_le _, rfl, Below.refl _ _, fun j hj h => absurd h (Nat.not_lt_zero _)⟩
  case round =>
    obtain ⟨k, hk, rfl, HB, HQ⟩ := hrel
    by_cases hlt : k < n
    · have hix : k < xs.length := by rw [← HN.out]; exact hlt
      obtain ⟨ad, hA, p0⟩ := at_N (Kd.C_below HC.out HB.out) k (by omega) hix
      subst hA
      have HPK := Lib.hid (HP.out xs[k] wr HB.out)
      have HHIT : Hid (q xs[k] = true → ∃ k' : Nat, ∃ h : k' < xs.length, (k : Int) = k' ∧ q xs[k'] = true ∧ ∀ j (hj : j < xs.length), j < k' → q xs[j] = false) := Lib.hid (fun h => ⟨k, hix, rfl, h, HQ.out⟩)
      have HSTEP : Hid (q xs[k] = false → ∀ j (hj : j < xs.length), j < k + 1 → q xs[j] = false) := Lib.hid (fun h0 j hj h => by
        by_cases e : j = k
        · subst e; exact h0
        · exact HQ.out j hj (by omega))
      generalize xs[k] = y at p0 HPK HHIT HSTEP
      cases hq : q y with
      | true =>
        rw [hq] at HPK
        have HANY := Lib.hid (HHIT.out hq)
        clear hq HSTEP HHIT
        go_wp2_with fail
        refine HPK.out.mono ?_
        rintro e w' ⟨rfl, hb'⟩
        go_wp2_with fail
        go_ret
        exact ⟨k, rfl, .inl HANY.out, hb'⟩
      | false =>
        rw [hq] at HPK
        have HST := Lib.hid (HSTEP.out hq)
        clear hq HHIT HSTEP
        go_wp2_with fail
        refine HPK.out.mono ?_
        rintro e w' ⟨rfl, hb'⟩
        have HB' := Lib.hid hb'
        clear hb'
        go_wp2_with fail
        exact ⟨⟨k + 1, by omega, by go_num, HB', HST⟩, by simp [intOf]; omega⟩
    · obtain rfl : k = n := by omega
      go_wp2_with fail
      go_ret
      exact ⟨-1, rfl, .inr ⟨rfl, fun j hj => HQ.out j hj (by rw [HN.out]; exact hj)⟩, HB.out⟩
/-- what is asked of the predicate. -/
def PnW (q : Int → Bool) (B D : Nat) (w : World) : Prop := ∀ (y : Int) (W : World), okI y → Below w.heap.size w W → Calls Try.prog 27 (#[.int .i64 y] ++ #[.pointer (some ⟨B, 0, none⟩), .pointer (some ⟨D, 0, none⟩)]) W fun e w' => e = .returned (.bool (q y)) ∧ Below w.heap.size w w'
set_option maxHeartbeats 2000000 in
set_option maxRecDepth 100000 in
theorem idxNW (q : Int → Bool) (B D : Nat) (A : Option Addr) (c : Nat) (xs : List Int) (w : World) (hC : Kd.C (Kd.int .i64) w A xs.length xs) (hl : xs.length ≤ 140737488351232) (hp : PnW q B D w) (hok : ∀ y ∈ xs, okI y) :
    Calls Try.prog 26 #[.slice A xs.length c, .func (.func 27) #[] #[.pointer (some ⟨B, 0, none⟩), .pointer (some ⟨D, 0, none⟩)]] w (IdxK q xs w) := by
  have HC := Lib.hid hC; have HP := Lib.hid hp; have HOK := Lib.hid hok
  obtain ⟨n, hn⟩ : ∃ n, n = xs.length := ⟨_, rfl⟩
  have HN := Lib.hid hn
  rw [← hn] at hl ⊢
  clear hC hp hn hok
  go_enter Try.func26, Try.ntmps26
  go_wp2_with fail
  go_loopw [8] (fun s8 wr => ∃ k : Nat, k ≤ n ∧ s8 = .int .i64 k ∧ Hid (Below w.heap.size w wr) ∧ Hid (∀ j (hj : j < xs.length), j < k → q xs[j] = false)) (fun s8 _ => n - (intOf s8).toNat)
  case atStart => exact ⟨0, Nat.zero_le _, rfl, Below.refl _ _, fun j hj h => absurd h (Nat.not_lt_zero _)⟩
  case round =>
    obtain ⟨k, hk, rfl, HB, HQ⟩ := hrel
    by_cases hlt : k < n
    · have hix : k < xs.length := by rw [← HN.out]; exact hlt
      obtain ⟨ad, hA, p0⟩ := at_N (Kd.C_below HC.out HB.out) k (by omega) hix
      subst hA
      have HPK := Lib.hid (HP.out xs[k] wr (HOK.out _ (List.getElem_mem hix)) HB.out)
      have HHIT : Hid (q xs[k] = true → ∃ k' : Nat, ∃ h : k' < xs.length, (k : Int) = k' ∧ q xs[k'] = true ∧ ∀ j (hj : j < xs.length), j < k' → q xs[j] = false) := Lib.hid (fun h => ⟨k, hix, rfl, h, HQ.out⟩)
      have HSTEP : Hid (q xs[k] = false → ∀ j (hj : j < xs.length), j < k + 1 → q xs[j] = false) := Lib.hid (fun h0 j hj h => by
        by_cases e : j = k
        · subst e; exact h0
        · exact HQ.out j hj (by omega))
      generalize xs[k] = y at p0 HPK HHIT HSTEP
      cases hq : q y with
      | true =>
        rw [hq] at HPK
        have HANY := Lib.hid (HHIT.out hq)
        clear hq HSTEP HHIT
        go_wp2_with fail
        refine HPK.out.mono ?_
        rintro e w' ⟨rfl, hb'⟩
        go_wp2_with fail
        go_ret
        exact ⟨k, rfl, .inl HANY.out, hb'⟩
      | false =>
        rw [hq] at HPK
        have HST := Lib.hid (HSTEP.out hq)
        clear hq HHIT HSTEP
        go_wp2_with fail
        refine HPK.out.mono ?_
        rintro e w' ⟨rfl, hb'⟩
        have HB' := Lib.hid hb'
        clear hb'
        go_wp2_with fail
        exact ⟨⟨k + 1, by omega, by go_num, HB', HST⟩, by simp [intOf]; omega⟩
    · obtain rfl : k = n := by omega
      go_wp2_with fail
      go_ret
      exact ⟨-1, rfl, .inr ⟨rfl, fun j hj => HQ.out j hj (by rw [HN.out]; exact hj)⟩, HB.out⟩
set_option maxHeartbeats 1000000 in
theorem hasNE (q : Int → Bool) (B : Nat) (A : Option Addr) (c : Nat) (xs : List Int) (w : World) (hC : Kd.C (Kd.int .i64) w A xs.length xs) (hl : xs.length ≤ 140737488351232) (hp : PnE q B w) :
    Calls Try.prog 48 #[.slice A xs.length c, .func (.func 49) #[] #[.pointer (some ⟨B, 0, none⟩)]] w fun e w' => e = .returned (.bool (xs.any q)) ∧ Below w.heap.size w w' := by
  have H := Lib.hid (idxNE q B A c xs w hC hl hp)
  clear hC hp
  go_enter Try.func48, Try.ntmps48
  go_wp2_with fail
  refine H.out.mono ?_
  rintro e w' ⟨r, rfl, hr, hb⟩
  have HR : Hid (decide (0 ≤ r) = xs.any q) := Lib.hid (by
    rcases hr with ⟨k, h, rfl, h1, _⟩ | ⟨rfl, h1⟩
    · rw [any_hit h h1]; simp
    · rw [any_miss h1]; rfl)
  clear hr
  go_wp2_with fail
  go_ret
  exact ⟨by rw [← HR.out]; rfl, hb⟩
set_option maxHeartbeats 1000000 in
/-- come's inner predicate: is it on the edge? -/
theorem edge_pred (B : Nat) (w : World) (A : Option Addr) (c : Nat) (E : List Int) (hb : w.heap[B]? = some (.cells #[.slice A E.length c] 35 (0, 0))) (hC : Kd.C (Kd.int .i64) w A E.length E) (hl : E.length ≤ 140737488351232) : PnE (fun y => decide (y ∈ E)) B w := by
  intro y W hW
  have hB : B < w.heap.size := (Array.getElem?_eq_some_iff.1 hb).1
  have c0 := cell_one ((hW.block B hB).trans hb)
  have HK := Lib.hid (contains_any A c E y W (Kd.C_below hC hW) hl)
  have HW := Lib.hid hW
  show Calls Try.prog 49 #[_, _] _ _
  clear hb hW hC
  go_enter Try.func49, Try.ntmps49
  go_wp2_with fail
  refine HK.out.mono ?_
  rintro e w' ⟨rfl, rfl⟩
  go_wp2_with fail
  go_ret
  exact ⟨rfl, HW.out⟩
end Go.Proofs.Ytfkggeakjgphjaa.C

/- circles.come: what memory holds while it runs. -/
namespace Go.Proofs.Ytfkggeakjgphjaa.C
set_option linter.unusedVariables false
set_option linter.unusedSimpArgs false
set_option linter.unusedSectionVars false
open Go.RowKit Go.Shelf Go.Proofs.YtfkggeakjgphjaaW.PrintWords Go.Proofs.YtfkggeakjgphjaaW.PrintLast Go.Proofs.YtfkggeakjgphjaaW.PrintMore
open Go.Proofs.RngT Go.Proofs.Circ
open Go.Proofs.Ytfkggeakjgphjaa.B (own_kept)
/-- the rows as lists of places. -/
def allN (R : Int → List Int) (i : Nat) : List Nat := (R (i : Int)).map Int.toNat
def toI (l : List Nat) : List Int := l.map fun (x : Nat) => (x : Int)
theorem toI_len (l : List Nat) : (toI l).length = l.length := by simp [toI]
def seenB (many : Nat) (l : List Nat) : List Bool := (List.range many).map fun j => decide (j ∈ l)
theorem seenB_len (many : Nat) (l : List Nat) : (seenB many l).length = many := by simp [seenB]
theorem seenB_nil (many : Nat) : seenB many [] = List.replicate many false := by
  unfold seenB
  apply List.ext_getElem
  · simp
  · intro i h1 h2; simp
theorem seenB_at (many : Nat) (l : List Nat) (i : Nat) (h : i < many) : rdOf false (seenB many l) (i : Int) = decide (i ∈ l) := by
  unfold rdOf seenB
  rw [Int.toNat_natCast, List.getD_eq_getElem?_getD, List.getElem?_eq_getElem (by simpa using h)]
  simp
theorem seenB_set (many : Nat) (l : List Nat) (i : Nat) : (seenB many l).set i true = seenB many (l ++ [i]) := by
  unfold seenB
  apply List.ext_getElem
  · simp
  · intro j h1 h2
    rw [List.getElem_set]
    by_cases h : i = j
    · subst h; simp
    · simp [h, Ne.symm h]
/-- is one needed that stands on the edge? -/
def onE (R : Int → List Int) (E : List Nat) (i : Nat) : Bool := (R (i : Int)).any fun y => decide (y ∈ toI E)
theorem onE_eq {R : Int → List Int} {E : List Nat} (hR : ∀ m x, x ∈ R m → 0 ≤ x) (i : Nat) : ((allN R i).any fun x => E.contains x) = onE R E i := by
  rw [Bool.eq_iff_iff]
  unfold onE allN toI
  rw [List.any_map, List.any_eq_true, List.any_eq_true]
  constructor
  · rintro ⟨y, hy, h⟩
    refine ⟨y, hy, decide_eq_true ?_⟩
    have h2 : y.toNat ∈ E := by simpa using h
    exact List.mem_map.2 ⟨_, h2, by have := hR _ _ hy; omega⟩
  · rintro ⟨y, hy, h⟩
    refine ⟨y, hy, ?_⟩
    obtain ⟨x, hx, e⟩ := List.mem_map.1 (of_decide_eq_true h)
    subst e
    simpa using hx
/-- those of a round that stand ahead of i. -/
def nxI (R : Int → List Int) (sl E : List Nat) (i : Nat) : List Nat := (List.range i).filter fun f => !(sl.contains f) && (allN R f).any fun x => E.contains x
theorem nxI_all (R : Int → List Int) (sl E : List Nat) (many : Nat) : nxI R sl E many = nx (allN R) many sl E := rfl
theorem nxI_yes {R : Int → List Int} {sl E : List Nat} {i : Nat} (hR : ∀ m x, x ∈ R m → 0 ≤ x) (h1 : i ∉ sl) (h2 : onE R E i = true) : nxI R sl E (i + 1) = nxI R sl E i ++ [i] := by
  unfold nxI
  rw [List.range_succ, List.filter_append]
  congr 1
  rw [List.filter_cons, onE_eq hR, h2]
  simp [h1]
theorem nxI_no {R : Int → List Int} {sl E : List Nat} {i : Nat} (hR : ∀ m x, x ∈ R m → 0 ≤ x) (h : i ∈ sl ∨ onE R E i = false) : nxI R sl E (i + 1) = nxI R sl E i := by
  unfold nxI
  rw [List.range_succ, List.filter_append]
  have : ([i].filter fun f => !(sl.contains f) && (allN R f).any fun x => E.contains x) = [] := by
    rw [List.filter_cons, onE_eq hR]
    rcases h with h | h
    · simp [h]
    · simp [h]
  rw [this, List.append_nil]
theorem nxI_lt {R : Int → List Int} {sl E : List Nat} {i j : Nat} (h : j ∈ nxI R sl E i) : j < i := by
  unfold nxI at h
  exact List.mem_range.1 (List.mem_filter.1 h).1
theorem nxI_len (R : Int → List Int) (sl E : List Nat) (i : Nat) : (nxI R sl E i).length ≤ i := by
  unfold nxI
  exact Nat.le_trans (List.length_filter_le _ _) (by simp)
theorem mem_sl_nxI {R : Int → List Int} {sl E : List Nat} {i : Nat} : i ∈ sl ++ nxI R sl E i ↔ i ∈ sl := by
  rw [List.mem_append]
  constructor
  · rintro (h | h)
    · exact h
    · have := nxI_lt h; omega
  · exact .inl
def prs (l : List Nat) (s : Nat) : List (Nat × Nat) := l.map fun x => (x, s)
theorem prs_snoc (l : List Nat) (s i : Nat) : prs (l ++ [i]) s = prs l s ++ [(i, s)] := by simp [prs]
/-- within a round what comes next comes next. -/
theorem nxI_pre {R : Int → List Int} {sl E : List Nat} {i many : Nat} (h : i ≤ many) : nxI R sl E i <+: nx (allN R) many sl E := by
  obtain ⟨d, rfl⟩ : ∃ d, many = i + d := ⟨many - i, by omega⟩
  unfold nxI nx
  rw [List.range_add, List.filter_append]
  exact List.prefix_append _ _
theorem bfs_pre {R : Int → List Int} {many tg : Nat} {pre : List (Nat × Nat)} {k s i : Nat} {sl E : List Nat} (hr : reach (allN R) many tg = pre ++ bfs (allN R) many (k + 1) s sl E) (hE : E ≠ []) (hi : i ≤ many) :
    pre ++ prs (nxI R sl E i) s <+: reach (allN R) many tg := by
  rw [hr, bfs, if_neg hE]
  refine (List.prefix_append_right_inj _).2 ?_
  obtain ⟨r, hrr⟩ := nxI_pre (R := R) (sl := sl) (E := E) hi
  rw [← hrr]
  unfold prs
  rw [List.map_append, List.append_assoc]
  exact List.prefix_append _ _
/-- what is its own. -/
structure ComS (n0 S0 many M Bm Ba : Nat) (w0 wr : World) (sl E : List Nat) (ve : Value) : Prop where
  bel : Below n0 w0 wr
  sz : S0 + 3 ≤ wr.heap.size
  bm : wr.heap[Bm]? = some (.cells #[.int .i64 many] 3 (0, 0))
  ba : wr.heap[Ba]? = some (.cells #[.map (some M)] 64 (0, 0))
  seen : wr.ownsRow S0 4 1 (.slice (some ⟨S0, 0, none⟩) many many) many (encs Value.bool (seenB many sl))
  ec : wr.heap[S0 + 1 + 1]? = some (.cells #[ve] 35 (0, 0))
  er : wr.ownsRow (S0 + 1) 3 1 ve (toI E).length (nums .i64 (toI E))
theorem ComS.kept {n0 S0 many M Bm Ba : Nat} {w0 wr w' : World} {sl E : List Nat} {ve : Value} {S : Nat → Prop} (h : ComS n0 S0 many M Bm Ba w0 wr sl E ve) (hf : Fr S wr w') (hB : n0 ≤ wr.heap.size)
    (hS : ∀ j, S j → n0 ≤ j ∧ j ≠ Bm ∧ j ≠ Ba ∧ (j < S0 ∨ (S0 + 3 ≤ j ∧ ve.ownBlock ≠ some j))) : ComS n0 S0 many M Bm Ba w0 w' sl E ve := by
  have l1 := (Array.getElem?_eq_some_iff.1 h.bm).1
  have l2 := (Array.getElem?_eq_some_iff.1 h.ba).1
  have l3 := (Array.getElem?_eq_some_iff.1 h.ec).1
  have hz := hf.size
  have hsz := h.sz
  refine ⟨below_fr h.bel hf (fun j hj => (hS j hj).1) hB, by omega, (hf.block _ l1 (fun hj => (hS _ hj).2.1 rfl)).trans h.bm, (hf.block _ l2 (fun hj => (hS _ hj).2.2.1 rfl)).trans h.ba, own_move h.seen (fun k hk => ?_), (hf.block _ l3 (fun hj => by rcases (hS _ hj).2.2.2 with q | q <;> omega)).trans h.ec, own_move h.er (fun k hk => hf.block k (own_lt h.er k hk) (fun hj => ?_))⟩
  · have hk2 := own_lt h.seen k hk
    have : k = S0 := by simpa [Value.ownBlock] using hk.symm
    subst this
    exact hf.block _ hk2 (fun hj => by rcases (hS _ hj).2.2.2 with q | q <;> omega)
  · have hb := own_base h.er k hk
    rcases (hS _ hj).2.2.2 with q | q
    · omega
    · exact q.2 hk
theorem ComS.stay {n0 S0 many M Bm Ba b : Nat} {w0 wr w' : World} {sl E : List Nat} {ve : Value} (h : ComS n0 S0 many M Bm Ba w0 wr sl E ve) (hb : Below b wr w') (hbb : wr.heap.size ≤ b) (hB : n0 ≤ wr.heap.size) : ComS n0 S0 many M Bm Ba w0 w' sl E ve :=
  h.kept (S := fun _ => False) (Fr.of_below (hb.mono hbb)) hB (fun _ h => h.elim)
/-- one more is seen. -/
theorem ComS.see {n0 S0 many M Bm Ba : Nat} {w0 wr : World} {sl E : List Nat} {ve : Value} (h : ComS n0 S0 many M Bm Ba w0 wr sl E ve) (hn : n0 ≤ S0) (hBm : Bm < S0) (hBa : Ba < S0) (i : Nat) : ComS n0 S0 many M Bm Ba w0 (wr.setCell ⟨S0, i, none⟩ (.bool true)) (sl ++ [i]) E ve := by
  have hF : Fr (fun j => j = S0) wr (wr.setCell ⟨S0, i, none⟩ (.bool true)) := (Fr.refl (fun j => j = S0) wr).set (p := ⟨S0, i, none⟩) (.inl rfl) _
  have hsz := h.sz
  have l1 := (Array.getElem?_eq_some_iff.1 h.bm).1
  have l2 := (Array.getElem?_eq_some_iff.1 h.ba).1
  have l3 := (Array.getElem?_eq_some_iff.1 h.ec).1
  refine ⟨below_fr h.bel hF (fun j hj => by omega) (by omega), by have := hF.size; omega, (hF.block _ l1 (by omega)).trans h.bm, (hF.block _ l2 (by omega)).trans h.ba, ?_, (hF.block _ l3 (by omega)).trans h.ec, own_move h.er (fun k hk => hF.block k (own_lt h.er k hk) (fun e => by have := own_base h.er k hk; omega))⟩
  have := (own_store_of (enc := Value.bool) h.seen (i : Int) true).1
  rw [Int.toNat_natCast, seenB_set] at this
  exact this
/-- the edge is another one. -/
theorem ComS.edge {n0 S0 many M Bm Ba : Nat} {w0 wr : World} {sl E E' : List Nat} {ve ve' : Value} (h : ComS n0 S0 many M Bm Ba w0 wr sl E ve) (hn : n0 ≤ S0) (hBm : Bm < S0) (hBa : Ba < S0) (hr : wr.ownsRow (S0 + 1) 3 1 ve' (toI E').length (nums .i64 (toI E'))) : ComS n0 S0 many M Bm Ba w0 (wr.setCell ⟨S0 + 1 + 1, 0, none⟩ ve') sl E' ve' := by
  have hF : Fr (fun j => j = S0 + 1 + 1) wr (wr.setCell ⟨S0 + 1 + 1, 0, none⟩ ve') := (Fr.refl (fun j => j = S0 + 1 + 1) wr).set (p := ⟨S0 + 1 + 1, 0, none⟩) (.inl rfl) _
  have hsz := h.sz
  have l1 := (Array.getElem?_eq_some_iff.1 h.bm).1
  have l2 := (Array.getElem?_eq_some_iff.1 h.ba).1
  have hne : ∀ k, ve'.ownBlock = some k → k ≠ S0 + 1 + 1 := by
    intro k hk e
    subst e
    rcases hr.2 with ⟨rfl, _⟩ | ⟨g, cap, cur, rfl, _, hh, _⟩
    · simp [Value.ownBlock] at hk
    · have e1 : g = S0 + 1 + 1 := by simpa [Value.ownBlock] using hk
      subst e1
      rw [h.ec] at hh
      injection hh with hh
      injection hh with _ hh _
      cases hh
  refine ⟨below_fr h.bel hF (fun j hj => by omega) (by omega), by have := hF.size; omega, (hF.block _ l1 (by omega)).trans h.bm, (hF.block _ l2 (by omega)).trans h.ba, own_move h.seen (fun k hk => ?_), set_one h.ec _, own_move hr (fun k hk => hF.block k (own_lt hr k hk) (hne k hk))⟩
  have hk2 := own_lt h.seen k hk
  have : k = S0 := by simpa [Value.ownBlock] using hk.symm
  exact hF.block _ hk2 (by omega)
end Go.Proofs.Ytfkggeakjgphjaa.C

/- circles.come: the iterator, walked. -/
namespace Go.Proofs.Ytfkggeakjgphjaa.C
set_option linter.unusedVariables false
set_option linter.unusedSimpArgs false
set_option linter.unusedSectionVars false
open Go.RowKit Go.Shelf Go.Proofs.YtfkggeakjgphjaaW.PrintWords Go.Proofs.YtfkggeakjgphjaaW.PrintLast Go.Proofs.YtfkggeakjgphjaaW.PrintMore
open Go.Proofs.RngT Go.Proofs.Circ
open Go.Proofs.Ytfkggeakjgphjaa.B (own_kept)
attribute [local go_sem] Oper.semAt_some
def encP (x : Nat × Nat) : Array Value := #[.int .i64 x.1, .int .i64 x.2]
/-- ahead of a round. -/
structure ComR (R : Int → List Int) (many tg s : Nat) (sl E : List Nat) (pre : List (Nat × Nat)) : Prop where
  at_ : At (allN R) many tg s sl E
  sh : E ≠ [] → s ≤ sl.length + 1
  eq : ∃ k, reach (allN R) many tg = pre ++ bfs (allN R) many k s sl E ∧ many + 2 ≤ sl.length + k + (if E = [] then many + 2 else 0)
theorem ComR.start (R : Int → List Int) (many tg : Nat) : ComR R many tg 1 [] [tg] [] :=
  ⟨At.start _ _ _, fun _ => by simp, many + 2, rfl, by simp⟩
theorem ComR.next {R : Int → List Int} {many tg s : Nat} {sl E : List Nat} {pre : List (Nat × Nat)} (hin : ∀ x y, y ∈ allN R x → y < many) (h : ComR R many tg s sl E pre) (hE : E ≠ []) :
    ComR R many tg (s + 1) (sl ++ nxI R sl E many) (nxI R sl E many) (pre ++ prs (nxI R sl E many) s) := by
  obtain ⟨h1, h2, k, h3, h4⟩ := h
  rw [if_neg hE] at h4
  rw [nxI_all]
  have hlen := nodup_lt_length many sl h1.nd (fun x hx => ((h1.sn x).1 hx).1)
  obtain ⟨k, rfl⟩ : ∃ j, k = j + 1 := ⟨k - 1, by omega⟩
  refine ⟨h1.next hin, fun hne => ?_, k, ?_, ?_⟩
  · have : 0 < (nx (allN R) many sl E).length := List.length_pos_iff.2 hne
    have := h2 hE
    simp; omega
  · rw [h3, bfs, if_neg hE, List.append_assoc]; rfl
  · split
    · omega
    · rename_i hne
      have : 0 < (nx (allN R) many sl E).length := List.length_pos_iff.2 hne
      simp; omega
theorem ComR.done {R : Int → List Int} {many tg s : Nat} {sl E : List Nat} {pre : List (Nat × Nat)} (h : ComR R many tg s sl E pre) (hE : E = []) : pre = reach (allN R) many tg := by
  obtain ⟨_, _, k, h3, _⟩ := h
  rw [h3]
  cases k with
  | zero => simp [bfs]
  | succ k => rw [bfs, if_pos hE, List.append_nil]
theorem ComR.pre {R : Int → List Int} {many tg s i : Nat} {sl E : List Nat} {pre : List (Nat × Nat)} (h : ComR R many tg s sl E pre) (hE : E ≠ []) (hi : i ≤ many) : pre ++ prs (nxI R sl E i) s <+: reach (allN R) many tg := by
  obtain ⟨h1, h2, k, h3, h4⟩ := h
  rw [if_neg hE] at h4
  have hlen := nodup_lt_length many sl h1.nd (fun x hx => ((h1.sn x).1 hx).1)
  obtain ⟨k, rfl⟩ : ∃ j, k = j + 1 := ⟨k - 1, by omega⟩
  exact bfs_pre h3 hE hi
theorem ComR.short {R : Int → List Int} {many tg s : Nat} {sl E : List Nat} {pre : List (Nat × Nat)} (h : ComR R many tg s sl E pre) (hE : E ≠ []) : s ≤ many + 1 := h.at_.short (h.sh hE)

set_option maxHeartbeats 8000000 in
set_option maxRecDepth 100000 in
theorem come1_in (n : Nat) (hn : 1 ≤ n) (T : Nat → Prop) (l n0 b0 M many tg Bm Bt Ba : Nat) (w0 : World) (R : Int → List Int) (hmany : many ≤ 100000) (hR : ∀ m x, x ∈ R m → 0 ≤ x ∧ x < many) (hRl : ∀ m, (R m).length ≤ 2000000)
    (hRows : Rows b0 M w0 R)
    (J Jx : List (Nat × Nat) → World → Prop) (W : World) (hw0 : Below w0.heap.size w0 W) (hn0 : n0 = w0.heap.size)
    (hB : n0 ≤ Bm ∧ n0 ≤ Bt ∧ n0 ≤ Ba) (hBW : Bm < W.heap.size ∧ Bt < W.heap.size ∧ Ba < W.heap.size) (hTB : ¬ T Bm ∧ ¬ T Ba) (hlB : l ≠ Bm ∧ l ≠ Ba)
    (hTn : ∀ j, T j → n0 ≤ j ∧ j < W.heap.size) (hln : n0 ≤ l) (hlW : l < W.heap.size)
    (hJ : Abd W.heap.size J) (hJx : Abd W.heap.size Jx)
    (hY : ∀ pre x W1, J pre W1 → pre ++ [x] <+: reach (allN R) many tg → YieldAt Fence.wide (n - 1) Try.prog l (encP x) W1 fun e W' =>
      (e = .returned (.bool true) ∧ J (pre ++ [x]) W' ∧ Fr (fun j => T j ∨ j = l) W1 W') ∨ (e = .returned (.bool false) ∧ Jx (pre ++ [x]) W'))
    (hbm : W.heap[Bm]? = some (.cells #[.int .i64 many] 3 (0, 0))) (hbt : W.heap[Bt]? = some (.cells #[.int .i64 tg] 3 (0, 0))) (hba : W.heap[Ba]? = some (.cells #[.map (some M)] 64 (0, 0))) (h0 : J [] W) :
    CallsIn Fence.wide n Try.prog 47 #[.func (.yield l) #[] #[], .pointer (some ⟨Bm, 0, none⟩), .pointer (some ⟨Bt, 0, none⟩), .pointer (some ⟨Ba, 0, none⟩)] W fun e W' => (∃ v, e = .returned v) ∧
      ((∃ xs, xs = reach (allN R) many tg ∧ J xs W') ∨ (∃ pre, pre <+: reach (allN R) many tg ∧ Jx pre W')) := by
  have hmk := print_make_of (P := Try.prog) 75 4 (.bool false) 1 Try.underlying75 info4 rfl (by decide) many (by omega)
  have hmf : ∀ (fn : Fn) (first cap : Array Value) (w : World), (Instr.makeFunc fn first cap).run Try.prog w = .ok (.func fn first cap) w := fun _ _ _ _ => rfl
  obtain ⟨hB1, hB2, hB3⟩ := hB
  obtain ⟨hW1, hW2, hW3⟩ := hBW
  obtain ⟨S0, hS0⟩ : ∃ S0, S0 = W.heap.size := ⟨_, rfl⟩
  have HS0 := Lib.hid hS0
  -- the start
  have hrw := own_made_of (enc := Value.bool) (d := false) W S0 4 many (by omega) (by omega)
  have hst0 := al_get W [.cells (madeCells #[.bool false] many) 4, .cells #[.int .i64 tg] 3, .cells #[.slice (some ⟨S0 + 1, 0, none⟩) 1 1] 35] 1 _ rfl
  have hst1 := al_get W [.cells (madeCells #[.bool false] many) 4, .cells #[.int .i64 tg] 3, .cells #[.slice (some ⟨S0 + 1, 0, none⟩) 1 1] 35] 2 _ rfl
  have hstb := al_below W [.cells (madeCells #[.bool false] many) 4, .cells #[.int .i64 tg] 3, .cells #[.slice (some ⟨S0 + 1, 0, none⟩) 1 1] 35]
  have hstz := al_size W [.cells (madeCells #[.bool false] many) 4, .cells #[.int .i64 tg] 3, .cells #[.slice (some ⟨S0 + 1, 0, none⟩) 1 1] 35]
  have hsts : (al W [.cells (madeCells #[.bool false] many) 4, .cells #[.int .i64 tg] 3, .cells #[.slice (some ⟨S0 + 1, 0, none⟩) 1 1] 35]).heap[S0]? = (W.alloc (.cells (madeCells #[.bool false] many) 4)).heap[S0]? := by
    have h1 := al_get W [.cells (madeCells #[.bool false] many) 4, .cells #[.int .i64 tg] 3, .cells #[.slice (some ⟨S0 + 1, 0, none⟩) 1 1] 35] 0 _ rfl
    have h2 := al_get W [.cells (madeCells #[.bool false] many) 4] 0 _ rfl
    rw [Nat.add_zero, ← hS0] at h1 h2
    exact h1.trans h2.symm
  obtain ⟨W1, hW1'⟩ : ∃ W1, W1 = al W [.cells (madeCells #[.bool false] many) 4, .cells #[.int .i64 tg] 3, .cells #[.slice (some ⟨S0 + 1, 0, none⟩) 1 1] 35] := ⟨_, rfl⟩
  rw [← hW1'] at hst0 hst1 hstb hstz hsts
  have HW1 : Hid (W1 = ((W.alloc (.cells (madeCells #[.bool false] many) 4)).alloc (.cells #[.int .i64 tg] 3)).alloc (.cells #[.slice (some ⟨W.heap.size + 1, 0, none⟩) 1 1] 35)) := Lib.hid (by rw [hW1', ← hS0]; rfl)
  rw [← hS0] at hst0 hst1 hstb hstz hrw hW1 hW2 hW3 hlW
  replace hstz : W1.heap.size = S0 + 3 := hstz
  have hsz0 := hw0.size
  have hn0S : n0 ≤ S0 := by omega
  have hCS : ComS n0 S0 many M Bm Ba w0 W1 [] [tg] (.slice (some ⟨S0 + 1, 0, none⟩) 1 1) := by
    refine ⟨by rw [hn0]; exact hw0.trans (hstb.mono (by omega)), by omega, (hstb.block _ hW1).trans hbm, (hstb.block _ hW3).trans hba, ?_, hst1, ?_⟩
    · rw [seenB_nil]
      exact own_move hrw (fun k hk => by
        have : k = S0 := by simpa [Value.ownBlock] using hk.symm
        rw [this]; exact hsts)
    · refine ⟨by simp [toI, nums], .inr ⟨S0 + 1, 1, #[.int .i64 tg], by simp [toI], Nat.le_refl _, hst0, by simp [toI], by unfold maxLen; omega, rfl, by simp [toI, nums]⟩⟩
  have hJ1 : J [] W1 := hJ _ _ _ h0 (by rw [← hS0]; exact hstb)
  have hR0 := fun m x hx => (hR m x hx).1
  have hin : ∀ x y, y ∈ allN R x → y < many := by
    intro x y hy
    obtain ⟨z, hz, rfl⟩ := List.mem_map.1 hy
    have := hR _ _ hz
    omega
  have hc1 := cell_one hbm
  have hc2 := cell_one hbt
  have HCS := Lib.hid hCS; have HJ1 := Lib.hid hJ1; have HR0 := Lib.hid hR0; have HIN := Lib.hid hin; have HRL := Lib.hid hRl; have HROWS := Lib.hid hRows; have HJ := Lib.hid (show Abd S0 J from by rw [hS0]; exact hJ); have HY := Lib.hid hY; have HN0 := Lib.hid hn0
  have HT : Hid (∀ j, (T j ∨ j = l) → n0 ≤ j ∧ j ≠ Bm ∧ j ≠ Ba ∧ j < S0) := Lib.hid (fun j hj => by
    rcases hj with hj | hj
    · exact ⟨(hTn j hj).1, fun e => hTB.1 (e ▸ hj), fun e => hTB.2 (e ▸ hj), by have := (hTn j hj).2; omega⟩
    · exact ⟨by omega, by omega, by omega, by omega⟩)
  clear hCS hJ1 hR0 hin hRl hRows hJ hY hn0 hR hTn hTB hlB hst0 hst1 hstb hstz hsts hrw hW1' hS0 hbm hbt hba h0 hw0 hsz0
  refine callsIn_of_wp Try.func47 rfl trivial ?_ rfl
  simp only [Try.ntmps47, List.size_toArray, List.length_cons, List.length_nil, Nat.reduceAdd, Nat.reduceSub, Array.replicate_succ, Array.replicate_zero, List.push_toArray, List.append_toArray, List.nil_append, List.cons_append]
  have hlt2 : Bt < W.heap.size := by rw [← HS0.out]; exact hW2
  gi_wp2
  rw [← HW1.out, ← HS0.out]
  clear hc1 hc2 hlt2 hmk HW1
  gi_loopw [7] (fun v7 wr => ∃ (s : Nat) (sl E : List Nat) (ve : Value) (pre : List (Nat × Nat)), v7 = .int .i64 s ∧ s ≤ many + 2 ∧ E.length ≤ many + 1 ∧ Hid (ComS n0 S0 many M Bm Ba w0 wr sl E ve) ∧ Hid (J pre wr) ∧ Hid (ComR R many tg s sl E pre)) (fun v7 _ => many + 3 - (intOf v7).toNat)
  case atStart => exact ⟨1, [], [tg], _, [], rfl, by omega, by simp, HCS, HJ1, ComR.start R many tg⟩
  case round =>
    clear HCS HJ1
    obtain ⟨s, sl, E, ve, pre, rfl, hs, hel, HCS, HJs, HCR⟩ := hrel
    obtain ⟨Ae, ce, hve⟩ := own_slice HCS.out.er
    subst hve
    obtain ⟨NE, hNE⟩ : ∃ NE, NE = (toI E).length := ⟨_, rfl⟩
    have hNE2 : NE = E.length := by rw [hNE, toI_len]
    have hec := one_cell HCS.out.ec
    rw [← hNE] at hec
    obtain ⟨e0, e1⟩ := hec
    have HNE := Lib.hid hNE; have HNE2 := Lib.hid hNE2
    have hElen : Hid (NE ≤ 100001) := Lib.hid (by omega)
    clear hNE hNE2
    by_cases hE : E = []
    · have hN0 : NE = 0 := by rw [HNE2.out, hE]; rfl
      have HDN := Lib.hid (HCR.out.done hE)
      subst hN0
      clear hE
      gi_wp2
      go_end0
      exact ⟨⟨_, rfl⟩, .inl ⟨pre, HDN.out, HJs.out⟩⟩
    · have hN0 : 0 < NE := by rw [HNE2.out]; exact List.length_pos_iff.2 hE
      have HE := Lib.hid hE
      have hsh := HCR.out.short hE
      obtain ⟨m0, m1⟩ := one_cell HCS.out.bm
      clear hE
      gi_wp2
      obtain ⟨wo, rfl⟩ : ∃ wo : World, wo = wr := ⟨_, rfl⟩
      have hszo := HCS.out.sz
      gi_loopw [8, 20] (fun v8 v20 wr => ∃ (i : Nat), v20 = .int .i64 i ∧ i ≤ many ∧ Hid (ComS n0 S0 many M Bm Ba w0 wr (sl ++ nxI R sl E i) E (.slice Ae (toI E).length ce)) ∧ Hid (J (pre ++ prs (nxI R sl E i) s) wr) ∧ Hid (wr.ownsRow wo.heap.size 3 1 v8 (toI (nxI R sl E i)).length (nums .i64 (toI (nxI R sl E i)))) ∧ Hid (wo.heap.size ≤ wr.heap.size)) (fun _ v20 _ => many - (intOf v20).toNat)
      case atStart => exact ⟨0, rfl, Nat.zero_le _, Lib.hid (by simpa [nxI] using HCS.out), Lib.hid (by simpa [nxI, prs] using HJs.out), Lib.hid (World.ownsRow_nil _ _ _ _), Lib.hid (Nat.le_refl _)⟩
      case round =>
        clear m0 m1 e0 e1 HJs
        obtain ⟨i, rfl, hi, HC, HJs, HV8, HSZ⟩ := hrel
        have hszr := HC.out.sz
        by_cases hlt : i < many
        · have hcl := own_at_of (enc := Value.bool) (d := false) HC.out.seen (i : Int) (by omega) (by omega)
          rw [seenB_at many _ i hlt, decide_eq_decide.2 mem_sl_nxI, Int.toNat_natCast] at hcl
          obtain ⟨s0, s1⟩ := hcl
          have hmm := (Array.getElem?_eq_some_iff.1 HC.out.ba).1
          obtain ⟨a0, a1⟩ := one_cell HC.out.ba
          by_cases hsn : i ∈ sl
          · have HNX := Lib.hid (nxI_no (E := E) HR0.out (.inl hsn))
            rw [decide_eq_true hsn] at s0
            clear hsn
            gi_wp2
            refine ⟨trivial, ?_⟩
            gi_wp2
            exact ⟨⟨i + 1, by go_num, by omega, by rw [HNX.out]; exact HC, by rw [HNX.out]; exact HJs, by rw [HNX.out]; exact HV8, HSZ⟩, by simp [intOf]; omega⟩
          · have HSN := Lib.hid hsn
            rw [decide_eq_false hsn] at s0
            clear hsn
            obtain ⟨hb0, f, hmp, hra⟩ := HROWS.out.stay (b := n0) (by exact HC.out.bel) (by rw [HN0.out]; exact Nat.le_refl _)
            obtain ⟨v, hv, ho⟩ := hra.get (i : Int)
            obtain ⟨Ar, cr, rfl⟩ := own_slice ho
            obtain ⟨nr, hnr⟩ : ∃ nr, nr = (R (i : Int)).length := ⟨_, rfl⟩
            have hCr := own_C ho rfl
            have hrl := HRL.out (i : Int)
            have hedge := edge_pred (S0 + 1 + 1) wr Ae ce (toI E) HC.out.ec (own_C HC.out.er rfl) (by rw [toI_len]; omega)
            have hcont := hasNE (fun y => decide (y ∈ toI E)) (S0 + 1 + 1) Ar cr (R (i : Int)) wr hCr (by omega) hedge
            rw [← hnr] at hv hcont
            have HMP := Lib.hid hmp; have HV := Lib.hid hv; have HCN := Lib.hid hcont
            have HOK : Hid (okI (i : Int)) := Lib.hid (WalkArith.wf_i64 (by omega))
            clear hmp hra hv ho hCr hrl hedge hcont hnr
            cases hon : onE R E i with
            | false =>
              have HNX := Lib.hid (nxI_no (sl := sl) HR0.out (.inr hon))
              have hcn2 := HCN.out
              rw [show (R (i : Int)).any (fun y => decide (y ∈ toI E)) = false from hon] at hcn2
              have HCN2 := Lib.hid hcn2
              clear hon hcn2 HCN
              gi_wp2_with (gi_at_lookup; refine wpListIn_look1g rfl _ _ rfl Try.underlying64 keyedI (zero35 _) encI_inj keyI HMP.out (i : Int) HOK.out (.slice Ar nr cr) HV.out rfl rfl ?_)
              refine ⟨trivial, ?_⟩
              refine (callsIn_wide.2 HCN2.out).mono ?_
              rintro e w' ⟨rfl, hb'⟩
              have HC' := Lib.hid (HC.out.stay hb' (Nat.le_refl _) (by omega))
              have HJ' := Lib.hid (HJ.out _ _ _ HJs.out (hb'.mono (by omega)))
              have HV' := Lib.hid (own_move HV8.out (fun k hk => hb'.block k (own_lt HV8.out k hk)))
              have HZ' : Hid (wo.heap.size ≤ w'.heap.size) := Lib.hid (Nat.le_trans HSZ.out hb'.size)
              clear hb' HC HJs HV8 HSZ HMP HV HCN2
              gi_wp2
              exact ⟨⟨i + 1, by go_num, by omega, by rw [HNX.out]; exact HC', by rw [HNX.out]; exact HJ', by rw [HNX.out]; exact HV', HZ'⟩, by simp [intOf]; omega⟩
            | true =>
              have HNX := Lib.hid (nxI_yes HR0.out HSN.out hon)
              have hcn2 := HCN.out
              rw [show (R (i : Int)).any (fun y => decide (y ∈ toI E)) = true from hon] at hcn2
              have HCN2 := Lib.hid hcn2
              clear hon hcn2 HCN
              gi_wp2_with (gi_at_lookup; refine wpListIn_look1g rfl _ _ rfl Try.underlying64 keyedI (zero35 _) encI_inj keyI HMP.out (i : Int) HOK.out (.slice Ar nr cr) HV.out rfl rfl ?_)
              refine ⟨trivial, ?_⟩
              refine (callsIn_wide.2 HCN2.out).mono ?_
              rintro e w' ⟨rfl, hb'⟩
              have hC' := HC.out.stay hb' (Nat.le_refl _) (by omega)
              have hcl' := own_at_of (enc := Value.bool) (d := false) hC'.seen (i : Int) (by omega) (by omega)
              rw [seenB_at many _ i hlt, decide_eq_decide.2 mem_sl_nxI, decide_eq_false HSN.out, Int.toNat_natCast] at hcl'
              obtain ⟨z0, z1⟩ := hcl'
              have HC' := Lib.hid (hC'.see hn0S hW1 hW3 i)
              have hFs : Fr (fun j => j = S0) w' (w'.setCell ⟨S0, i, none⟩ (.bool true)) := (Fr.refl (fun j => j = S0) w').set (p := ⟨S0, i, none⟩) (.inl rfl) _
              have HJ' := Lib.hid (HJ.out _ _ _ (HJ.out _ _ _ HJs.out (hb'.mono (by omega))) (below_of_fr hFs (fun j hj => by omega) (by have := hb'.size; omega)))
              have HV' := Lib.hid (own_move (own_move HV8.out (fun k hk => hb'.block k (own_lt HV8.out k hk))) (fun k hk => hFs.block k (Nat.lt_of_lt_of_le (own_lt HV8.out k hk) hb'.size) (fun e => by have := own_base HV8.out k hk; omega)))
              have hz' : wo.heap.size ≤ (w'.setCell ⟨S0, i, none⟩ (.bool true)).heap.size := Nat.le_trans HSZ.out (Nat.le_trans hb'.size hFs.size)
              have HSZ9 : Hid ((w'.setCell ⟨S0, i, none⟩ (.bool true)).heap.size = w'.heap.size) := Lib.hid (by simp [World.setCell])
              have hnl := nxI_len R sl E i
              obtain ⟨NX, hNX⟩ : ∃ NX, NX = toI (nxI R sl E i) := ⟨_, rfl⟩
              have hNXl : NX.length ≤ many := by rw [hNX, toI_len]; omega
              rw [← hNX] at HV'
              have HNXE := Lib.hid hNX
              have HPRE := Lib.hid (HCR.out.pre (i := i + 1) HE.out (by omega))
              clear hb' HC HJs HV8 HSZ HMP HV HCN2 hC' hFs hNX s0 s1 a0 a1
              gi_wp2_with (gi_at_builtin; refine printIn_append_num (w0 := w'.setCell ⟨S0, i, none⟩ (.bool true)) (W := w'.setCell ⟨S0, i, none⟩ (.bool true)) wo.heap.size rfl _ _ 35 3 .i64 8 rfl Try.underlying35 info3 (by decide) u8 NX (i : Int) rfl (by rw [HSZ9.out]; rfl) HV'.out (Below.refl _ _) hz' (by omega) ?_; intro v1 w9 hown9 hB9 hg9 hat9; obtain ⟨fn, tmps, assign, body, hy, hR⟩ := HY.out (pre ++ prs (nxI R sl E i) s) (i, s) w9 (HJ.out _ _ _ HJ'.out (below_of_fr ((Fr.refl (fun q => u8.ownBlock = some q) _).grown hg9 (fun q e => .inl e)) (fun q hq => by have := own_base HV'.out q hq; omega) (by omega))) (by have := HPRE.out; rw [HNX.out, prs_snoc, ← List.append_assoc] at this; exact this); dsimp only [encP] at hy)
              have hFu : Fr (fun q => u8.ownBlock = some q) (w'.setCell ⟨S0, i, none⟩ (.bool true)) w9 := (Fr.refl (fun q => u8.ownBlock = some q) _).grown hg9 (fun q e => .inl e)
              have hC9 := HC'.out.kept hFu (by omega) (fun q hq => by
                have h1 := own_base HV'.out q hq
                exact ⟨by omega, by omega, by omega, .inr ⟨by omega, fun e => by have := own_lt HCS.out.er q e; omega⟩⟩)
              have hz9 := hFu.size
              have hv1 : ∀ k, v1.ownBlock = some k → wo.heap.size ≤ k := fun k hk => own_base hown9 k hk
              have HC9 := Lib.hid hC9; have HO9 := Lib.hid hown9; have HR := Lib.hid hR
              clear hR hC9 hFu hB9 hg9 hat9 hown9
              refine HR.out.mono ?_
              rintro e W3 (⟨rfl, hJ3, hk3⟩ | ⟨rfl, hJx3⟩)
              · have hC3 := HC9.out.kept hk3 (by omega) (fun q hq => by
                  obtain ⟨h1, h2, h3, h4⟩ := HT.out q hq
                  exact ⟨h1, h2, h3, .inl h4⟩)
                have HC3 := Lib.hid hC3; have HJ3 := Lib.hid hJ3
                have HO3 := Lib.hid (own_move HO9.out (fun k hk => hk3.block k (own_lt HO9.out k hk) (fun h => by have := (HT.out k h).2.2.2; have := hv1 k hk; omega)))
                have HZ3 : Hid (wo.heap.size ≤ W3.heap.size) := Lib.hid (by have := hk3.size; omega)
                clear hC3 hJ3 hk3
                gi_wp2
                refine ⟨⟨i + 1, by go_num, by omega, ?_, ?_, ?_, HZ3⟩, by simp [intOf]; omega⟩
                · rw [HNX.out, ← List.append_assoc]; exact HC3
                · rw [HNX.out, prs_snoc, ← List.append_assoc]; exact HJ3
                · have h9 := HO3.out
                  rw [HNXE.out] at h9
                  rw [HNX.out]
                  have : toI (nxI R sl E i ++ [i]) = toI (nxI R sl E i) ++ [(i : Int)] := by simp [toI]
                  rw [this]
                  exact h9
              · have HJx3 := Lib.hid hJx3
                clear hJx3
                gi_wp2
                refine bodyPost_ret (results_none rfl _ _ _) rfl ?_
                exact ⟨⟨_, rfl⟩, .inr ⟨_, by have := HPRE.out; rw [HNX.out, prs_snoc, ← List.append_assoc] at this; exact this, HJx3.out⟩⟩
        · obtain rfl : i = many := by omega
          obtain ⟨A8, c8, h8⟩ := own_slice HV8.out
          subst h8
          obtain ⟨f0, f1⟩ := one_cell HC.out.ec
          have HED := Lib.hid (HC.out.edge (E' := nxI R sl E i) hn0S hW1 hW3 (own_weaken HV8.out (by omega)))
          have HNXT := Lib.hid (HCR.out.next HIN.out HE.out)
          have hj2 : J (pre ++ prs (nxI R sl E i) s) (wr.setCell ⟨S0 + 1 + 1, 0, none⟩ (.slice A8 (toI (nxI R sl E i)).length c8)) := HJ.out _ _ _ HJs.out ((Below.refl S0 _).setCell (p := ⟨S0 + 1 + 1, 0, none⟩) (by show S0 ≤ S0 + 1 + 1; omega) _)
          have HJ2 := Lib.hid hj2
          have hl2 := nxI_len R sl E i
          obtain ⟨n8, hn8⟩ : ∃ n8, n8 = (toI (nxI R sl E i)).length := ⟨_, rfl⟩
          rw [← hn8] at HED HJ2 ⊢
          clear hj2 hn8
          gi_wp2
          exact ⟨⟨s + 1, _, _, _, _, by go_num, by omega, by omega, HED, HJ2, HNXT⟩, by simp [intOf]; omega⟩
end Go.Proofs.Ytfkggeakjgphjaa.C
