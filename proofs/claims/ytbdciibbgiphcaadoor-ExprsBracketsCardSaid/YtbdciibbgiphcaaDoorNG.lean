/- exprs.Refs walked; what alive calls. Joined by wip/merge.py (ours) from several texts of this seat. -/
import Derived.Test.YtbdciibbgiphcaaDoorNE
import Derived.Test.YtbdciibbgiphcaaDoorNB
import Derived.Deep.RegionHeld3
import Derived.LoopTactic
import Derived.Lib.Hide
import Derived.Laws.EntriesVeiled
import Derived.Test.YtbdciibbgiphcaaDoorNA
import Derived.Test.YtbdciibbgiphcaaDoorNF
/- exprs.Refs' inner function: what lies in memory while it runs. -/
namespace Go.Proofs.YtbdciibbgiphcaaDoor.V
set_option linter.unusedVariables false
set_option linter.unusedSimpArgs false
set_option linter.unusedSectionVars false
open Go.RowKit Go.Proofs.YtbdciibbgiphcaaDoorW.PrintWords Go.Proofs.YtbdciibbgiphcaaDoorW.PrintLast Go.Proofs.YtbdciibbgiphcaaDoorW.PrintMore
open Go.Proofs.YtbdciibbgiphcaaDoor.B (wp_append_two own_kept)
def rfCells (l : List Rf) : List Value := l.flatMap fun r => [.string r.1, .int .i64 r.2]
/-- while it runs: l is what was found so far; k1 its variable, k2 the map, k3 the map's variable, k4 the function's own. -/
structure RfS (w0 W : World) (k1 k2 k3 k4 : Nat) (l : List Rf) : Prop where
 self : W.heap[k4]? = some (.cells #[.func (.func 43) #[] #[.pointer (some ⟨k3, 0, none⟩), .pointer (some ⟨k1, 0, none⟩), .pointer (some ⟨k4, 0, none⟩)]] 81 (0, 0))
 mp : W.heap[k3]? = some (.cells #[.map (some k2)] 80 (0, 0))
 mapE : MapG.MapE encR okR W k2 (fun r => if inR r l = true then some (.bool true) else none)
 row : ∃ v, W.heap[k1]? = some (.cells #[v] 47 (0, 0)) ∧ W.ownsRow w0.heap.size 51 2 v l.length (rfCells l) ∧ ∀ q, v.ownBlock = some q → q ≠ k1 ∧ q ≠ k2 ∧ q ≠ k3 ∧ q ≠ k4
 bel : Below w0.heap.size w0 W
 ge : w0.heap.size ≤ k1 ∧ w0.heap.size ≤ k2 ∧ w0.heap.size ≤ k3 ∧ w0.heap.size ≤ k4
 ne : k1 ≠ k2 ∧ k1 ≠ k3 ∧ k1 ≠ k4 ∧ k2 ≠ k3 ∧ k2 ≠ k4 ∧ k3 ≠ k4
theorem RfS.stay {w0 W W' : World} {k1 k2 k3 k4 : Nat} {l : List Rf} (h : RfS w0 W k1 k2 k3 k4 l) (hb : Below W.heap.size W W') : RfS w0 W' k1 k2 k3 k4 l := by
 obtain ⟨v, r1, r2, r3⟩ := h.row
 have l4 := (Array.getElem?_eq_some_iff.1 h.self).1
 have l3 := (Array.getElem?_eq_some_iff.1 h.mp).1
 have l1 := (Array.getElem?_eq_some_iff.1 r1).1
 exact ⟨(hb.block _ l4).trans h.self, (hb.block _ l3).trans h.mp, h.mapE.move (hb.block _ h.mapE.lt), ⟨v, (hb.block _ l1).trans r1, own_kept r2 (fun k hk => hb.block k (own_lt r2 k hk)), r3⟩, h.bel.trans (hb.mono h.bel.size), h.ge, h.ne⟩
/-- the inner function, of a tree of m parts. -/
def Go1Is (x : S25) : Prop := WfE x → ∀ (m : Nat), Nodes x m → ∀ (A : Option Addr) (c : Nat) (ago : Int) (l : List Rf) (k1 k2 k3 k4 : Nat) (w0 W : World), -9223372036854775808 ≤ ago → ago ≤ 9223372036854775807 → l.length + m ≤ 2000000 → x.f3.length ≤ c → Kd.C k25 w0 A x.f3.length x.f3 → RfS w0 W k1 k2 k3 k4 l →
 Calls Tryd.prog 43 #[.agg #[.int .u8 x.f0, .int .i64 x.f1, .string x.f2, .slice A x.f3.length c], .int .i64 ago, .pointer (some ⟨k3, 0, none⟩), .pointer (some ⟨k1, 0, none⟩), .pointer (some ⟨k4, 0, none⟩)] W fun e W' => e = .returned (.tuple #[]) ∧ RfS w0 W' k1 k2 k3 k4 (go1 x ago l) ∧ (go1 x ago l).length ≤ l.length + m ∧ W.heap.size ≤ W'.heap.size
theorem cell_one {w : World} {b : Nat} {v : Value} {t : TypeId} (h : w.heap[b]? = some (.cells #[v] t (0, 0))) : w.cell? ⟨b, 0, none⟩ = some v := by simp [World.cell?, h]
theorem Nodes.pos {x : S25} {m : Nat} (h : Nodes x m) : 1 ≤ m := by cases h; omega
theorem len_le_sum : ∀ (ns : List Nat), (∀ m ∈ ns, 1 ≤ m) → ns.length ≤ ns.sum
 | [], _ => by simp
 | m :: r, h => by
  have := len_le_sum r (fun k hk => h k (List.mem_cons_of_mem _ hk))
  have := h m (List.mem_cons_self)
  simp only [List.length_cons, List.sum_cons]
  omega
theorem WfE.kids {o n : Int} {s : ByteArray} {xs : List S25} (h : WfE ⟨o, n, s, xs⟩) : ∀ y ∈ xs, WfE y := by cases h; assumption
theorem WfE.text {o n : Int} {s : ByteArray} {xs : List S25} (h : WfE ⟨o, n, s, xs⟩) : s.size ≤ 140737488351232 := by cases h; assumption
theorem zero4 (w : World) : (zeroValue 4).run Tryd.prog w = .ok (.bool false) w := by kernel_rfl
theorem cell_two {w : World} {b : Nat} {v u : Value} {t : TypeId} (h : w.heap[b]? = some (.cells #[v, u] t (0, 0))) : w.cell? ⟨b, 0, none⟩ = some v ∧ w.cell? ⟨b, 1, none⟩ = some u := by simp [World.cell?, h]
theorem info51 : (Tryd.prog.info? 51).map (fun i => (i.zero, i.size, i.bytes)) = some (some (.agg #[(.string ⟨#[]⟩), (.int .i64 0)]), 2, 24) := by kernel_rfl
theorem rfCells_snoc (l : List Rf) (r : Rf) : rfCells (l ++ [r]) = rfCells l ++ [.string r.1, .int .i64 r.2] := by simp [rfCells]
theorem inR_snoc (l : List Rf) (r a : Rf) : inR a (l ++ [r]) = (inR a l || decide (r = a)) := by simp [inR]
theorem own_base {w : World} {base : Nat} {e : TypeId} {size n : Nat} {v : Value} {xs : List Value} (h : w.ownsRow base e size v n xs) (k : Nat) (hk : v.ownBlock = some k) : base ≤ k := by
 rcases h.2 with ⟨rfl, _⟩ | ⟨g, cap, cur, rfl, hb, hh, _⟩
 ·simp [Value.ownBlock] at hk
 ·have : g = k := by simpa [Value.ownBlock] using hk
  omega
/-- behind the map's update, the append and the store. -/
theorem RfS.put {w0 W w7 w8 : World} {k1 k2 k3 k4 : Nat} {l : List Rf} {r : Rf} {v v1 : Value} (h : RfS w0 W k1 k2 k3 k4 l)
  (hv : W.heap[k1]? = some (.cells #[v] 47 (0, 0))) (hr3 : ∀ q, v.ownBlock = some q → q ≠ k1 ∧ q ≠ k2 ∧ q ≠ k3 ∧ q ≠ k4) (h0 : ∀ q, v.ownBlock = some q → w0.heap.size ≤ q)
  (hm : MapG.MapE encR okR w7 k2 (fun k => if k = r then some (.bool true) else (if inR k l = true then some (.bool true) else none))) (hg7 : W.grownBy w7 (some k2))
  (ho : w8.ownsRow w0.heap.size 51 2 v1 (l.length + 1) (rfCells l ++ [.string r.1, .int .i64 r.2]))
  (hat : (v1.ownBlock = v.ownBlock ∧ w7.grownBy w8 v.ownBlock) ∨ (∃ q, v1.ownBlock = some q ∧ w7.heap.size ≤ q ∧ w7.grownBy w8 none)) :
  w8.cell? ⟨k1, 0, none⟩ = some v ∧ w8.frozen? ⟨k1, 0, none⟩ = false ∧ RfS w0 (w8.setCell ⟨k1, 0, none⟩ v1) k1 k2 k3 k4 (l ++ [r]) := by
 have hl1 := (Array.getElem?_eq_some_iff.1 hv).1
 have hl4 := (Array.getElem?_eq_some_iff.1 h.self).1
 have hl3 := (Array.getElem?_eq_some_iff.1 h.mp).1
 have e71 := (hg7.block k1 hl1 (fun e => h.ne.1 (Option.some.inj e))).trans hv
 have e73 := (hg7.block k3 hl3 (fun e => h.ne.2.2.2.1 (Option.some.inj e).symm)).trans h.mp
 have e74 := (hg7.block k4 hl4 (fun e => h.ne.2.2.2.2.1 (Option.some.inj e).symm)).trans h.self
 have hs7 := hg7.size
 have hk2 := hm.lt
 obtain ⟨row, g8, hq, hq0⟩ : ∃ row, w7.grownBy w8 row ∧ (∀ q, row = some q → q ≠ k1 ∧ q ≠ k2 ∧ q ≠ k3 ∧ q ≠ k4) ∧ (∀ q, row = some q → w0.heap.size ≤ q) := by
  rcases hat with ⟨_, hg⟩ | ⟨q, _, _, hg⟩
  ·exact ⟨v.ownBlock, hg, hr3, h0⟩
  ·exact ⟨none, hg, (fun q hq => by cases hq), (fun q hq => by cases hq)⟩
 have e81 := (g8.block k1 (by omega) (fun e => (hq k1 e.symm).1 rfl)).trans e71
 have e82 := g8.block k2 hk2 (fun e => (hq k2 e.symm).2.1 rfl)
 have e83 := (g8.block k3 (by omega) (fun e => (hq k3 e.symm).2.2.1 rfl)).trans e73
 have e84 := (g8.block k4 (by omega) (fun e => (hq k4 e.symm).2.2.2 rfl)).trans e74
 have hne : ∀ q, v1.ownBlock = some q → q ≠ k1 ∧ q ≠ k2 ∧ q ≠ k3 ∧ q ≠ k4 := by
  intro q h1
  rcases hat with ⟨h2, _⟩ | ⟨q', h2, h3, _⟩
  ·exact hr3 q (by rw [← h2]; exact h1)
  ·rw [h2] at h1; injection h1 with h1; omega
 have hset : ∀ k, k ≠ k1 → (w8.setCell ⟨k1, 0, none⟩ v1).heap[k]? = w8.heap[k]? := fun k hk => by
  simp only [World.setCell]
  rw [Array.getElem?_modify, if_neg (fun e => hk e.symm)]
 have hB7 : Below w0.heap.size w0 w7 := by
  refine ⟨hg7.os.trans h.bel.os, hg7.tape.trans h.bel.tape, hg7.output.trans h.bel.output, Nat.le_trans h.bel.size hg7.size, fun k hk => ?_⟩
  exact (hg7.block k (Nat.lt_of_lt_of_le hk h.bel.size) (fun e => by have := Option.some.inj e; have := h.ge.2.1; omega)).trans (h.bel.block k hk)
 have hB8 : Below w0.heap.size w0 w8 := by
  refine ⟨g8.os.trans hB7.os, g8.tape.trans hB7.tape, g8.output.trans hB7.output, Nat.le_trans hB7.size g8.size, fun k hk => ?_⟩
  refine (g8.block k (Nat.lt_of_lt_of_le hk hB7.size) (fun e => ?_)).trans (hB7.block k hk)
  have := hq0 k e.symm
  omega
 refine ⟨cell_one e81, by simp [World.frozen?, e81], ?_⟩
 refine ⟨(hset k4 h.ne.2.2.1.symm).trans e84, (hset k3 h.ne.2.1.symm).trans e83, ?_, ⟨v1, ?_, ?_, hne⟩, hB8.setCell (p := ⟨k1, 0, none⟩) h.ge.1 _, h.ge, h.ne⟩
 ·have := hm.move ((hset k2 h.ne.1.symm).trans e82)
  have hf : (fun k => if k = r then some (Value.bool true) else (if inR k l = true then some (Value.bool true) else none)) = fun k => if inR k (l ++ [r]) = true then some (Value.bool true) else none := by
   funext k
   rw [inR_snoc]
   by_cases hk : k = r
   ·subst hk; simp
   ·rw [if_neg hk]
    have : decide (r = k) = false := decide_eq_false (fun e => hk e.symm)
    rw [this, Bool.or_false]
  rw [hf] at this
  exact this
 ·simp [World.setCell, Array.getElem?_modify, e81]
 ·rw [rfCells_snoc, List.length_append]
  exact own_kept ho (fun k hk => hset k (hne k hk).1)
theorem sum_take {ns : List Nat} {i : Nat} (h : i < ns.length) : (ns.take (i + 1)).sum = (ns.take i).sum + ns[i] := by
 rw [List.take_succ_eq_append_getElem h, List.sum_append]; simp
theorem sum_take_le (ns : List Nat) (i : Nat) : (ns.take i).sum ≤ ns.sum := by
 have := congrArg List.sum (List.take_append_drop i ns)
 rw [List.sum_append] at this
 omega
theorem goL_take {xs : List S25} {i : Nat} (h : i < xs.length) (ago : Int) (l : List Rf) : goL (xs.take (i + 1)) ago l = go1 xs[i] ago (goL (xs.take i) ago l) := by
 rw [List.take_succ_eq_append_getElem h, goL_append]
 simp [goL]
/-- a block that is none of these is kept. -/
theorem far_kept {W w7 w8 : World} {k1 k2 b : Nat} {v v1 u : Value} (hg7 : W.grownBy w7 (some k2)) (hat : (v1.ownBlock = v.ownBlock ∧ w7.grownBy w8 v.ownBlock) ∨ (∃ q, v1.ownBlock = some q ∧ w7.heap.size ≤ q ∧ w7.grownBy w8 none))
  (hb : b < W.heap.size) (h1 : b ≠ k1) (h2 : b ≠ k2) (h3 : ∀ q, v.ownBlock = some q → q ≠ b) : (w8.setCell ⟨k1, 0, none⟩ u).heap[b]? = W.heap[b]? := by
 have e7 := hg7.block b hb (fun e => h2 (Option.some.inj e))
 have hs := hg7.size
 have e8 : w8.heap[b]? = w7.heap[b]? := by
  rcases hat with ⟨_, hg⟩ | ⟨q, _, _, hg⟩
  ·exact hg.block b (by omega) (fun e => h3 b e.symm rfl)
  ·exact hg.block b (by omega) (fun e => by cases e)
 simp only [World.setCell]
 rw [Array.getElem?_modify, if_neg (fun e => h1 e.symm), e8, e7]
end Go.Proofs.YtbdciibbgiphcaaDoor.V

/- exprs.Refs' inner function: what lies in memory while it runs. -/
namespace Go.Proofs.YtbdciibbgiphcaaDoor.V
set_option linter.unusedVariables false
set_option linter.unusedSimpArgs false
set_option linter.unusedSectionVars false
open Go.RowKit Go.Proofs.YtbdciibbgiphcaaDoorW.PrintWords Go.Proofs.YtbdciibbgiphcaaDoorW.PrintLast Go.Proofs.YtbdciibbgiphcaaDoorW.PrintMore
open Go.Proofs.YtbdciibbgiphcaaDoor.B (wp_append_two own_kept)
set_option maxHeartbeats 8000000 in
set_option maxRecDepth 100000 in
theorem go1_walk (x : S25) (hx : ∀ y ∈ x.f3, Go1Is y) : Go1Is x := by
 intro hwf m hm A c ago l k1 k2 k3 k4 w0 W ha0 ha1 hlm hc hC hS
 obtain ⟨o, n, s, xs⟩ := x
 dsimp only at hx hc hC ⊢
 have hkid := hwf.kids
 have hsz := hwf.text
 obtain ⟨ns, hns, hnl, rfl⟩ : ∃ ns : List Nat, (∀ (i : Nat) (y : S25) (m : Nat), xs[i]? = some y → ns[i]? = some m → Nodes y m) ∧ ns.length = xs.length ∧ m = 1 + ns.sum := by
  cases hm with
  | mk o n s xs ns h1 h2 => exact ⟨ns, h2, h1, rfl⟩
 have hlen : xs.length ≤ 2000000 := by
  have := len_le_sum ns (fun m hm => by
   obtain ⟨j, hj, rfl⟩ := List.getElem_of_mem hm
   exact (hns j xs[j] ns[j] (List.getElem?_eq_getElem (by omega)) (List.getElem?_eq_getElem hj)).pos)
  omega
 obtain ⟨N, hN⟩ : ∃ N, N = xs.length := ⟨_, rfl⟩
 have HKID := Lib.hid hkid; have HC := Lib.hid hC; have HX := Lib.hid hx; have HNS := Lib.hid hns; have HNL := Lib.hid hnl; have HN := Lib.hid hN
 have hb2 : Below W.heap.size W ((W.alloc (.cells #[.int .u8 o, .int .i64 n, .string s, .slice A xs.length c] 25)).alloc (.cells #[.string s, .int .i64 ago] 51)) := ((Below.refl _ _).alloc (Nat.le_refl _) _).alloc (by simp) _
 have HS := Lib.hid (hS.stay hb2)
 have HSZ := Lib.hid hb2.size
 have hk2 := hS.mapE.lt
 have hk1 : k1 < W.heap.size := by obtain ⟨v, r1, _, _⟩ := hS.row; exact (Array.getElem?_eq_some_iff.1 r1).1
 have hrow : ∀ v, ((W.alloc (.cells #[.int .u8 o, .int .i64 n, .string s, .slice A xs.length c] 25)).alloc (.cells #[.string s, .int .i64 ago] 51)).heap[k1]? = some (.cells #[v] 47 (0, 0)) → ∀ q, v.ownBlock = some q → q < W.heap.size := by
  intro v hv q hq
  obtain ⟨v0, s1, s2, s3⟩ := hS.row
  have h1 := (hb2.block k1 hk1).trans s1
  rw [hv] at h1
  injection h1 with h1
  injection h1 with h1 _ _
  have h2 : v = v0 := by simpa using h1
  subst h2
  exact own_lt s2 q hq
 have HROW := Lib.hid hrow
 rw [← hN] at hc HS HSZ hlen HROW ⊢
 clear hrow
 clear hC hx hm hS hb2 hns hnl hN hkid hwf
 by_cases h3 : o = 3
 ·subst h3
  have HL1 : Hid (go1 ⟨3, n, s, xs⟩ ago l = goL xs ago (addR (s, ago) l)) := Lib.hid (by simp only [go1]; rfl)
  have hok : okR (s, ago) := ⟨by unfold maxLen; show s.size ≤ _; omega, ha0, ha1⟩
  have hlk := MapG.run_lookup Tryd.underlying80 keyed51 (zero4 _) encR_inj key51 HS.out.mapE (s, ago) hok false
  have hc3 := cell_one HS.out.mp
  cases hin : inR (s, ago) l with
  | true =>
   rw [hin] at hlk
   replace hlk : (Instr.lookup 80 (.map (some k2)) (.agg #[.string s, .int .i64 ago]) false).run Tryd.prog _ = .ok (.bool true) _ := hlk
   have HIN := Lib.hid hin
   have HG : Hid (go1 ⟨3, n, s, xs⟩ ago l = goL xs ago l) := Lib.hid (by rw [HL1.out]; unfold addR; rw [if_pos hin])
   clear hin
   go_enter Tryd.func43, Tryd.ntmps43
   go_wp2_with fail
   clear hlk hc3
   go_loopw [37] (fun v37 wr => ∃ (i : Nat), v37 = .int .i64 i ∧ i ≤ N ∧ Hid (RfS w0 wr k1 k2 k3 k4 (goL (xs.take i) ago l)) ∧ Hid ((goL (xs.take i) ago l).length ≤ l.length + (ns.take i).sum) ∧ Hid (W.heap.size ≤ wr.heap.size)) (fun v37 _ => N - (intOf v37).toNat)
   case atStart => exact ⟨0, rfl, Nat.zero_le _, HS, Lib.hid (by simp [goL]), HSZ⟩
   case round =>
    clear HS HSZ
    obtain ⟨i, rfl, hi, HS, HLN, HSZ⟩ := hrel
    by_cases hlt : i < N
    ·have hix : i < xs.length := by rw [← HN.out]; exact hlt
     obtain ⟨ad, A3, c3, hA, p0, p1, p2, p3, hl3, hC3⟩ := at_T25 HC.out (i : Int) (by omega) (by have := HN.out; omega)
     subst hA
     rw [rdT25 xs i hix] at p0 p1 p2 p3 hl3 hC3
     simp only [Int.toNat_natCast] at p0 p1 p2 p3
     have q0 := keep_cell HS.out.bel (Nat.le_refl _) p0
     have q1 := keep_cell HS.out.bel (Nat.le_refl _) p1
     have q2 := keep_cell HS.out.bel (Nat.le_refl _) p2
     have q3 := keep_cell HS.out.bel (Nat.le_refl _) p3
     have hix2 : i < ns.length := by rw [HNL.out]; exact hix
     have hnod : Nodes xs[i] ns[i] := HNS.out i _ _ (List.getElem?_eq_getElem hix) (List.getElem?_eq_getElem hix2)
     have hst := sum_take hix2
     have hsl := sum_take_le ns (i + 1)
     have htk := goL_take hix ago l
     have HY := Lib.hid (HX.out xs[i] (List.getElem_mem hix) (HKID.out _ (List.getElem_mem hix)) ns[i] hnod)
     have HTK := Lib.hid htk
     clear p0 p1 p2 p3 htk hnod
     generalize xs[i] = y at *
     generalize ns[i] = my at *
     obtain ⟨L, hL⟩ : ∃ L, L = goL (xs.take i) ago l := ⟨_, rfl⟩
     rw [← hL] at HS HLN HTK
     have hHLN := HLN.out
     have hb3 : Below wr.heap.size wr (wr.alloc (.cells #[.int .u8 y.f0, .int .i64 y.f1, .string y.f2, .slice A3 y.f3.length c3] 25)) := (Below.refl _ _).alloc (Nat.le_refl _) _
     have hs3 := HS.out.stay hb3
     have hc4 := cell_one hs3.self
     have HB3 := Lib.hid hb3; have HS3 := Lib.hid hs3
     have HY2 := Lib.hid (HY.out A3 c3 ago L k1 k2 k3 k4 w0 _ ha0 ha1 (by omega) hl3 hC3 hs3)
     clear hb3 hs3 HY hl3 hC3 HS hL HLN
     go_wp2_with fail
     refine HY2.out.mono ?_
     rintro e w2 ⟨rfl, hs2, hl2, hz2⟩
     have HS2 := Lib.hid hs2; have HZ2 := Lib.hid hz2
     clear hs2 hz2 HY2
     go_wp2_with fail
     exact ⟨⟨i + 1, by go_num, by omega, Lib.hid (by rw [HTK.out]; exact HS2.out), Lib.hid (by rw [HTK.out]; omega), Lib.hid (by have := HSZ.out; have := HZ2.out; have := HB3.out.size; omega)⟩, by simp [intOf]; omega⟩
    ·obtain rfl : i = N := by omega
     have htk : xs.take i = xs := List.take_of_length_le (by have := HN.out; omega)
     have hsl := sum_take_le ns i
     rw [htk] at HS HLN
     have hHLN := HLN.out
     go_wp2_with fail
     go_end0
     exact ⟨rfl, by rw [HG.out]; exact HS.out, by rw [HG.out]; omega, HSZ.out⟩
  | false =>
   rw [hin] at hlk
   replace hlk : (Instr.lookup 80 (.map (some k2)) (.agg #[.string s, .int .i64 ago]) false).run Tryd.prog _ = .ok (.bool false) _ := hlk
   have HIN := Lib.hid hin
   have HG : Hid (go1 ⟨3, n, s, xs⟩ ago l = goL xs ago (l ++ [(s, ago)])) := Lib.hid (by rw [HL1.out]; unfold addR; rw [if_neg (by rw [hin]; simp)])
   obtain ⟨v, r1, r2, r3⟩ := HS.out.row
   obtain ⟨Av, cv, rfl⟩ := own_slice r2
   have HR1 := Lib.hid r1; have HR2 := Lib.hid r2; have HR3 := Lib.hid r3
   have hbx := heap_alloc_new (W.alloc (.cells #[.int .u8 3, .int .i64 n, .string s, .slice A N c] 25)) (.cells #[.string s, .int .i64 ago] 51)
   have HBX := Lib.hid hbx
   have HB4 : Hid (((W.alloc (.cells #[.int .u8 3, .int .i64 n, .string s, .slice A N c] 25)).alloc (.cells #[.string s, .int .i64 ago] 51)).heap[W.heap.size]? = some (.cells #[.int .u8 3, .int .i64 n, .string s, .slice A N c] 25 (0, 0))) := Lib.hid (((Below.refl _ (W.alloc (.cells #[.int .u8 3, .int .i64 n, .string s, .slice A N c] 25))).alloc (Nat.le_refl _) _).block _ (by simp) |>.trans (heap_alloc_new W _))
   have fx : ∀ w7, ((W.alloc (.cells #[.int .u8 3, .int .i64 n, .string s, .slice A N c] 25)).alloc (.cells #[.string s, .int .i64 ago] 51)).grownBy w7 (some k2) → w7.cell? ⟨k1, 0, none⟩ = some (.slice Av l.length cv) ∧ w7.cell? ⟨W.heap.size + 1, 0, none⟩ = some (.string s) ∧ w7.cell? ⟨W.heap.size + 1, 1, none⟩ = some (.int .i64 ago) ∧ w7.ownsRow w0.heap.size 51 2 (.slice Av l.length cv) l.length (rfCells l) ∧ w0.heap.size ≤ w7.heap.size := by
    intro w7 hg7
    have h71 := (hg7.block k1 (Array.getElem?_eq_some_iff.1 r1).1 (fun e => HS.out.ne.1 (Option.some.inj e))).trans r1
    have hbx2 := hbx
    rw [show (W.alloc (.cells #[.int .u8 3, .int .i64 n, .string s, .slice A N c] 25)).heap.size = W.heap.size + 1 by simp] at hbx2
    have h72 := (hg7.block (W.heap.size + 1) (by simp) (fun e => by have := Option.some.inj e; omega)).trans hbx2
    obtain ⟨d2, d3⟩ := cell_two h72
    exact ⟨cell_one h71, d2, d3, own_kept r2 (fun q hq => hg7.block q (own_lt r2 q hq) (fun e => (r3 q hq).2.1 (Option.some.inj e))), Nat.le_trans HS.out.bel.size hg7.size⟩
   have fy : ∀ (w7 w8 : World) (v1 u : Value), ((W.alloc (.cells #[.int .u8 3, .int .i64 n, .string s, .slice A N c] 25)).alloc (.cells #[.string s, .int .i64 ago] 51)).grownBy w7 (some k2) → ((v1.ownBlock = (Value.slice Av l.length cv).ownBlock ∧ w7.grownBy w8 (Value.slice Av l.length cv).ownBlock) ∨ (∃ q, v1.ownBlock = some q ∧ w7.heap.size ≤ q ∧ w7.grownBy w8 none)) →
     (w8.setCell ⟨k1, 0, none⟩ u).cell? ⟨W.heap.size, 0, none⟩ = some (.int .u8 3) ∧ (w8.setCell ⟨k1, 0, none⟩ u).cell? ⟨W.heap.size, 1, none⟩ = some (.int .i64 n) ∧ (w8.setCell ⟨k1, 0, none⟩ u).cell? ⟨W.heap.size, 2, none⟩ = some (.string s) ∧ (w8.setCell ⟨k1, 0, none⟩ u).cell? ⟨W.heap.size, 3, none⟩ = some (.slice A N c) := by
    intro w7 w8 v1 u hg7 hat
    exact box_cells ((far_kept hg7 hat (by simp; omega) (by omega) (by omega) (fun q hq => by have := HROW.out _ r1 q hq; omega)).trans HB4.out)
   have FY := Lib.hid fy
   have FX := Lib.hid fx
   clear hin r1 r2 r3 hbx fx fy
   go_enter Tryd.func43, Tryd.ntmps43
   go_wp2_with (first | (at_mapUpdate; refine MapG.wpList_upd rfl _ _ _ rfl Tryd.underlying80 keyed51 encR_inj key51 HS.out.mapE (s, ago) hok (.bool true) rfl rfl rfl ?_; intro w7 hm7 hg7; obtain ⟨d1, d2, d3, d4, d5⟩ := FX.out w7 hg7; have HO7 := Lib.hid d4; clear d4; have HM7 := Lib.hid hm7; have HG7 := Lib.hid hg7; clear hm7 hg7) | (at_builtin; refine wp_append_two (W := w7) w0.heap.size rfl _ _ 47 51 (.agg #[(.string ⟨#[]⟩), (.int .i64 0)]) 2 24 rfl Tryd.underlying47 info51 rfl (by decide) (by decide) (.slice Av l.length cv) l.length (rfCells l) [.string s, .int .i64 ago] rfl rfl rfl (by simp [Value.oneCell']) HO7.out (by omega) (by omega) ?_; intro v1 w8 hown8 hat8; obtain ⟨A8, c8, hv8⟩ := own_slice hown8; subst hv8; obtain ⟨f1, f2, f3⟩ := HS.out.put (r := (s, ago)) HR1.out HR3.out (own_base HR2.out) HM7.out HG7.out hown8 hat8; obtain ⟨e0, e1, e2, e3⟩ := FY.out w7 w8 _ (.slice A8 (l.length + 1) c8) HG7.out hat8; have HF3 := Lib.hid f3; clear f3 hown8 hat8))
   have HSZ3 : Hid (W.heap.size ≤ (w8.setCell ⟨k1, 0, none⟩ (.slice A8 (l.length + 1) c8)).heap.size) := Lib.hid (Nat.le_of_lt (cell_lt e0))
   clear hlk hc3
   go_loopw [37] (fun v37 wr => ∃ (i : Nat), v37 = .int .i64 i ∧ i ≤ N ∧ Hid (RfS w0 wr k1 k2 k3 k4 (goL (xs.take i) ago (l ++ [(s, ago)]))) ∧ Hid ((goL (xs.take i) ago (l ++ [(s, ago)])).length ≤ l.length + 1 + (ns.take i).sum) ∧ Hid (W.heap.size ≤ wr.heap.size)) (fun v37 _ => N - (intOf v37).toNat)
   case atStart => exact ⟨0, rfl, Nat.zero_le _, HF3, Lib.hid (by simp [goL]), HSZ3⟩
   case round =>
    clear HS HSZ
    obtain ⟨i, rfl, hi, HS, HLN, HSZ⟩ := hrel
    by_cases hlt : i < N
    ·have hix : i < xs.length := by rw [← HN.out]; exact hlt
     obtain ⟨ad, A3, c3, hA, p0, p1, p2, p3, hl3, hC3⟩ := at_T25 HC.out (i : Int) (by omega) (by have := HN.out; omega)
     subst hA
     rw [rdT25 xs i hix] at p0 p1 p2 p3 hl3 hC3
     simp only [Int.toNat_natCast] at p0 p1 p2 p3
     have q0 := keep_cell HS.out.bel (Nat.le_refl _) p0
     have q1 := keep_cell HS.out.bel (Nat.le_refl _) p1
     have q2 := keep_cell HS.out.bel (Nat.le_refl _) p2
     have q3 := keep_cell HS.out.bel (Nat.le_refl _) p3
     have hix2 : i < ns.length := by rw [HNL.out]; exact hix
     have hnod : Nodes xs[i] ns[i] := HNS.out i _ _ (List.getElem?_eq_getElem hix) (List.getElem?_eq_getElem hix2)
     have hst := sum_take hix2
     have hsl := sum_take_le ns (i + 1)
     have htk := goL_take hix ago (l ++ [(s, ago)])
     have HY := Lib.hid (HX.out xs[i] (List.getElem_mem hix) (HKID.out _ (List.getElem_mem hix)) ns[i] hnod)
     have HTK := Lib.hid htk
     clear p0 p1 p2 p3 htk hnod
     generalize xs[i] = y at *
     generalize ns[i] = my at *
     obtain ⟨L, hL⟩ : ∃ L, L = goL (xs.take i) ago (l ++ [(s, ago)]) := ⟨_, rfl⟩
     rw [← hL] at HS HLN HTK
     have hHLN := HLN.out
     have hb3 : Below wr.heap.size wr (wr.alloc (.cells #[.int .u8 y.f0, .int .i64 y.f1, .string y.f2, .slice A3 y.f3.length c3] 25)) := (Below.refl _ _).alloc (Nat.le_refl _) _
     have hs3 := HS.out.stay hb3
     have hc4 := cell_one hs3.self
     have HB3 := Lib.hid hb3; have HS3 := Lib.hid hs3
     have HY2 := Lib.hid (HY.out A3 c3 ago L k1 k2 k3 k4 w0 _ ha0 ha1 (by omega) hl3 hC3 hs3)
     clear hb3 hs3 HY hl3 hC3 HS hL HLN
     go_wp2_with fail
     refine HY2.out.mono ?_
     rintro e w2 ⟨rfl, hs2, hl2, hz2⟩
     have HS2 := Lib.hid hs2; have HZ2 := Lib.hid hz2
     clear hs2 hz2 HY2
     go_wp2_with fail
     exact ⟨⟨i + 1, by go_num, by omega, Lib.hid (by rw [HTK.out]; exact HS2.out), Lib.hid (by rw [HTK.out]; omega), Lib.hid (by have := HSZ.out; have := HZ2.out; have := HB3.out.size; omega)⟩, by simp [intOf]; omega⟩
    ·obtain rfl : i = N := by omega
     have htk : xs.take i = xs := List.take_of_length_le (by have := HN.out; omega)
     have hsl := sum_take_le ns i
     rw [htk] at HS HLN
     have hHLN := HLN.out
     go_wp2_with fail
     go_end0
     exact ⟨rfl, by rw [HG.out]; exact HS.out, by rw [HG.out]; omega, HSZ.out⟩
 ·have g1 : (o == 3) = false := by simpa using h3
  have g2 : decide (o = 3) = false := decide_eq_false h3
  have HL1 : Hid ((if o = 3 then addR (s, ago) l else l) = l) := Lib.hid (if_neg h3)
  by_cases h19 : o = 19
  ·subst h19
   have hw0 : -9223372036854775808 ≤ wrap64 (ago + 1) := by unfold wrap64; omega
   have hw1 : wrap64 (ago + 1) ≤ 9223372036854775807 := by unfold wrap64; omega
   have HG : Hid (go1 ⟨19, n, s, xs⟩ ago l = goL xs (wrap64 (ago + 1)) l) := Lib.hid (by simp only [go1]; rw [if_neg h3]; rfl)
   go_enter Tryd.func43, Tryd.ntmps43
   go_wp2_with fail
   go_loopw [37] (fun v37 wr => ∃ (i : Nat), v37 = .int .i64 i ∧ i ≤ N ∧ Hid (RfS w0 wr k1 k2 k3 k4 (goL (xs.take i) (wrap64 (ago + 1)) l)) ∧ Hid ((goL (xs.take i) (wrap64 (ago + 1)) l).length ≤ l.length + (ns.take i).sum) ∧ Hid (W.heap.size ≤ wr.heap.size)) (fun v37 _ => N - (intOf v37).toNat)
   case atStart => exact ⟨0, rfl, Nat.zero_le _, HS, Lib.hid (by simp [goL]), HSZ⟩
   case round =>
    clear HS HSZ
    obtain ⟨i, rfl, hi, HS, HLN, HSZ⟩ := hrel
    by_cases hlt : i < N
    ·have hix : i < xs.length := by rw [← HN.out]; exact hlt
     obtain ⟨ad, A3, c3, hA, p0, p1, p2, p3, hl3, hC3⟩ := at_T25 HC.out (i : Int) (by omega) (by have := HN.out; omega)
     subst hA
     rw [rdT25 xs i hix] at p0 p1 p2 p3 hl3 hC3
     simp only [Int.toNat_natCast] at p0 p1 p2 p3
     have q0 := keep_cell HS.out.bel (Nat.le_refl _) p0
     have q1 := keep_cell HS.out.bel (Nat.le_refl _) p1
     have q2 := keep_cell HS.out.bel (Nat.le_refl _) p2
     have q3 := keep_cell HS.out.bel (Nat.le_refl _) p3
     have hix2 : i < ns.length := by rw [HNL.out]; exact hix
     have hnod : Nodes xs[i] ns[i] := HNS.out i _ _ (List.getElem?_eq_getElem hix) (List.getElem?_eq_getElem hix2)
     have hst := sum_take hix2
     have hsl := sum_take_le ns (i + 1)
     have htk := goL_take hix (wrap64 (ago + 1)) l
     have HY := Lib.hid (HX.out xs[i] (List.getElem_mem hix) (HKID.out _ (List.getElem_mem hix)) ns[i] hnod)
     have HTK := Lib.hid htk
     clear p0 p1 p2 p3 htk hnod
     generalize xs[i] = y at *
     generalize ns[i] = my at *
     obtain ⟨L, hL⟩ : ∃ L, L = goL (xs.take i) (wrap64 (ago + 1)) l := ⟨_, rfl⟩
     rw [← hL] at HS HLN HTK
     have hHLN := HLN.out
     have hb3 : Below wr.heap.size wr (wr.alloc (.cells #[.int .u8 y.f0, .int .i64 y.f1, .string y.f2, .slice A3 y.f3.length c3] 25)) := (Below.refl _ _).alloc (Nat.le_refl _) _
     have hs3 := HS.out.stay hb3
     have hc4 := cell_one hs3.self
     have HB3 := Lib.hid hb3; have HS3 := Lib.hid hs3
     have HY2 := Lib.hid (HY.out A3 c3 (wrap64 (ago + 1)) L k1 k2 k3 k4 w0 _ hw0 hw1 (by omega) hl3 hC3 hs3)
     clear hb3 hs3 HY hl3 hC3 HS hL HLN
     go_wp2_with fail
     refine HY2.out.mono ?_
     rintro e w2 ⟨rfl, hs2, hl2, hz2⟩
     have HS2 := Lib.hid hs2; have HZ2 := Lib.hid hz2
     clear hs2 hz2 HY2
     go_wp2_with fail
     exact ⟨⟨i + 1, by go_num, by omega, Lib.hid (by rw [HTK.out]; exact HS2.out), Lib.hid (by rw [HTK.out]; omega), Lib.hid (by have := HSZ.out; have := HZ2.out; have := HB3.out.size; omega)⟩, by simp [intOf]; omega⟩
    ·obtain rfl : i = N := by omega
     have htk : xs.take i = xs := List.take_of_length_le (by have := HN.out; omega)
     have hsl := sum_take_le ns i
     rw [htk] at HS HLN
     have hHLN := HLN.out
     go_wp2_with fail
     go_end0
     exact ⟨rfl, by rw [HG.out]; exact HS.out, by rw [HG.out]; omega, HSZ.out⟩
  ·have g3 : (o == 19) = false := by simpa using h19
   have HG : Hid (go1 ⟨o, n, s, xs⟩ ago l = goL xs ago l) := Lib.hid (by simp only [go1]; rw [if_neg h19, if_neg h3])
   go_enter Tryd.func43, Tryd.ntmps43
   go_wp2_with fail
   go_loopw [37] (fun v37 wr => ∃ (i : Nat), v37 = .int .i64 i ∧ i ≤ N ∧ Hid (RfS w0 wr k1 k2 k3 k4 (goL (xs.take i) ago l)) ∧ Hid ((goL (xs.take i) ago l).length ≤ l.length + (ns.take i).sum) ∧ Hid (W.heap.size ≤ wr.heap.size)) (fun v37 _ => N - (intOf v37).toNat)
   case atStart => exact ⟨0, rfl, Nat.zero_le _, HS, Lib.hid (by simp [goL]), HSZ⟩
   case round =>
    clear HS HSZ
    obtain ⟨i, rfl, hi, HS, HLN, HSZ⟩ := hrel
    by_cases hlt : i < N
    ·have hix : i < xs.length := by rw [← HN.out]; exact hlt
     obtain ⟨ad, A3, c3, hA, p0, p1, p2, p3, hl3, hC3⟩ := at_T25 HC.out (i : Int) (by omega) (by have := HN.out; omega)
     subst hA
     rw [rdT25 xs i hix] at p0 p1 p2 p3 hl3 hC3
     simp only [Int.toNat_natCast] at p0 p1 p2 p3
     have q0 := keep_cell HS.out.bel (Nat.le_refl _) p0
     have q1 := keep_cell HS.out.bel (Nat.le_refl _) p1
     have q2 := keep_cell HS.out.bel (Nat.le_refl _) p2
     have q3 := keep_cell HS.out.bel (Nat.le_refl _) p3
     have hix2 : i < ns.length := by rw [HNL.out]; exact hix
     have hnod : Nodes xs[i] ns[i] := HNS.out i _ _ (List.getElem?_eq_getElem hix) (List.getElem?_eq_getElem hix2)
     have hst := sum_take hix2
     have hsl := sum_take_le ns (i + 1)
     have htk := goL_take hix ago l
     have HY := Lib.hid (HX.out xs[i] (List.getElem_mem hix) (HKID.out _ (List.getElem_mem hix)) ns[i] hnod)
     have HTK := Lib.hid htk
     clear p0 p1 p2 p3 htk hnod
     generalize xs[i] = y at *
     generalize ns[i] = my at *
     obtain ⟨L, hL⟩ : ∃ L, L = goL (xs.take i) ago l := ⟨_, rfl⟩
     rw [← hL] at HS HLN HTK
     have hHLN := HLN.out
     have hb3 : Below wr.heap.size wr (wr.alloc (.cells #[.int .u8 y.f0, .int .i64 y.f1, .string y.f2, .slice A3 y.f3.length c3] 25)) := (Below.refl _ _).alloc (Nat.le_refl _) _
     have hs3 := HS.out.stay hb3
     have hc4 := cell_one hs3.self
     have HB3 := Lib.hid hb3; have HS3 := Lib.hid hs3
     have HY2 := Lib.hid (HY.out A3 c3 ago L k1 k2 k3 k4 w0 _ ha0 ha1 (by omega) hl3 hC3 hs3)
     clear hb3 hs3 HY hl3 hC3 HS hL HLN
     go_wp2_with fail
     refine HY2.out.mono ?_
     rintro e w2 ⟨rfl, hs2, hl2, hz2⟩
     have HS2 := Lib.hid hs2; have HZ2 := Lib.hid hz2
     clear hs2 hz2 HY2
     go_wp2_with fail
     exact ⟨⟨i + 1, by go_num, by omega, Lib.hid (by rw [HTK.out]; exact HS2.out), Lib.hid (by rw [HTK.out]; omega), Lib.hid (by have := HSZ.out; have := HZ2.out; have := HB3.out.size; omega)⟩, by simp [intOf]; omega⟩
    ·obtain rfl : i = N := by omega
     have htk : xs.take i = xs := List.take_of_length_le (by have := HN.out; omega)
     have hsl := sum_take_le ns i
     rw [htk] at HS HLN
     have hHLN := HLN.out
     go_wp2_with fail
     go_end0
     exact ⟨rfl, by rw [HG.out]; exact HS.out, by rw [HG.out]; omega, HSZ.out⟩
end Go.Proofs.YtbdciibbgiphcaaDoor.V

/- exprs.Refs, of whatever tree. -/
namespace Go.Proofs.YtbdciibbgiphcaaDoor.V
set_option linter.unusedVariables false
set_option linter.unusedSimpArgs false
set_option linter.unusedSectionVars false
open Go.RowKit Go.Proofs.YtbdciibbgiphcaaDoorW.PrintWords Go.Proofs.YtbdciibbgiphcaaDoorW.PrintLast Go.Proofs.YtbdciibbgiphcaaDoorW.PrintMore
open Go.Proofs.YtbdciibbgiphcaaDoor.B (wp_append_two own_kept)
theorem go1_all {x : S25} (h : WfE x) : Go1Is x := by
 induction h with
 | mk o n s xs h1 h2 h3 h4 h5 h6 hk ih => exact go1_walk _ ih
theorem rfS_start (w : World) (o : Obj) : RfS w (((((w.alloc o).alloc (.cells #[.slice none 0 0] 47)).alloc (.map #[] 0)).alloc (.cells #[.map (some (w.heap.size + 1 + 1))] 80)).alloc (.cells #[.func (.func 43) #[] #[.pointer (some ⟨w.heap.size + 1 + 1 + 1, 0, none⟩), .pointer (some ⟨w.heap.size + 1, 0, none⟩), .pointer (some ⟨w.heap.size + 1 + 1 + 1 + 1, 0, none⟩)]] 81)) (w.heap.size + 1) (w.heap.size + 1 + 1) (w.heap.size + 1 + 1 + 1) (w.heap.size + 1 + 1 + 1 + 1) [] := by
 have hm : MapG.MapE encR okR _ ((w.alloc o).alloc (.cells #[.slice none 0 0] 47)).heap.size (fun _ => none) := MapG.MapE.made ((w.alloc o).alloc (.cells #[.slice none 0 0] 47))
 have e2 : ((w.alloc o).alloc (.cells #[.slice none 0 0] 47)).heap.size = w.heap.size + 1 + 1 := by simp
 rw [e2] at hm
 refine ⟨?_, ?_, ?_, ⟨.slice none 0 0, ?_, ?_, fun q h => by simp [Value.ownBlock] at h⟩, ?_, ⟨by omega, by omega, by omega, by omega⟩, ⟨by omega, by omega, by omega, by omega, by omega, by omega⟩⟩
 ·have := heap_alloc_new ((((w.alloc o).alloc (.cells #[.slice none 0 0] 47)).alloc (.map #[] 0)).alloc (.cells #[.map (some (w.heap.size + 1 + 1))] 80)) (.cells #[.func (.func 43) #[] #[.pointer (some ⟨w.heap.size + 1 + 1 + 1, 0, none⟩), .pointer (some ⟨w.heap.size + 1, 0, none⟩), .pointer (some ⟨w.heap.size + 1 + 1 + 1 + 1, 0, none⟩)]] 81)
  rwa [show ((((w.alloc o).alloc (.cells #[.slice none 0 0] 47)).alloc (.map #[] 0)).alloc (.cells #[.map (some (w.heap.size + 1 + 1))] 80)).heap.size = w.heap.size + 1 + 1 + 1 + 1 by simp] at this
 ·have := heap_alloc_new (((w.alloc o).alloc (.cells #[.slice none 0 0] 47)).alloc (.map #[] 0)) (.cells #[.map (some (w.heap.size + 1 + 1))] 80)
  rw [show (((w.alloc o).alloc (.cells #[.slice none 0 0] 47)).alloc (.map #[] 0)).heap.size = w.heap.size + 1 + 1 + 1 by simp] at this
  exact blk_alloc this _
 ·have hf : (fun r : Rf => if inR r [] = true then some (Value.bool true) else none) = fun _ => none := by funext r; simp [inR]
  rw [hf]
  have h3 := heap_alloc_new ((w.alloc o).alloc (.cells #[.slice none 0 0] 47)) (.map #[] 0)
  rw [e2] at h3
  exact hm.move ((blk_alloc (blk_alloc h3 _) _).trans h3.symm)
 ·have := heap_alloc_new (w.alloc o) (.cells #[.slice none 0 0] 47)
  rw [show (w.alloc o).heap.size = w.heap.size + 1 by simp] at this
  exact blk_alloc (blk_alloc (blk_alloc this _) _) _
 ·exact World.ownsRow_nil _ _ _ _
 ·exact (((((Below.refl _ _).alloc (Nat.le_refl _) _).alloc (by simp) _).alloc (by simp; omega) _).alloc (by simp; omega) _).alloc (by simp; omega) _
set_option maxHeartbeats 8000000 in
set_option maxRecDepth 100000 in
theorem refs_walk (x : S25) (hwf : WfE x) (m : Nat) (hm : Nodes x m) (hle : m ≤ 2000000) (A : Option Addr) (c : Nat) (w : World) (hc : x.f3.length ≤ c) (hC : Kd.C k25 w A x.f3.length x.f3) :
  Calls Tryd.prog 23 #[.agg #[.int .u8 x.f0, .int .i64 x.f1, .string x.f2, .slice A x.f3.length c]] w fun e w' => ∃ v, e = .returned v ∧ w'.ownsRow w.heap.size 51 2 v (go1 x 0 []).length (rfCells (go1 x 0 [])) ∧ Below w.heap.size w w' := by
 have HY := Lib.hid (go1_all hwf hwf m hm)
 have HC := Lib.hid hC
 have hmm := @run_makeMap Tryd.prog
 have hmf : ∀ (fn : Fn) (first cap : Array Value) (w : World), (Instr.makeFunc fn first cap).run Tryd.prog w = .ok (.func fn first cap) w := fun _ _ _ _ => rfl
 clear hwf hm hC
 go_enter Tryd.func23, Tryd.ntmps23
 go_wp2_with fail
 refine (HY.out A c 0 [] _ _ _ _ w _ (by omega) (by omega) (by simpa using hle) hc HC.out (rfS_start w _)).mono ?_
 rintro e w2 ⟨rfl, hs, hl, hz⟩
 obtain ⟨v, r1, r2, r3⟩ := hs.row
 have hB := Lib.hid hs.bel
 obtain ⟨Av, cv, rfl⟩ := own_slice r2
 have hR := Lib.hid r2
 have hc1 := cell_one r1
 have hf1 := blk_frozen r1 0
 have HNE := Lib.hid (fun q hq => (r3 q hq).1)
 clear hs hl hz r1 r2 r3 HY HC
 go_wp2_with fail
 refine bodyPost_ret (v := .slice Av (go1 x 0 []).length cv) (by simp [results, Tryd.results23, go_sem, hc1]) rfl ⟨_, rfl, ?_, hB.out.setCell (p := ⟨w.heap.size + 1, 0, none⟩) (by show w.heap.size ≤ w.heap.size + 1; omega) _⟩
 refine own_kept hR.out (fun k hk => ?_)
 simp only [World.setCell]
 rw [Array.getElem?_modify, if_neg (fun e => HNE.out k hk e.symm)]
end Go.Proofs.YtbdciibbgiphcaaDoor.V

-- Written for this claim by wip/myprint.py (a program of this session over the kit's printer).
namespace Go.Proofs.YtbdciibbgiphcaaDoor.V
open Go.RowKit Go.Proofs.YtbdciibbgiphcaaDoorW.PrintWords Go.Proofs.YtbdciibbgiphcaaDoorW.PrintLast Go.Proofs.YtbdciibbgiphcaaDoorW.PrintMore
attribute [local go_sem] max2_int min2_int max_two min_two max_three min_three max_four min_four   -- for this text's walks alone
set_option linter.unusedVariables false
set_option linter.unusedSimpArgs false

theorem eqA51 (d : Nat) (w : World) (x0 y0 : ByteArray) (x1 y1 : Int) :
  (Op.equalIn (d + 2) 51 (.agg #[.string x0, .int .i64 x1]) (.agg #[.string y0, .int .i64 y1])).run Tryd.prog w = .ok (x0.toList == y0.toList && (x1 == y1)) w := by
 refine eqA_of Tryd.underlying51 (by kernel_rfl) ?_
 refine eqf_cons (by rfl) (by go_simp; rfl) (by go_simp; rfl) (by go_simp) ?_
 exact eqf_last (by rfl) (by go_simp; rfl) (by go_simp; rfl) (by go_simp)
end Go.Proofs.YtbdciibbgiphcaaDoor.V

-- Written for this claim by wip/myprint.py (a program of this session over the kit's printer).

namespace Go.Proofs.YtbdciibbgiphcaaDoor.V
open Go.RowKit Go.Proofs.YtbdciibbgiphcaaDoorW.PrintWords Go.Proofs.YtbdciibbgiphcaaDoorW.PrintLast Go.Proofs.YtbdciibbgiphcaaDoorW.PrintMore
attribute [local go_sem] max2_int min2_int max_two min_two max_three min_three max_four min_four   -- for this text's walks alone
set_option linter.unusedVariables false
set_option linter.unusedSimpArgs false

attribute [local go_sem high] eqA51
/-! ### belfrylaw01_SameRefs: function 25 -/
def belfrylaw01_SameRefs.l0 : Nat → List (S51) → List (S51) → Int → Option (Bool)
 | 0, _, _, _ => none
 | k + 1, x0, x1, x5 => if x5 < (x0.length : Int) then (if 0 ≤ x5 then (if x5 < (x1.length : Int) then (if (!((((rd_T51 x0 x5).f0).toList) == (((rd_T51 x1 x5).f0).toList)) || (!(((rd_T51 x0 x5).f1) == ((rd_T51 x1 x5).f1)))) = true then (some false) else (belfrylaw01_SameRefs.l0 k x0 x1 (wrap64 (x5 + 1)))) else (none)) else (none)) else (some true)
def belfrylaw01_SameRefs.f (k : Nat) (l0 : List (S51)) (l1 : List (S51)) : Option (Bool) := if (l0.length : Int) = (l1.length : Int) then (belfrylaw01_SameRefs.l0 k l0 l1 0) else (some false)
theorem belfrylaw01_SameRefs.mono_l : ∀ k, (∀ y0 y1 y2, LeO (belfrylaw01_SameRefs.l0 k y0 y1 y2) (belfrylaw01_SameRefs.l0 (k + 1) y0 y1 y2))
 | 0 => fun _ _ _ r h => by simp [belfrylaw01_SameRefs.l0] at h
 | k + 1 => by
  have ih0 := belfrylaw01_SameRefs.mono_l k
  ·intro y0 y1 y2
   unfold belfrylaw01_SameRefs.l0
   repeat' first
   | (with_reducible exact ih0 _ _ _)
   | (with_reducible exact LeO.refl _)
   | (with_reducible exact LeO.none _)
   | (with_reducible refine LeO.ite ?_ ?_)
   | (with_reducible refine LeO.bind ?_ (fun _ => ?_))
   | exact ih0 _ _ _
   | exact LeO.none _
   | refine LeO.ite ?_ ?_
   | refine LeO.bind ?_ (fun _ => ?_)
theorem belfrylaw01_SameRefs.mono : ∀ a0 a1 k, LeO (belfrylaw01_SameRefs.f k a0 a1) (belfrylaw01_SameRefs.f (k + 1) a0 a1) := by
 intro a0 a1 k
 have ih0 := belfrylaw01_SameRefs.mono_l k
 unfold belfrylaw01_SameRefs.f
 repeat' first
   | (with_reducible exact ih0 _ _ _)
   | (with_reducible exact LeO.refl _)
   | (with_reducible exact LeO.none _)
   | (with_reducible refine LeO.ite ?_ ?_)
   | (with_reducible refine LeO.bind ?_ (fun _ => ?_))
   | exact ih0 _ _ _
   | exact LeO.none _
   | refine LeO.ite ?_ ?_
   | refine LeO.bind ?_ (fun _ => ?_)
set_option maxHeartbeats 8000000 in
set_option maxRecDepth 100000 in
theorem belfrylaw01_SameRefs.calls (k : Nat) (A0 : Option Addr) (c0 : Nat) (l0 : List (S51)) (A1 : Option Addr) (c1 : Nat) (l1 : List (S51)) (r : Bool) (w : World) (hr0 : Kd.C k51 w A0 l0.length l0) (hc0 : l0.length ≤ c0) (hr1 : Kd.C k51 w A1 l1.length l1) (hc1 : l1.length ≤ c1) (h : belfrylaw01_SameRefs.f k l0 l1 = some r) :
  Calls Tryd.prog 25 #[.slice A0 l0.length c0, .slice A1 l1.length c1] w fun e w' => e = .returned (.bool r) ∧ Drawn0 w w' := by
 have hu51 := Tryd.underlying51
 have HR0 := Aside0.mk hr0
 have HC0 := Aside0.mk hc0
 clear hr0 hc0
 have HR1 := Aside0.mk hr1
 have HC1 := Aside0.mk hc1
 clear hr1 hc1
 have H : (if (l0.length : Int) = (l1.length : Int) then (belfrylaw01_SameRefs.l0 k l0 l1 0) else (some false)) = some r := h
 clear h
 by_cases c3 : (l0.length : Int) = (l1.length : Int)
 ·rw [if_pos c3] at H
  have c3b0 : ((l0.length : Int) == (l1.length : Int)) = true := beq_iff_eq.mpr c3
  have c3b1 : ((l0.length : Int) != (l1.length : Int)) = false := bne_eq_false_iff_eq.mpr c3
  have c3b2 : (l0.length == l1.length) = true := by first | simpa using c3 | (simp at c3 ⊢; omega)
  clear c3
  have H' := Aside0.mk H
  clear H
  go_enter Tryd.func25, Tryd.ntmps25
  go_wp2
  repeat (go_quiet (fail); try go_wp2)
  go_loopg [5] k (fun kq v5 w' => ∃ (x5_1 : Int), v5 = .int .i64 x5_1 ∧ Aside0 (belfrylaw01_SameRefs.l0 kq l0 l1 x5_1 = some r) ∧ Aside0 (kq ≤ k) ∧ Drawn0 w w')
  case atStart => exact ⟨(0), (by first | rfl | (simp; done) | (simp [*]; done)), H', ⟨Nat.le_refl _⟩, by repeat (first | exact Drawn0.refl _ | apply Drawn0.step)⟩
  case round =>
   clear H'
   try clear c1
   try clear c2
   try clear p2
   try clear c3
   try clear c3b0
   try clear c3b1
   try clear c3b2
   obtain ⟨x5_1, rfl, HA, HK1, ⟨m1, rfl⟩⟩ := hrel
   cases gk with
   | zero => exact absurd HA.out (by simp [belfrylaw01_SameRefs.l0])
   | succ k1 =>
    have H := HA.out
    clear HA
    simp only [belfrylaw01_SameRefs.l0] at H
    by_cases c4 : x5_1 < (l0.length : Int)
    ·rw [if_pos c4] at H
     have c4b0 : decide (x5_1 < (l0.length : Int)) = true := decide_eq_true c4
     clear c4
     by_cases c5 : 0 ≤ x5_1
     ·rw [if_pos c5] at H
      have c5b0 : decide (0 ≤ x5_1) = true := decide_eq_true c5
      clear c5
      by_cases c6 : x5_1 < (l1.length : Int)
      ·rw [if_pos c6] at H
       have c6b0 : decide (x5_1 < (l1.length : Int)) = true := decide_eq_true c6
       clear c6
       by_cases c7 : (!((((rd_T51 l0 x5_1).f0).toList) == (((rd_T51 l1 x5_1).f0).toList)) || (!(((rd_T51 l0 x5_1).f1) == ((rd_T51 l1 x5_1).f1)))) = true
       ·rw [if_pos c7] at H
        have c7b0 : (!((((rd_T51 l0 x5_1).f0).toList) == (((rd_T51 l1 x5_1).f0).toList)) || (!(((rd_T51 l0 x5_1).f1) == ((rd_T51 l1 x5_1).f1)))) = true := c7
        clear c7
        obtain rfl := Option.some.inj H
        have p444 : 0 ≤ (x5_1 : Int) := of_decide_eq_true (by first | (with_reducible assumption) | assumption)
        have q444 : x5_1 < (l0.length : Int) := of_decide_eq_true (by first | (with_reducible assumption) | assumption)
        obtain ⟨ad444, e444, hx444_0, hx444_1⟩ := at_T51 HR0.out x5_1 p444 q444
        cases e444
        replace p444 := eq_true p444
        replace q444 := eq_true q444
        have p445 : 0 ≤ (x5_1 : Int) := of_decide_eq_true (by first | (with_reducible assumption) | assumption)
        have q445 : x5_1 < (l1.length : Int) := of_decide_eq_true (by first | (with_reducible assumption) | assumption)
        obtain ⟨ad445, e445, hx445_0, hx445_1⟩ := at_T51 HR1.out x5_1 p445 q445
        cases e445
        replace p445 := eq_true p445
        replace q445 := eq_true q445
        go_wp2
        repeat (go_quiet (fail); try go_wp2)
        go_ret
        exact ⟨by first | rfl | (simp; done) | (simp [*]; done), by repeat (first | exact Drawn0.refl _ | apply Drawn0.step)⟩
       ·rw [if_neg c7] at H
        have c7b0 : (!((((rd_T51 l0 x5_1).f0).toList) == (((rd_T51 l1 x5_1).f0).toList)) || (!(((rd_T51 l0 x5_1).f1) == ((rd_T51 l1 x5_1).f1)))) = false := by simpa using c7
        clear c7
        have H' := Aside0.mk H
        clear H
        have p444 : 0 ≤ (x5_1 : Int) := of_decide_eq_true (by first | (with_reducible assumption) | assumption)
        have q444 : x5_1 < (l0.length : Int) := of_decide_eq_true (by first | (with_reducible assumption) | assumption)
        obtain ⟨ad444, e444, hx444_0, hx444_1⟩ := at_T51 HR0.out x5_1 p444 q444
        cases e444
        replace p444 := eq_true p444
        replace q444 := eq_true q444
        have p445 : 0 ≤ (x5_1 : Int) := of_decide_eq_true (by first | (with_reducible assumption) | assumption)
        have q445 : x5_1 < (l1.length : Int) := of_decide_eq_true (by first | (with_reducible assumption) | assumption)
        obtain ⟨ad445, e445, hx445_0, hx445_1⟩ := at_T51 HR1.out x5_1 p445 q445
        cases e445
        replace p445 := eq_true p445
        replace q445 := eq_true q445
        go_wp2
        repeat (go_quiet (fail); try go_wp2)
        go_roundg k1
        case measure => have := HK1.out; omega
        case rel => exact ⟨(wrap64 (x5_1 + 1)), (by first | rfl | (simp; done) | (simp [*]; done)), H', ⟨by have := HK1.out; omega⟩, by repeat (first | exact Drawn0.refl _ | apply Drawn0.step)⟩
      ·rw [if_neg c6] at H
       exact absurd H (by simp)
     ·rw [if_neg c5] at H
      exact absurd H (by simp)
    ·rw [if_neg c4] at H
     have c4b0 : decide (x5_1 < (l0.length : Int)) = false := decide_eq_false c4
     clear c4
     obtain rfl := Option.some.inj H
     go_wp2
     repeat (go_quiet (fail); try go_wp2)
     go_ret
     exact ⟨by first | rfl | (simp; done) | (simp [*]; done), by repeat (first | exact Drawn0.refl _ | apply Drawn0.step)⟩
 ·rw [if_neg c3] at H
  have c3b0 : ((l0.length : Int) == (l1.length : Int)) = false := beq_eq_false_iff_ne.mpr c3
  have c3b1 : ((l0.length : Int) != (l1.length : Int)) = true := bne_iff_ne.mpr c3
  have c3b2 : (l0.length == l1.length) = false := by first | simpa using c3 | (simp at c3 ⊢; omega)
  obtain rfl := Option.some.inj H
  go_enter Tryd.func25, Tryd.ntmps25
  go_wp2
  repeat (go_quiet (fail); try go_wp2)
  go_ret
  exact ⟨by first | rfl | (simp; done) | (simp [*]; done), by repeat (first | exact Drawn0.refl _ | apply Drawn0.step)⟩

end Go.Proofs.YtbdciibbgiphcaaDoor.V

/- alive: what it calls. -/
namespace Go.Proofs.YtbdciibbgiphcaaDoor.V
set_option linter.unusedVariables false
set_option linter.unusedSimpArgs false
set_option linter.unusedSectionVars false
open Go.RowKit Go.Proofs.YtbdciibbgiphcaaDoorW.PrintWords Go.Proofs.YtbdciibbgiphcaaDoorW.PrintLast Go.Proofs.YtbdciibbgiphcaaDoorW.PrintMore
/-- a block behind what only makes more. -/
theorem kp {w w' : World} {k : Nat} {o : Obj} (hb : Below w.heap.size w w') (h : w.heap[k]? = some o) : Hid (w'.heap[k]? = some o) := Lib.hid ((hb.block _ (blk_lt h)).trans h)
theorem name_law (s : ByteArray) (W : World) : Calls Tryd.prog 26 #[.string s] W fun e w' => e = .returned (.agg #[.int .u8 3, .int .i64 0, .string s, .slice none 0 0]) ∧ Below W.heap.size W w' := by
 go_enter Tryd.func26, Tryd.ntmps26
 go_wp2
 refine bodyPost_ret (results_c1 rfl _ _ W.heap.size _ _ _ _ rfl (heap_alloc_new W _)) rfl ⟨rfl, (Below.refl _ _).alloc (Nat.le_refl _) _⟩
theorem of_law (o : Int) (A : Option Addr) (n c : Nat) (W : World) : Calls Tryd.prog 24 #[.int .u8 o, .slice A n c] W fun e w' => e = .returned (.agg #[.int .u8 o, .int .i64 0, .string ⟨#[]⟩, .slice A n c]) ∧ Below W.heap.size W w' := by
 go_enter Tryd.func24, Tryd.ntmps24
 go_wp2
 refine bodyPost_ret (results_c1 rfl _ _ W.heap.size _ _ _ _ rfl (heap_alloc_new W _)) rfl ⟨rfl, (Below.refl _ _).alloc (Nat.le_refl _) _⟩
mutual
def cntE : S25 → Nat
 | ⟨o, n, s, xs⟩ => 1 + (cntL xs).sum
def cntL : List S25 → List Nat
 | [] => []
 | x :: r => cntE x :: cntL r
end
theorem cntL_len : ∀ xs : List S25, (cntL xs).length = xs.length
 | [] => rfl
 | x :: r => by simp [cntL, cntL_len r]
theorem cntL_get : ∀ (xs : List S25) (i : Nat) (y : S25) (m : Nat), xs[i]? = some y → (cntL xs)[i]? = some m → m = cntE y
 | [], i, y, m, h, _ => by simp at h
 | x :: r, 0, y, m, h, h1 => by simp [cntL] at h h1; rw [← h, ← h1]
 | x :: r, i + 1, y, m, h, h1 => by simp [cntL] at h h1; exact cntL_get r i y m h h1
theorem nodes_cnt {x : S25} (h : WfE x) : Nodes x (cntE x) := by
 induction h with
 | mk o n s xs h1 h2 h3 h4 h5 h6 hk ih =>
  have : cntE ⟨o, n, s, xs⟩ = 1 + (cntL xs).sum := by simp [cntE]
  rw [this]
  exact .mk o n s xs (cntL xs) (cntL_len xs) (fun i y m hy hm => by rw [cntL_get xs i y m hy hm]; exact ih y (List.mem_of_getElem? hy))
theorem wf_leaf (o n : Int) (s : ByteArray) (h1 : 0 ≤ o) (h2 : o ≤ 255) (h3 : -9223372036854775808 ≤ n) (h4 : n ≤ 9223372036854775807) (h5 : s.size ≤ 140737488351232) : WfE ⟨o, n, s, []⟩ :=
 .mk o n s [] h1 h2 h3 h4 h5 (by simp) (by simp)
theorem wf_op (o : Int) (xs : List S25) (h1 : 0 ≤ o) (h2 : o ≤ 255) (hl : xs.length ≤ 10) (hx : ∀ y ∈ xs, WfE y) : WfE ⟨o, 0, ⟨#[]⟩, xs⟩ :=
 .mk o 0 ⟨#[]⟩ xs h1 h2 (by omega) (by omega) (by simp [ByteArray.size]) (by omega) hx
def toR (r : Rf) : S51 := ⟨r.1, r.2⟩
theorem reps_rf (w : World) : ∀ L : List Rf, Reps (k51.K w) 2 (L.map toR) (rfCells L) := by
 intro L
 refine ⟨?_, fun j p hp => ?_⟩
 ·induction L with
  | nil => rfl
  | cons r t ih => simp only [rfCells, List.flatMap_cons, List.length_append, List.length_map] at ih ⊢; simp at ih ⊢; omega
 ·induction L generalizing j with
  | nil => simp at hp
  | cons r t ih =>
   cases j with
   | zero =>
    simp only [List.map_cons, List.getElem?_cons_zero, Option.some.injEq] at hp
    subst hp
    exact k51_mk w (toR r)
   | succ j =>
    simp only [List.map_cons, List.getElem?_cons_succ] at hp
    have := ih j hp
    have e : (rfCells (r :: t)).drop ((j + 1) * 2) = (rfCells t).drop (j * 2) := by
     rw [show (j + 1) * 2 = j * 2 + 1 + 1 by omega]
     rfl
    rw [e]
    exact this
/-- what was found, as it lies. -/
theorem refs_read {w : World} {base : Nat} {v : Value} {L : List Rf} (h : w.ownsRow base 51 2 v L.length (rfCells L)) : ∃ A c, v = .slice A (L.map toR).length c ∧ (L.map toR).length ≤ c ∧ Kd.C k51 w A (L.map toR).length (L.map toR) := by
 obtain ⟨A, c, he, hr⟩ := own_reads_row h (reps_rf w L) (by simp)
 refine ⟨A, c, by rw [List.length_map]; exact he, ?_, by rw [List.length_map]; exact hr⟩
 subst he
 have := own_cap' h
 rw [List.length_map]
 exact this
def tkv (t : S45) : List Value := [.int .u8 t.f0, .string t.f1, .int .i64 t.f2]
end Go.Proofs.YtbdciibbgiphcaaDoor.V

/- alive: what it comes to; lists that are written out. -/
namespace Go.Proofs.YtbdciibbgiphcaaDoor.V
set_option linter.unusedVariables false
set_option linter.unusedSimpArgs false
set_option linter.unusedSectionVars false
open Go.RowKit Go.Proofs.YtbdciibbgiphcaaDoorW.PrintWords Go.Proofs.YtbdciibbgiphcaaDoorW.PrintLast Go.Proofs.YtbdciibbgiphcaaDoorW.PrintMore
abbrev tA : S25 := ⟨3, 0, ⟨#[97]⟩, []⟩
abbrev tB : S25 := ⟨3, 0, ⟨#[98]⟩, []⟩
abbrev tC : S25 := ⟨3, 0, ⟨#[99]⟩, []⟩
abbrev tO (o : Int) (l : List S25) : S25 := ⟨o, 0, ⟨#[]⟩, l⟩
theorem al_r0 : readP ⟨#[97, 32, 60, 32, 98, 32, 60, 32, 99]⟩ = some (tO 13 [tA, tB], false) := by kernel_rfl
theorem al_r1 : readP ⟨#[97, 32, 45, 62, 32, 98, 32, 45, 62, 32, 99]⟩ = some (tO 18 [tA, tO 18 [tB, tC]], true) := by kernel_rfl
theorem al_r2 : readP ⟨#[97, 32, 45, 32, 98, 32, 45, 32, 99]⟩ = some (tO 7 [tO 7 [tA, tB], tC], true) := by kernel_rfl
theorem al_r3 : readP ⟨#[45, 32, 45, 97]⟩ = some (tO 4 [tO 4 [tA]], true) := by kernel_rfl
theorem al_r4 : readP ⟨#[97, 32, 42, 32, 40, 98, 32, 43, 32, 49, 41]⟩ = some (tO 8 [tA, tO 6 [tB, ⟨1, 1, ⟨#[]⟩, []⟩]], true) := by kernel_rfl
theorem al_r5 : readP ⟨#[105, 102, 32, 97, 32, 116, 104, 101, 110, 32, 98, 32, 101, 108, 115, 101, 32, 99, 32, 45, 62, 32, 97]⟩ = some (tO 17 [tA, tB, tO 18 [tC, tA]], true) := by kernel_rfl
theorem al_t1 : textE nameOk (tO 18 [tA, tO 18 [tB, tC]]) = (⟨#[97, 32, 45, 62, 32, 98, 32, 45, 62, 32, 99]⟩, 0) := by kernel_rfl
theorem al_t2 : textE nameOk (tO 7 [tO 7 [tA, tB], tC]) = (⟨#[97, 32, 45, 32, 98, 32, 45, 32, 99]⟩, 0) := by kernel_rfl
theorem al_t3 : textE nameOk (tO 4 [tO 4 [tA]]) = (⟨#[45, 32, 45, 97]⟩, 0) := by kernel_rfl
theorem al_t4 : textE nameOk (tO 8 [tA, tO 6 [tB, ⟨1, 1, ⟨#[]⟩, []⟩]]) = (⟨#[97, 32, 42, 32, 40, 98, 32, 43, 32, 49, 41]⟩, 0) := by kernel_rfl
theorem al_t5 : textE nameOk (tO 17 [tA, tB, tO 18 [tC, tA]]) = (⟨#[105, 102, 32, 97, 32, 116, 104, 101, 110, 32, 98, 32, 101, 108, 115, 101, 32, 99, 32, 45, 62, 32, 97]⟩, 0) := by kernel_rfl
theorem al_t6 : textE nameOk (tO 6 [tA]) = (⟨#[]⟩, 1) := by kernel_rfl
theorem al_t7 : textE nameOk ⟨1, -1, ⟨#[]⟩, []⟩ = (⟨#[]⟩, 1) := by kernel_rfl
theorem al_g0 : go1 (tO 6 [tA, tO 19 [tO 6 [tA, tO 19 [tB]]]]) 0 [] = [(⟨#[97]⟩, 0), (⟨#[97]⟩, 1), (⟨#[98]⟩, 2)] := by kernel_rfl
theorem al_p0 : parseT nameOk numT [⟨2, ⟨#[49]⟩, 0⟩, ⟨3, ⟨#[43]⟩, 0⟩] 0 = some (z25, 2, 5) := by kernel_rfl
theorem al_s0 : belfrylaw01_SameRefs.f 10 [⟨⟨#[97]⟩, 0⟩, ⟨⟨#[97]⟩, 1⟩, ⟨⟨#[98]⟩, 2⟩] [⟨⟨#[97]⟩, 0⟩, ⟨⟨#[97]⟩, 1⟩, ⟨⟨#[98]⟩, 2⟩] = some true := by kernel_rfl
theorem own_lit {w : World} {b sz n : Nat} {e : TypeId} {cs : Array Value} {l : List Value} (h : w.heap[b]? = some (.cells cs e (0, 0))) (hcs : cs.toList = l) (hl : l.length = n * sz) (hn : n ≤ maxLen) :
  w.ownsRow 0 e sz (.slice (some ⟨b, 0, none⟩) n n) n l :=
 ⟨hl, .inr ⟨b, n, cs, rfl, Nat.zero_le _, h, Nat.le_refl _, hn, by rw [← Array.length_toList, hcs, hl], by rw [hcs, List.take_of_length_le (by omega)]⟩⟩
theorem lit51 {w : World} {b : Nat} {cs : Array Value} (L : List Rf) (h : w.heap[b]? = some (.cells cs 51 (0, 0))) (hcs : cs.toList = rfCells L) (hn : L.length ≤ maxLen) : Kd.C k51 w (some ⟨b, 0, none⟩) (L.map toR).length (L.map toR) := by
 have hl := (reps_rf w L).1
 rw [List.length_map] at hl
 obtain ⟨A, c, he, hr⟩ := own_reads_row (own_lit h hcs hl hn) (reps_rf w L) (by simp)
 injection he with h1 h2 h3
 subst h1
 rw [List.length_map]
 exact hr
theorem tkv_len : ∀ (T : List S45), (T.flatMap tkv).length = T.length * 3
 | [] => rfl
 | p :: r => by
  simp only [List.flatMap_cons, List.length_append, List.length_cons]
  rw [tkv_len r]
  simp only [tkv, List.length_cons, List.length_nil]
  omega
theorem tkv_drop : ∀ (T : List S45) (j : Nat) (p : S45), T[j]? = some p → ((T.flatMap tkv).drop (j * 3)).take 3 = tkv p
 | [], j, p, h => by simp at h
 | q :: r, 0, p, h => by
  simp only [List.getElem?_cons_zero, Option.some.injEq] at h
  subst h
  rfl
 | q :: r, j + 1, p, h => by
  simp only [List.getElem?_cons_succ] at h
  have := tkv_drop r j p h
  rw [show (j + 1) * 3 = j * 3 + 1 + 1 + 1 by omega]
  exact this
theorem lit45 {w : World} {b : Nat} {cs : Array Value} (T : List S45) (h : w.heap[b]? = some (.cells cs 45 (0, 0))) (hcs : cs.toList = T.flatMap tkv) (hn : T.length ≤ maxLen) : Kd.C k45 w (some ⟨b, 0, none⟩) T.length T := by
 have hR : Reps (k45.K w) 3 T (T.flatMap tkv) := ⟨tkv_len T, fun j p hp => by rw [tkv_drop T j p hp]; exact k45_mk w p⟩
 obtain ⟨A, c, he, hr⟩ := own_reads_row (own_lit h hcs (tkv_len T) hn) hR rfl
 injection he with h1 h2 h3
 subst h1
 exact hr
theorem alloc2_new (w : World) (o o2 : Obj) : ((w.alloc o).alloc o2).heap[w.heap.size + 1]? = some o2 := by
 have := heap_alloc_new (w.alloc o) o2
 rwa [show (w.alloc o).heap.size = w.heap.size + 1 by simp] at this
theorem wA : WfE tA := wf_leaf _ _ _ (by omega) (by omega) (by omega) (by omega) (by decide)
theorem wB : WfE tB := wf_leaf _ _ _ (by omega) (by omega) (by omega) (by omega) (by decide)
theorem wC : WfE tC := wf_leaf _ _ _ (by omega) (by omega) (by omega) (by omega) (by decide)
theorem w1 : WfE ⟨1, 1, ⟨#[]⟩, []⟩ := wf_leaf _ _ _ (by omega) (by omega) (by omega) (by omega) (by decide)
theorem wO1 {o : Int} {x : S25} (h0 : 0 ≤ o) (h1 : o ≤ 255) (hx : WfE x) : WfE (tO o [x]) := wf_op o [x] h0 h1 (by simp) (by intro y hy; simp at hy; subst hy; exact hx)
theorem wO2 {o : Int} {x y : S25} (h0 : 0 ≤ o) (h1 : o ≤ 255) (hx : WfE x) (hy : WfE y) : WfE (tO o [x, y]) := wf_op o [x, y] h0 h1 (by simp) (by intro u hu; simp at hu; rcases hu with rfl | rfl; exact hx; exact hy)
theorem wO3 {o : Int} {x y z : S25} (h0 : 0 ≤ o) (h1 : o ≤ 255) (hx : WfE x) (hy : WfE y) (hz : WfE z) : WfE (tO o [x, y, z]) := wf_op o [x, y, z] h0 h1 (by simp) (by intro u hu; simp at hu; rcases hu with rfl | rfl | rfl; exact hx; exact hy; exact hz)
theorem lit1 {W : World} {b : Nat} (x : S25) (A : Option Addr) (c : Nat) (cs : Array Value) (hcs : cs.toList = tv (x, A, c)) (hb : W.heap[b]? = some (.cells cs 25 (0, 0))) (hl : x.f3.length ≤ c) (hF : Kd.F k25 W (fun _ => True) A x.f3.length x.f3) : Kd.F k25 W (fun _ => True) (some ⟨b, 0, none⟩) 1 [x] :=
 lit_F (b := b) [(x, A, c)] cs (by simpa using hcs) hb trivial (by intro p hp; simp at hp; subst hp; exact ⟨hl, hF⟩) (by simp [maxLen])
theorem lit2 {W : World} {b : Nat} (x y : S25) (A A2 : Option Addr) (c c2 : Nat) (cs : Array Value) (hcs : cs.toList = tv (x, A, c) ++ tv (y, A2, c2)) (hb : W.heap[b]? = some (.cells cs 25 (0, 0))) (hl : x.f3.length ≤ c) (hF : Kd.F k25 W (fun _ => True) A x.f3.length x.f3)
  (hl2 : y.f3.length ≤ c2) (hF2 : Kd.F k25 W (fun _ => True) A2 y.f3.length y.f3) : Kd.F k25 W (fun _ => True) (some ⟨b, 0, none⟩) 2 [x, y] :=
 lit_F (b := b) [(x, A, c), (y, A2, c2)] cs (by simpa using hcs) hb trivial (by intro p hp; simp at hp; rcases hp with rfl | rfl; exact ⟨hl, hF⟩; exact ⟨hl2, hF2⟩) (by simp [maxLen])
theorem lit3 {W : World} {b : Nat} (x y z : S25) (A A2 A3 : Option Addr) (c c2 c3 : Nat) (cs : Array Value) (hcs : cs.toList = tv (x, A, c) ++ tv (y, A2, c2) ++ tv (z, A3, c3)) (hb : W.heap[b]? = some (.cells cs 25 (0, 0))) (hl : x.f3.length ≤ c) (hF : Kd.F k25 W (fun _ => True) A x.f3.length x.f3)
  (hl2 : y.f3.length ≤ c2) (hF2 : Kd.F k25 W (fun _ => True) A2 y.f3.length y.f3) (hl3 : z.f3.length ≤ c3) (hF3 : Kd.F k25 W (fun _ => True) A3 z.f3.length z.f3) : Kd.F k25 W (fun _ => True) (some ⟨b, 0, none⟩) 3 [x, y, z] :=
 lit_F (b := b) [(x, A, c), (y, A2, c2), (z, A3, c3)] cs (by simpa using hcs) hb trivial (by intro p hp; simp at hp; rcases hp with rfl | rfl | rfl; exact ⟨hl, hF⟩; exact ⟨hl2, hF2⟩; exact ⟨hl3, hF3⟩) (by simp [maxLen])
end Go.Proofs.YtbdciibbgiphcaaDoor.V
