/- Walks of container/heap over order.least: Push keeps a heap and puts one number more into it; Pop takes the least one out. -/
import Derived.Test.YtodgeciggbeolaaGreatDoorSx0
import Derived.Test.YtodgeciggbeolaaGreatDoorHeap
import Derived.RegionTactic
import Derived.ChangeAlike
import Derived.Deep.RegionLaw
import Derived.Outline
import Derived.Lib.Hide
namespace Go.Proofs.YtodgeciggbeolaaGreatDoor
set_option maxRecDepth 100000
set_option linter.unusedVariables false
set_option linter.unusedSimpArgs false
set_option linter.unusedSectionVars false
open Go.RowKit Go.Proofs.YtodgeciggbeolaaGreatDoorW.PrintWords Go.Proofs.YtodgeciggbeolaaGreatDoorW.PrintLast Go.Proofs.YtodgeciggbeolaaGreatDoorW.PrintMore
open Go.Proofs.BinHeap

/-- all blocks that are not in S stay as they are; what is beside the heap, too. -/
structure Fr (S : Nat → Prop) (w w' : World) : Prop where
  os : w'.os = w.os
  tape : w'.tape = w.tape
  output : w'.output = w.output
  size : w.heap.size ≤ w'.heap.size
  block : ∀ k, k < w.heap.size → ¬ S k → w'.heap[k]? = w.heap[k]?

theorem Fr.refl (S : Nat → Prop) (w : World) : Fr S w w := ⟨rfl, rfl, rfl, Nat.le_refl _, fun _ _ _ => rfl⟩
theorem Fr.trans {S S2 : Nat → Prop} {w w1 w2 : World} (h : Fr S w w1) (k : Fr S2 w1 w2) (hs : ∀ j, S2 j → S j ∨ w.heap.size ≤ j) : Fr S w w2 :=
  ⟨k.os.trans h.os, k.tape.trans h.tape, k.output.trans h.output, Nat.le_trans h.size k.size,
    fun j hj hn => (k.block j (Nat.lt_of_lt_of_le hj h.size) (fun h2 => (hs j h2).elim hn (fun h3 => by omega))).trans (h.block j hj hn)⟩
theorem Fr.mono {S S2 : Nat → Prop} {w w1 : World} (h : Fr S w w1) (hs : ∀ j, S j → S2 j) : Fr S2 w w1 := ⟨h.os, h.tape, h.output, h.size, fun j hj hn => h.block j hj (fun h2 => hn (hs j h2))⟩
theorem Fr.drewN {S : Nat → Prop} {w w1 : World} (h : Fr S w w1) (n : Nat) : Fr S w (w1.drewN n) := ⟨h.os, h.tape, h.output, h.size, h.block⟩
theorem Fr.alloc {S : Nat → Prop} {w w1 : World} (h : Fr S w w1) (o : Obj) : Fr S w (w1.alloc o) :=
  h.trans (S2 := fun _ => False) ⟨rfl, rfl, rfl, by simp, fun j hj _ => Below.heap_alloc w1 o j hj⟩ (fun _ h => h.elim)
theorem Fr.set {S : Nat → Prop} {w w1 : World} (h : Fr S w w1) {p : Addr} (hp : S p.block ∨ w.heap.size ≤ p.block) (u : Value) : Fr S w (w1.setCell p u) :=
  h.trans (S2 := fun j => j = p.block) ⟨rfl, rfl, rfl, by simp [World.setCell], fun j _ hn => Below.heap_setCell w1 p u j hn⟩ (fun j e => by rw [e]; exact hp)
theorem Fr.grown {S : Nat → Prop} {w w1 w2 : World} {row : Option Nat} (h : Fr S w w1) (hg : w1.grownBy w2 row) (hr : ∀ k, row = some k → S k ∨ w.heap.size ≤ k) : Fr S w w2 :=
  h.trans (S2 := fun j => row = some j) ⟨hg.os, hg.tape, hg.output, hg.size, fun j hj hn => hg.block j hj (fun e => hn e.symm)⟩ hr
theorem Fr.of_below {S : Nat → Prop} {w w1 : World} (h : Below w.heap.size w w1) : Fr S w w1 := ⟨h.os, h.tape, h.output, h.size, fun j hj _ => h.block j hj⟩
theorem m_push (a : Addr) (w : World) : (method 331 56 (.pointer (some a)) "Push").run Tryz.prog w = .ok (164, .pointer (some a)) w := by kernel_rfl
theorem m_pop (a : Addr) (w : World) : (method 331 56 (.pointer (some a)) "Pop").run Tryz.prog w = .ok (163, .pointer (some a)) w := by kernel_rfl
theorem m_len0 (a : Addr) (w : World) : (method 331 56 (.pointer (some a)) "Len").run Tryz.prog w = (Sem.load .plain a fun v => .pure (19, v)).run Tryz.prog w := by kernel_rfl
theorem m_less0 (a : Addr) (w : World) : (method 331 56 (.pointer (some a)) "Less").run Tryz.prog w = (Sem.load .plain a fun v => .pure (162, v)).run Tryz.prog w := by kernel_rfl
theorem m_swap0 (a : Addr) (w : World) : (method 331 56 (.pointer (some a)) "Swap").run Tryz.prog w = (Sem.load .plain a fun v => .pure (165, v)).run Tryz.prog w := by kernel_rfl
theorem m_len {a : Addr} {w : World} {v : Value} (h : w.cell? a = some v) : (method 331 56 (.pointer (some a)) "Len").run Tryz.prog w = .ok (19, v) w := by
  rw [m_len0]; simp [Sem.run, h]
theorem m_less {a : Addr} {w : World} {v : Value} (h : w.cell? a = some v) : (method 331 56 (.pointer (some a)) "Less").run Tryz.prog w = .ok (162, v) w := by
  rw [m_less0]; simp [Sem.run, h]
theorem m_swap {a : Addr} {w : World} {v : Value} (h : w.cell? a = some v) : (method 331 56 (.pointer (some a)) "Swap").run Tryz.prog w = .ok (165, v) w := by
  rw [m_swap0]; simp [Sem.run, h]
theorem len_any (A : Option Addr) (n c : Nat) (w : World) :
    Calls Tryz.prog 19 #[.slice A n c] w fun e w' => e = .returned (.int .i64 n) ∧ w = w' := by
  go_enter Tryz.func19, Tryz.ntmps19
  go_wp2
  go_ret
  exact ⟨rfl, rfl⟩

set_option maxHeartbeats 400000 in
theorem less_any (g n c : Nat) (x y : Int) (i j : Nat) (hi : i < n) (hj : j < n) (w : World) (h1 : w.cell? ⟨g, i, none⟩ = some (.int .i64 x)) (h2 : w.cell? ⟨g, j, none⟩ = some (.int .i64 y)) :
    Calls Tryz.prog 162 #[.slice (some ⟨g, 0, none⟩) n c, .int .i64 i, .int .i64 j] w fun e w' => e = .returned (.bool (decide (x < y))) ∧ Drawn0 w w' := by
  go_enter Tryz.func162, Tryz.ntmps162
  go_wp2
  go_quiet (fail)
  go_wp2
  go_ret
  exact ⟨rfl, ⟨_, rfl⟩⟩

set_option maxHeartbeats 400000 in
theorem swap_ne (g n c : Nat) (x y : Int) (i j : Nat) (hne : i ≠ j) (hi : i < n) (hj : j < n) (w : World) (h1 : w.cell? ⟨g, i, none⟩ = some (.int .i64 x)) (h2 : w.cell? ⟨g, j, none⟩ = some (.int .i64 y)) (f1 : w.frozen? ⟨g, i, none⟩ = false) (f2 : w.frozen? ⟨g, j, none⟩ = false) :
    Calls Tryz.prog 165 #[.slice (some ⟨g, 0, none⟩) n c, .int .i64 i, .int .i64 j] w fun e w' => e = .returned (.tuple #[]) ∧ w' = ((w.setCell ⟨g, i, none⟩ (.int .i64 y)).setCell ⟨g, j, none⟩ (.int .i64 x)).drew := by
  go_enter Tryz.func165, Tryz.ntmps165
  go_region
  go_end0
  exact ⟨rfl, rfl⟩

set_option maxHeartbeats 400000 in
theorem swap_eq (g n c : Nat) (x : Int) (i : Nat) (hi : i < n) (w : World) (h1 : w.cell? ⟨g, i, none⟩ = some (.int .i64 x)) (f1 : w.frozen? ⟨g, i, none⟩ = false) :
    Calls Tryz.prog 165 #[.slice (some ⟨g, 0, none⟩) n c, .int .i64 i, .int .i64 i] w fun e w' => e = .returned (.tuple #[]) ∧ w' = ((w.setCell ⟨g, i, none⟩ (.int .i64 x)).setCell ⟨g, i, none⟩ (.int .i64 x)).drew := by
  go_enter Tryz.func165, Tryz.ntmps165
  go_region
  go_end0
  exact ⟨rfl, rfl⟩

/-- the pointer's cell holds the slice v, whose numbers are xs. -/
structure HpAt (b0 : Nat) (w : World) (r : Nat) (v : Value) (xs : List Int) : Prop where
  hdr : w.heap[r]? = some (.cells #[v] 57 (0, 0))
  row : w.ownsRow b0 3 1 v xs.length (nums .i64 xs)
  ne : v.ownBlock ≠ some r

theorem HpAt.cell {b0 : Nat} {w : World} {r : Nat} {v : Value} {xs : List Int} (h : HpAt b0 w r v xs) : w.cell? ⟨r, 0, none⟩ = some v := (blk_cell h.hdr 0).trans rfl
theorem HpAt.open_ {b0 : Nat} {w : World} {r : Nat} {v : Value} {xs : List Int} (h : HpAt b0 w r v xs) (hp : 0 < xs.length) :
    ∃ g cap, v = .slice (some ⟨g, 0, none⟩) xs.length cap ∧ g ≠ r ∧ xs.length ≤ 9223372036854775807 ∧ ∀ k, k < xs.length → w.cell? ⟨g, k, none⟩ = some (.int .i64 (xs.getD k 0)) ∧ w.frozen? ⟨g, k, none⟩ = false := by
  rcases h.row.2 with ⟨_, h0⟩ | ⟨g, cap, cur, hv, hg, hh, hn, hcap, _⟩
  · omega
  · refine ⟨g, cap, hv, ?_, ?_, ?_⟩
    · intro e
      apply h.ne
      rw [hv, e]; rfl
    · unfold maxLen at hcap; omega
    · intro k hk
      have hr := h.row
      rw [hv] at hr
      have := own_at hr (k : Int) (by omega) (by omega)
      simpa [rd] using this
theorem HpAt.kept {b0 : Nat} {w w1 : World} {r : Nat} {v : Value} {xs : List Int} {S : Nat → Prop} (h : HpAt b0 w r v xs) (k : Fr S w w1) (h1 : ¬ S r) (h2 : ∀ g, v.ownBlock = some g → ¬ S g) : HpAt b0 w1 r v xs :=
  ⟨(k.block r (blk_lt h.hdr) h1).trans h.hdr, own_move h.row (fun g hg => k.block g (h.row.lt g hg).2 (h2 g hg)), h.ne⟩
theorem HpAt.drewN {b0 : Nat} {w : World} {r : Nat} {v : Value} {xs : List Int} (h : HpAt b0 w r v xs) (n : Nat) : HpAt b0 (w.drewN n) r v xs := ⟨h.hdr, h.row, h.ne⟩

theorem less_hp {b0 : Nat} {w : World} {r : Nat} {v : Value} {xs : List Int} (h : HpAt b0 w r v xs) (i j : Int) (h0 : 0 ≤ i) (hi : i < xs.length) (h1 : 0 ≤ j) (hj : j < xs.length) :
    Calls Tryz.prog 162 #[v, .int .i64 i, .int .i64 j] w fun e w' => e = .returned (.bool (decide (xs.getD i.toNat 0 < xs.getD j.toNat 0))) ∧ Drawn0 w w' := by
  obtain ⟨i, rfl⟩ := Int.eq_ofNat_of_zero_le h0
  obtain ⟨j, rfl⟩ := Int.eq_ofNat_of_zero_le h1
  obtain ⟨g, cap, rfl, _, _, hc⟩ := h.open_ (by omega)
  exact less_any g _ cap _ _ i j (by omega) (by omega) w (hc i (by omega)).1 (hc j (by omega)).1

theorem swap_hp {b0 : Nat} {w : World} {r : Nat} {v : Value} {xs : List Int} (h : HpAt b0 w r v xs) (i j : Int) (h0 : 0 ≤ i) (hi : i < xs.length) (h1 : 0 ≤ j) (hj : j < xs.length) :
    Calls Tryz.prog 165 #[v, .int .i64 i, .int .i64 j] w fun e w' => e = .returned (.tuple #[]) ∧ HpAt b0 w' r v (swp xs i.toNat j.toNat) ∧ Fr (fun k => v.ownBlock = some k) w w' := by
  obtain ⟨i, rfl⟩ := Int.eq_ofNat_of_zero_le h0
  obtain ⟨j, rfl⟩ := Int.eq_ofNat_of_zero_le h1
  replace hi : i < xs.length := by omega
  replace hj : j < xs.length := by omega
  simp only [Int.toNat_natCast]
  obtain ⟨g, cap, hv, hg, hm, hc⟩ := h.open_ (by omega)
  have hrow := h.row
  rw [hv] at hrow
  have key : ∀ x y, HpAt b0 ((w.setCell ⟨g, i, none⟩ (.int .i64 x)).setCell ⟨g, j, none⟩ (.int .i64 y)).drew r v ((xs.set i x).set j y) ∧ Fr (fun k => v.ownBlock = some k) w ((w.setCell ⟨g, i, none⟩ (.int .i64 x)).setCell ⟨g, j, none⟩ (.int .i64 y)).drew := by
    intro x y
    have o1 := own_store hrow (i : Int) x
    have o2 := own_store (by simpa using o1.1) (j : Int) y
    have hF : Fr (fun k => v.ownBlock = some k) w ((w.setCell ⟨g, i, none⟩ (.int .i64 x)).setCell ⟨g, j, none⟩ (.int .i64 y)).drew :=
      (((Fr.refl _ w).set (p := ⟨g, i, none⟩) (.inl (by rw [hv]; rfl)) _).set (p := ⟨g, j, none⟩) (.inl (by rw [hv]; rfl)) _).drewN 1
    refine ⟨⟨?_, ?_, h.ne⟩, hF⟩
    · exact (hF.block r (blk_lt h.hdr) (fun e => h.ne e)).trans h.hdr
    · have := o2.1.drew
      rw [hv]
      simpa using this
  rw [hv]
  by_cases e : i = j
  · subst e
    refine (swap_eq g _ cap _ i hi w (hc i hi).1 (hc i hi).2).mono ?_
    rintro e w' ⟨rfl, rfl⟩
    have := key (xs.getD i 0) (xs.getD i 0)
    rw [hv] at this
    exact ⟨rfl, this⟩
  · refine (swap_ne g _ cap _ _ i j e hi hj w (hc i hi).1 (hc j hj).1 (hc i hi).2 (hc j hj).2).mono ?_
    rintro e w' ⟨rfl, rfl⟩
    have := key (xs.getD j 0) (xs.getD i 0)
    rw [hv] at this
    exact ⟨rfl, this⟩

def HpPost (b0 r n m : Nat) (v : Value) (xs : List Int) (w w' : World) : Prop :=
  ∃ ys, ys.Perm xs ∧ (∀ k, m ≤ k → ys.getD k 0 = xs.getD k 0) ∧ IsHeap n ys ∧ HpAt b0 w' r v ys ∧ Fr (fun k => v.ownBlock = some k) w w'

set_option maxHeartbeats 400000 in
theorem up_any (b0 r : Nat) (v : Value) (xs : List Int) (j : Nat) (w : World) (h : HpAt b0 w r v xs) (hj : j < xs.length) (hh : HeapUp xs.length j xs) :
    Calls Tryz.prog 77 #[.iface 56 (.pointer (some ⟨r, 0, none⟩)), .int .i64 j] w fun e w' => e = .returned (.tuple #[]) ∧ HpPost b0 r xs.length xs.length v xs w w' := by
  obtain ⟨L, hL⟩ : ∃ L, L = xs.length := ⟨_, rfl⟩
  have hm : L ≤ 9223372036854775807 := by rw [hL]; obtain ⟨_, _, _, _, hm, _⟩ := h.open_ (by omega); exact hm
  have HL := Lib.hid hL
  rw [← hL] at hj hh
  clear hL
  go_enter Tryz.func77, Tryz.ntmps77
  go_wp2_with fail
  go_loopw [1, 4] (fun jv iv wr => ∃ (j : Nat) (ys : List Int), jv = .int .i64 j ∧ j < L ∧ Hid (ys.length = L) ∧ Hid (ys.Perm xs) ∧ HeapUp L j ys ∧ HpAt b0 wr r v ys ∧ Fr (fun k => v.ownBlock = some k) w wr) (fun jv _ _ => (intOf jv).toNat)
  case atStart => exact ⟨j, xs, rfl, hj, HL.out.symm, List.Perm.refl _, hh, h, Fr.refl _ _⟩
  case round =>
    clear h hj hh j
    obtain ⟨j, ys, rfl, hj, hl, hp, hh, h, hF⟩ := hrel
    have hcell := h.cell
    have hlen : ∀ k, xs.length ≤ k → ys.getD k 0 = xs.getD k 0 := by
      intro k hk
      have := hl.out; have := HL.out
      rw [List.getD_eq_getElem?_getD, List.getD_eq_getElem?_getD, List.getElem?_eq_none (by omega), List.getElem?_eq_none (by omega)]
    have hfin : ∀ n, (j = 0 ∨ ys.getD (par j) 0 ≤ ys.getD j 0) → HpPost b0 r xs.length xs.length v xs w (wr.drewN n) := fun n hc =>
      ⟨ys, hp.out, hlen, by rw [← HL.out]; exact hh.done hc, h.drewN n, hF.drewN n⟩
    clear hlen
    by_cases j0 : j = 0
    · subst j0
      have HF := hfin 0 (.inl rfl)
      clear hfin
      have hml := m_less hcell
      go_wp2_with fail
      go_end0
      exact ⟨rfl, HF⟩
    · obtain ⟨p, rfl⟩ : ∃ p, j = p + 1 := ⟨j - 1, by omega⟩
      have hml := m_less hcell
      have HF := Lib.hid hfin
      clear hfin
      have hms : ∀ (W : World), W.cell? ⟨r, 0, none⟩ = some v → (method 331 56 (.pointer (some ⟨r, 0, none⟩)) "Swap").run Tryz.prog W = .ok (165, v) W := fun W hW => m_swap hW
      go_wp2_with fail
      refine (less_hp h _ _ (by omega) (by rw [hl.out]; omega) (by omega) (by rw [hl.out]; omega)).mono ?_
      rintro e w1 ⟨rfl, ⟨n1, rfl⟩⟩
      have e1 : ((p : Int) + 1).toNat = p + 1 := by omega
      have e2 : ((p : Int) / 2).toNat = par (p + 1) := by unfold par; omega
      simp only [e1, e2]
      clear e1 e2
      by_cases hlt : ys.getD (p + 1) 0 < ys.getD (par (p + 1)) 0
      · have hb : decide (ys.getD (p + 1) 0 < ys.getD (par (p + 1)) 0) = true := decide_eq_true hlt
        simp only [hb]
        have h' := h.drewN n1
        have hsw := hms (wr.drewN n1) h'.cell
        have HL2 := Lib.hid hlt
        clear hlt hb hml hms
        go_wp2_with fail
        refine (swap_hp h' _ _ (by omega) (by rw [hl.out]; omega) (by omega) (by rw [hl.out]; omega)).mono ?_
        rintro e w2 ⟨rfl, h2, hF2⟩
        have e1 : ((p : Int) + 1).toNat = p + 1 := by omega
        have e2 : ((p : Int) / 2).toNat = par (p + 1) := by unfold par; omega
        simp only [e1, e2] at h2
        clear e1 e2 h h' hsw hcell
        go_wp2_with fail
        go_roundw
        case rel => exact ⟨par (p + 1), swp ys (par (p + 1)) (p + 1), by rw [show ((par (p + 1) : Nat) : Int) = (p : Int) / 2 from by unfold par; omega], by unfold par; omega, by show _ = _; rw [swp_length]; exact hl.out, (perm_swp _ _ _ (by rw [hl.out]; unfold par; omega) (by rw [hl.out]; omega)).trans hp.out, hh.step (by rw [hl.out]; exact Nat.le_refl _) (by omega) hj HL2.out, h2, (hF.drewN n1).trans hF2 (fun _ => .inl)⟩
        case measure => simp [intOf]; omega
      · have hb : decide (ys.getD (p + 1) 0 < ys.getD (par (p + 1)) 0) = false := decide_eq_false hlt
        simp only [hb]
        have HF2 := HF.out n1 (.inr (by omega))
        clear hlt hb hml hms
        go_wp2_with fail
        go_end0
        exact ⟨rfl, HF2⟩


def IsB (e : Ending) : Prop := ∃ b, e = .returned (.bool b)

set_option maxHeartbeats 1000000 in
theorem down_any (b0 r n : Nat) (v : Value) (xs : List Int) (w : World) (h : HpAt b0 w r v xs) (hn : n ≤ xs.length) (hp : 0 < xs.length) (hm0 : xs.length ≤ 140737488355328) (hh : HeapDown n 0 xs) :
    Calls Tryz.prog 78 #[.iface 56 (.pointer (some ⟨r, 0, none⟩)), .int .i64 0, .int .i64 n] w fun e w' => IsB e ∧ HpPost b0 r n n v xs w w' := by
  obtain ⟨L, hL⟩ : ∃ L, L = xs.length := ⟨_, rfl⟩
  have hm : L ≤ 140737488355328 := by omega
  have HL := Lib.hid hL
  rw [← hL] at hn hp
  clear hL hm0
  go_enter Tryz.func78, Tryz.ntmps78
  go_wp2_with fail
  go_loopw [7, 8, 9, 10] (fun iv _ _ _ wr => ∃ (i : Nat) (ys : List Int), iv = .int .i64 i ∧ i < L ∧ i ≤ n ∧ Hid (ys.length = L) ∧ Hid (ys.Perm xs) ∧ Hid (∀ k, n ≤ k → ys.getD k 0 = xs.getD k 0) ∧ HeapDown n i ys ∧ HpAt b0 wr r v ys ∧ Fr (fun k => v.ownBlock = some k) w wr) (fun iv _ _ _ _ => n - (intOf iv).toNat)
  case atStart => exact ⟨0, xs, rfl, hp, Nat.zero_le _, HL.out.symm, List.Perm.refl _, fun _ _ => rfl, hh, h, Fr.refl _ _⟩
  case round =>
    clear h hh
    obtain ⟨i, ys, rfl, hi, hin, hl, hp, hk, hh, h, hF⟩ := hrel
    have hcell := h.cell
    have hml : ∀ (W : World), W.cell? ⟨r, 0, none⟩ = some v → (method 331 56 (.pointer (some ⟨r, 0, none⟩)) "Less").run Tryz.prog W = .ok (162, v) W := fun W hW => m_less hW
    have hms : ∀ (W : World), W.cell? ⟨r, 0, none⟩ = some v → (method 331 56 (.pointer (some ⟨r, 0, none⟩)) "Swap").run Tryz.prog W = .ok (165, v) W := fun W hW => m_swap hW
    have hfin : ∀ m, (∀ k, 0 < k → k < n → par k = i → ys.getD i 0 ≤ ys.getD k 0) → HpPost b0 r n n v xs w (wr.drewN m) := fun m hc =>
      ⟨ys, hp.out, hk.out, hh.done hc, h.drewN m, hF.drewN m⟩
    have hnext : ∀ c m w2, 0 < c → c < n → par c = i → ys.getD c 0 < ys.getD i 0 → (∀ k, 0 < k → k < n → par k = i → ys.getD c 0 ≤ ys.getD k 0) → HpAt b0 w2 r v (swp ys i c) → Fr (fun k => v.ownBlock = some k) (wr.drewN m) w2 →
        c < L ∧ c ≤ n ∧ Hid ((swp ys i c).length = L) ∧ Hid ((swp ys i c).Perm xs) ∧ Hid (∀ k, n ≤ k → (swp ys i c).getD k 0 = xs.getD k 0) ∧ HeapDown n c (swp ys i c) ∧ HpAt b0 w2 r v (swp ys i c) ∧ Fr (fun k => v.ownBlock = some k) w w2 := by
      intro c m w2 c0 cn cp hlt hmin h2 hF2
      have hl' := hl.out
      refine ⟨by omega, by omega, ?_, ?_, ?_, hh.step (by omega) c0 cn cp hlt hmin, h2, (hF.drewN m).trans hF2 (fun _ => .inl)⟩
      · show _ = _; rw [swp_length]; exact hl'
      · exact (perm_swp _ _ _ (by omega) (by omega)).trans hp.out
      · intro k hnk
        rw [getD_swp _ _ _ _ (by omega) (by omega), if_neg (by omega), if_neg (by unfold par at cp; omega)]
        exact hk.out k hnk
    have HF := Lib.hid hfin
    have HN := Lib.hid hnext
    clear hfin hnext
    have hle1 : ∀ c : Nat, c < n → 0 ≤ (c : Int) ∧ (c : Int) < ys.length := fun c hc => by have := hl.out; omega
    have HLE := Lib.hid hle1
    clear hle1
    by_cases h1 : 2 * i + 1 < n
    · by_cases h2 : 2 * i + 2 < n
      · go_wp2_with fail
        refine (less_hp h _ _ (by omega) (by rw [hl.out]; omega) (by omega) (by rw [hl.out]; omega)).mono ?_
        rintro e w1 ⟨rfl, ⟨n1, rfl⟩⟩
        have e1 : ((2 : Int) * i + 1 + 1).toNat = 2 * i + 2 := by omega
        have e2 : ((2 : Int) * i + 1).toNat = 2 * i + 1 := by omega
        simp only [e1, e2]
        clear e1 e2
        have h' := h.drewN n1
        by_cases hlt : ys.getD (2 * i + 2) 0 < ys.getD (2 * i + 1) 0
        · have hb : decide (ys.getD (2 * i + 2) 0 < ys.getD (2 * i + 1) 0) = true := decide_eq_true hlt
          have hmin : ∀ k, 0 < k → k < n → par k = i → ys.getD (2 * i + 2) 0 ≤ ys.getD k 0 := by
            intro k k0 kn kp
            have : k = 2 * i + 1 ∨ k = 2 * i + 2 := by unfold par at kp; omega
            rcases this with rfl | rfl <;> omega
          have HM := Lib.hid hmin
          simp only [hb]
          clear hlt hb hmin
          have hc' := h'.cell
          go_wp2_with fail
          refine (less_hp h' _ _ (by omega) (by rw [hl.out]; omega) (by omega) (by rw [hl.out]; omega)).mono ?_
          rintro e w1 ⟨rfl, ⟨n2, rfl⟩⟩
          have e1 : ((2 : Int) * i + 1 + 1).toNat = 2 * i + 2 := by omega
          have e2 : (i : Int).toNat = i := by omega
          simp only [e1, e2]
          clear e1 e2
          simp only [World.drewN_drewN]
          have h3 := h.drewN (n1 + n2)
          by_cases hlt2 : ys.getD (2 * i + 2) 0 < ys.getD i 0
          · have hb : decide (ys.getD (2 * i + 2) 0 < ys.getD i 0) = true := decide_eq_true hlt2
            simp only [hb]
            have HL2 := Lib.hid hlt2
            have hsw := hms (wr.drewN (n1 + n2)) h3.cell
            clear hlt2 hb hml hms HF
            go_wp2_with fail
            refine (swap_hp h3 _ _ (by omega) (by rw [hl.out]; omega) (by omega) (by rw [hl.out]; omega)).mono ?_
            rintro e w2 ⟨rfl, h4, hF4⟩
            have e1 : ((2 : Int) * i + 1 + 1).toNat = 2 * i + 2 := by omega
            have e2 : (i : Int).toNat = i := by omega
            simp only [e1, e2] at h4
            have HN2 := Lib.hid (HN.out (2 * i + 2) _ w2 (by omega) (by omega) (by unfold par; omega) HL2.out HM.out h4 hF4)
            clear e1 e2 h h3 hsw hcell h4 hF4 HN
            go_wp2_with fail
            go_roundw
            case rel => exact ⟨2 * i + 2, swp ys i (2 * i + 2), by go_num, HN2.out⟩
            case measure => simp [intOf]; omega
          · have hb : decide (ys.getD (2 * i + 2) 0 < ys.getD i 0) = false := decide_eq_false hlt2
            simp only [hb]
            have HF2 := HF.out (n1 + n2) (fun k k0 kn kp => by have := HM.out k k0 kn kp; omega)
            clear hlt2 hb hml hms HF HN
            go_wp2_with fail
            go_ret
            exact ⟨⟨_, rfl⟩, HF2⟩
        · have hb : decide (ys.getD (2 * i + 2) 0 < ys.getD (2 * i + 1) 0) = false := decide_eq_false hlt
          have hmin : ∀ k, 0 < k → k < n → par k = i → ys.getD (2 * i + 1) 0 ≤ ys.getD k 0 := by
            intro k k0 kn kp
            have : k = 2 * i + 1 ∨ k = 2 * i + 2 := by unfold par at kp; omega
            rcases this with rfl | rfl <;> omega
          have HM := Lib.hid hmin
          simp only [hb]
          clear hlt hb hmin
          have hc' := h'.cell
          go_wp2_with fail
          refine (less_hp h' _ _ (by omega) (by rw [hl.out]; omega) (by omega) (by rw [hl.out]; omega)).mono ?_
          rintro e w1 ⟨rfl, ⟨n2, rfl⟩⟩
          have e1 : ((2 : Int) * i + 1).toNat = 2 * i + 1 := by omega
          have e2 : (i : Int).toNat = i := by omega
          simp only [e1, e2]
          clear e1 e2
          simp only [World.drewN_drewN]
          have h3 := h.drewN (n1 + n2)
          by_cases hlt2 : ys.getD (2 * i + 1) 0 < ys.getD i 0
          · have hb : decide (ys.getD (2 * i + 1) 0 < ys.getD i 0) = true := decide_eq_true hlt2
            simp only [hb]
            have HL2 := Lib.hid hlt2
            have hsw := hms (wr.drewN (n1 + n2)) h3.cell
            clear hlt2 hb hml hms HF
            go_wp2_with fail
            refine (swap_hp h3 _ _ (by omega) (by rw [hl.out]; omega) (by omega) (by rw [hl.out]; omega)).mono ?_
            rintro e w2 ⟨rfl, h4, hF4⟩
            have e1 : ((2 : Int) * i + 1).toNat = 2 * i + 1 := by omega
            have e2 : (i : Int).toNat = i := by omega
            simp only [e1, e2] at h4
            have HN2 := Lib.hid (HN.out (2 * i + 1) _ w2 (by omega) (by omega) (by unfold par; omega) HL2.out HM.out h4 hF4)
            clear e1 e2 h h3 hsw hcell h4 hF4 HN
            go_wp2_with fail
            go_roundw
            case rel => exact ⟨2 * i + 1, swp ys i (2 * i + 1), by go_num, HN2.out⟩
            case measure => simp [intOf]; omega
          · have hb : decide (ys.getD (2 * i + 1) 0 < ys.getD i 0) = false := decide_eq_false hlt2
            simp only [hb]
            have HF2 := HF.out (n1 + n2) (fun k k0 kn kp => by have := HM.out k k0 kn kp; omega)
            clear hlt2 hb hml hms HF HN
            go_wp2_with fail
            go_ret
            exact ⟨⟨_, rfl⟩, HF2⟩
      · have hmin : ∀ k, 0 < k → k < n → par k = i → ys.getD (2 * i + 1) 0 ≤ ys.getD k 0 := by
          intro k k0 kn kp
          obtain rfl : k = 2 * i + 1 := by unfold par at kp; omega
          exact Int.le_refl _
        have HM := Lib.hid hmin
        clear hmin
        go_wp2_with fail
        refine (less_hp h _ _ (by omega) (by rw [hl.out]; omega) (by omega) (by rw [hl.out]; omega)).mono ?_
        rintro e w1 ⟨rfl, ⟨n2, rfl⟩⟩
        have e1 : ((2 : Int) * i + 1).toNat = 2 * i + 1 := by omega
        have e2 : (i : Int).toNat = i := by omega
        simp only [e1, e2]
        clear e1 e2
        skip
        have h3 := h.drewN (n2)
        by_cases hlt2 : ys.getD (2 * i + 1) 0 < ys.getD i 0
        · have hb : decide (ys.getD (2 * i + 1) 0 < ys.getD i 0) = true := decide_eq_true hlt2
          simp only [hb]
          have HL2 := Lib.hid hlt2
          have hsw := hms (wr.drewN (n2)) h3.cell
          clear hlt2 hb hml hms HF
          go_wp2_with fail
          refine (swap_hp h3 _ _ (by omega) (by rw [hl.out]; omega) (by omega) (by rw [hl.out]; omega)).mono ?_
          rintro e w2 ⟨rfl, h4, hF4⟩
          have e1 : ((2 : Int) * i + 1).toNat = 2 * i + 1 := by omega
          have e2 : (i : Int).toNat = i := by omega
          simp only [e1, e2] at h4
          have HN2 := Lib.hid (HN.out (2 * i + 1) _ w2 (by omega) (by omega) (by unfold par; omega) HL2.out HM.out h4 hF4)
          clear e1 e2 h h3 hsw hcell h4 hF4 HN
          go_wp2_with fail
          go_roundw
          case rel => exact ⟨2 * i + 1, swp ys i (2 * i + 1), by go_num, HN2.out⟩
          case measure => simp [intOf]; omega
        · have hb : decide (ys.getD (2 * i + 1) 0 < ys.getD i 0) = false := decide_eq_false hlt2
          simp only [hb]
          have HF2 := HF.out (n2) (fun k k0 kn kp => by have := HM.out k k0 kn kp; omega)
          clear hlt2 hb hml hms HF HN
          go_wp2_with fail
          go_ret
          exact ⟨⟨_, rfl⟩, HF2⟩
    · have HF2 := HF.out 0 (fun k k0 kn kp => by unfold par at kp; omega)
      clear HF HN
      go_wp2_with fail
      go_ret
      exact ⟨⟨_, rfl⟩, HF2⟩
end Go.Proofs.YtodgeciggbeolaaGreatDoor
