/- Walks of heap.Push and heap.Pop over order.least. -/
import Derived.Test.YtodgeciggbeolaaGreatDoorHeapW
namespace Go.Proofs.YtodgeciggbeolaaGreatDoor
set_option maxRecDepth 100000
set_option linter.unusedVariables false
set_option linter.unusedSimpArgs false
set_option linter.unusedSectionVars false
open Go.RowKit Go.Proofs.YtodgeciggbeolaaGreatDoorW.PrintWords Go.Proofs.YtodgeciggbeolaaGreatDoorW.PrintLast Go.Proofs.YtodgeciggbeolaaGreatDoorW.PrintMore
open Go.Proofs.BinHeap

theorem info3 : (Tryz.prog.info? 3).map (fun i => (i.zero, i.size, i.bytes)) = some (some (.int .i64 0), 1, 8) := by kernel_rfl

/-- behind a push: the numbers are ys; the slice lies where it lay, or in a new row. -/
def PushPost (b0 r : Nat) (v : Value) (ys : List Int) (w w' : World) : Prop :=
  ∃ v', HpAt b0 w' r v' ys ∧ (v'.ownBlock = v.ownBlock ∨ ∃ k, v'.ownBlock = some k ∧ w.heap.size ≤ k) ∧ Fr (fun k => k = r ∨ v.ownBlock = some k) w w'

theorem oassert (v : Value) (W : World) : (Instr.typeAssert (.iface 3 v) 20 3 false).run Tryz.prog W = .ok v W := by rfl

theorem ones_cell {x : Int} : ∀ u ∈ [Value.int .i64 x], u.oneCell' = true := by simp [Value.oneCell']

set_option maxHeartbeats 1000000 in
theorem mpush_any (b0 r : Nat) (v : Value) (xs : List Int) (x : Int) (w : World) (h : HpAt b0 w r v xs) (hb : b0 ≤ w.heap.size) (hm : (xs.length + 1) * 8 ≤ 140737488355328) :
    Calls Tryz.prog 164 #[.pointer (some ⟨r, 0, none⟩), .iface 3 (.int .i64 x)] w fun e w' => e = .returned (.tuple #[]) ∧ PushPost b0 r v (xs ++ [x]) w w' := by
  have hcell := h.cell
  have hfz := blk_frozen h.hdr 0
  have hta := oassert
  have hcell2 : (w.alloc (.cells #[.int .i64 x] 3)).cell? ⟨r, 0, none⟩ = some v := (World.cell?_of_block (Below.heap_alloc w _ r (blk_lt h.hdr))).trans hcell
  go_enter Tryz.func164, Tryz.ntmps164
  have hrb : some r ≠ v.ownBlock := fun e => h.ne e.symm
  have hrow := h.row.drew
  have hdr := h.hdr
  go_region_law (refine step_append_cells (w0 := w) (W := w.drew) b0 rfl (.tmp 7) (.tmp 10) 57 3 (.int .i64 0) 1 8 rfl Tryz.underlying57 info3 rfl (by decide) (by decide) v xs.length (nums .i64 xs) [.int .i64 x] rfl rfl rfl ones_cell hrow (Below.refl _ _).drew hb hm ?_; intro v1 w1 hown hB hg hat; obtain ⟨A1, c1, hv1⟩ := own_slice hown; subst hv1; have hc1 : w1.heap[r]? = some (.cells #[v] 57 (0, 0)) := (hg.block r (blk_lt hdr) hrb).trans hdr; have hcc1 := (blk_cell hc1 0).trans rfl; have hfz1 := blk_frozen hc1 0)
  all_goals
    go_end0
    have hne : (Value.slice A1 (xs.length + 1) c1).ownBlock ≠ some r := by
      rcases hat with e | ⟨k, e, hk⟩
      · rw [e]; exact h.ne
      · rw [e]; intro e2; injection e2 with e2; have := blk_lt hdr; simp at hk; omega
    have hF : Fr (fun k => k = r ∨ v.ownBlock = some k) w (w1.setCell ⟨r, 0, none⟩ (.slice A1 (xs.length + 1) c1)) :=
      (((Fr.refl _ w).drewN 1).grown hg (fun k e => .inl (.inr e))).set (p := ⟨r, 0, none⟩) (.inl (.inl rfl)) _
    refine ⟨rfl, .slice A1 (xs.length + 1) c1, ⟨?_, ?_, hne⟩, ?_, hF⟩
    · simpa using blk_set hc1 0 (.slice A1 (xs.length + 1) c1)
    · have := own_setCell hown (p := ⟨r, 0, none⟩) hne.symm (.slice A1 (xs.length + 1) c1)
      simpa [nums] using this
    · simpa using hat

theorem len_hp {b0 : Nat} {w : World} {r : Nat} {v : Value} {xs : List Int} (h : HpAt b0 w r v xs) :
    Calls Tryz.prog 19 #[v] w fun e w' => e = .returned (.int .i64 xs.length) ∧ w = w' := by
  obtain ⟨A, c, rfl⟩ := own_slice h.row
  exact len_any _ _ _ _

def PushedPost (b0 r : Nat) (v : Value) (xs : List Int) (x : Int) (w w' : World) : Prop := ∃ ys, ys.Perm (xs ++ [x]) ∧ IsHeap ys.length ys ∧ PushPost b0 r v ys w w'

set_option maxHeartbeats 1000000 in
theorem push_any (b0 r : Nat) (v : Value) (xs : List Int) (x : Int) (w : World) (h : HpAt b0 w r v xs) (hb : b0 ≤ w.heap.size) (hm : (xs.length + 1) * 8 ≤ 140737488355328) (hh : IsHeap xs.length xs) :
    Calls Tryz.prog 18 #[.iface 56 (.pointer (some ⟨r, 0, none⟩)), .iface 3 (.int .i64 x)] w fun e w' => e = .returned (.tuple #[]) ∧ PushedPost b0 r v xs x w w' := by
  have hmp := m_push ⟨r, 0, none⟩ w
  have hm2 : xs.length ≤ 140737488355328 := by omega
  go_enter Tryz.func18, Tryz.ntmps18
  go_wp2_with fail
  refine (mpush_any b0 r v xs x w h hb hm).mono ?_
  rintro e w1 ⟨rfl, v1, h1, hat1, hF1⟩
  clear hmp
  have hml := m_len h1.cell
  go_wp2_with fail
  refine (len_hp h1).mono ?_
  rintro e w2 ⟨rfl, rfl⟩
  have el : (((xs ++ [x]).length : Nat) : Int) = ((xs.length : Nat) : Int) + 1 := by simp
  rw [el]
  clear el
  go_wp2_with fail
  refine (up_any b0 r v1 (xs ++ [x]) xs.length w1 h1 (by simp) (by simpa using hh.push x)).mono ?_
  rintro e w3 ⟨rfl, ys, hp, _, hH, h3, hF3⟩
  go_wp2_with fail
  go_end0
  refine ⟨rfl, ys, hp, by rw [hp.length_eq]; exact hH, v1, h3, hat1, hF1.trans hF3 ?_⟩
  intro j hj
  rcases hat1 with e | ⟨k, e, hk⟩
  · exact .inl (.inr (e ▸ hj))
  · rw [e] at hj; injection hj with hj; exact .inr (by omega)

theorem own_shorter {w : World} {base g n m cap : Nat} {xs : List Int} (h : w.ownsRow base 3 1 (.slice (some ⟨g, 0, none⟩) n cap) n (nums .i64 xs)) (hm : m ≤ n) :
    w.ownsRow base 3 1 (.slice (some ⟨g, 0, none⟩) m cap) m (nums .i64 (xs.take m)) := by
  have hl : xs.length = n := by have := h.1; simp [nums] at this; exact this
  rcases h.2 with ⟨h', _⟩ | ⟨g', cap', cur, h', hb, hh, hn, hc, hs, ht⟩
  · cases h'
  · injection h' with h1 h2 h3
    injection h1 with h1
    injection h1 with h1
    subst h1; subst h3
    refine ⟨by simp [nums]; omega, .inr ⟨g, cap, cur, rfl, hb, hh, by omega, hc, hs, ?_⟩⟩
    have : nums .i64 (xs.take m) = (nums .i64 xs).take m := by simp [nums, List.map_take]
    rw [this, ← ht, List.take_take]
    congr 1
    omega

set_option maxHeartbeats 1000000 in
theorem mpop_any (b0 r : Nat) (v : Value) (xs : List Int) (n : Nat) (w : World) (h : HpAt b0 w r v xs) (hn : xs.length = n + 1) :
    Calls Tryz.prog 163 #[.pointer (some ⟨r, 0, none⟩)] w fun e w' => e = .returned (.iface 3 (.int .i64 (xs.getD n 0))) ∧ PushPost b0 r v (xs.take n) w w' := by
  obtain ⟨g, cap, hv, hg, hm, hc⟩ := h.open_ (by omega)
  have hc1 := (hc n (by omega)).1
  rw [hn] at hv hm
  have hcap : n + 1 ≤ cap := by
    have hr := h.row
    rw [hv] at hr
    exact own_le hr
  clear hc
  have hcell := h.cell
  have hfz := blk_frozen h.hdr 0
  have HV := Lib.hid hv
  rw [hv] at hcell
  have HN := Lib.hid hn
  clear hv hn
  go_enter Tryz.func163, Tryz.ntmps163
  go_wp2
  go_ret
  have hrow := h.row
  rw [HV.out, HN.out] at hrow
  have hv2 := HV.out
  have hne : (Value.slice (some ⟨g, 0, none⟩) n cap).ownBlock ≠ some r := by intro e; apply hg; simpa [Value.ownBlock] using e
  refine ⟨by rw [List.getD_eq_getElem?_getD]; rfl, .slice (some ⟨g, 0, none⟩) n cap, ⟨?_, ?_, hne⟩, .inl (by rw [hv2]; rfl), (Fr.refl _ w).set (p := ⟨r, 0, none⟩) (.inl (.inl rfl)) _⟩
  · simpa using blk_set h.hdr 0 (.slice (some ⟨g, 0, none⟩) n cap)
  · have hs := own_shorter hrow (m := n) (by omega)
    have := own_setCell hs (p := ⟨r, 0, none⟩) hne.symm (.slice (some ⟨g, 0, none⟩) n cap)
    have hl : (xs.take n).length = n := by simp; have := HN.out; omega
    rw [hl]
    exact this

def PopPost (b0 r : Nat) (v : Value) (xs : List Int) (e : Ending) (w w' : World) : Prop :=
  ∃ m ys, e = .returned (.iface 3 (.int .i64 m)) ∧ (m :: ys).Perm xs ∧ (∀ y ∈ xs, m ≤ y) ∧ IsHeap ys.length ys ∧ PushPost b0 r v ys w w'

set_option maxHeartbeats 1000000 in
theorem pop_any (b0 r : Nat) (v : Value) (xs : List Int) (w : World) (h : HpAt b0 w r v xs) (hp : 0 < xs.length) (hm : xs.length ≤ 140737488355328) (hh : IsHeap xs.length xs) :
    Calls Tryz.prog 20 #[.iface 56 (.pointer (some ⟨r, 0, none⟩))] w fun e w' => PopPost b0 r v xs e w w' := by
  obtain ⟨n, hn⟩ : ∃ n, xs.length = n + 1 := ⟨xs.length - 1, by omega⟩
  have hml := m_len h.cell
  have hmp := m_pop ⟨r, 0, none⟩
  have hms := m_swap h.cell
  have hm' : n + 1 ≤ 140737488355328 := by omega
  have HN := Lib.hid hn
  clear hn
  go_enter Tryz.func20, Tryz.ntmps20
  go_wp2_with fail
  refine (len_hp h).mono ?_
  rintro e w2 ⟨rfl, rfl⟩
  rw [HN.out]
  go_wp2_with fail
  refine (swap_hp h _ _ (by omega) (by omega) (by omega) (by rw [HN.out]; omega)).mono ?_
  rintro e w2 ⟨rfl, h2, hF2⟩
  have e1 : (n : Int).toNat = n := by omega
  have e0 : (0 : Int).toNat = 0 := rfl
  simp only [e0, e1] at h2
  clear e0 e1 hml hms
  go_wp2_with fail
  have hd := hh
  rw [HN.out] at hd
  have hsl : (swp xs 0 n).length = n + 1 := by rw [swp_length]; exact HN.out
  refine (down_any b0 r n v (swp xs 0 n) w2 h2 (by omega) (by omega) (by omega) (hd.down (by rw [HN.out]; exact Nat.le_refl _))).mono ?_
  rintro e w3 ⟨⟨b, rfl⟩, ys, hpy, hky, hHy, h3, hF3⟩
  have hly : ys.length = n + 1 := by rw [hpy.length_eq]; exact hsl
  have hyn : ys.getD n 0 = xs.getD 0 0 := by
    rw [hky n (Nat.le_refl _), getD_swp _ _ _ _ (by rw [HN.out]; omega) (by rw [HN.out]; omega), if_pos rfl]
  have HS := Lib.hid hsl
  have HY := Lib.hid hly
  have HYN := Lib.hid hyn
  clear hsl hly hyn hd hky
  have hmp2 := hmp w3
  clear hmp
  go_wp2_with fail
  refine (mpop_any b0 r v ys n w3 h3 HY.out).mono ?_
  rintro e w4 ⟨rfl, v4, h4, hat4, hF4⟩
  go_wp2_with fail
  go_ret
  have hpx : (ys.getD n 0 :: ys.take n).Perm xs := by
    have h1 : ys = ys.take n ++ [ys.getD n 0] := by
      have := List.take_succ_eq_append_getElem (l := ys) (i := n) (by rw [HY.out]; omega)
      rw [List.take_of_length_le (by rw [HY.out]; exact Nat.le_refl _)] at this
      rw [List.getD_eq_getElem?_getD, List.getElem?_eq_getElem (by rw [HY.out]; omega)]
      exact this
    have h2 : ys.Perm xs := hpy.trans (perm_swp _ _ _ (by rw [HN.out]; omega) (by rw [HN.out]; omega))
    refine List.Perm.trans ?_ h2
    conv => rhs; rw [h1]
    exact (List.perm_append_comm (l₁ := [ys.getD n 0]) (l₂ := ys.take n))
  refine ⟨ys.getD n 0, ys.take n, rfl, hpx, ?_, hHy.take (by rw [HY.out]; omega), v4, h4, ?_, ?_⟩
  · intro y hy
    rw [HYN.out]
    obtain ⟨k, hk, rfl⟩ := List.getElem_of_mem hy
    have := hh.least k hk
    simpa [List.getD_eq_getElem?_getD, List.getElem?_eq_getElem hk] using this
  · rcases hat4 with e | ⟨k, e, hk⟩
    · exact .inl e
    · exact .inr ⟨k, e, Nat.le_trans (Nat.le_trans hF2.size hF3.size) hk⟩
  · exact ((hF2.mono (fun _ e => .inr e)).trans (hF3.mono (fun _ e => .inr e)) (fun _ => .inl)).trans hF4 (fun _ => .inl)
end Go.Proofs.YtodgeciggbeolaaGreatDoor
