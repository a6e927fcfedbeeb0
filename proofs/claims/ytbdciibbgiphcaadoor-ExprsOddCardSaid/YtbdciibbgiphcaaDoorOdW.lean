/- odd: walk. -/
import Derived.Test.YtbdciibbgiphcaaDoorOdP
import Derived.Deep.AppendLies
import Derived.Deep.Upon
import Derived.IntWalk
namespace Go.Proofs.YtbdciibbgiphcaaDoor.V
set_option linter.unusedVariables false
set_option linter.unusedSimpArgs false
set_option linter.unusedSectionVars false
open Go.RowKit Go.Proofs.YtbdciibbgiphcaaDoorW.PrintWords Go.Proofs.YtbdciibbgiphcaaDoorW.PrintLast Go.Proofs.YtbdciibbgiphcaaDoorW.PrintMore
theorem tv_one (ps : List (S25 × Option Addr × Nat)) : ∀ u ∈ ps.flatMap tv, u.oneCell' = true := by
  intro u hu
  obtain ⟨p, _, hp⟩ := List.mem_flatMap.1 hu
  simp only [tv, List.mem_cons, List.not_mem_nil, or_false] at hp
  rcases hp with rfl | rfl | rfl | rfl <;> rfl
def OddPost (w0 : World) (y : S25) (w : World) (e : Ending) (w' : World) : Prop := ∃ A c, e = .returned (trV y A c) ∧ y.f3.length ≤ c ∧ Kd.F k25 w' (fun k => k < w0.heap.size ∨ w.heap.size ≤ k) A y.f3.length y.f3 ∧ Below w.heap.size w w'
def OddIs (k : Nat) : Prop := ∀ (x : S25) (wh : Int) (way : Nat) (A : Option Addr) (c : Nat) (w0 w : World), S3 x → way < 2 ^ k → 0 ≤ wh → wh ≤ 255 → x.f3.length ≤ c → Kd.C k25 w0 A x.f3.length x.f3 → Below w0.heap.size w0 w →
  Calls Tryd.prog 27 #[trV x A c, .int .u8 wh, .int .i64 way] w (OddPost w0 (oddP (wh % 5) k x way) w)
theorem wpList_append_none {P : Program} (w : World) {ops : Array Oper} {rest : List Oper} {o : Oper} {a : Act} {Q : Exit → Act → World → Prop} (hgd : o.guard = none) (s x : Operand) (t : TypeId)
    (ho : o.op = .call { callee := .builtin .append, args := #[s, x], argTypes := #[t, t] }) (e : TypeId) (i : TypeInfo) (ht : P.underlying t = some (.slice e)) (hi : P.info? e = some i)
    (hv : a.eval s = .slice none 0 0) (A : Option Addr) (c : Nat) (hx : a.eval x = .slice A 0 c) (hK : wpList P ops Q rest (a.put o.dst (.slice none 0 0)) w) : wpList P ops Q (o :: rest) a w := by
  refine wpList_plain hgd fun K hK' => ?_
  have hs : Src P i.size t (.slice A 0 c) 0 [] w := by
    cases A with
    | none => exact Src.ofNil w ht c
    | some ad => exact Src.ofSlice w ht ad 0 c [] (by simp) (fun j u hu => by simp at hu) (by simp)
  have hrun := run_append_nothing (P := P) w t t o.type e i ht hi none 0 0 (Nat.le_refl _) (.slice A 0 c) hs
  unfold Oper.wp
  simp [execOp, ho, resolve, invoke, builtin, hv, hx, hrun, Result.andThen]
  exact hK' _ _ hK
theorem leaf_post {w0 w : World} (y : S25) (A : Option Addr) (c : Nat) (o1 o2 : Obj) (hc : y.f3.length ≤ c) (hC : Kd.C k25 w0 A y.f3.length y.f3) (hb : Below w0.heap.size w0 w) : OddPost w0 y w (.returned (trV y A c)) ((w.alloc o1).alloc o2) :=
  ⟨A, c, rfl, hc, Kd.F_mono (Kd.F_below (Kd.C_F heap25 hC) ((hb.alloc hb.size _).alloc (by have := hb.size; simp; omega) _)) (fun k hk => .inl hk), ((Below.refl _ _).alloc (Nat.le_refl _) _).alloc (by simp) _⟩
theorem alloc3_new' (w : World) (o o2 o3 : Obj) : (((w.alloc o).alloc o2).alloc o3).heap[w.heap.size + 2]? = some o3 := by
  have := heap_alloc_new ((w.alloc o).alloc o2) o3
  rwa [show ((w.alloc o).alloc o2).heap.size = w.heap.size + 2 by simp] at this
theorem leaf0_post {w0 w W9 : World} {o n : Int} {s : ByteArray} {ps : List (S25 × Option Addr × Nat)} {g cap : Nat}
    (hown : W9.ownsRow w.heap.size 25 4 (.slice (some ⟨g, 0, none⟩) (ps.length + 1) cap) (ps.length + 1) (ps.flatMap tv ++ [.int .u8 2, .int .i64 0, .string ⟨#[]⟩, .slice none 0 0]))
    (hrd : ∀ (j : Nat) p, ps[j]? = some p → PR3 w0 p) (hb0 : Below w0.heap.size w0 w) (hb : Below w.heap.size w W9) :
    OddPost w0 ⟨o, n, s, ps.map Prod.fst ++ [⟨2, 0, ⟨#[]⟩, []⟩]⟩ w (.returned (.agg #[.int .u8 o, .int .i64 n, .string s, .slice (some ⟨g, 0, none⟩) (ps.length + 1) cap])) W9 := by
  have hcap := own_cap' hown
  have hbase : w.heap.size ≤ g := by
    rcases hown.2 with ⟨h, _⟩ | ⟨g', cap', cur, hv, hb, _⟩
    · cases h
    · injection hv with h1
      injection h1 with h1
      injection h1 with h1
      omega
  refine ⟨some ⟨g, 0, none⟩, cap, by simp [trV], by simpa using hcap, ?_, hb⟩
  intro W' hW
  have ho : W'.ownsRow w.heap.size 25 4 (.slice (some ⟨g, 0, none⟩) (ps.length + 1) cap) (ps ++ [((⟨2, 0, ⟨#[]⟩, []⟩ : S25), none, 0)]).length ((ps ++ [((⟨2, 0, ⟨#[]⟩, []⟩ : S25), none, 0)]).flatMap tv) := by
    rw [List.flatMap_append, List.length_append]
    refine B.own_kept hown (fun k hk => hW k (.inr ?_) (own_lt hown k hk))
    obtain rfl : g = k := by simpa [Value.ownBlock] using hk
    exact hbase
  have hpr : ∀ (j : Nat) p, (ps ++ [((⟨2, 0, ⟨#[]⟩, []⟩ : S25), (none : Option Addr), 0)])[j]? = some p → PR3 W' p := by
    intro j p hp
    by_cases hj : j < ps.length
    · rw [List.getElem?_append_left hj] at hp
      obtain ⟨h1, h2⟩ := hrd j p hp
      exact ⟨h1, (Kd.F_mono (Kd.F_below (Kd.C_F heap25 h2) (hb0.trans (hb.mono hb0.size))) (fun k hk => .inl hk)) W' hW⟩
    · rw [List.getElem?_append_right (by omega)] at hp
      have hm := List.mem_of_getElem? hp
      rw [List.mem_singleton] at hm
      subst hm
      exact ⟨Nat.le_refl _, Kd.C_nil k25 W'⟩
  obtain ⟨A9, c9, hv9, _, hC9⟩ := row_reads ho hpr
  injection hv9 with hA9
  subst hA9
  have e1 : (ps ++ [((⟨2, 0, ⟨#[]⟩, []⟩ : S25), (none : Option Addr), 0)]).map Prod.fst = ps.map Prod.fst ++ [⟨2, 0, ⟨#[]⟩, []⟩] := by rw [List.map_append]; rfl
  have e2 : (ps ++ [((⟨2, 0, ⟨#[]⟩, []⟩ : S25), (none : Option Addr), 0)]).length = (ps.map Prod.fst ++ [(⟨2, 0, ⟨#[]⟩, []⟩ : S25)]).length := by simp
  rw [e1, e2] at hC9
  exact hC9
theorem fin5 {w w4 : World} {o n : Int} {s : ByteArray} {g m cap : Nat} {cs : List Value} (h1 : w4.heap[w.heap.size + 1]? = some (.cells #[.int .u8 0, .int .i64 0, .string ⟨#[]⟩, .slice none 0 0] 25 (0, 0)))
    (hn0 : g ≠ w.heap.size) (hn1 : g ≠ w.heap.size + 1) (hown : w4.ownsRow w.heap.size 25 4 (.slice (some ⟨g, 0, none⟩) m cap) m cs) (hb : Below w.heap.size w w4) (v : Value) :
    (((((w4.setCell ⟨w.heap.size, 3, none⟩ v).setCell ⟨w.heap.size + 1, 0, none⟩ (.int .u8 o)).setCell ⟨w.heap.size + 1, 1, none⟩ (.int .i64 n)).setCell ⟨w.heap.size + 1, 2, none⟩ (.string s)).setCell ⟨w.heap.size + 1, 3, none⟩ v).heap[w.heap.size + 1]? = some (.cells #[.int .u8 o, .int .i64 n, .string s, v] 25 (0, 0)) ∧
    (((((w4.setCell ⟨w.heap.size, 3, none⟩ v).setCell ⟨w.heap.size + 1, 0, none⟩ (.int .u8 o)).setCell ⟨w.heap.size + 1, 1, none⟩ (.int .i64 n)).setCell ⟨w.heap.size + 1, 2, none⟩ (.string s)).setCell ⟨w.heap.size + 1, 3, none⟩ v).ownsRow w.heap.size 25 4 (.slice (some ⟨g, 0, none⟩) m cap) m cs ∧
    Below w.heap.size w (((((w4.setCell ⟨w.heap.size, 3, none⟩ v).setCell ⟨w.heap.size + 1, 0, none⟩ (.int .u8 o)).setCell ⟨w.heap.size + 1, 1, none⟩ (.int .i64 n)).setCell ⟨w.heap.size + 1, 2, none⟩ (.string s)).setCell ⟨w.heap.size + 1, 3, none⟩ v) := by
  refine ⟨?_, ?_, ?_⟩
  · refine blk_put (cs := #[.int .u8 o, .int .i64 n, .string s, .slice none 0 0]) ?_ 3 _ rfl
    refine blk_put (cs := #[.int .u8 o, .int .i64 n, .string ⟨#[]⟩, .slice none 0 0]) ?_ 2 _ rfl
    refine blk_put (cs := #[.int .u8 o, .int .i64 0, .string ⟨#[]⟩, .slice none 0 0]) ?_ 1 _ rfl
    refine blk_put (cs := #[.int .u8 0, .int .i64 0, .string ⟨#[]⟩, .slice none 0 0]) ?_ 0 _ rfl
    rw [Below.heap_setCell _ _ _ _ (by simp)]
    exact h1
  · refine B.own_kept hown (fun k hk => ?_)
    obtain rfl : g = k := by simpa [Value.ownBlock] using hk
    rw [Below.heap_setCell _ _ _ _ hn1, Below.heap_setCell _ _ _ _ hn1, Below.heap_setCell _ _ _ _ hn1, Below.heap_setCell _ _ _ _ hn1, Below.heap_setCell _ _ _ _ hn0]
  · exact ((((hb.setCell (p := ⟨w.heap.size, 3, none⟩) (by simp) _).setCell (p := ⟨w.heap.size + 1, 0, none⟩) (by simp) _).setCell (p := ⟨w.heap.size + 1, 1, none⟩) (by simp) _).setCell (p := ⟨w.heap.size + 1, 2, none⟩) (by simp) _).setCell (p := ⟨w.heap.size + 1, 3, none⟩) (by simp) _
set_option maxHeartbeats 4000000 in
set_option maxRecDepth 100000 in
theorem odd_walk (k : Nat) (hk : k ≤ 8) (ih : ∀ m, k = m + 1 → OddIs m) : OddIs k := by
  intro x wh way A c w0 w hs hway hw0 hw1 hc hC hb00
  obtain ⟨o, n, s, xs, hx3, hxs⟩ := hs
  obtain ⟨wb, hwb⟩ : ∃ wb, wb = (w.alloc (.cells #[.int .u8 o, .int .i64 n, .string s, .slice A xs.length c] 25)).alloc (.cells #[.int .u8 0, .int .i64 0, .string ⟨#[]⟩, .slice none 0 0] 25) := ⟨_, rfl⟩
  have hk0 : wb.heap[w.heap.size]? = some (.cells #[.int .u8 o, .int .i64 n, .string s, .slice A xs.length c] 25 (0, 0)) := by
    rw [hwb, Below.heap_alloc _ _ _ (by simp)]; exact heap_alloc_new w _
  have hk1 : wb.heap[w.heap.size + 1]? = some (.cells #[.int .u8 0, .int .i64 0, .string ⟨#[]⟩, .slice none 0 0] 25 (0, 0)) := by
    have := heap_alloc_new (w.alloc (.cells #[.int .u8 o, .int .i64 n, .string s, .slice A xs.length c] 25)) (.cells #[.int .u8 0, .int .i64 0, .string ⟨#[]⟩, .slice none 0 0] 25)
    have e : (w.alloc (.cells #[.int .u8 o, .int .i64 n, .string s, .slice A xs.length c] 25)).heap.size = w.heap.size + 1 := by simp
    rw [hwb]
    rw [e] at this
    exact this
  have hb0 : Below w.heap.size w wb := by rw [hwb]; exact ((Below.refl _ _).alloc (Nat.le_refl _) _).alloc (by simp) _
  have HB00 := Lib.hid hb00
  have HBB := Lib.hid (hb00.trans (hb0.mono hb00.size))
  have HB0 := Lib.hid hb0
  have HK := Lib.hid hk0
  have HK1 := Lib.hid hk1
  have HC := Lib.hid hC; have IH := Lib.hid ih; have HXS := Lib.hid hxs
  have HW := Lib.hid hway
  dsimp only at hc
  have HWB := Lib.hid hwb
  clear hb00 hb0 hC ih hxs hway hwb hk1
  obtain ⟨e0, e1, e2, e3⟩ := box_cells hk0
  clear hk0
  unfold trV
  by_cases hl : 0 < xs.length ∧ 0 < way
  · obtain ⟨hl, hwy⟩ := hl
    obtain ⟨ad, ps, rfl, hps, hcell, hrd⟩ := rows_of HC.out hl
    have hps : ps.map Prod.fst = xs := hps
    have hpl : ps.length = xs.length := by rw [← hps, List.length_map]
    have hltv : (ps.flatMap tv).length = xs.length * 4 := by rw [tv_len, hpl]
    have HTL := Lib.hid hltv
    clear hltv
    replace hcell : ∀ (j : Nat) (u : Value), (ps.flatMap tv)[j]? = some u → wb.cell? (ad.add j) = some u := fun j u hu => Kd.cell_heap (fun k hk => HBB.out.block k hk) (hcell j u hu)
    have HPS := Lib.hid hps; have HRD := Lib.hid hrd; have HCE := Lib.hid hcell; have HPL := Lib.hid hpl
    clear hps hcell hrd hpl
    obtain ⟨i3, hi3, hz30, hz31, hz32⟩ := info_parts info25o
    have HT := Lib.hid (tv_one ps)
    go_enter Tryd.func27, Tryd.ntmps27
    go_wp2_with (at_builtin; rw [← HWB.out]; refine wpList_append_lies wb rfl _ _ 23 rfl w.heap.size 25 i3 (.agg #[(.int .u8 0), (.int .i64 0), (.string ⟨#[]⟩), (.slice none 0 0)]) 4 56 Tryd.underlying23 hi3 hz30 hz31 hz32 rfl (by decide) (.slice none 0 0) 0 [] rfl ⟨rfl, .inl ⟨rfl, rfl⟩⟩ ad xs.length c (ps.flatMap tv) rfl HTL.out (HCE.out) HT.out hl ?h63 ?hby ?hba _ rfl ?_)
    case h63 => unfold maxLen; omega
    case hby => omega
    case hba => exact HB0.out.size
    intro g cap w1 hown hgr hat hlt
    obtain rfl : g = wb.heap.size := by
      rcases hat with h | h
      · simp [Value.ownBlock] at h
      · exact h
    have hsz : wb.heap.size = w.heap.size + 2 := by rw [HWB.out]; simp
    have hk2 := (hgr.block w.heap.size (by omega) (by simp [Value.ownBlock])).trans HK.out
    have hk3 := (hgr.block (w.heap.size + 1) (by omega) (by simp [Value.ownBlock])).trans HK1.out
    have hb1 : Below w.heap.size w w1 := HB0.out.grown hgr HB0.out.size (fun k hk => by simp [Value.ownBlock] at hk)
    have hbb1 : Below w0.heap.size w0 w1 := HB00.out.trans (hb1.mono HB00.out.size)
    have HB1 := Lib.hid hb1; have HK2 := Lib.hid hk2; have HK3 := Lib.hid hk3; have HBB1 := Lib.hid hbb1
    obtain ⟨g, hg⟩ : ∃ g, g = wb.heap.size := ⟨_, rfl⟩
    rw [← hg] at hown hlt
    rw [← hg]
    have hgw : g = w.heap.size + 2 := by omega
    subst hgw
    try simp only [Nat.zero_add, List.nil_append] at hown
    try rw [Nat.zero_add]
    obtain ⟨K, hK⟩ : ∃ K, K = way % xs.length := ⟨_, rfl⟩
    have hKI : (way : Int) % (xs.length : Int) = ((K : Nat) : Int) := by rw [hK]; rfl
    rw [hKI]
    have hKl : K < xs.length := by rw [hK]; exact Nat.mod_lt _ hl
    obtain ⟨p, hp⟩ : ∃ p, ps[K]? = some p := ⟨_, List.getElem?_eq_getElem (by rw [HPL.out]; exact hKl)⟩
    have hy : xs[K]? = some p.1 := by rw [← HPS.out, List.getElem?_map, hp]; rfl
    have hcell1 : ∀ i, i < 4 → w1.cell? ⟨w.heap.size + 2, K * 4 + i, none⟩ = (tv p)[i]? := by
      intro i hi
      have h4 := tv_get hp i hi
      have : i < (tv p).length := hi
      rw [List.getElem?_eq_getElem this] at h4 ⊢
      exact ow_cell hown _ _ h4
    obtain ⟨y, A3, c3⟩ := p
    have q0 : w1.cell? ⟨w.heap.size + 2, K * 4, none⟩ = some (.int .u8 y.f0) := hcell1 0 (by omega)
    have q1 : w1.cell? ⟨w.heap.size + 2, K * 4 + 1, none⟩ = some (.int .i64 y.f1) := hcell1 1 (by omega)
    have q2 : w1.cell? ⟨w.heap.size + 2, K * 4 + 2, none⟩ = some (.string y.f2) := hcell1 2 (by omega)
    have q3 : w1.cell? ⟨w.heap.size + 2, K * 4 + 3, none⟩ = some (.slice A3 y.f3.length c3) := hcell1 3 (by omega)
    have HOW := Lib.hid hown; have HP := Lib.hid hp; have HY := Lib.hid hy; have HKK := Lib.hid hK
    have HP3 := Lib.hid (HRD.out K _ hp)
    obtain ⟨e0, e1, e2, e3⟩ := box_cells hk2
    clear hat hgr hk2 hk3 hb1 hbb1 hKI hcell1 hown hp hy hK HCE HT HTL
    clear hg hlt
    go_wp2_with fail
    obtain ⟨m, rfl⟩ : ∃ m, k = m + 1 := ⟨k - 1, by
      rcases Nat.eq_zero_or_pos k with h | h
      · subst h; have := HW.out; simp at this; omega
      · omega⟩
    have hway2 : way / 2 < 2 ^ m := by have := HW.out; rw [Nat.pow_succ] at this; omega
    have hw64 : wrap64 ((way : Int) / 2) = ((way / 2 : Nat) : Int) := by
      have h1 : way < 2 ^ 9 := Nat.lt_of_lt_of_le HW.out (Nat.pow_le_pow_right (by omega) (by omega))
      rw [w64 (by omega) (by omega)]; omega
    rw [hw64]
    have hy3 : S3 y := HXS.out y (List.mem_of_getElem? HY.out)
    clear q0 q1 q2 q3
    refine (IH.out m rfl y wh (way / 2) A3 c3 w0 w1 hy3 hway2 hw0 hw1 HP3.out.1 HP3.out.2 HBB1.out).mono ?_
    rintro e w2 ⟨A4, c4, rfl, hl4, hC4, hb2⟩
    obtain ⟨z, hz⟩ : ∃ z, z = oddP (wh % 5) m y (way / 2) := ⟨_, rfl⟩
    rw [← hz] at hl4 hC4
    rw [← hz]
    have hres : oddP (wh % 5) (m + 1) ⟨o, n, s, xs⟩ way = ⟨o, n, s, xs.set K z⟩ := by
      have e1 : xs.getD (way % xs.length) z25 = y := by rw [← HKK.out, List.getD_eq_getElem?_getD, HY.out]; rfl
      simp only [oddP]
      rw [if_pos ⟨hl, hwy⟩, e1, ← hz, ← HKK.out]
    have HRES := Lib.hid hres
    have ho2 : w2.ownsRow w.heap.size 25 4 (.slice (some ⟨w.heap.size + 2, 0, none⟩) xs.length cap) xs.length (ps.flatMap tv) :=
      B.own_kept HOW.out (fun k hk => hb2.block k (own_lt HOW.out k hk))
    rw [← HPL.out] at ho2
    have ho3 := own_tvset ho2 K (by rw [HPL.out]; exact hKl) (z, A4, c4)
    dsimp only at ho3
    have hk2 := kp2 hb2 HK2.out
    have hk3 := kp2 hb2 HK3.out
    have hb3 := HB1.out.trans (hb2.mono HB1.out.size)
    have HO3 := Lib.hid ho3; have HL4 := Lib.hid hl4; have HC4 := Lib.hid hC4; have HB2 := Lib.hid hb2; have HB3 := Lib.hid hb3; have HK22 := hk2; have HK32 := hk3
    obtain ⟨e0, e1, e2, e3⟩ := box_cells hk2.out
    clear ho3 hl4 hC4 hb2 hb3 hz hres hw64 hway2 hy3 HK2 HK3 HK HK1 HWB
    have hfz : ∀ i, w2.frozen? ⟨w.heap.size + 2, i, none⟩ = false := fun i => ow_frozen ho2 i
    have hcell2 : ∀ i, i < 4 → w2.cell? ⟨w.heap.size + 2, K * 4 + i, none⟩ = (tv (y, A3, c3))[i]? := by
      intro i hi
      have h4 := tv_get HP.out i hi
      have : i < (tv (y, A3, c3)).length := hi
      rw [List.getElem?_eq_getElem this] at h4 ⊢
      exact ow_cell ho2 _ _ h4
    have q0 : w2.cell? ⟨w.heap.size + 2, K * 4, none⟩ = some (.int .u8 y.f0) := hcell2 0 (by omega)
    have q1 : w2.cell? ⟨w.heap.size + 2, K * 4 + 1, none⟩ = some (.int .i64 y.f1) := hcell2 1 (by omega)
    have q2 : w2.cell? ⟨w.heap.size + 2, K * 4 + 2, none⟩ = some (.string y.f2) := hcell2 2 (by omega)
    have q3 : w2.cell? ⟨w.heap.size + 2, K * 4 + 3, none⟩ = some (.slice A3 y.f3.length c3) := hcell2 3 (by omega)
    have z0 := hfz (K * 4); have z1 := hfz (K * 4 + 1); have z2 := hfz (K * 4 + 2); have z3 := hfz (K * 4 + 3)
    have xz := blk_frozen hk2.out; have rz := blk_frozen hk3.out
    have x3 := xz 3; have rz0 := rz 0; have rz1 := rz 1; have rz2 := rz 2; have rz3 := rz 3
    obtain ⟨r0, r1, r2, r3⟩ := box_cells hk3.out
    clear ho2 hfz hcell2 xz rz hk2 hk3
    unfold trV
    have hr0 : ((K : Nat) : Int) < xs.length := by omega
    go_wp2_with fail
    clear q0 q1 q2 q3 z0 z1 z2 z3 x3 rz0 rz1 rz2 rz3 r0 r1 r2 r3 e0 e1 e2 e3 hr0
    obtain ⟨N, hN⟩ : ∃ N, N = w.heap.size := ⟨_, rfl⟩
    have hb9 : Below w.heap.size w (((((((((w2.setCell ⟨w.heap.size + 2, K * 4, none⟩ (.int .u8 z.f0)).setCell ⟨w.heap.size + 2, K * 4 + 1, none⟩ (.int .i64 z.f1)).setCell ⟨w.heap.size + 2, K * 4 + 2, none⟩ (.string z.f2)).setCell ⟨w.heap.size + 2, K * 4 + 3, none⟩ (.slice A4 z.f3.length c4)).setCell ⟨w.heap.size, 3, none⟩ (.slice (some ⟨w.heap.size + 2, 0, none⟩) xs.length cap)).setCell ⟨w.heap.size + 1, 0, none⟩ (.int .u8 o)).setCell ⟨w.heap.size + 1, 1, none⟩ (.int .i64 n)).setCell ⟨w.heap.size + 1, 2, none⟩ (.string s)).setCell ⟨w.heap.size + 1, 3, none⟩ (.slice (some ⟨w.heap.size + 2, 0, none⟩) xs.length cap)) :=
      ((((((((HB3.out.setCell (p := ⟨w.heap.size + 2, K * 4, none⟩) (by simp) _).setCell (p := ⟨w.heap.size + 2, K * 4 + 1, none⟩) (by simp) _).setCell (p := ⟨w.heap.size + 2, K * 4 + 2, none⟩) (by simp) _).setCell (p := ⟨w.heap.size + 2, K * 4 + 3, none⟩) (by simp) _).setCell (p := ⟨w.heap.size, 3, none⟩) (by simp) _).setCell (p := ⟨w.heap.size + 1, 0, none⟩) (by simp) _).setCell (p := ⟨w.heap.size + 1, 1, none⟩) (by simp) _).setCell (p := ⟨w.heap.size + 1, 2, none⟩) (by simp) _).setCell (p := ⟨w.heap.size + 1, 3, none⟩) (by simp) _
    have hblk : (((((((((w2.setCell ⟨w.heap.size + 2, K * 4, none⟩ (.int .u8 z.f0)).setCell ⟨w.heap.size + 2, K * 4 + 1, none⟩ (.int .i64 z.f1)).setCell ⟨w.heap.size + 2, K * 4 + 2, none⟩ (.string z.f2)).setCell ⟨w.heap.size + 2, K * 4 + 3, none⟩ (.slice A4 z.f3.length c4)).setCell ⟨w.heap.size, 3, none⟩ (.slice (some ⟨w.heap.size + 2, 0, none⟩) xs.length cap)).setCell ⟨w.heap.size + 1, 0, none⟩ (.int .u8 o)).setCell ⟨w.heap.size + 1, 1, none⟩ (.int .i64 n)).setCell ⟨w.heap.size + 1, 2, none⟩ (.string s)).setCell ⟨w.heap.size + 1, 3, none⟩ (.slice (some ⟨w.heap.size + 2, 0, none⟩) xs.length cap)).heap[w.heap.size + 1]? = some (.cells #[.int .u8 o, .int .i64 n, .string s, .slice (some ⟨w.heap.size + 2, 0, none⟩) xs.length cap] 25 (0, 0)) := by
      refine blk_put (cs := #[.int .u8 o, .int .i64 n, .string s, .slice none 0 0]) ?_ 3 _ rfl
      refine blk_put (cs := #[.int .u8 o, .int .i64 n, .string ⟨#[]⟩, .slice none 0 0]) ?_ 2 _ rfl
      refine blk_put (cs := #[.int .u8 o, .int .i64 0, .string ⟨#[]⟩, .slice none 0 0]) ?_ 1 _ rfl
      refine blk_put (cs := #[.int .u8 0, .int .i64 0, .string ⟨#[]⟩, .slice none 0 0]) ?_ 0 _ rfl
      rw [Below.heap_setCell _ _ _ _ (by simp), Below.heap_setCell _ _ _ _ (by simp), Below.heap_setCell _ _ _ _ (by simp), Below.heap_setCell _ _ _ _ (by simp), Below.heap_setCell _ _ _ _ (by simp)]
      exact HK32.out
    have hown9 : (((((((((w2.setCell ⟨w.heap.size + 2, K * 4, none⟩ (.int .u8 z.f0)).setCell ⟨w.heap.size + 2, K * 4 + 1, none⟩ (.int .i64 z.f1)).setCell ⟨w.heap.size + 2, K * 4 + 2, none⟩ (.string z.f2)).setCell ⟨w.heap.size + 2, K * 4 + 3, none⟩ (.slice A4 z.f3.length c4)).setCell ⟨w.heap.size, 3, none⟩ (.slice (some ⟨w.heap.size + 2, 0, none⟩) xs.length cap)).setCell ⟨w.heap.size + 1, 0, none⟩ (.int .u8 o)).setCell ⟨w.heap.size + 1, 1, none⟩ (.int .i64 n)).setCell ⟨w.heap.size + 1, 2, none⟩ (.string s)).setCell ⟨w.heap.size + 1, 3, none⟩ (.slice (some ⟨w.heap.size + 2, 0, none⟩) xs.length cap)).ownsRow w.heap.size 25 4 (.slice (some ⟨w.heap.size + 2, 0, none⟩) ps.length cap) (ps.set K (z, A4, c4)).length ((ps.set K (z, A4, c4)).flatMap tv) := by
      refine B.own_kept HO3.out (fun k hk => ?_)
      obtain rfl : w.heap.size + 2 = k := by simpa [Value.ownBlock] using hk
      rw [Below.heap_setCell _ _ _ _ (by simp), Below.heap_setCell _ _ _ _ (by simp), Below.heap_setCell _ _ _ _ (by simp), Below.heap_setCell _ _ _ _ (by simp), Below.heap_setCell _ _ _ _ (by simp)]
    have hfar : ∀ k, k ≠ w.heap.size → k ≠ w.heap.size + 1 → k ≠ w.heap.size + 2 → (((((((((w2.setCell ⟨w.heap.size + 2, K * 4, none⟩ (.int .u8 z.f0)).setCell ⟨w.heap.size + 2, K * 4 + 1, none⟩ (.int .i64 z.f1)).setCell ⟨w.heap.size + 2, K * 4 + 2, none⟩ (.string z.f2)).setCell ⟨w.heap.size + 2, K * 4 + 3, none⟩ (.slice A4 z.f3.length c4)).setCell ⟨w.heap.size, 3, none⟩ (.slice (some ⟨w.heap.size + 2, 0, none⟩) xs.length cap)).setCell ⟨w.heap.size + 1, 0, none⟩ (.int .u8 o)).setCell ⟨w.heap.size + 1, 1, none⟩ (.int .i64 n)).setCell ⟨w.heap.size + 1, 2, none⟩ (.string s)).setCell ⟨w.heap.size + 1, 3, none⟩ (.slice (some ⟨w.heap.size + 2, 0, none⟩) xs.length cap)).heap[k]? = w2.heap[k]? := by
      intro k h0 h1 h2
      rw [Below.heap_setCell _ _ _ _ h1, Below.heap_setCell _ _ _ _ h1, Below.heap_setCell _ _ _ _ h1, Below.heap_setCell _ _ _ _ h1, Below.heap_setCell _ _ _ _ h0, Below.heap_setCell _ _ _ _ h2, Below.heap_setCell _ _ _ _ h2, Below.heap_setCell _ _ _ _ h2, Below.heap_setCell _ _ _ _ h2]
    generalize (((((((((w2.setCell ⟨w.heap.size + 2, K * 4, none⟩ (.int .u8 z.f0)).setCell ⟨w.heap.size + 2, K * 4 + 1, none⟩ (.int .i64 z.f1)).setCell ⟨w.heap.size + 2, K * 4 + 2, none⟩ (.string z.f2)).setCell ⟨w.heap.size + 2, K * 4 + 3, none⟩ (.slice A4 z.f3.length c4)).setCell ⟨w.heap.size, 3, none⟩ (.slice (some ⟨w.heap.size + 2, 0, none⟩) xs.length cap)).setCell ⟨w.heap.size + 1, 0, none⟩ (.int .u8 o)).setCell ⟨w.heap.size + 1, 1, none⟩ (.int .i64 n)).setCell ⟨w.heap.size + 1, 2, none⟩ (.string s)).setCell ⟨w.heap.size + 1, 3, none⟩ (.slice (some ⟨w.heap.size + 2, 0, none⟩) xs.length cap)) = W9 at *
    refine bodyPost_ret (results_cell_row rfl _ _ (w.heap.size + 1) 25 #[.int .u8 o, .int .i64 n, .string s, .slice (some ⟨w.heap.size + 2, 0, none⟩) xs.length cap] (0, 0) _ rfl hblk Tryd.underlying25 rfl (by kernel_rfl)) rfl ?_
    rw [HRES.out]
    have hw1s : w.heap.size + 2 < w1.heap.size := own_lt HOW.out _ rfl
    have hcap : ps.length ≤ cap := by have h3 := HO3.out; rw [List.length_set] at h3; exact own_cap' h3
    refine ⟨some ⟨w.heap.size + 2, 0, none⟩, cap, by simp [trV], by rw [List.length_set, ← HPL.out]; exact hcap, ?_, hb9⟩
    have hmap : (ps.set K (z, A4, c4)).map Prod.fst = xs.set K z := by rw [List.map_set, HPS.out]
    intro W' hW
    have ho : W'.ownsRow w.heap.size 25 4 (.slice (some ⟨w.heap.size + 2, 0, none⟩) ps.length cap) (ps.set K (z, A4, c4)).length ((ps.set K (z, A4, c4)).flatMap tv) := by
      refine B.own_kept hown9 (fun k hk => ?_)
      obtain rfl : w.heap.size + 2 = k := by simpa [Value.ownBlock] using hk
      exact hW _ (.inr (by omega)) (own_lt hown9 _ rfl)
    have hpr : ∀ (j : Nat) p, (ps.set K (z, A4, c4))[j]? = some p → PR3 W' p := by
      intro j p hp
      by_cases hj : j = K
      · subst hj
        rw [List.getElem?_set_self (by rw [HPL.out]; exact hKl)] at hp
        injection hp with hp
        subst hp
        refine ⟨HL4.out, (Kd.F_mono (Kd.F_step HC4.out (fun k hk hlt => hfar k (by have := HB00.out.size; omega) (by have := HB00.out.size; omega) (by have := HB00.out.size; omega))) (fun k hk => ?_)) W' hW⟩
        rcases hk with hk | hk
        · exact .inl hk
        · exact .inr (by omega)
      · rw [List.getElem?_set_ne (fun h => hj h.symm)] at hp
        obtain ⟨h1, h2⟩ := HRD.out j p hp
        exact ⟨h1, (Kd.F_mono (Kd.F_below (Kd.C_F heap25 h2) (HB00.out.trans (hb9.mono HB00.out.size))) (fun k hk => .inl hk)) W' hW⟩
    obtain ⟨A9, c9, hv9, _, hC9⟩ := row_reads ho hpr
    rw [hmap] at hC9
    injection hv9 with hA9
    subst hA9
    have : (ps.set K (z, A4, c4)).length = (xs.set K z).length := by rw [List.length_set, List.length_set, HPL.out]
    rw [← this]
    exact hC9
  · have hP : oddP (wh % 5) k ⟨o, n, s, xs⟩ way = oddL (wh % 5) ⟨o, n, s, xs⟩ := by
      cases k with
      | zero => rfl
      | succ m => simp only [oddP]; rw [if_neg hl]
    rw [hP]
    obtain ⟨r, hr⟩ : ∃ r, wh % 5 = r := ⟨_, rfl⟩
    have hrr : 0 ≤ r ∧ r < 5 := by omega
    have hk2 := HK.out; have hk3 := HK1.out
    have xz := blk_frozen hk2; have rz := blk_frozen hk3
    have x0 := xz 0; have x1 := xz 1; have x2 := xz 2; have x3 := xz 3; have rz0 := rz 0; have rz1 := rz 1; have rz2 := rz 2; have rz3 := rz 3
    obtain ⟨r0, r1, r2, r3⟩ := box_cells hk3
    clear xz rz hP hk2 hk3
    have hleaf : xs.length = 0 ∨ (0 < xs.length ∧ way = 0) := by omega
    clear hl
    have hcas : r = 1 ∨ r = 2 ∨ r = 3 ∨ r = 4 ∨ r = 0 := by omega
    clear hrr
    go_enter Tryd.func27, Tryd.ntmps27
    rcases hcas with h | h | h | h | h
    all_goals rw [hr]
    all_goals (subst h; rcases hleaf with hl | ⟨hl, hwy⟩)
    case inl.inl | inr.inl.inl | inr.inr.inl.inl | inr.inr.inr.inl.inl =>
      obtain rfl : xs = [] := List.length_eq_zero_iff.1 hl
      go_wp2_with fail
      exact bodyPost_ret (results_cell_row rfl _ _ (w.heap.size + 1) 25 _ (0, 0) _ rfl (alloc2_new w _ _) Tryd.underlying25 rfl (by kernel_rfl)) rfl (leaf_post _ A c _ _ hc HC.out HB00.out)
    case inl.inr | inr.inl.inr | inr.inr.inl.inr | inr.inr.inr.inl.inr =>
      subst hwy
      go_wp2_with fail
      exact bodyPost_ret (results_cell_row rfl _ _ (w.heap.size + 1) 25 _ (0, 0) _ rfl (alloc2_new w _ _) Tryd.underlying25 rfl (by kernel_rfl)) rfl (leaf_post _ A c _ _ hc HC.out HB00.out)
    case inr.inr.inr.inr.inl =>
      obtain rfl : xs = [] := List.length_eq_zero_iff.1 hl
      obtain ⟨i3, hi3, hz30, hz31, hz32⟩ := info_parts info25o
      go_wp2_with (at_builtin; first | (refine wpList_append_none _ rfl _ _ 23 rfl 25 i3 Tryd.underlying23 hi3 rfl A c rfl ?_) | (refine wpList_append_lies _ rfl _ _ 23 rfl w.heap.size 25 i3 (.agg #[(.int .u8 0), (.int .i64 0), (.string ⟨#[]⟩), (.slice none 0 0)]) 4 56 Tryd.underlying23 hi3 hz30 hz31 hz32 rfl (by decide) (.slice none 0 0) 0 [] rfl ⟨rfl, .inl ⟨rfl, rfl⟩⟩ ⟨w.heap.size + 2, 0, none⟩ 1 _ [.int .u8 2, .int .i64 0, .string ⟨#[]⟩, .slice none 0 0] rfl rfl (World.news_of_block (alloc3_new' w _ _ _)) (by decide) (by decide) (by unfold maxLen; omega) (by omega) (by simp; omega) (w.heap.size + 3) (by simp) ?_))
      intro g cap w4 hown hgr hat hlt
      obtain rfl : g = w.heap.size + 3 := by
        rcases hat with h | h
        · simp [Value.ownBlock] at h
        · exact h
      have hk2 := (hgr.block w.heap.size (by simp; omega) (by simp [Value.ownBlock])).trans (blk_alloc (blk_alloc (heap_alloc_new w _) _) _)
      have hk3 := (hgr.block (w.heap.size + 1) (by simp) (by simp [Value.ownBlock])).trans (blk_alloc (alloc2_new w _ _) _)
      have hb4 := ((((Below.refl w.heap.size w).alloc (Nat.le_refl _) _).alloc (by simp) _).alloc (by simp; omega) _).grown hgr (by simp; omega) (fun k hk => by simp [Value.ownBlock] at hk)
      have HOW := Lib.hid hown; have HK3 := Lib.hid hk3; have HB4 := Lib.hid hb4
      clear e0 e1 e2 e3 x0 x1 x2 x3 rz0 rz1 rz2 rz3 r0 r1 r2 r3 HK HK1 HWB HB0 HBB hgr hat hown hb4
      have xz := blk_frozen hk2; have rz := blk_frozen hk3
      have x3 := xz 3; have rz0 := rz 0; have rz1 := rz 1; have rz2 := rz 2; have rz3 := rz 3
      obtain ⟨e0, e1, e2, e3⟩ := box_cells hk2
      obtain ⟨r0, r1, r2, r3⟩ := box_cells hk3
      clear xz rz hk2 hk3
      go_wp2_with fail
      obtain ⟨f1, f2, f3⟩ := fin5 (o := o) (n := n) (s := s) HK3.out (by omega) (by omega) HOW.out HB4.out (.slice (some ⟨w.heap.size + 3, 0, none⟩) 1 cap)
      exact bodyPost_ret (results_cell_row rfl _ _ (w.heap.size + 1) 25 _ (0, 0) _ rfl f1 Tryd.underlying25 rfl (by kernel_rfl)) rfl (leaf0_post (ps := []) f2 (fun j p hp => by simp at hp) HB00.out f3)
    case inr.inr.inr.inr.inr =>
      subst hwy
      obtain ⟨ad, ps, rfl, hps, hcell, hrd⟩ := rows_of HC.out hl
      have hps : ps.map Prod.fst = xs := hps
      have hpl : ps.length = xs.length := by rw [← hps, List.length_map]
      have HTL := Lib.hid (show (ps.flatMap tv).length = xs.length * 4 by rw [tv_len, hpl])
      have HCE := Lib.hid (show ∀ (j : Nat) (u : Value), (ps.flatMap tv)[j]? = some u → wb.cell? (ad.add j) = some u from fun j u hu => Kd.cell_heap (fun k hk => HBB.out.block k hk) (hcell j u hu))
      have HPS := Lib.hid hps; have HRD := Lib.hid hrd; have HPL := Lib.hid hpl
      have HT := Lib.hid (tv_one ps)
      clear hps hcell hrd hpl
      obtain ⟨i3, hi3, hz30, hz31, hz32⟩ := info_parts info25o
      go_wp2_with (at_builtin; rw [← HWB.out]; refine wpList_append_lies wb rfl _ _ 23 rfl w.heap.size 25 i3 (.agg #[(.int .u8 0), (.int .i64 0), (.string ⟨#[]⟩), (.slice none 0 0)]) 4 56 Tryd.underlying23 hi3 hz30 hz31 hz32 rfl (by decide) (.slice none 0 0) 0 [] rfl ⟨rfl, .inl ⟨rfl, rfl⟩⟩ ad xs.length c (ps.flatMap tv) rfl HTL.out (HCE.out) HT.out hl ?h63 ?hby ?hba _ rfl ?_)
      case h63 => unfold maxLen; omega
      case hby => omega
      case hba => exact HB0.out.size
      intro g cap w1 hown hgr hat hlt
      have hsz : wb.heap.size = w.heap.size + 2 := by rw [HWB.out]; simp
      obtain rfl : g = w.heap.size + 2 := by
        rcases hat with h | h
        · simp [Value.ownBlock] at h
        · rw [h, hsz]
      have hk2 := (hgr.block w.heap.size (by omega) (by simp [Value.ownBlock])).trans HK.out
      have hk3 := (hgr.block (w.heap.size + 1) (by omega) (by simp [Value.ownBlock])).trans HK1.out
      have hb1 : Below w.heap.size w w1 := HB0.out.grown hgr HB0.out.size (fun k hk => by simp [Value.ownBlock] at hk)
      try simp only [Nat.zero_add, List.nil_append] at hown
      try rw [Nat.zero_add]
      have hown1 : (w1.alloc (.cells #[.int .u8 2, .int .i64 0, .string ⟨#[]⟩, .slice none 0 0] 25)).ownsRow w.heap.size 25 4 (.slice (some ⟨w.heap.size + 2, 0, none⟩) xs.length cap) xs.length (ps.flatMap tv) :=
        B.own_kept hown (fun k hk => Below.heap_alloc w1 _ k (own_lt hown k hk))
      have HO1 := Lib.hid hown1; have HK2 := Lib.hid hk2; have HK3 := Lib.hid hk3; have HB1 := Lib.hid hb1
      have hs1 : w.heap.size + 2 < w1.heap.size := hlt
      clear e0 e1 e2 e3 x0 x1 x2 x3 rz0 rz1 rz2 rz3 r0 r1 r2 r3 HK HK1 HWB HB0 HBB hgr hat hown hown1 hk2 hk3 hb1 hsz hlt HCE HTL HT
      go_wp2_with (at_builtin; refine wpList_append_lies _ rfl _ _ 23 rfl w.heap.size 25 i3 (.agg #[(.int .u8 0), (.int .i64 0), (.string ⟨#[]⟩), (.slice none 0 0)]) 4 56 Tryd.underlying23 hi3 hz30 hz31 hz32 rfl (by decide) (.slice (some ⟨w.heap.size + 2, 0, none⟩) xs.length cap) xs.length (ps.flatMap tv) rfl HO1.out ⟨w1.heap.size, 0, none⟩ 1 _ [.int .u8 2, .int .i64 0, .string ⟨#[]⟩, .slice none 0 0] rfl rfl (World.news_of_block (heap_alloc_new w1 _)) (by decide) (by decide) (by unfold maxLen; omega) (by omega) (by simp; omega) (w1.heap.size + 1) (by simp) ?_)
      intro g2 cap2 w4 hown2 hgr2 hat2 hlt2
      have hg2 : g2 ≠ w.heap.size ∧ g2 ≠ w.heap.size + 1 := by
        rcases hat2 with h | h
        · have : w.heap.size + 2 = g2 := by simpa [Value.ownBlock] using h
          omega
        · omega
      have hk2 := (hgr2.block w.heap.size (by simp; omega) (by simp [Value.ownBlock])).trans (blk_alloc HK2.out _)
      have hk3 := (hgr2.block (w.heap.size + 1) (by simp; omega) (by simp [Value.ownBlock])).trans (blk_alloc HK3.out _)
      have hb4 := (HB1.out.alloc HB1.out.size _).grown hgr2 (by simp; omega) (fun k hk => by
        have : w.heap.size + 2 = k := by simpa [Value.ownBlock] using hk
        omega)
      have HOW := Lib.hid hown2; have HK3' := Lib.hid hk3; have HB4 := Lib.hid hb4; have HG := Lib.hid hg2
      clear HO1 HK2 HK3 HB1 hgr2 hat2 hlt2 hown2 hb4 hg2
      have xz := blk_frozen hk2; have rz := blk_frozen hk3
      have x3 := xz 3; have rz0 := rz 0; have rz1 := rz 1; have rz2 := rz 2; have rz3 := rz 3
      obtain ⟨e0, e1, e2, e3⟩ := box_cells hk2
      obtain ⟨r0, r1, r2, r3⟩ := box_cells hk3
      clear xz rz hk2 hk3
      go_wp2_with fail
      obtain ⟨f1, f2, f3⟩ := fin5 (o := o) (n := n) (s := s) HK3'.out HG.out.1 HG.out.2 HOW.out HB4.out (.slice (some ⟨g2, 0, none⟩) (xs.length + 1) cap2)
      have hfin := leaf0_post (o := o) (n := n) (s := s) (ps := ps) (g := g2) (cap := cap2) (by rw [HPL.out]; exact f2) HRD.out HB00.out f3
      rw [HPS.out, HPL.out] at hfin
      exact bodyPost_ret (results_cell_row rfl _ _ (w.heap.size + 1) 25 _ (0, 0) _ rfl f1 Tryd.underlying25 rfl (by kernel_rfl)) rfl hfin
theorem odd_all : ∀ k, k ≤ 8 → OddIs k
  | 0, h => odd_walk 0 h (fun m hm => by omega)
  | k + 1, h => odd_walk (k + 1) h (fun m hm => (show k = m by omega) ▸ odd_all k (by omega))
end Go.Proofs.YtbdciibbgiphcaaDoor.V
