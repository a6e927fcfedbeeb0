/- ExprsGreat: the law's walk. -/
import Derived.Test.YtbdciibbgiphcaaDoorNH
import Derived.Test.YtbdciibbgiphcaaDoorGrT
import Derived.Test.YtbdciibbgiphcaaDoorOdP
import Derived.Deep.RegionHeld3
import Derived.Deep.AppendLies
import Derived.Deep.Cut
import Derived.Lib.Hide
import Derived.LoopTactic
import Derived.IntWalk
namespace Go.Proofs.YtbdciibbgiphcaaDoor.V
set_option linter.unusedVariables false
set_option linter.unusedSimpArgs false
set_option linter.unusedSectionVars false
open Go.RowKit Go.Proofs.YtbdciibbgiphcaaDoorW.PrintWords Go.Proofs.YtbdciibbgiphcaaDoorW.PrintLast Go.Proofs.YtbdciibbgiphcaaDoorW.PrintMore
theorem below4 {B : Nat} {a w : World} (h : Below B a w) {p : Nat} (hp : B ≤ p) (a0 a1 a2 a3 : Value) : Below B a ((((w.setCell ⟨p, 0, none⟩ a0).setCell ⟨p, 1, none⟩ a1).setCell ⟨p, 2, none⟩ a2).setCell ⟨p, 3, none⟩ a3) :=
  (((h.setCell (p := ⟨p, 0, none⟩) hp _).setCell (p := ⟨p, 1, none⟩) hp _).setCell (p := ⟨p, 2, none⟩) hp _).setCell (p := ⟨p, 3, none⟩) hp _
theorem cell_al2 {w : World} {p : Addr} {v : Value} (h : w.cell? p = some v) (o : Obj) : (w.alloc o).cell? p = some v := by
  rw [World.cell?_alloc_some _ _ _ (by rw [h]; rfl)]; exact h
theorem one15 (g : Nat) : ∀ u ∈ ([.int .u8 15, .int .i64 0, .string ⟨#[]⟩, .slice (some ⟨g, 0, none⟩) 2 2] : List Value), u.oneCell' = true := by
  intro u hu
  simp only [List.mem_cons, List.not_mem_nil, or_false] at hu
  rcases hu with rfl | rfl | rfl | rfl <;> rfl
theorem one_tv (p : S25 × Option Addr × Nat) : ∀ u ∈ tv p, u.oneCell' = true := by
  intro u hu
  simp only [tv, List.mem_cons, List.not_mem_nil, or_false] at hu
  rcases hu with rfl | rfl | rfl | rfl <;> rfl
theorem addr0 (ad : Addr) : ad.add ((0 : Int).toNat * 4) = ad := by
  have : (0 : Int).toNat * 4 = 0 := rfl
  rw [this]
  cases ad
  simp [Addr.add]
def lenV : Value → Nat
  | .slice _ n _ => n
  | _ => 0
set_option maxHeartbeats 8000000 in
set_option maxRecDepth 100000 in
theorem exprsGreat_walk (n : Nat) (hn : n ≤ 65535) (w : World) (hv : VarOk w) (ht : VarT w) :
    Calls Tryd.prog 7 #[.int .u16 n] w fun e w' => e = .returned (.bool true) ∧ Below w.heap.size w w' := by
  have HV := Lib.hid hv; have HT := Lib.hid ht
  obtain ⟨k, hk, hk3⟩ : ∃ k : Nat, (n : Int) % 300 = k ∧ k < 300 := ⟨n % 300, by omega, by omega⟩
  clear hv ht
  go_enter Tryd.func7, Tryd.ntmps7
  go_wp2_with fail
  refine (name_law ⟨#[97]⟩ _).mono ?_
  rintro e w1 ⟨rfl, hb⟩
  have HB1 := Lib.hid (hb.alloc hb.size (.cells #[.int .u8 3, .int .i64 0, .string ⟨#[97]⟩, .slice none 0 0] 25))
  have HD1 := Lib.hid (heap_alloc_new w1 (.cells #[.int .u8 3, .int .i64 0, .string ⟨#[97]⟩, .slice none 0 0] 25))
  obtain ⟨db, hdb⟩ : ∃ db, db = w1.heap.size := ⟨_, rfl⟩
  have hdb0 : w.heap.size ≤ db := by rw [hdb]; exact hb.size
  rw [← hdb] at HD1
  clear hb
  go_wp2_with fail
  rw [← hdb]
  clear hdb
  refine (name_law ⟨#[97]⟩ _).mono ?_
  rintro e w2 ⟨rfl, hb⟩
  have HB2 := Lib.hid (HB1.out.trans (hb.mono HB1.out.size))
  have HD2 := kp2 hb HD1.out
  have HB3 := Lib.hid (HB2.out.alloc HB2.out.size (.cells #[.int .u8 3, .int .i64 0, .string ⟨#[97]⟩, .slice none 0 0] 25))
  have HR3 := Lib.hid (heap_alloc_new w2 (.cells #[.int .u8 3, .int .i64 0, .string ⟨#[97]⟩, .slice none 0 0] 25))
  have HD3 := Lib.hid (blk_alloc HD2.out (.cells #[.int .u8 3, .int .i64 0, .string ⟨#[97]⟩, .slice none 0 0] 25))
  have hdr := blk_lt HD2.out
  obtain ⟨rb, hrb⟩ : ∃ rb, rb = w2.heap.size := ⟨_, rfl⟩
  rw [← hrb] at HR3 hdr
  clear hb HB1 HD1 HB2 HD2
  go_wp2_with fail
  rw [← hrb]
  clear hrb
  generalize w2.alloc (.cells #[.int .u8 3, .int .i64 0, .string ⟨#[97]⟩, .slice none 0 0] 25) = W at *
  have hrW := blk_lt HR3.out
  obtain ⟨bt, hbt⟩ : ∃ bt, bt = W.heap.size := ⟨_, rfl⟩
  have hF0 : Kd.F k25 W (fun q => bt ≤ q) none (nD 0).f3.length (nD 0).f3 := Kd.F_nil k25 W _
  have HF0 := Lib.hid hF0
  rw [← hbt] at hrW
  have hbW : bt ≤ W.heap.size := by omega
  clear hF0 hbt
  go_loopw [6, 7] (fun tv iv wr => ∃ (i : Nat) (A : Option Addr) (c : Nat), iv = .int .i64 ((i + 1 : Nat) : Int) ∧ (i + 1 ≤ k ∨ i = 0) ∧ tv = .string (txB i) ∧ (nD i).f3.length ≤ c ∧ bt ≤ wr.heap.size ∧ Hid (wr.heap[db]? = some (.cells #[.int .u8 (nD i).f0, .int .i64 (nD i).f1, .string (nD i).f2, .slice A (nD i).f3.length c] 25 (0, 0))) ∧
    Hid (Kd.F k25 wr (fun q => bt ≤ q) A (nD i).f3.length (nD i).f3) ∧ Hid (wr.heap[rb]? = some (.cells #[.int .u8 3, .int .i64 0, .string ⟨#[97]⟩, .slice none 0 0] 25 (0, 0))) ∧ Hid (Below w.heap.size w wr)) (fun _ iv _ => k + 1 - (intOf iv).toNat)
  case atStart => exact ⟨0, none, 0, rfl, .inr rfl, rfl, Nat.le_refl _, hbW, HD3, HF0, HR3, HB3⟩
  case round =>
    clear HD3 HF0 HR3 HB3
    obtain ⟨i, A, c, rfl, hi, rfl, hc, hbr, HD, HF, HR, HB⟩ := hrel
    obtain ⟨X, hX⟩ : ∃ X, X = nD i := ⟨_, rfl⟩
    obtain ⟨tx, htx⟩ : ∃ tx, tx = txB i := ⟨_, rfl⟩
    have hadd : i < 300 → ∀ w : World, (Op.stringOp .add tx ⟨#[110, 111, 116, 32]⟩).run Tryd.prog w = .ok (.string (tx ++ ⟨#[110, 111, 116, 32]⟩)) w := fun h w => run_string_add_sum w tx ⟨#[110, 111, 116, 32]⟩ (by
      have h4 : (⟨#[110, 111, 116, 32]⟩ : ByteArray).size = 4 := rfl
      have h5 : tx.size = 4 * i := htx ▸ txB_size i
      omega)
    rw [← hX] at hc HD HF
    rw [← htx]
    have HX := Lib.hid hX; have HTX := Lib.hid htx
    clear hX htx
    by_cases hlt : i + 1 < k
    · obtain ⟨b0, b1, b2, b3⟩ := box_cells HD.out
      replace hadd := hadd (by omega)
      go_wp2_with fail
      have hcq := heap_alloc_new wr (.cells #[.int .u8 X.f0, .int .i64 X.f1, .string X.f2, .slice A X.f3.length c] 25)
      have hbq : Below wr.heap.size wr (wr.alloc (.cells #[.int .u8 X.f0, .int .i64 X.f1, .string X.f2, .slice A X.f3.length c] 25)) := (Below.refl _ _).alloc (Nat.le_refl _) _
      have HBQ := Lib.hid hbq; have HCQ := Lib.hid hcq
      clear hcq hbq
      refine (of_law 5 _ 1 1 _).mono ?_
      rintro e w3 ⟨rfl, hb⟩
      have hq := HBQ.out.trans (hb.mono HBQ.out.size)
      have hcq := kp2 hb HCQ.out
      have HF3 := Lib.hid (lit_F (ok := fun q => bt ≤ q) [(X, A, c)] _ rfl hcq.out hbr (fun p hp => by
        rw [List.mem_singleton] at hp
        subst hp
        exact ⟨hc, Kd.F_below HF.out hq⟩) (by unfold maxLen; simp))
      have HD3 := kp2 hq HD.out
      have HR3 := kp2 hq HR.out
      have HB3 := Lib.hid (HB.out.trans (hq.mono HB.out.size))
      have hb3 : bt ≤ w3.heap.size := Nat.le_trans hbr hq.size
      clear b0 b1 b2 b3 hb hq hcq HBQ HCQ HD HR HB HF
      have xz := blk_frozen HD3.out
      have z0 := xz 0; have z1 := xz 1; have z2 := xz 2; have z3 := xz 3
      obtain ⟨b0, b1, b2, b3⟩ := box_cells HD3.out
      have hdb1 : db < bt := by omega
      clear xz
      go_wp2_with fail
      have hbox : ((((w3.setCell ⟨db, 0, none⟩ (.int .u8 5)).setCell ⟨db, 1, none⟩ (.int .i64 0)).setCell ⟨db, 2, none⟩ (.string ⟨#[]⟩)).setCell ⟨db, 3, none⟩ (.slice (some ⟨wr.heap.size, 0, none⟩) 1 1)).heap[db]? = some (.cells #[.int .u8 5, .int .i64 0, .string ⟨#[]⟩, .slice (some ⟨wr.heap.size, 0, none⟩) 1 1] 25 (0, 0)) := by
        refine blk_put (cs := #[.int .u8 5, .int .i64 0, .string ⟨#[]⟩, .slice A X.f3.length c]) ?_ 3 _ rfl
        refine blk_put (cs := #[.int .u8 5, .int .i64 0, .string X.f2, .slice A X.f3.length c]) ?_ 2 _ rfl
        refine blk_put (cs := #[.int .u8 5, .int .i64 X.f1, .string X.f2, .slice A X.f3.length c]) ?_ 1 _ rfl
        exact blk_put HD3.out 0 _ rfl
      have hrb3 : ((((w3.setCell ⟨db, 0, none⟩ (.int .u8 5)).setCell ⟨db, 1, none⟩ (.int .i64 0)).setCell ⟨db, 2, none⟩ (.string ⟨#[]⟩)).setCell ⟨db, 3, none⟩ (.slice (some ⟨wr.heap.size, 0, none⟩) 1 1)).heap[rb]? = some (.cells #[.int .u8 3, .int .i64 0, .string ⟨#[97]⟩, .slice none 0 0] 25 (0, 0)) := blk_far4 HR3.out (by omega) _ _ _ _
      have hbel : Below w.heap.size w ((((w3.setCell ⟨db, 0, none⟩ (.int .u8 5)).setCell ⟨db, 1, none⟩ (.int .i64 0)).setCell ⟨db, 2, none⟩ (.string ⟨#[]⟩)).setCell ⟨db, 3, none⟩ (.slice (some ⟨wr.heap.size, 0, none⟩) 1 1)) := below4 HB3.out hdb0 _ _ _ _
      have hnd : nD (i + 1) = ⟨5, 0, ⟨#[]⟩, [X]⟩ := by rw [HX.out]; rfl
      have hFF := F_set4 HF3.out (p := db) (fun q hq => by omega) (.int .u8 5) (.int .i64 0) (.string ⟨#[]⟩) (.slice (some ⟨wr.heap.size, 0, none⟩) 1 1)
      have htt : tx ++ ⟨#[110, 111, 116, 32]⟩ = txB (i + 1) := by rw [HTX.out]; rfl
      have hbz : bt ≤ ((((w3.setCell ⟨db, 0, none⟩ (.int .u8 5)).setCell ⟨db, 1, none⟩ (.int .i64 0)).setCell ⟨db, 2, none⟩ (.string ⟨#[]⟩)).setCell ⟨db, 3, none⟩ (.slice (some ⟨wr.heap.size, 0, none⟩) 1 1)).heap.size := by simp [World.setCell]; exact hb3
      exact ⟨⟨i + 1, some ⟨wr.heap.size, 0, none⟩, 1, by go_num, .inl (by omega), by rw [htt], by rw [hnd]; exact Nat.le_refl _, hbz, Lib.hid (by rw [hnd]; exact hbox), Lib.hid (by rw [hnd]; exact hFF), Lib.hid hrb3, Lib.hid hbel⟩, by simp [intOf]; omega⟩
    · have hik : (k = 0 ∧ i = 0) ∨ i + 1 = k := by omega
      have hmi : ¬ (((i + 1 : Nat) : Int) < (k : Int)) := by omega
      generalize ((i + 1 : Nat) : Int) = mi at hmi ⊢
      have hdec : decide (mi < (k : Int)) = false := decide_eq_false hmi
      clear hi
      go_wp2_with fail
      clear hdec hmi
      have hC5 := Kd.F_now HF.out
      have hO5 : (wr.alloc (.cells #[] 25)).ownsRow wr.heap.size 25 4 (.slice (some ⟨wr.heap.size, 0, none⟩) 0 0) 0 ((List.replicate 0 ((lfA, none, 0) : S25 × Option Addr × Nat)).flatMap tv) := ⟨rfl, .inr ⟨wr.heap.size, 0, #[], rfl, Nat.le_refl _, heap_alloc_new wr _, Nat.le_refl _, by decide, rfl, rfl⟩⟩
      have HC5 := Lib.hid hC5; have HO5 := Lib.hid hO5
      have HB5 := Lib.hid (show Below wr.heap.size wr (wr.alloc (.cells #[] 25)) from (Below.refl _ _).alloc (Nat.le_refl _) _)
      obtain ⟨w5, hw5⟩ : ∃ w5, w5 = wr := ⟨_, rfl⟩
      rw [← hw5] at HC5 HO5 HB5 HD HR HB hbr
      rw [← hw5]
      clear hC5 hO5 HF hw5
      go_loopw [8, 9] (fun fv iv wr => ∃ (j : Nat) (T : Option Addr) (cc : Nat), iv = .int .i64 j ∧ j ≤ k ∧ fv = .slice T j cc ∧ Hid (wr.ownsRow w5.heap.size 25 4 (.slice T j cc) j ((List.replicate j ((lfA, none, 0) : S25 × Option Addr × Nat)).flatMap tv)) ∧ Hid (Below w5.heap.size w5 wr)) (fun _ iv _ => k - (intOf iv).toNat)
      case atStart => exact ⟨0, _, _, rfl, Nat.zero_le _, rfl, HO5, HB5⟩
      case round =>
        clear HO5 HB5
        obtain ⟨j, T, cc, rfl, hj, rfl, HO, HBR⟩ := hrel
        by_cases hlt2 : j < k
        · have hkr := kp2 HBR.out HR.out
          obtain ⟨b0, b1, b2, b3⟩ := box_cells hkr.out
          obtain ⟨i3, hi3, hz30, hz31, hz32⟩ := info_parts info25o
          have HOA := Lib.hid (B.own_kept HO.out (w' := wr.alloc (.cells #[.int .u8 3, .int .i64 0, .string ⟨#[97]⟩, .slice none 0 0] 25)) (fun q hq => Below.heap_alloc wr _ q (own_lt HO.out q hq)))
          have hsz := HBR.out.size
          have HOW := Lib.hid (fun q hq => own_base HO.out q hq)
          have hrp : (List.replicate (j + 1) ((lfA, none, 0) : S25 × Option Addr × Nat)).flatMap tv = (List.replicate j ((lfA, none, 0) : S25 × Option Addr × Nat)).flatMap tv ++ [.int .u8 3, .int .i64 0, .string ⟨#[97]⟩, .slice none 0 0] := by
            rw [List.replicate_succ', List.flatMap_append]; rfl
          have HRP := Lib.hid hrp
          clear HO hrp hkr
          go_wp2_with (at_builtin; refine wpList_append_lies _ rfl _ _ 23 rfl w5.heap.size 25 i3 (.agg #[(.int .u8 0), (.int .i64 0), (.string ⟨#[]⟩), (.slice none 0 0)]) 4 56 Tryd.underlying23 hi3 hz30 hz31 hz32 rfl (by decide) (.slice T j cc) j ((List.replicate j ((lfA, none, 0) : S25 × Option Addr × Nat)).flatMap tv) rfl HOA.out ⟨wr.heap.size, 0, none⟩ 1 _ [.int .u8 3, .int .i64 0, .string ⟨#[97]⟩, .slice none 0 0] rfl rfl (World.news_of_block (heap_alloc_new wr _)) (by decide) (by decide) (by unfold maxLen; omega) (by omega) (by simp; omega) (wr.heap.size + 1) (by simp) ?_)
          intro g cap w9 hown hgr hat hlt9
          have HB10 := Lib.hid ((HBR.out.alloc hsz _).grown hgr (by simp; omega) (fun q hq => HOW.out q hq))
          have HO10 := Lib.hid hown
          clear hown hgr hat hlt9 HOW HBR HOA b0 b1 b2 b3
          go_wp2_with fail
          exact ⟨⟨j + 1, some ⟨g, 0, none⟩, cap, by go_num, by omega, rfl, Lib.hid (by rw [HRP.out]; exact HO10.out), HB10⟩, by simp [intOf]; omega⟩
        · obtain rfl : j = k := by omega
          have hR9 : Kd.C k25 wr T (List.replicate j lfA).length (List.replicate j lfA) := by
            have hp : (List.replicate j ((lfA, none, 0) : S25 × Option Addr × Nat)).length = j := List.length_replicate
            have ho : wr.ownsRow w5.heap.size 25 4 (.slice T j cc) (List.replicate j ((lfA, none, 0) : S25 × Option Addr × Nat)).length ((List.replicate j ((lfA, none, 0) : S25 × Option Addr × Nat)).flatMap tv) := by rw [hp]; exact HO.out
            obtain ⟨A9, c9, hv9, _, hC9⟩ := row_reads ho (fun q p hq => by
              have := List.eq_of_mem_replicate (List.mem_of_getElem? hq)
              subst this
              exact ⟨Nat.le_refl _, Kd.C_nil k25 wr⟩)
            injection hv9 with hA9
            subst hA9
            rw [hp, List.map_replicate] at hC9
            rw [List.length_replicate]
            exact hC9
          have HR9 := Lib.hid hR9
          have HBAL := Lib.hid (bal_start j (by omega))
          have hcc : j ≤ cc := own_cap' HO.out
          clear hR9 HO
          go_wp2_with fail
          go_loopw [8] (fun fv wr => ∃ (fl : List S25) (T : Option Addr) (cc : Nat), fv = .slice T fl.length cc ∧ fl.length ≤ cc ∧ Hid (Bal j fl) ∧ Hid (Kd.C k25 wr T fl.length fl) ∧ Hid (Below w5.heap.size w5 wr)) (fun fv _ => lenV fv)
          case atStart => exact ⟨List.replicate j lfA, T, cc, by rw [List.length_replicate], by rw [List.length_replicate]; exact hcc, HBAL, HR9, HBR⟩
          case round =>
            clear HBAL HR9 HBR hcc
            obtain ⟨fl, T, cc, rfl, hcc, HBAL, HR9, HBR⟩ := hrel
            have hl512 : fl.length ≤ 2048 := by
              obtain ⟨d, e, N, _, _, h1, h2, _⟩ := HBAL.out
              exact Nat.le_trans h1 (Nat.pow_le_pow_right (by omega) (show e ≤ 11 by omega))
            by_cases hgt : 1 < fl.length
            · obtain ⟨w6, hw6⟩ : ∃ w6, w6 = wr := ⟨_, rfl⟩
              have HBR6 : Hid (Below w6.heap.size w6 wr) := by rw [hw6]; exact Lib.hid (Below.refl _ _)
              rw [← hw6] at HR9 HBR
              clear hw6
              have hd1 : decide ((1 : Int) < (fl.length : Int)) = true := decide_eq_true (by omega)
              go_wp2_with fail
              clear hd1
              go_loopw [10, 11] (fun nv iv wr => ∃ (m : Nat) (ps : List (S25 × Option Addr × Nat)) (T2 : Option Addr) (c2 : Nat), iv = .int .i64 ((2 * m : Nat) : Int) ∧ 2 * m ≤ fl.length ∧ nv = .slice T2 ps.length c2 ∧ Hid (ps.map Prod.fst = prs (fl.take (2 * m))) ∧
                Hid (wr.ownsRow w6.heap.size 25 4 (.slice T2 ps.length c2) ps.length (ps.flatMap tv)) ∧ Hid (∀ (q : Nat) p, ps[q]? = some p → p.1.f3.length ≤ p.2.2 ∧ Kd.F k25 wr (fun b => True ∧ some b ≠ (Value.slice T2 ps.length c2).ownBlock) p.2.1 p.1.f3.length p.1.f3) ∧ Hid (Below w6.heap.size w6 wr)) (fun _ iv _ => fl.length - (intOf iv).toNat)
              case atStart => exact ⟨0, [], none, 0, rfl, Nat.zero_le _, rfl, Lib.hid rfl, Lib.hid (World.ownsRow_nil _ _ _ _), Lib.hid (fun q p h => by simp at h), HBR6⟩
              case round =>
                clear HBR6
                obtain ⟨m, ps, T2, c2, rfl, hm, rfl, HPS, HO, HEL, HBR6⟩ := hrel
                have HTW2 := Lib.hid (fun x y (hx : fl[2 * m]? = some x) (hy : fl[2 * m + 1]? = some y) => prs_two m fl x y hx hy)
                have HOD := Lib.hid (fun x (hl : fl.length = 2 * m + 1) (hx : fl[2 * m]? = some x) => prs_odd m fl x hl hx)
                rw [show 2 * (m + 1) = 2 * m + 2 by omega] at HTW2
                obtain ⟨i9, hi9⟩ : ∃ i9, i9 = 2 * m := ⟨_, rfl⟩
                have HI9 := Lib.hid hi9
                rw [← hi9] at hm HPS HTW2 HOD
                rw [← hi9]
                clear hi9
                by_cases hlt3 : i9 + 1 < fl.length
                · obtain ⟨x, hx⟩ : ∃ x, fl[i9]? = some x := ⟨_, List.getElem?_eq_getElem (by omega)⟩
                  obtain ⟨y, hy⟩ : ∃ y, fl[i9 + 1]? = some y := ⟨_, List.getElem?_eq_getElem hlt3⟩
                  have HTW := Lib.hid (HTW2.out x y hx hy)
                  obtain ⟨ad, A3, c3, hA, q0, q1, q2, q3, hl3, hC3⟩ := at_T25 HR9.out ((i9 : Nat) : Int) (by omega) (by omega)
                  subst hA
                  obtain ⟨ad', A4, c4, hA', p0, p1, p2, p3, hl4, hC4⟩ := at_T25 HR9.out ((i9 + 1 : Nat) : Int) (by omega) (by omega)
                  obtain rfl : ad = ad' := by injection hA'
                  have hrx : rd_T25 fl ((i9 : Nat) : Int) = x := by unfold rd_T25; rw [Int.toNat_natCast, List.getD_eq_getElem?_getD, hx]; rfl
                  have hry : rd_T25 fl ((i9 + 1 : Nat) : Int) = y := by unfold rd_T25; rw [Int.toNat_natCast, List.getD_eq_getElem?_getD, hy]; rfl
                  rw [hrx] at q0 q1 q2 q3 hl3 hC3
                  rw [hry] at p0 p1 p2 p3 hl4 hC4
                  simp only [Int.toNat_natCast] at q0 q1 q2 q3 p0 p1 p2 p3
                  have HQ6 := Lib.hid (And.intro q0 (And.intro q1 (And.intro q2 (And.intro q3 (And.intro p0 (And.intro p1 (And.intro p2 p3)))))))
                  replace q0 := keep_cell HBR6.out (Nat.le_refl _) q0; replace q1 := keep_cell HBR6.out (Nat.le_refl _) q1; replace q2 := keep_cell HBR6.out (Nat.le_refl _) q2; replace q3 := keep_cell HBR6.out (Nat.le_refl _) q3; replace p0 := keep_cell HBR6.out (Nat.le_refl _) p0; replace p1 := keep_cell HBR6.out (Nat.le_refl _) p1; replace p2 := keep_cell HBR6.out (Nat.le_refl _) p2; replace p3 := keep_cell HBR6.out (Nat.le_refl _) p3
                  have HL3 := Lib.hid hl3; have HC3 := Lib.hid hC3; have HL4 := Lib.hid hl4; have HC4 := Lib.hid hC4
                  clear hx hy hl3 hC3 hl4 hC4 hrx hry hA'
                  have hi1 : (0 : Int) ≤ ((i9 : Nat) : Int) := by omega
                  have hi2 : ((i9 : Nat) : Int) < (fl.length : Int) := by omega
                  have hi3 : ((i9 : Nat) : Int) + 1 < (fl.length : Int) := by omega
                  have htn : ((i9 : Int) + 1).toNat = i9 + 1 := by omega
                  have hi4 : (0 : Int) ≤ (i9 : Int) + 1 := by omega
                  have hwi : IntKind.i64.wrap ((i9 : Int) + 1) = (i9 : Int) + 1 := by rw [IntKind.wrap_i64]; omega
                  go_wp2_with fail
                  refine wp_region_held_drew (S := fun w' => w'.cell? (ad.add (i9 * 4)) = some (.int .u8 x.f0) ∧ w'.cell? ⟨(ad.add (i9 * 4)).block, (ad.add (i9 * 4)).off + 1, none⟩ = some (.int .i64 x.f1) ∧ w'.cell? ⟨(ad.add (i9 * 4)).block, (ad.add (i9 * 4)).off + 2, none⟩ = some (.string x.f2) ∧ w'.cell? ⟨(ad.add (i9 * 4)).block, (ad.add (i9 * 4)).off + 3, none⟩ = some (.slice A3 x.f3.length c3) ∧ w'.cell? (ad.add ((i9 + 1) * 4)) = some (.int .u8 y.f0) ∧ w'.cell? ⟨(ad.add ((i9 + 1) * 4)).block, (ad.add ((i9 + 1) * 4)).off + 1, none⟩ = some (.int .i64 y.f1) ∧ w'.cell? ⟨(ad.add ((i9 + 1) * 4)).block, (ad.add ((i9 + 1) * 4)).off + 2, none⟩ = some (.string y.f2) ∧ w'.cell? ⟨(ad.add ((i9 + 1) * 4)).block, (ad.add ((i9 + 1) * 4)).off + 3, none⟩ = some (.slice A4 y.f3.length c4)) (by kernel_rfl) ?_ (fun hHeld => ?_)
                  · exact ⟨q0, q1, q2, q3, p0, p1, p2, p3⟩
                  refine wpAnyH_take (i := 0) (oi := ?oi0) (v := ?v0) ?ho0 (by kernel_rfl) (by kernel_rfl) (by kernel_rfl) ?hq0 (Or.inl ⟨?hw0, ?hy0⟩) hHeld ?rest0
                  case ho0 => simp only [List.getElem?_toArray, List.getElem?_cons_succ, List.getElem?_cons_zero]; rfl
                  case hq0 => exact fun _ _ _ h => h
                  case hw0 => rfl
                  case hy0 => (intro w hSw; (try dsimp only at hSw); go_simp; try with_reducible rfl)
                  try simp only [Act.put, List.setIfInBounds_toArray, List.set_cons_zero, List.set_cons_succ]
                  refine wpAnyH_take (i := 1) (oi := ?oi1) (v := ?v1) ?ho1 (by kernel_rfl) (by kernel_rfl) (by kernel_rfl) ?hq1 (Or.inl ⟨?hw1, ?hy1⟩) hHeld ?rest1
                  case ho1 => simp only [List.getElem?_toArray, List.getElem?_cons_succ, List.getElem?_cons_zero]; rfl
                  case hq1 => exact fun _ _ _ h => h
                  case hw1 => rfl
                  case hy1 => (intro w hSw; (try dsimp only at hSw); go_simp; try with_reducible rfl)
                  try simp only [Act.put, List.setIfInBounds_toArray, List.set_cons_zero, List.set_cons_succ]
                  refine wpAnyH_take (i := 2) (oi := ?oi2) (v := ?v2) ?ho2 (by kernel_rfl) (by kernel_rfl) (by kernel_rfl) ?hq2 (Or.inl ⟨?hw2, ?hy2⟩) hHeld ?rest2
                  case ho2 => simp only [List.getElem?_toArray, List.getElem?_cons_succ, List.getElem?_cons_zero]; rfl
                  case hq2 => exact fun _ _ _ h => h
                  case hw2 => rfl
                  case hy2 => (intro w hSw; (try dsimp only at hSw); go_simp; try with_reducible rfl)
                  try simp only [Act.put, List.setIfInBounds_toArray, List.set_cons_zero, List.set_cons_succ]
                  refine wpAnyH_take (i := 3) (oi := ?oi3) (v := ?v3) ?ho3 (by kernel_rfl) (by kernel_rfl) (by kernel_rfl) ?hq3 (Or.inl ⟨?hw3, ?hy3⟩) hHeld ?rest3
                  case ho3 => simp only [List.getElem?_toArray, List.getElem?_cons_succ, List.getElem?_cons_zero]; rfl
                  case hq3 => exact fun _ _ _ h => h
                  case hw3 => rfl
                  case hy3 => (intro w hSw; (try dsimp only at hSw); go_simp; try with_reducible rfl)
                  try simp only [Act.put, List.setIfInBounds_toArray, List.set_cons_zero, List.set_cons_succ]
                  refine wpAnyH_take (i := 4) (oi := ?oi4) (v := ?v4) ?ho4 (by kernel_rfl) (by kernel_rfl) (by kernel_rfl) ?hq4 (Or.inl ⟨?hw4, ?hy4⟩) hHeld ?rest4
                  case ho4 => simp only [List.getElem?_toArray, List.getElem?_cons_succ, List.getElem?_cons_zero]; rfl
                  case hq4 => exact fun _ _ _ h => h
                  case hw4 => rfl
                  case hy4 => (intro w hSw; (try dsimp only at hSw); go_simp; try with_reducible rfl)
                  try simp only [Act.put, List.setIfInBounds_toArray, List.set_cons_zero, List.set_cons_succ]
                  refine wpAnyH_take (i := 5) (oi := ?oi5) (v := ?v5) ?ho5 (by kernel_rfl) (by kernel_rfl) (by kernel_rfl) ?hq5 (Or.inl ⟨?hw5, ?hy5⟩) hHeld ?rest5
                  case ho5 => simp only [List.getElem?_toArray, List.getElem?_cons_succ, List.getElem?_cons_zero]; rfl
                  case hq5 => exact fun _ _ _ h => h
                  case hw5 => rfl
                  case hy5 => (intro w hSw; (try dsimp only at hSw); go_simp; try with_reducible rfl)
                  try simp only [Act.put, List.setIfInBounds_toArray, List.set_cons_zero, List.set_cons_succ]
                  refine wpAnyH_take (i := 6) (oi := ?oi6) (v := ?v6) ?ho6 (by kernel_rfl) (by kernel_rfl) (by kernel_rfl) ?hq6 (Or.inl ⟨?hw6, ?hy6⟩) hHeld ?rest6
                  case ho6 => simp only [List.getElem?_toArray, List.getElem?_cons_succ, List.getElem?_cons_zero]; rfl
                  case hq6 => exact fun _ _ _ h => h
                  case hw6 => rfl
                  case hy6 => (intro w hSw; (try dsimp only at hSw); go_simp; try with_reducible rfl)
                  try simp only [Act.put, List.setIfInBounds_toArray, List.set_cons_zero, List.set_cons_succ]
                  refine wpAnyH_take (i := 7) (oi := ?oi7) (v := ?v7) ?ho7 (by kernel_rfl) (by kernel_rfl) (by kernel_rfl) ?hq7 (Or.inl ⟨?hw7, ?hy7⟩) hHeld ?rest7
                  case ho7 => simp only [List.getElem?_toArray, List.getElem?_cons_succ, List.getElem?_cons_zero]; rfl
                  case hq7 => exact fun _ _ _ h => h
                  case hw7 => rfl
                  case hy7 => (intro w hSw; (try dsimp only at hSw); go_simp; try with_reducible rfl)
                  try simp only [Act.put, List.setIfInBounds_toArray, List.set_cons_zero, List.set_cons_succ]
                  refine wpAnyH_take (i := 8) (oi := ?oi8) (v := ?v8) ?ho8 (by kernel_rfl) (by kernel_rfl) (by kernel_rfl) ?hq8 (Or.inl ⟨?hw8, ?hy8⟩) hHeld ?rest8
                  case ho8 => simp only [List.getElem?_toArray, List.getElem?_cons_succ, List.getElem?_cons_zero]; rfl
                  case hq8 => exact fun _ _ _ h => h
                  case hw8 => rfl
                  case hy8 => (intro w hSw; (try dsimp only at hSw); go_simp; try with_reducible rfl)
                  try simp only [Act.put, List.setIfInBounds_toArray, List.set_cons_zero, List.set_cons_succ]
                  refine wpAnyH_take (i := 9) (oi := ?oi9) (v := ?v9) ?ho9 (by kernel_rfl) (by kernel_rfl) (by kernel_rfl) ?hq9 (Or.inl ⟨?hw9, ?hy9⟩) hHeld ?rest9
                  case ho9 => simp only [List.getElem?_toArray, List.getElem?_cons_succ, List.getElem?_cons_zero]; rfl
                  case hq9 => exact fun _ _ _ h => h
                  case hw9 => rfl
                  case hy9 => (intro w hSw; (try dsimp only at hSw); go_simp; try with_reducible rfl)
                  try simp only [Act.put, List.setIfInBounds_toArray, List.set_cons_zero, List.set_cons_succ]
                  refine wpAnyH_ready (rs := [10]) (by kernel_rfl) (by simp) ?_
                  refine AllReadyH.cons (o := ?oi10) ?ho10 (fun K hK => ?step10) AllReadyH.nil
                  case ho10 => simp only [List.getElem?_toArray, List.getElem?_cons_succ, List.getElem?_cons_zero]; rfl
                  go_simp
                  refine hK.out _ _ ?_ (fun hHeld2 => ?_)
                  · exact ⟨cell_al2 q0 _, cell_al2 q1 _, cell_al2 q2 _, cell_al2 q3 _, cell_al2 p0 _, cell_al2 p1 _, cell_al2 p2 _, cell_al2 p3 _⟩
                  clear hK hHeld
                  have hHeld := hHeld2
                  clear hHeld2
                  try simp only [Act.put, List.setIfInBounds_toArray, List.set_cons_zero, List.set_cons_succ]
                  have hbW : Below wr.heap.size wr (wr.alloc (.cells #[.int .u8 x.f0, .int .i64 x.f1, .string x.f2, .slice A3 x.f3.length c3, .int .u8 y.f0, .int .i64 y.f1, .string y.f2, .slice A4 y.f3.length c4] 25)).drew := ((Below.refl _ _).alloc (Nat.le_refl _) _).drew
                  have hcW : (wr.alloc (.cells #[.int .u8 x.f0, .int .i64 x.f1, .string x.f2, .slice A3 x.f3.length c3, .int .u8 y.f0, .int .i64 y.f1, .string y.f2, .slice A4 y.f3.length c4] 25)).drew.heap[wr.heap.size]? = some (.cells #[.int .u8 x.f0, .int .i64 x.f1, .string x.f2, .slice A3 x.f3.length c3, .int .u8 y.f0, .int .i64 y.f1, .string y.f2, .slice A4 y.f3.length c4] 25 (0, 0)) := heap_alloc_new wr _
                  have HBW := Lib.hid hbW; have HCW := Lib.hid hcW
                  clear hbW hcW q0 q1 q2 q3 p0 p1 p2 p3
                  obtain ⟨q0, q1, q2, q3, p0, p1, p2, p3⟩ := hHeld
                  have hHeld := And.intro q0 (And.intro q1 (And.intro q2 (And.intro q3 (And.intro p0 (And.intro p1 (And.intro p2 p3))))))
                  refine wpAnyH_ready (rs := [11]) (by kernel_rfl) (by simp) ?_
                  refine AllReadyH.cons (o := ?oi11) ?ho11 (fun K hK => ?step11) AllReadyH.nil
                  case ho11 => simp only [List.getElem?_toArray, List.getElem?_cons_succ, List.getElem?_cons_zero]; rfl
                  go_simp
                  go_at_call 24
                  refine (of_law 15 _ 2 2 _).mono ?_
                  rintro e w7 ⟨rfl, hb⟩
                  have HBX := Lib.hid (HBW.out.trans (hb.mono HBW.out.size))
                  have HCX := kp2 hb HCW.out
                  replace q0 := keep_cell hb (Nat.le_refl _) q0; replace q1 := keep_cell hb (Nat.le_refl _) q1; replace q2 := keep_cell hb (Nat.le_refl _) q2; replace q3 := keep_cell hb (Nat.le_refl _) q3; replace p0 := keep_cell hb (Nat.le_refl _) p0; replace p1 := keep_cell hb (Nat.le_refl _) p1; replace p2 := keep_cell hb (Nat.le_refl _) p2; replace p3 := keep_cell hb (Nat.le_refl _) p3
                  clear hb HBW HCW
                  go_wp2_with fail
                  refine hK.out _ _ ?_ (fun hHeld2 => ?_)
                  · exact ⟨q0, q1, q2, q3, p0, p1, p2, p3⟩
                  clear hK hHeld
                  have hHeld := hHeld2
                  clear hHeld2
                  try simp only [Act.put, List.setIfInBounds_toArray, List.set_cons_zero, List.set_cons_succ]
                  refine wpAnyH_ready (rs := [12]) (by kernel_rfl) (by simp) ?_
                  refine AllReadyH.cons (o := ?oi12) ?ho12 (fun K hK => ?step12) AllReadyH.nil
                  case ho12 => simp only [List.getElem?_toArray, List.getElem?_cons_succ, List.getElem?_cons_zero]; rfl
                  go_simp
                  refine hK.out _ _ ?_ (fun hHeld2 => ?_)
                  · exact ⟨cell_al2 q0 _, cell_al2 q1 _, cell_al2 q2 _, cell_al2 q3 _, cell_al2 p0 _, cell_al2 p1 _, cell_al2 p2 _, cell_al2 p3 _⟩
                  clear hK hHeld
                  have hHeld := hHeld2
                  clear hHeld2
                  try simp only [Act.put, List.setIfInBounds_toArray, List.set_cons_zero, List.set_cons_succ]
                  have hb8 : Below wr.heap.size wr (w7.alloc (.cells #[.int .u8 15, .int .i64 0, .string ⟨#[]⟩, .slice (some ⟨wr.heap.size, 0, none⟩) 2 2] 25)) := HBX.out.alloc HBX.out.size _
                  have hn8 : (w7.alloc (.cells #[.int .u8 15, .int .i64 0, .string ⟨#[]⟩, .slice (some ⟨wr.heap.size, 0, none⟩) 2 2] 25)).heap[w7.heap.size]? = some (.cells #[.int .u8 15, .int .i64 0, .string ⟨#[]⟩, .slice (some ⟨wr.heap.size, 0, none⟩) 2 2] 25 (0, 0)) := heap_alloc_new w7 _
                  have hc8 := blk_alloc HCX.out (.cells #[.int .u8 15, .int .i64 0, .string ⟨#[]⟩, .slice (some ⟨wr.heap.size, 0, none⟩) 2 2] 25)
                  have hz7 : wr.heap.size ≤ w7.heap.size := HBX.out.size
                  have hz8 : w7.heap.size + 1 = (w7.alloc (.cells #[.int .u8 15, .int .i64 0, .string ⟨#[]⟩, .slice (some ⟨wr.heap.size, 0, none⟩) 2 2] 25)).heap.size := by simp
                  clear q0 q1 q2 q3 p0 p1 p2 p3 HBX HCX
                  obtain ⟨q0, q1, q2, q3, p0, p1, p2, p3⟩ := hHeld
                  obtain ⟨z7, hz7e⟩ : ∃ z7, z7 = w7.heap.size := ⟨_, rfl⟩
                  rw [← hz7e] at hn8 hz7 hz8
                  rw [← hz7e]
                  clear hz7e
                  generalize w7.alloc (.cells #[.int .u8 15, .int .i64 0, .string ⟨#[]⟩, .slice (some ⟨wr.heap.size, 0, none⟩) 2 2] 25) = w8 at *
                  have HB8 := Lib.hid hb8; have HN8 := Lib.hid hn8; have HC8 := Lib.hid hc8
                  have hO8 := B.own_kept HO.out (w' := w8) (fun q hq => hb8.block q (own_lt HO.out q hq))
                  have HO8 := Lib.hid hO8
                  have HOL := Lib.hid (fun q hq => own_lt HO.out q hq)
                  clear hb8 hn8 hc8 hO8
                  have hHeld := And.intro q0 (And.intro q1 (And.intro q2 (And.intro q3 (And.intro p0 (And.intro p1 (And.intro p2 p3))))))
                  have hpl : ps.length ≤ 2048 := by have := congrArg List.length HPS.out; rw [List.length_map, prs_len, List.length_take] at this; omega
                  have hw68 : w6.heap.size ≤ w8.heap.size := Nat.le_trans HBR6.out.size HB8.out.size
                  obtain ⟨i3, hi3', hz30, hz31, hz32⟩ := info_parts info25o
                  refine wpAnyH_ready (rs := [13]) (by kernel_rfl) (by simp) ?_
                  refine AllReadyH.cons (o := ?oi13) ?ho13 (fun K hK => ?step13) AllReadyH.nil
                  case ho13 => simp only [List.getElem?_toArray, List.getElem?_cons_succ, List.getElem?_cons_zero]; rfl
                  refine step_append_lies _ rfl _ _ 23 rfl w6.heap.size 25 i3 (.agg #[(.int .u8 0), (.int .i64 0), (.string ⟨#[]⟩), (.slice none 0 0)]) 4 56 Tryd.underlying23 hi3' hz30 hz31 hz32 rfl (by decide) (.slice T2 ps.length c2) ps.length (ps.flatMap tv) rfl HO8.out ⟨z7, 0, none⟩ 1 _ [.int .u8 15, .int .i64 0, .string ⟨#[]⟩, .slice (some ⟨wr.heap.size, 0, none⟩) 2 2] rfl rfl (World.news_of_block HN8.out) (one15 _) (by decide) (by unfold maxLen; omega) (by omega) hw68 w8.heap.size rfl ?_
                  intro g cap w9 hown hgr hat hlt9
                  have hOB := fun q (hq : (Value.slice T2 ps.length c2).ownBlock = some q) => own_base HO8.out q hq
                  have HB9 := Lib.hid ((HBR6.out.trans (HB8.out.mono HBR6.out.size)).grown hgr hw68 hOB)
                  have HA9 : Hid ((Value.slice (some ⟨g, 0, none⟩) (ps.length + 1) cap).ownBlock = (Value.slice T2 ps.length c2).ownBlock ∨ ∃ b, (Value.slice (some ⟨g, 0, none⟩) (ps.length + 1) cap).ownBlock = some b ∧ w8.heap.size ≤ b) := Lib.hid (by
                    rcases hat with h | h
                    · left; rw [h]; rfl
                    · right; exact ⟨g, rfl, by omega⟩)
                  have HO9 := Lib.hid hown; have HG9 := Lib.hid hgr
                  refine hK.out _ _ ?_ (fun hHeld2 => ?_)
                  · obtain ⟨s0, s1, s2, s3, t0, t1, t2, t3⟩ := HQ6.out
                    exact ⟨keep_cell HB9.out (Nat.le_refl _) s0, keep_cell HB9.out (Nat.le_refl _) s1, keep_cell HB9.out (Nat.le_refl _) s2, keep_cell HB9.out (Nat.le_refl _) s3, keep_cell HB9.out (Nat.le_refl _) t0, keep_cell HB9.out (Nat.le_refl _) t1, keep_cell HB9.out (Nat.le_refl _) t2, keep_cell HB9.out (Nat.le_refl _) t3⟩
                  clear hK hHeld
                  have hHeld := hHeld2
                  clear hHeld2
                  try simp only [Act.put, List.setIfInBounds_toArray, List.set_cons_zero, List.set_cons_succ]
                  clear hown hgr hat q0 q1 q2 q3 p0 p1 p2 p3
                  refine wpAnyH_take (i := 14) (oi := ?oi14) (v := ?v14) ?ho14 (by kernel_rfl) (by kernel_rfl) (by kernel_rfl) ?hq14 (Or.inl ⟨?hw14, ?hy14⟩) hHeld ?rest14
                  case ho14 => simp only [List.getElem?_toArray, List.getElem?_cons_succ, List.getElem?_cons_zero]; rfl
                  case hq14 => exact fun _ _ _ h => h
                  case hw14 => rfl
                  case hy14 => (intro w hSw; (try dsimp only at hSw); go_simp; try with_reducible rfl)
                  try simp only [Act.put, List.setIfInBounds_toArray, List.set_cons_zero, List.set_cons_succ]
                  refine wpAnyH_done (by kernel_rfl) ?_ _
                  have hel : ∀ (q : Nat) p, (ps ++ [(andE x y, (some ⟨wr.heap.size, 0, none⟩ : Option Addr), 2)])[q]? = some p → p.1.f3.length ≤ p.2.2 ∧ Kd.F k25 w9 (fun b => True ∧ some b ≠ (Value.slice (some ⟨g, 0, none⟩) (ps.length + 1) cap).ownBlock) p.2.1 p.1.f3.length p.1.f3 := by
                    intro q p hp
                    by_cases hq : q < ps.length
                    · rw [List.getElem?_append_left hq] at hp
                      obtain ⟨e1, e2⟩ := HEL.out q p hp
                      exact ⟨e1, Kd.F_after (Kd.F_below e2 HB8.out) HG9.out HA9.out⟩
                    · rw [List.getElem?_append_right (by omega)] at hp
                      have hmem := List.mem_of_getElem? hp
                      rw [List.mem_singleton] at hmem
                      subst hmem
                      refine ⟨Nat.le_refl _, Kd.F_after (Kd.F_mono (lit_F (W := w8) (ok := fun b => b < w6.heap.size ∨ b = wr.heap.size) [(x, A3, c3), (y, A4, c4)] _ rfl HC8.out (.inr rfl) (fun p hp => ?_) (by unfold maxLen; simp)) (fun b hb => ⟨trivial, fun he => ?_⟩)) HG9.out HA9.out⟩
                      · have hB6 := HBR6.out.trans (HB8.out.mono HBR6.out.size)
                        simp only [List.mem_cons, List.not_mem_nil, or_false] at hp
                        rcases hp with rfl | rfl
                        · exact ⟨HL3.out, Kd.F_mono (Kd.F_below (Kd.C_F heap25 HC3.out) hB6) (fun b hb => .inl hb)⟩
                        · exact ⟨HL4.out, Kd.F_mono (Kd.F_below (Kd.C_F heap25 HC4.out) hB6) (fun b hb => .inl hb)⟩
                      · have g1 := hOB b he.symm
                        have g2 := HOL.out b he.symm
                        rcases hb with hb | hb <;> omega
                  have HEL9 := Lib.hid hel
                  clear hel hHeld hOB HEL HG9 HA9 HOL HN8 HC8 HQ6
                  go_wp2_with fail
                  exact ⟨⟨m + 1, ps ++ [(andE x y, some ⟨wr.heap.size, 0, none⟩, 2)], some ⟨g, 0, none⟩, cap, by have := HI9.out; first | go_num | (congr 1; omega), by have := HI9.out; omega, by rw [List.length_append]; rfl, Lib.hid (by rw [List.map_append, HPS.out, show 2 * (m + 1) = i9 + 2 from by have := HI9.out; omega, HTW.out]; rfl), Lib.hid (by rw [List.length_append, List.flatMap_append]; exact HO9.out), Lib.hid (by rw [List.length_append]; exact HEL9.out), HB9⟩, by simp [intOf]; omega⟩
                · have hfin : ∀ (w9 : World) (ps9 : List (S25 × Option Addr × Nat)) (T9 : Option Addr) (c9 : Nat), ps9.map Prod.fst = prs fl → w9.ownsRow w6.heap.size 25 4 (.slice T9 ps9.length c9) ps9.length (ps9.flatMap tv) → (∀ (q : Nat) p, ps9[q]? = some p → PR3 w9 p) → Below w6.heap.size w6 w9 →
                      ps9.length = (prs fl).length ∧ (prs fl).length ≤ c9 ∧ Bal j (prs fl) ∧ (prs fl).length < fl.length ∧ Kd.C k25 w9 T9 (prs fl).length (prs fl) ∧ Below w5.heap.size w5 w9 := by
                    intro w9 ps9 T9 c9 h1 h2 h3 h4
                    obtain ⟨b1, b2⟩ := bal_step HBAL.out hgt
                    have hl9 : ps9.length = (prs fl).length := by rw [← h1, List.length_map]
                    obtain ⟨A8, c8, hv8, _, hC8⟩ := row_reads h2 h3
                    injection hv8 with hA8
                    subst hA8
                    rw [h1, hl9] at hC8
                    exact ⟨hl9, by rw [← hl9]; exact own_cap' h2, b1, b2, hC8, HBR.out.trans (h4.mono HBR.out.size)⟩
                  have HFIN := Lib.hid hfin
                  clear hfin
                  have hce : fl.length = i9 ∨ fl.length = i9 + 1 := by omega
                  rcases hce with hev | hov
                  · have hmod : (fl.length : Int) % 2 = 0 := by have := HI9.out; omega
                    obtain ⟨f1, f2, f3, f4, f5, f6⟩ := HFIN.out wr ps T2 c2 (by rw [HPS.out, ← hev, List.take_length]) HO.out (fun q p hq => ⟨(HEL.out q p hq).1, Kd.F_now (HEL.out q p hq).2⟩) HBR6.out
                    have F3 := Lib.hid f3; have F5 := Lib.hid f5; have F6 := Lib.hid f6; have F1 := Lib.hid f1; have F2 := Lib.hid f2; have F4 := Lib.hid f4
                    clear f1 f2 f3 f4 f5 f6 hev
                    go_wp2_with fail
                    exact ⟨⟨prs fl, T2, c2, by rw [F1.out], F2.out, F3, F5, F6⟩, by have := F1.out; have := F4.out; simp only [lenV]; omega⟩
                  · have hmod : (fl.length : Int) % 2 = 1 := by have := HI9.out; omega
                    obtain ⟨z, hz⟩ : ∃ z, fl[i9]? = some z := ⟨_, List.getElem?_eq_getElem (by omega)⟩
                    have HOD2 := Lib.hid (HOD.out z (by have := HI9.out; omega) hz)
                    obtain ⟨ad, A3, c3, hA, q0, q1, q2, q3, hl3, hC3⟩ := at_T25 HR9.out ((i9 : Nat) : Int) (by omega) (by omega)
                    subst hA
                    have hrx : rd_T25 fl ((i9 : Nat) : Int) = z := by unfold rd_T25; rw [Int.toNat_natCast, List.getD_eq_getElem?_getD, hz]; rfl
                    rw [hrx] at q0 q1 q2 q3 hl3 hC3
                    simp only [Int.toNat_natCast] at q0 q1 q2 q3
                    replace q0 := keep_cell HBR6.out (Nat.le_refl _) q0; replace q1 := keep_cell HBR6.out (Nat.le_refl _) q1; replace q2 := keep_cell HBR6.out (Nat.le_refl _) q2; replace q3 := keep_cell HBR6.out (Nat.le_refl _) q3
                    have HL3 := Lib.hid hl3; have HC3 := Lib.hid hC3
                    have hidx : (fl.length : Int) - 1 = (i9 : Int) := by omega
                    have hin : (i9 : Int) < (fl.length : Int) := by omega
                    have HO8 := Lib.hid (B.own_kept HO.out (w' := wr.alloc (.cells #[.int .u8 z.f0, .int .i64 z.f1, .string z.f2, .slice A3 z.f3.length c3] 25)) (fun q hq => Below.heap_alloc wr _ q (own_lt HO.out q hq)))
                    have HOW := Lib.hid (fun q hq => own_base HO.out q hq)
                    have hsz := HBR6.out.size
                    have hpl : ps.length ≤ 2048 := by have := congrArg List.length HPS.out; rw [List.length_map, prs_len, List.length_take] at this; omega
                    obtain ⟨i3, hi3', hz30, hz31, hz32⟩ := info_parts info25o
                    clear hz hl3 hC3 hrx
                    go_wp2_with (at_builtin; refine wpList_append_lies _ rfl _ _ 23 rfl w6.heap.size 25 i3 (.agg #[(.int .u8 0), (.int .i64 0), (.string ⟨#[]⟩), (.slice none 0 0)]) 4 56 Tryd.underlying23 hi3' hz30 hz31 hz32 rfl (by decide) (.slice T2 ps.length c2) ps.length (ps.flatMap tv) rfl HO8.out ⟨wr.heap.size, 0, none⟩ 1 _ [.int .u8 z.f0, .int .i64 z.f1, .string z.f2, .slice A3 z.f3.length c3] rfl rfl (World.news_of_block (heap_alloc_new wr _)) (one_tv (z, A3, c3)) (by decide) (by unfold maxLen; omega) (by omega) (by simp; omega) (wr.heap.size + 1) (by simp) ?_)
                    intro g cap w9 hown hgr hat hlt9
                    have hA9 : (Value.slice (some ⟨g, 0, none⟩) (ps.length + 1) cap).ownBlock = (Value.slice T2 ps.length c2).ownBlock ∨ ∃ b, (Value.slice (some ⟨g, 0, none⟩) (ps.length + 1) cap).ownBlock = some b ∧ (wr.alloc (.cells #[.int .u8 z.f0, .int .i64 z.f1, .string z.f2, .slice A3 z.f3.length c3] 25)).heap.size ≤ b := by
                      rcases hat with h | h
                      · left; rw [h]; rfl
                      · right; exact ⟨g, rfl, by simp; omega⟩
                    have hB9 := (HBR6.out.alloc hsz (.cells #[.int .u8 z.f0, .int .i64 z.f1, .string z.f2, .slice A3 z.f3.length c3] 25)).grown hgr (by simp; omega) (fun q hq => HOW.out q hq)
                    have hba : Below wr.heap.size wr (wr.alloc (.cells #[.int .u8 z.f0, .int .i64 z.f1, .string z.f2, .slice A3 z.f3.length c3] 25)) := (Below.refl _ _).alloc (Nat.le_refl _) _
                    obtain ⟨f1, f2, f3, f4, f5, f6⟩ := HFIN.out w9 (ps ++ [(z, A3, c3)]) (some ⟨g, 0, none⟩) cap (by rw [List.map_append, HPS.out, HOD2.out]; rfl) (by rw [List.length_append, List.flatMap_append]; exact hown) (fun q p hp => by
                      by_cases hq : q < ps.length
                      · rw [List.getElem?_append_left hq] at hp
                        obtain ⟨e1, e2⟩ := HEL.out q p hp
                        exact ⟨e1, Kd.F_now (Kd.F_after (Kd.F_below e2 hba) hgr hA9)⟩
                      · rw [List.getElem?_append_right (by omega)] at hp
                        have hmem := List.mem_of_getElem? hp
                        rw [List.mem_singleton] at hmem
                        subst hmem
                        exact ⟨HL3.out, Kd.C_below HC3.out hB9⟩) hB9
                    have F3 := Lib.hid f3; have F5 := Lib.hid f5; have F6 := Lib.hid f6; have F1 := Lib.hid f1; have F2 := Lib.hid f2; have F4 := Lib.hid f4
                    clear f1 f2 f3 f4 f5 f6 hown hgr hat hlt9 hA9 hB9 hba hov hmod hidx hin q0 q1 q2 q3
                    go_wp2_with fail
                    exact ⟨⟨prs fl, some ⟨g, 0, none⟩, cap, by rw [← F1.out, List.length_append]; rfl, F2.out, F3, F5, F6⟩, by have := F1.out; have := F4.out; rw [List.length_append] at *; simp only [lenV]; simp only [List.length_singleton] at *; omega⟩
            · have hadd2 : ∀ w : World, (Op.stringOp .add tx ⟨#[97]⟩).run Tryd.prog w = .ok (.string (tx ++ ⟨#[97]⟩)) w := fun w => run_string_add_sum w tx ⟨#[97]⟩ (by
                have h4 : (⟨#[97]⟩ : ByteArray).size = 1 := rfl
                have h5 : tx.size = 4 * i := HTX.out ▸ txB_size i
                omega)
              have H1 := Lib.hid (show tokens_Read.f (tx ++ ⟨#[97]⟩) = some (toksD i, 0, 0) by rw [HTX.out]; exact read_tx i (by omega))
              have HBW := Lib.hid (HB.out.trans (HBR.out.mono HB.out.size))
              have HDW := kp2 HBR.out HD.out
              have HCW := Lib.hid (Kd.C_below HC5.out HBR.out)
              clear hadd HD HB HBR HC5 HR
              go_wp2_with fail
              refine (tokens_Read.calls _ (toksD i) 0 0 _ H1.out).mono ?_
              rintro er w7 ⟨v0, rfl, hR, hb1⟩
              obtain ⟨A1, c1, rfl, hl1, hC1⟩ := Kd.R_reads hR
              have HB7 := Lib.hid (HBW.out.trans (hb1.mono HBW.out.size))
              have HD7 := kp2 hb1 HDW.out
              have HC7 := Lib.hid (Kd.C_below HCW.out hb1)
              have HR7 := Lib.hid (Kd.C_below HR9.out hb1)
              have HT1 := Lib.hid hC1
              clear hR hb1 hC1 HBW HDW HCW HR9 hadd2
              go_wp2_with fail
              have hfl1 : fl.length ≤ 1 := by omega
              have htl := toksD_len i
              by_cases h32 : i + 1 ≤ 32
              · have hpar := parse_tx i
                rw [if_pos h32] at hpar
                rw [← HX.out] at hpar
                refine (parse_walk A1 c1 0 w7 HT1.out ⟨HV.out.step HB7.out, readTok_ok H1.out⟩ (Int.le_refl _) (by omega) _ _ _ hpar).mono ?_
                clear hpar
                rintro er w8 ⟨A2, c2, rfl, hl2, hF2, hb2⟩
                have HB8 := Lib.hid (HB7.out.trans (hb2.mono HB7.out.size))
                have HD8 := kp2 hb2 HD7.out
                have HC8 := Lib.hid (Kd.C_below HC7.out hb2)
                have HR8 := Lib.hid (Kd.C_below HR7.out hb2)
                clear hb2 hF2 hl2 HB7 HD7 HC7 HR7 HT1 H1
                have hdl := blk_lt HD8.out
                have HB9 := Lib.hid (HB8.out.alloc HB8.out.size (.cells #[.int .u8 X.f0, .int .i64 X.f1, .string X.f2, .slice A2 X.f3.length c2] 25))
                have HD9 := Lib.hid (blk_alloc HD8.out (.cells #[.int .u8 X.f0, .int .i64 X.f1, .string X.f2, .slice A2 X.f3.length c2] 25))
                have HC9 := Lib.hid (Kd.C_below HC8.out ((Below.refl _ _).alloc (Nat.le_refl _) (.cells #[.int .u8 X.f0, .int .i64 X.f1, .string X.f2, .slice A2 X.f3.length c2] 25)))
                have HR9 := Lib.hid (Kd.C_below HR8.out ((Below.refl _ _).alloc (Nat.le_refl _) (.cells #[.int .u8 X.f0, .int .i64 X.f1, .string X.f2, .slice A2 X.f3.length c2] 25)))
                obtain ⟨b0, b1, b2, b3⟩ := box_cells HD9.out
                clear HB8 HD8 HC8 HR8
                go_wp2_with fail
                refine (Check_walk nameOk name_is X A c _ hc HC9.out).mono ?_
                rw [show okE nameOk X = true by rw [HX.out, ok_nD]; exact decide_eq_true h32]
                rintro e w10 ⟨rfl, hb⟩
                have HB10 := Lib.hid (HB9.out.trans (hb.mono HB9.out.size))
                have HR10 := Lib.hid (Kd.C_below HR9.out hb)
                have dk : decide ((j : Int) ≤ 32) = true := decide_eq_true (by omega)
                clear hb HB9 HD9 HC9 HR9 b0 b1 b2 b3
                go_wp2_with fail
                clear dk
                refine (alive_law _ (HV.out.step HB10.out) (HT.out.step HB10.out)).mono ?_
                rintro e w11 ⟨rfl, hb⟩
                have HB11 := Lib.hid (HB10.out.trans (hb.mono HB10.out.size))
                have HR11 := Lib.hid (Kd.C_below HR10.out hb)
                clear hb HB10 HR10
                by_cases hk0 : j = 0
                · subst hk0
                  go_wp2_with fail
                  go_ret
                  exact ⟨rfl, HB11.out⟩
                · obtain ⟨x1, rfl⟩ := bal_ne HBAL.out (by omega) (by omega)
                  have HEN := Lib.hid (bal_end HBAL.out)
                  obtain ⟨ad, A6, c6, hA, q0, q1, q2, q3, hl6, hC6⟩ := at_T25 HR11.out 0 (Int.le_refl _) (by simp)
                  subst hA
                  have hrx : rd_T25 [x1] 0 = x1 := rfl
                  rw [hrx] at q0 q1 q2 q3 hl6 hC6
                  rw [addr0] at q0 q1 q2 q3
                  have hjz : ((j : Int) == 0) = false := by simpa using hk0
                  go_wp2_with fail
                  refine (Check_walk nameOk name_is x1 A6 c6 _ hl6 hC6).mono ?_
                  rw [HEN.out.1]
                  rintro e w12 ⟨rfl, hb⟩
                  have HB12 := Lib.hid (HB11.out.trans (hb.mono HB11.out.size))
                  clear hb HB11 HR11 HEN HBAL hC6
                  by_cases h200 : 2 * j - 1 ≤ 200
                  · have d2 : decide (2 * (j : Int) - 1 ≤ 200) = true := decide_eq_true (by omega)
                    rw [decide_eq_true h200]
                    go_wp2_with fail
                    go_ret
                    exact ⟨rfl, HB12.out⟩
                  · have d2 : decide (2 * (j : Int) - 1 ≤ 200) = false := decide_eq_false (by omega)
                    rw [decide_eq_false h200]
                    go_wp2_with fail
                    go_ret
                    exact ⟨rfl, HB12.out⟩
              · have hpar := parse_tx i
                rw [if_neg h32] at hpar
                refine (parse_walk A1 c1 0 w7 HT1.out ⟨HV.out.step HB7.out, readTok_ok H1.out⟩ (Int.le_refl _) (by omega) _ _ _ hpar).mono ?_
                clear hpar
                rintro er w8 ⟨A2, c2, rfl, hl2, hF2, hb2⟩
                dsimp only [z25]
                have HB8 := Lib.hid (HB7.out.trans (hb2.mono HB7.out.size))
                have HD8 := kp2 hb2 HD7.out
                have HC8 := Lib.hid (Kd.C_below HC7.out hb2)
                have HR8 := Lib.hid (Kd.C_below HR7.out hb2)
                clear hb2 hF2 hl2 HB7 HD7 HC7 HR7 HT1 H1
                have hdl := blk_lt HD8.out
                have HB9 := Lib.hid (HB8.out.alloc HB8.out.size (.cells #[.int .u8 0, .int .i64 0, .string ⟨#[]⟩, .slice A2 0 c2] 25))
                have HD9 := Lib.hid (blk_alloc HD8.out (.cells #[.int .u8 0, .int .i64 0, .string ⟨#[]⟩, .slice A2 0 c2] 25))
                have HC9 := Lib.hid (Kd.C_below HC8.out ((Below.refl _ _).alloc (Nat.le_refl _) (.cells #[.int .u8 0, .int .i64 0, .string ⟨#[]⟩, .slice A2 0 c2] 25)))
                have HR9 := Lib.hid (Kd.C_below HR8.out ((Below.refl _ _).alloc (Nat.le_refl _) (.cells #[.int .u8 0, .int .i64 0, .string ⟨#[]⟩, .slice A2 0 c2] 25)))
                obtain ⟨b0, b1, b2, b3⟩ := box_cells HD9.out
                clear HB8 HD8 HC8 HR8
                go_wp2_with fail
                refine (Check_walk nameOk name_is X A c _ hc HC9.out).mono ?_
                rw [show okE nameOk X = false by rw [HX.out, ok_nD]; exact decide_eq_false h32]
                rintro e w10 ⟨rfl, hb⟩
                have HB10 := Lib.hid (HB9.out.trans (hb.mono HB9.out.size))
                have HR10 := Lib.hid (Kd.C_below HR9.out hb)
                have dk : decide ((j : Int) ≤ 32) = false := decide_eq_false (by omega)
                have hzb := heap_alloc_new w8 (.cells #[.int .u8 0, .int .i64 0, .string ⟨#[]⟩, .slice A2 0 c2] 25)
                have z0 := blk_cell ((hb.block _ (blk_lt hzb)).trans hzb) 0
                dsimp at z0
                clear hb HB9 HD9 HC9 HR9 b0 b1 b2 b3
                go_wp2_with fail
                clear dk
                refine (alive_law _ (HV.out.step HB10.out) (HT.out.step HB10.out)).mono ?_
                rintro e w11 ⟨rfl, hb⟩
                have HB11 := Lib.hid (HB10.out.trans (hb.mono HB10.out.size))
                have HR11 := Lib.hid (Kd.C_below HR10.out hb)
                clear hb HB10 HR10
                by_cases hk0 : j = 0
                · subst hk0
                  go_wp2_with fail
                  go_ret
                  exact ⟨rfl, HB11.out⟩
                · obtain ⟨x1, rfl⟩ := bal_ne HBAL.out (by omega) (by omega)
                  have HEN := Lib.hid (bal_end HBAL.out)
                  obtain ⟨ad, A6, c6, hA, q0, q1, q2, q3, hl6, hC6⟩ := at_T25 HR11.out 0 (Int.le_refl _) (by simp)
                  subst hA
                  have hrx : rd_T25 [x1] 0 = x1 := rfl
                  rw [hrx] at q0 q1 q2 q3 hl6 hC6
                  rw [addr0] at q0 q1 q2 q3
                  have hjz : ((j : Int) == 0) = false := by simpa using hk0
                  go_wp2_with fail
                  refine (Check_walk nameOk name_is x1 A6 c6 _ hl6 hC6).mono ?_
                  rw [HEN.out.1]
                  rintro e w12 ⟨rfl, hb⟩
                  have HB12 := Lib.hid (HB11.out.trans (hb.mono HB11.out.size))
                  clear hb HB11 HR11 HEN HBAL hC6
                  by_cases h200 : 2 * j - 1 ≤ 200
                  · have d2 : decide (2 * (j : Int) - 1 ≤ 200) = true := decide_eq_true (by omega)
                    rw [decide_eq_true h200]
                    go_wp2_with fail
                    go_ret
                    exact ⟨rfl, HB12.out⟩
                  · have d2 : decide (2 * (j : Int) - 1 ≤ 200) = false := decide_eq_false (by omega)
                    rw [decide_eq_false h200]
                    go_wp2_with fail
                    go_ret
                    exact ⟨rfl, HB12.out⟩
end Go.Proofs.YtbdciibbgiphcaaDoor.V
