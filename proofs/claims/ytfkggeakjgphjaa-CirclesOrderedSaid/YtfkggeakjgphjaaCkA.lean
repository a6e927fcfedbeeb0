/- exprs.Check. Selected by wip/sel.py (ours) out of other texts. -/
import Derived.Test.YtfkggeakjgphjaaCx1
import Derived.Deep.RegionHeld3
import Derived.LoopTactic
import Derived.Lib.Hide
namespace Go.Proofs.Ytfkggeakjgphjaa.C
set_option linter.unusedVariables false
set_option linter.unusedSimpArgs false
set_option linter.unusedSectionVars false
open Go.RowKit Go.Proofs.YtfkggeakjgphjaaW.PrintWords Go.Proofs.YtfkggeakjgphjaaW.PrintLast Go.Proofs.YtfkggeakjgphjaaW.PrintMore
theorem w64 {n : Int} (h0 : -9223372036854775808 ≤ n) (h1 : n ≤ 9223372036854775807) : wrap64 n = n := by unfold wrap64; omega
/-- operators of two: the operator, its rank, the kind of its token, its text. -/
def pairsL : List S135 := [⟨18, 0, 3, ⟨#[45, 62]⟩⟩, ⟨16, 1, 1, ⟨#[111, 114]⟩⟩, ⟨15, 2, 1, ⟨#[97, 110, 100]⟩⟩, ⟨11, 3, 3, ⟨#[61, 61]⟩⟩, ⟨12, 3, 3, ⟨#[33, 61]⟩⟩, ⟨13, 3, 3, ⟨#[60]⟩⟩, ⟨14, 3, 3, ⟨#[60, 61]⟩⟩, ⟨6, 4, 3, ⟨#[43]⟩⟩, ⟨7, 4, 3, ⟨#[45]⟩⟩, ⟨8, 5, 3, ⟨#[42]⟩⟩, ⟨9, 5, 3, ⟨#[47]⟩⟩, ⟨10, 5, 3, ⟨#[37]⟩⟩]
def prefL : List S135 := [⟨4, 6, 3, ⟨#[45]⟩⟩, ⟨5, 6, 1, ⟨#[110, 111, 116]⟩⟩, ⟨19, 6, 1, ⟨#[112, 114, 101]⟩⟩]
def findL (l : List S135) (o : Int) : Option S135 := l.find? fun x => decide (x.f0 = o)
def parts (o : Int) : Int := if o = 1 ∨ o = 2 ∨ o = 3 then 0 else if o = 17 then 3 else if (findL pairsL o).isSome then 2 else if (findL prefL o).isSome then 1 else -1
def emp (s : ByteArray) : Bool := s.toList.isEmpty
def chks (f : S49 → Int → Bool × Int) : List S49 → Int → Bool × Int
  | [], l => (true, l)
  | y :: r, l => if (f y l).1 = true then chks f r (f y l).2 else (false, (f y l).2)
def chk (nm : ByteArray → Bool) : Nat → S49 → Int → Bool × Int
  | 0, _, l => (false, l - 1)
  | d + 1, x, l =>
    if l - 1 < 0 then (false, l - 1) else if parts x.f0 ≠ (x.f3.length : Int) then (false, l - 1)
    else if x.f0 = 1 then (decide (0 ≤ x.f1) && emp x.f2, l - 1)
    else if x.f0 = 2 then ((decide (x.f1 = 0) || decide (x.f1 = 1)) && emp x.f2, l - 1)
    else if x.f0 = 3 then (decide (x.f1 = 0) && nm x.f2, l - 1)
    else ((chks (chk nm d) x.f3 (l - 1)).1 && (decide (x.f1 = 0) && emp x.f2), (chks (chk nm d) x.f3 (l - 1)).2)
theorem chks_le {f : S49 → Int → Bool × Int} (hf : ∀ y l, 0 ≤ l → -1 ≤ (f y l).2 ∧ (f y l).2 ≤ l ∧ ((f y l).1 = true → 0 ≤ (f y l).2)) : ∀ (r : List S49) (l : Int), 0 ≤ l → -1 ≤ (chks f r l).2 ∧ (chks f r l).2 ≤ l ∧ ((chks f r l).1 = true → 0 ≤ (chks f r l).2)
  | [], l, h => by simp only [chks]; omega
  | y :: r, l, h => by
    have h1 := hf y l h
    simp only [chks]
    by_cases hb : (f y l).1 = true
    · rw [if_pos hb]
      have h2 := chks_le hf r (f y l).2 (h1.2.2 hb)
      exact ⟨h2.1, by omega, h2.2.2⟩
    · rw [if_neg hb]
      exact ⟨h1.1, h1.2.1, fun h => by simp at h⟩
theorem chk_le (nm : ByteArray → Bool) : ∀ (d : Nat) (x : S49) (l : Int), 0 ≤ l → -1 ≤ (chk nm d x l).2 ∧ (chk nm d x l).2 ≤ l ∧ ((chk nm d x l).1 = true → 0 ≤ (chk nm d x l).2)
  | 0, x, l, h => by simp only [chk]; exact ⟨by omega, by omega, fun h => by simp at h⟩
  | d + 1, x, l, h => by
    have h1 : 0 ≤ l - 1 → _ := chks_le (chk_le nm d) x.f3 (l - 1)
    unfold chk
    by_cases h2 : l - 1 < 0
    · rw [if_pos h2]; exact ⟨by omega, by omega, fun h => by simp at h⟩
    · rw [if_neg h2]
      have h1 := h1 (by omega)
      split
      · exact ⟨by omega, by omega, fun h => by simp at h⟩
      · split
        · exact ⟨by omega, by omega, fun _ => by omega⟩
        · split
          · exact ⟨by omega, by omega, fun _ => by omega⟩
          · split
            · exact ⟨by omega, by omega, fun _ => by omega⟩
            · refine ⟨h1.1, by omega, fun h => h1.2.2 ?_⟩
              simp only [Bool.and_eq_true] at h
              exact h.1
theorem chks_take (f : S49 → Int → Bool × Int) (xs : List S49) (l : Int) (i : Nat) (hi : i < xs.length) (h : (chks f (xs.take i) l).1 = true) : chks f (xs.take (i + 1)) l = f xs[i] (chks f (xs.take i) l).2 := by
  rw [List.take_succ_eq_append_getElem hi]
  generalize xs.take i = ys at h
  induction ys generalizing l with
  | nil =>
    simp only [List.nil_append, chks]
    by_cases hb : (f xs[i] l).1 = true
    · rw [if_pos hb]; exact Prod.ext hb.symm rfl
    · rw [if_neg hb]; exact Prod.ext (by simpa using hb) rfl
  | cons y ys ih =>
    simp only [List.cons_append, chks] at h ⊢
    by_cases hb : (f y l).1 = true
    · rw [if_pos hb] at h ⊢; rw [if_pos hb]; exact ih _ h
    · rw [if_neg hb] at h; simp at h
theorem chks_stop (f : S49 → Int → Bool × Int) (xs : List S49) (l : Int) (i : Nat) (h : (chks f (xs.take i) l).1 = false) : chks f xs l = chks f (xs.take i) l := by
  induction xs generalizing l i with
  | nil => simp
  | cons y ys ih =>
    cases i with
    | zero => simp [chks] at h
    | succ i =>
      simp only [List.take_succ_cons, chks] at h ⊢
      by_cases hb : (f y l).1 = true
      · rw [if_pos hb] at h ⊢; rw [if_pos hb]; exact ih _ _ h
      · rw [if_neg hb, if_neg hb]
/-- P5.3. -/
def okE (nm : ByteArray → Bool) (x : S49) : Bool := (chk nm 32 x 200).1
def foundF : Option S135 → Int × Int × Int × ByteArray × Bool
  | some f => (f.f0, f.f1, f.f2, f.f3, true)
  | none => (0, 7, 0, ⟨#[]⟩, false)
theorem rdT135 (l : List S135) (i : Nat) (h : i < l.length) : rd_T135 l (i : Int) = l[i] := by
  show l.getD i z135 = _
  rw [List.getD_eq_getElem?_getD, List.getElem?_eq_getElem h]; rfl
theorem findL_cons (x : S135) (r : List S135) (o : Int) : findL (x :: r) o = if x.f0 = o then some x else findL r o := by
  unfold findL
  rw [List.find?_cons]
  by_cases h : x.f0 = o
  · rw [if_pos h, decide_eq_true h]
  · rw [if_neg h, decide_eq_false h]
theorem find_loop (l : List S135) (o : Int) (hl : l.length ≤ 1000) : ∀ d i, i + d = l.length → Ev (fun k => exprs_find.l0 k o l (l.length : Int) i) (foundF (findL (l.drop i) o))
  | 0, i, hi => by
    rw [List.drop_eq_nil_of_le (by omega)]
    refine Ev.step (fun k => ?_) (Ev.now _)
    simp only [exprs_find.l0]
    rw [if_neg (by omega)]
    rfl
  | d + 1, i, hi => by
    have hlt : i < l.length := by omega
    rw [List.drop_eq_getElem_cons hlt, findL_cons]
    by_cases he : (l[i]).f0 = o
    · rw [if_pos he]
      refine Ev.step (fun k => ?_) (Ev.now _)
      simp only [exprs_find.l0]
      rw [if_pos (by omega), if_pos (by omega), if_pos (by omega), rdT135 l i hlt, if_pos he]
      rfl
    · rw [if_neg he]
      refine Ev.step (fun k => ?_) (find_loop l o hl d (i + 1) (by omega))
      simp only [exprs_find.l0]
      rw [if_pos (by omega), if_pos (by omega), if_pos (by omega), rdT135 l i hlt, if_neg he, w64 (by omega) (by omega)]
      rfl
theorem find_ev (l : List S135) (o : Int) (hl : l.length ≤ 1000) : Ev (fun k => exprs_find.f k l o) (foundF (findL l o)) :=
  Ev.congr (fun k => by simp only [exprs_find.f]; rfl) (find_loop l o hl l.length 0 (by omega))
theorem pairs_f : exprs_pairs.f = some pairsL := rfl
theorem prefixes_f : exprs_prefixes.f = some prefL := rfl
theorem foundF_b (x : Option S135) : (foundF x).2.2.2.2 = x.isSome := by cases x <;> rfl
theorem parts_tail (o : Int) (h1 : o ≠ 17) : Ev (fun k => (exprs_pairs.f).bind fun t118 => ((exprs_find.f k t118 o).bind fun bt121 => (if bt121.2.2.2.2 = true then (some (2 : Int)) else ((exprs_prefixes.f).bind fun t127 => ((exprs_find.f k t127 o).bind fun bt130 => (if bt130.2.2.2.2 = true then (some 1) else (some (-1)))))))) (if (findL pairsL o).isSome then 2 else if (findL prefL o).isSome then 1 else -1) := by
  rw [pairs_f, prefixes_f]
  simp only [Option.bind_some]
  refine Ev.bind (f := fun k bt121 => if bt121.2.2.2.2 = true then (some (2 : Int)) else ((exprs_find.f k prefL o).bind fun bt130 => (if bt130.2.2.2.2 = true then (some 1) else (some (-1))))) (find_ev pairsL o (by decide)) ?_
  simp only [foundF_b]
  cases h : (findL pairsL o).isSome with
  | true => exact Ev.congr (fun k => by rw [if_pos rfl, if_pos rfl]) (Ev.now _)
  | false =>
    refine Ev.congr (f := fun k => (exprs_find.f k prefL o).bind fun bt130 => (if bt130.2.2.2.2 = true then (some (1 : Int)) else (some (-1)))) (fun k => by rw [if_neg (by simp)]) ?_
    refine Ev.bind (f := fun k bt130 => if bt130.2.2.2.2 = true then (some (1 : Int)) else (some (-1))) (find_ev prefL o (by decide)) ?_
    simp only [foundF_b]
    cases h : (findL prefL o).isSome with
    | true => exact Ev.congr (fun k => by simp) (Ev.now _)
    | false => exact Ev.congr (fun k => by simp) (Ev.now _)
theorem parts_j0 (o : Int) (b : Bool) (hb : b = decide (o = 1 ∨ o = 2 ∨ o = 3)) : Ev (fun k => exprs_parts.j0 k o b) (parts o) := by
  unfold parts
  cases b with
  | true =>
    rw [if_pos (of_decide_eq_true hb.symm)]
    exact Ev.step (fun k => by simp [exprs_parts.j0]) (Ev.now _)
  | false =>
    rw [if_neg (of_decide_eq_false hb.symm)]
    by_cases h : o = 17
    · rw [if_pos h]
      exact Ev.step (fun k => by simp only [exprs_parts.j0]; rw [if_neg (by simp), if_pos h]) (Ev.now _)
    · rw [if_neg h]
      exact Ev.step (fun k => by simp only [exprs_parts.j0]; rw [if_neg (by simp), if_neg h]) (parts_tail o h)
theorem parts_ev (o : Int) : Ev (fun k => exprs_parts.f k o) (parts o) := by
  by_cases h1 : o = 1
  · exact Ev.congr (fun k => by simp only [exprs_parts.f]; rw [if_pos h1]) (parts_j0 o true (by simp [h1]))
  · by_cases h2 : o = 2
    · exact Ev.congr (fun k => by simp only [exprs_parts.f]; rw [if_neg h1, if_pos h2]) (parts_j0 o true (by simp [h2]))
    · exact Ev.congr (fun k => by simp only [exprs_parts.f]; rw [if_neg h1, if_neg h2]) (parts_j0 o (o == 3) (by by_cases h3 : o = 3 <;> simp [h1, h2, h3]))
theorem parts_any (o : Int) (w : World) : Calls Try.prog 66 #[.int .u8 o] w fun e w' => e = .returned (.int .i64 (parts o)) ∧ Below w.heap.size w w' := by
  obtain ⟨k, h⟩ := (parts_ev o).rounds
  exact exprs_parts.calls k o _ w h
/-- tokens.Name answers nm. -/
def NameIs (nm : ByteArray → Bool) : Prop := ∀ s w, Calls Try.prog 43 #[.string s] w fun e w' => e = .returned (.bool (nm s)) ∧ Below w.heap.size w w'
/-- the counter's block. -/
def Cnt (w : World) (lb : Nat) (l : Int) : Prop := w.heap[lb]? = some (.cells #[.int .i64 l] 3 (0, 0))
theorem Cnt.cell {w : World} {lb : Nat} {l : Int} (h : Cnt w lb l) : w.cell? ⟨lb, 0, none⟩ = some (.int .i64 l) := by simp [World.cell?, show w.heap[lb]? = _ from h]
theorem Cnt.frozen {w : World} {lb : Nat} {l : Int} (h : Cnt w lb l) : w.frozen? ⟨lb, 0, none⟩ = false := by simp [World.frozen?, show w.heap[lb]? = _ from h]
theorem Cnt.lt {w : World} {lb : Nat} {l : Int} (h : Cnt w lb l) : lb < w.heap.size := (Array.getElem?_eq_some_iff.1 h).1
theorem Cnt.set {w : World} {lb : Nat} {l : Int} (h : Cnt w lb l) (m : Int) : Cnt (w.setCell ⟨lb, 0, none⟩ (.int .i64 m)) lb m := by
  unfold Cnt
  simp [World.setCell, show w.heap[lb]? = _ from h, Array.getElem?_modify]
theorem Cnt.below {w w' : World} {lb : Nat} {l : Int} (h : Cnt w lb l) (hb : Below w.heap.size w w') : Cnt w' lb l := (hb.block lb h.lt).trans h
def CheckPost (nm : ByteArray → Bool) (d : Nat) (x : S49) (l : Int) (lb : Nat) (w0 w : World) (e : Ending) (w' : World) : Prop :=
  e = .returned (.bool (chk nm d x l).1) ∧ Cnt w' lb (chk nm d x l).2 ∧ Below w0.heap.size w0 w' ∧ w.heap.size ≤ w'.heap.size ∧ w.grownBy w' (some lb)
theorem grown_set (w : World) (g j : Nat) (u : Value) : w.grownBy (w.setCell ⟨g, j, none⟩ u) (some g) :=
  ⟨rfl, rfl, rfl, by simp [World.setCell], fun k _ hk => Below.heap_setCell w ⟨g, j, none⟩ u k (fun e => hk (by rw [e]))⟩
theorem grown_of_below {w w' : World} (h : Below w.heap.size w w') (row : Option Nat) : w.grownBy w' row := ⟨h.os, h.tape, h.output, h.size, fun k hk _ => h.block k hk⟩
theorem cell_lt {w : World} {a : Addr} {u : Value} (h : w.cell? a = some u) : a.block < w.heap.size := by
  rcases Nat.lt_or_ge a.block w.heap.size with h1 | h1
  · exact h1
  · simp [World.cell?, Array.getElem?_eq_none h1] at h
theorem keep_cell {B : Nat} {W w2 : World} {a : Addr} {u : Value} (hb : Below B W w2) (hB : W.heap.size ≤ B) (h : W.cell? a = some u) : w2.cell? a = some u := by
  rw [hb.cell (Nat.lt_of_lt_of_le (cell_lt h) hB)]; exact h
theorem rdT49 (l : List S49) (i : Nat) (h : i < l.length) : rd_T49 l (i : Int) = l[i] := by
  show l.getD i z49 = _
  rw [List.getD_eq_getElem?_getD, List.getElem?_eq_getElem h]; rfl
/-- behind the count and the box. -/
structure Ck0 (w0 w wb : World) (lb : Nat) (m : Int) : Prop where
  cnt : Cnt wb lb m
  bel : Below w0.heap.size w0 wb
  sz : w.heap.size < wb.heap.size
  gr : w.grownBy wb (some lb)
theorem Ck0.post {nm : ByteArray → Bool} {d : Nat} {x : S49} {l m : Int} {lb : Nat} {w0 w wb : World} {b : Bool} (h : Ck0 w0 w wb lb m) (hc : chk nm d x l = (b, m)) : CheckPost nm d x l lb w0 w (.returned (.bool b)) wb := by
  refine ⟨by rw [hc], by rw [hc]; exact h.cnt, h.bel, Nat.le_of_lt h.sz, h.gr⟩
theorem Ck0.drewN {w0 w wb : World} {lb : Nat} {m : Int} (h : Ck0 w0 w wb lb m) (n : Nat) : Ck0 w0 w (wb.drewN n) lb m :=
  ⟨h.cnt, pw_below_drewN h.bel n, h.sz, ⟨h.gr.os, h.gr.tape, h.gr.output, h.gr.size, h.gr.block⟩⟩
theorem Ck0.drew {w0 w wb : World} {lb : Nat} {m : Int} (h : Ck0 w0 w wb lb m) : Ck0 w0 w wb.drew lb m :=
  ⟨h.cnt, h.bel.drew, h.sz, ⟨h.gr.os, h.gr.tape, h.gr.output, h.gr.size, h.gr.block⟩⟩
theorem Ck0.next {w0 w wb w2 : World} {lb : Nat} {m : Int} (h : Ck0 w0 w wb lb m) (hb : Below wb.heap.size wb w2) : Ck0 w0 w w2 lb m :=
  ⟨h.cnt.below hb, h.bel.trans (hb.mono h.bel.size), Nat.lt_of_lt_of_le h.sz hb.size, h.gr.trans (grown_of_below hb _)⟩
theorem chkA {nm : ByteArray → Bool} {d : Nat} {x : S49} {l : Int} (h : l - 1 < 0) : chk nm d x l = (false, l - 1) := by
  cases d with
  | zero => rfl
  | succ d => unfold chk; rw [if_pos h]
theorem chkB {nm : ByteArray → Bool} {d : Nat} {x : S49} {l : Int} (h : parts x.f0 ≠ (x.f3.length : Int)) : chk nm d x l = (false, l - 1) := by
  cases d with
  | zero => rfl
  | succ d => unfold chk; rw [if_pos h]; split <;> rfl
theorem chkC {nm : ByteArray → Bool} {d : Nat} {o n : Int} {s : ByteArray} {xs : List S49} {l : Int} (h1 : ¬ l - 1 < 0) (h : parts o = (xs.length : Int)) : chk nm (d + 1) ⟨o, n, s, xs⟩ l =
    if o = 1 then (decide (0 ≤ n) && emp s, l - 1) else if o = 2 then ((decide (n = 0) || decide (n = 1)) && emp s, l - 1) else if o = 3 then (decide (n = 0) && nm s, l - 1)
    else ((chks (chk nm d) xs (l - 1)).1 && (decide (n = 0) && emp s), (chks (chk nm d) xs (l - 1)).2) := by
  rw [chk, if_neg h1, if_neg (fun e => e h)]
theorem box_cells {w : World} {k : Nat} {o n : Int} {s : ByteArray} {v : Value} (h : w.heap[k]? = some (.cells #[.int .u8 o, .int .i64 n, .string s, v] 49 (0, 0))) :
    w.cell? ⟨k, 0, none⟩ = some (.int .u8 o) ∧ w.cell? ⟨k, 1, none⟩ = some (.int .i64 n) ∧ w.cell? ⟨k, 2, none⟩ = some (.string s) ∧ w.cell? ⟨k, 3, none⟩ = some v := by
  simp [World.cell?, h]
set_option maxHeartbeats 8000000 in
set_option maxRecDepth 100000 in
theorem check_walk (nm : ByteArray → Bool) (hnm : NameIs nm) : ∀ (d : Nat) (x : S49) (A : Option Addr) (c lb : Nat) (l : Int) (w0 w : World), d ≤ 32 → 0 ≤ l → l ≤ 200 → x.f3.length ≤ c → Kd.C k49 w0 A x.f3.length x.f3 → Below w0.heap.size w0 w → w0.heap.size ≤ lb → Cnt w lb l →
    Calls Try.prog 56 #[.agg #[.int .u8 x.f0, .int .i64 x.f1, .string x.f2, .slice A x.f3.length c], .pointer (some ⟨lb, 0, none⟩), .int .i64 (d : Int)] w (CheckPost nm d x l lb w0 w) := by
  intro d
  induction d with
  | zero =>
    intro x A c lb l w0 w hd hl0 hl1 hlc hC hb hlb hcn
    obtain ⟨o, n, s, xs⟩ := x
    dsimp only at hlc hC ⊢
    have c0 := hcn.cell
    have f0 := hcn.frozen
    have hlt := hcn.lt
    have hk : Ck0 w0 w ((w.setCell ⟨lb, 0, none⟩ (.int .i64 (l - 1))).alloc (.cells #[.int .u8 o, .int .i64 n, .string s, .slice A xs.length c] 49)) lb (l - 1) := by
      refine ⟨(hcn.set (l - 1)).below ((Below.refl _ _).alloc (Nat.le_refl _) _), (hb.setCell (p := ⟨lb, 0, none⟩) hlb _).alloc (by have := hb.size; simp [World.setCell]; omega) _, by simp [World.setCell], (grown_set w lb 0 _).trans (World.grownBy_alloc _ _ _)⟩
    have HK := Lib.hid hk
    clear hC hb hcn hk
    by_cases h1 : l - 1 < 0
    · go_enter Try.func56, Try.ntmps56
      go_wp2_with fail
      go_quiet (fail)
      go_wp2_with fail
      go_ret
      exact (HK.out.drewN _).post rfl
    · have hd1 : decide (l - 1 < 0) = false := decide_eq_false h1
      go_enter Try.func56, Try.ntmps56
      go_wp2_with fail
      go_quiet (fail)
      go_wp2_with fail
      go_ret
      exact (HK.out.drewN _).post rfl
  | succ d ih =>
    intro x A c lb l w0 w hd hl0 hl1 hlc hC hb hlb hcn
    obtain ⟨o, n, s, xs⟩ := x
    dsimp only at hlc hC ⊢
    have c0 := hcn.cell
    have f0 := hcn.frozen
    have hlt := hcn.lt
    have hk : Ck0 w0 w ((w.setCell ⟨lb, 0, none⟩ (.int .i64 (l - 1))).alloc (.cells #[.int .u8 o, .int .i64 n, .string s, .slice A xs.length c] 49)) lb (l - 1) := by
      refine ⟨(hcn.set (l - 1)).below ((Below.refl _ _).alloc (Nat.le_refl _) _), (hb.setCell (p := ⟨lb, 0, none⟩) hlb _).alloc (by have := hb.size; simp [World.setCell]; omega) _, by simp [World.setCell], (grown_set w lb 0 _).trans (World.grownBy_alloc _ _ _)⟩
    have HK := Lib.hid hk; have HC := Lib.hid hC; have HIH := Lib.hid ih; have HNM := Lib.hid hnm
    have hbase : w0.heap.size ≤ w.heap.size := hb.size
    clear hC hb hcn hk ih
    by_cases h1 : l - 1 < 0
    · go_enter Try.func56, Try.ntmps56
      go_wp2_with fail
      go_quiet (fail)
      go_wp2_with fail
      go_ret
      exact (HK.out.drewN _).post (chkA h1)
    · have hd1 : decide (l - 1 < 0) = false := decide_eq_false h1
      have hd2 : decide (((d : Int) + 1) < 1) = false := decide_eq_false (by omega)
      have hd3 : decide ((d : Int) < 0) = false := decide_eq_false (by omega)
      go_enter Try.func56, Try.ntmps56
      go_wp2_with fail
      obtain ⟨wb, hwb⟩ : ∃ wb, wb = ((w.setCell ⟨lb, 0, none⟩ (.int .i64 (l - 1))).alloc (.cells #[.int .u8 o, .int .i64 n, .string s, .slice A xs.length c] 49)) := ⟨_, rfl⟩
      rw [← hwb] at HK ⊢
      have hbx : wb.heap[w.heap.size]? = some (.cells #[.int .u8 o, .int .i64 n, .string s, .slice A xs.length c] 49 (0, 0)) := by
        rw [hwb]
        have := heap_alloc_new (w.setCell ⟨lb, 0, none⟩ (.int .i64 (l - 1))) (.cells #[.int .u8 o, .int .i64 n, .string s, .slice A xs.length c] 49)
        simpa [World.setCell] using this
      have HBX := Lib.hid hbx
      clear hwb
      obtain ⟨b0, b1, b2, b3⟩ := box_cells hbx
      have bc := HK.out.cnt.cell
      clear hbx c0 f0
      go_region_held3 (fun w' => w'.cell? ⟨lb, 0, none⟩ = some (.int .i64 (l - 1)) ∧ w'.cell? ⟨w.heap.size, 0, none⟩ = some (.int .u8 o) ∧ w'.cell? ⟨w.heap.size, 3, none⟩ = some (.slice A xs.length c)) (first | (exact ⟨s0, s1, s3⟩) | go_keep) (first | (go_at_call 66; refine (parts_any o _).mono ?_; rintro e w2 ⟨rfl, hb2⟩; have s0 := keep_cell hb2 (Nat.le_refl _) bc; have s1 := keep_cell hb2 (Nat.le_refl _) b0; have s3 := keep_cell hb2 (Nat.le_refl _) b3; have HB2 := Lib.hid hb2; clear hb2))
      have HK2 := Lib.hid (HK.out.drew.next HB2.out)
      have hbx2 : w2.heap[w.heap.size]? = some (.cells #[.int .u8 o, .int .i64 n, .string s, .slice A xs.length c] 49 (0, 0)) := (HB2.out.block _ HK.out.sz).trans HBX.out
      have HBX2 := Lib.hid hbx2
      obtain ⟨d0, d1, d2, d3⟩ := box_cells hbx2
      clear hbx2 HBX HK HB2 b0 b1 b2 b3 bc s0 s1 s3
      by_cases hp : parts o = (xs.length : Int)
      · have hp1 : (parts o != (xs.length : Int)) = false := by simp [hp]
        simp only [hp1]
        have HP := Lib.hid hp
        clear hp hp1
        have HN1 : Hid (¬ l - 1 < 0) := Lib.hid (by omega)
        by_cases ho1 : o = 1
        · subst ho1
          have hch : chk nm (d + 1) ⟨1, n, s, xs⟩ l = (decide (0 ≤ n) && emp s, l - 1) := by rw [chkC HN1.out HP.out]; rfl
          have HCH := Lib.hid hch
          clear hch
          by_cases hn0 : 0 ≤ n
          · go_wp2_with fail
            go_ret
            exact HK2.out.post (b := s.toList.isEmpty) (by rw [HCH.out, decide_eq_true hn0]; rfl)
          · go_wp2_with fail
            go_ret
            exact HK2.out.post (b := false) (by rw [HCH.out, decide_eq_false (by omega)]; rfl)
        · by_cases ho2 : o = 2
          · subst ho2
            have hch : chk nm (d + 1) ⟨2, n, s, xs⟩ l = ((decide (n = 0) || decide (n = 1)) && emp s, l - 1) := by rw [chkC HN1.out HP.out]; rfl
            have HCH := Lib.hid hch
            clear hch
            by_cases hn0 : n = 0
            · subst hn0
              go_wp2_with fail
              go_ret
              exact HK2.out.post (b := s.toList.isEmpty) (by rw [HCH.out]; rfl)
            · by_cases hn1 : n = 1
              · subst hn1
                go_wp2_with fail
                go_ret
                exact HK2.out.post (b := s.toList.isEmpty) (by rw [HCH.out]; rfl)
              · have e0 : (n == 0) = false := by simp [hn0]
                have e1 : (n == 1) = false := by simp [hn1]
                go_wp2_with fail
                go_ret
                exact HK2.out.post (b := false) (by rw [HCH.out, decide_eq_false hn0, decide_eq_false hn1]; rfl)
          · by_cases ho3 : o = 3
            · subst ho3
              have hch : chk nm (d + 1) ⟨3, n, s, xs⟩ l = (decide (n = 0) && nm s, l - 1) := by rw [chkC HN1.out HP.out]; rfl
              have HCH := Lib.hid hch
              clear hch
              by_cases hn0 : n = 0
              · subst hn0
                go_wp2_with fail
                refine (HNM.out s _).mono ?_
                rintro e w3 ⟨rfl, hb3⟩
                have HB3 := Lib.hid hb3
                clear hb3
                go_wp2_with fail
                go_ret
                exact (HK2.out.next HB3.out).post (b := nm s) (by rw [HCH.out]; rfl)
              · have e0 : (n == 0) = false := by simp [hn0]
                go_wp2_with fail
                go_ret
                exact HK2.out.post (b := false) (by rw [HCH.out, decide_eq_false hn0]; rfl)
            · have e1 : (o == 1) = false := by simp [ho1]
              have e2 : (o == 2) = false := by simp [ho2]
              have e3 : (o == 3) = false := by simp [ho3]
              have hch : chk nm (d + 1) ⟨o, n, s, xs⟩ l = ((chks (chk nm d) xs (l - 1)).1 && (decide (n = 0) && emp s), (chks (chk nm d) xs (l - 1)).2) := by rw [chkC HN1.out HP.out, if_neg ho1, if_neg ho2, if_neg ho3]
              have HCH := Lib.hid hch
              have hxl := (HC.out).2.1
              clear hch ho1 ho2 ho3
              go_wp2_with fail
              go_loopw [71] (fun iv wr => ∃ (i : Nat), iv = .int .i64 i ∧ i ≤ xs.length ∧ Hid ((chks (chk nm d) (xs.take i) (l - 1)).1 = true) ∧ Hid (Ck0 w0 w wr lb (chks (chk nm d) (xs.take i) (l - 1)).2) ∧ Hid (wr.heap[w.heap.size]? = some (.cells #[.int .u8 o, .int .i64 n, .string s, .slice A xs.length c] 49 (0, 0)))) (fun iv _ => xs.length - (intOf iv).toNat)
              case atStart => exact ⟨0, rfl, Nat.zero_le _, Lib.hid rfl, HK2, HBX2⟩
              case round =>
                obtain ⟨i, rfl, hi, HT, HK3, HBX3⟩ := hrel
                have hle := chks_le (chk_le nm d) (xs.take i) (l - 1) (by omega)
                have hle2 := hle.2.2 HT.out
                have hle3 := hle.2.1
                have HLE : Hid (0 ≤ (chks (chk nm d) (xs.take i) (l - 1)).2 ∧ (chks (chk nm d) (xs.take i) (l - 1)).2 ≤ 200) := Lib.hid ⟨hle2, by omega⟩
                clear hle hle2 hle3
                by_cases hlt2 : i < xs.length
                · obtain ⟨ad, A3, c3, hA, q0, q1, q2, q3, hl3, hC3⟩ := at_T49 HC.out (i : Int) (by omega) (by omega)
                  subst hA
                  rw [rdT49 xs i hlt2] at q0 q1 q2 q3 hl3 hC3
                  simp only [Int.toNat_natCast] at q0 q1 q2 q3
                  have g0 := keep_cell HK3.out.bel (Nat.le_refl _) q0
                  have g1 := keep_cell HK3.out.bel (Nat.le_refl _) q1
                  have g2 := keep_cell HK3.out.bel (Nat.le_refl _) q2
                  have g3 := keep_cell HK3.out.bel (Nat.le_refl _) q3
                  have hst := chks_take (chk nm d) xs (l - 1) i hlt2 HT.out
                  have HST := Lib.hid hst
                  clear hst q0 q1 q2 q3
                  generalize hy : xs[i] = y at *
                  have HC3 := Lib.hid hC3; have HL3 := Lib.hid hl3
                  clear hC3 hl3 hy
                  obtain ⟨m, hm⟩ : ∃ m, m = (chks (chk nm d) (xs.take i) (l - 1)).2 := ⟨_, rfl⟩
                  rw [← hm] at HK3 HLE HST
                  have HM := Lib.hid hm
                  clear hm
                  go_wp2_with fail
                  refine (HIH.out y A3 c3 lb m w0 _ (by omega) HLE.out.1 HLE.out.2 HL3.out HC3.out (HK3.out.bel.alloc HK3.out.bel.size _) hlb (HK3.out.cnt.below ((Below.refl _ _).alloc (Nat.le_refl _) _))).mono ?_
                  intro e w4 hp
                  obtain ⟨rfl, hcn4, hbe4, hsz4, hgr4⟩ := hp
                  have hk4 : Ck0 w0 w w4 lb (chk nm d y m).2 := ⟨hcn4, hbe4, by have := HK3.out.sz; simp at hsz4; omega, (HK3.out.gr.trans (World.grownBy_alloc _ _ _)).trans hgr4⟩
                  have hbx4 : w4.heap[w.heap.size]? = some (.cells #[.int .u8 o, .int .i64 n, .string s, .slice (some ad) xs.length c] 49 (0, 0)) := by
                    have h5 := HK3.out.sz
                    rw [hgr4.block _ (by simp; omega) (by intro e; injection e with e; omega), Below.heap_alloc _ _ _ h5]
                    exact HBX3.out
                  have HK4 := Lib.hid hk4; have HBX4 := Lib.hid hbx4
                  clear hk4 hbx4 hcn4 hbe4 hsz4 hgr4 g0 g1 g2 g3
                  by_cases hb : (chk nm d y m).1 = true
                  · simp only [hb]
                    have HB := Lib.hid hb
                    clear hb
                    go_wp2_with fail
                    exact ⟨⟨i + 1, by go_num, by omega, Lib.hid (by rw [HST.out]; exact HB.out), Lib.hid (by rw [HST.out]; exact HK4.out), HBX4⟩, by simp [intOf]; omega⟩
                  · have hb' : (chk nm d y m).1 = false := by simpa using hb
                    simp only [hb']
                    have HB := Lib.hid hb'
                    clear hb hb'
                    go_wp2_with fail
                    go_ret
                    have hs := chks_stop (chk nm d) xs (l - 1) (i + 1) (by rw [HST.out]; exact HB.out)
                    exact HK4.out.post (by rw [HCH.out, hs, HST.out, HB.out]; rfl)
                · obtain rfl : i = xs.length := by omega
                  rw [List.take_length] at HT HK3
                  obtain ⟨d0, d1, d2, d3⟩ := box_cells HBX3.out
                  by_cases hn0 : n = 0
                  · subst hn0
                    go_wp2_with fail
                    go_ret
                    exact HK3.out.post (b := s.toList.isEmpty) (by rw [HCH.out, HT.out]; rfl)
                  · have e0 : (n == 0) = false := by simp [hn0]
                    go_wp2_with fail
                    go_ret
                    exact HK3.out.post (b := false) (by rw [HCH.out, HT.out, decide_eq_false hn0]; rfl)
      · have hp1 : (parts o != (xs.length : Int)) = true := by simp [hp]
        have HP := Lib.hid hp
        simp only [hp1]
        clear hp hp1
        go_wp2_with fail
        go_ret
        exact HK2.out.post (chkB HP.out)
set_option maxHeartbeats 2000000 in
set_option maxRecDepth 100000 in
theorem Check_walk (nm : ByteArray → Bool) (hnm : NameIs nm) (x : S49) (A : Option Addr) (c : Nat) (w : World) (hc : x.f3.length ≤ c) (hC : Kd.C k49 w A x.f3.length x.f3) :
    Calls Try.prog 40 #[.agg #[.int .u8 x.f0, .int .i64 x.f1, .string x.f2, .slice A x.f3.length c]] w fun e w' => e = .returned (.bool (okE nm x)) ∧ Below w.heap.size w w' := by
  have HC := Lib.hid hC; have HN := Lib.hid hnm
  clear hC hnm
  go_enter Try.func40, Try.ntmps40
  go_wp2_with fail
  have hcn : Cnt ((w.alloc (.cells #[.int .u8 x.f0, .int .i64 x.f1, .string x.f2, .slice A x.f3.length c] 49)).alloc (.cells #[.int .i64 200] 3)) (w.heap.size + 1) 200 := by
    have := heap_alloc_new (w.alloc (.cells #[.int .u8 x.f0, .int .i64 x.f1, .string x.f2, .slice A x.f3.length c] 49)) (.cells #[.int .i64 200] 3)
    have e : (w.alloc (.cells #[.int .u8 x.f0, .int .i64 x.f1, .string x.f2, .slice A x.f3.length c] 49)).heap.size = w.heap.size + 1 := by simp
    rw [e] at this
    exact this
  refine (check_walk nm HN.out 32 x A c (w.heap.size + 1) 200 w _ (Nat.le_refl _) (by omega) (by omega) hc HC.out (((Below.refl _ _).alloc (Nat.le_refl _) _).alloc (by simp) _) (by omega) hcn).mono ?_
  intro e w2 hp
  obtain ⟨rfl, _, hb, _, _⟩ := hp
  have HB := Lib.hid hb
  clear hb
  go_wp2_with fail
  go_ret
  exact ⟨rfl, HB.out⟩
end Go.Proofs.Ytfkggeakjgphjaa.C
