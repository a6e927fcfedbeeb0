/- JG: joined by wip/mkclaim.py (ours) from the texts RiA, RiW of this seat. -/
import Derived.Test.YtfkggeakjgphjaaAlW
import Derived.Test.YtfkggeakjgphjaaCirP
/- CirclesRing: what memory holds while the rows are built. -/
namespace Go.Proofs.Ytfkggeakjgphjaa.C
set_option linter.unusedVariables false
set_option linter.unusedSimpArgs false
set_option linter.unusedSectionVars false
open Go.RowKit Go.Shelf Go.Proofs.YtfkggeakjgphjaaW.PrintWords Go.Proofs.YtfkggeakjgphjaaW.PrintLast Go.Proofs.YtfkggeakjgphjaaW.PrintMore
open Go.Proofs.RngT Go.Proofs.Circ
def InR (w : World) (xs : List Int) (cs : List Value) : Prop := (xs = [] ∧ cs = [.slice none 0 0]) ∨ ∃ g x, xs = [x] ∧ cs = [.slice (some ⟨g, 0, none⟩) 1 1] ∧ w.heap[g]? = some (.cells #[.int .i64 x] 3 (0, 0))
def RR (b : Nat) (w : World) (v : Value) (rows : List (List Int)) : Prop := ∃ vals, w.ownsRow b 35 1 v rows.length vals ∧ Reps (InR w) 1 rows vals
/-- blocks of one number stay. -/
def Fr3 (w w' : World) : Prop := ∀ (g : Nat) (x : Int), w.heap[g]? = some (Obj.cells #[.int .i64 x] 3 (0, 0)) → w'.heap[g]? = w.heap[g]?
theorem Fr3.below {w w' : World} (h : Below w.heap.size w w') : Fr3 w w' := fun g x hg => h.block g (Array.getElem?_eq_some_iff.1 hg).1
theorem Fr3.grown {w w1 : World} {v : Value} {b e n s : Nat} {vals : List Value} (ho : w.ownsRow b e s v n vals) (he : e ≠ 3) (hg : w.grownBy w1 v.ownBlock) : Fr3 w w1 := fun g x hx => by
  refine hg.block g (Array.getElem?_eq_some_iff.1 hx).1 (fun e2 => ?_)
  obtain ⟨cells, hc⟩ := own_typed ho g e2.symm
  rw [hc] at hx
  injection hx with hx
  injection hx with _ h3 _
  exact he h3
theorem InR.move {w w' : World} (h : Fr3 w w') {xs : List Int} {cs : List Value} (hi : InR w xs cs) : InR w' xs cs := by
  rcases hi with hi | ⟨g, x, h1, h2, h3⟩
  · exact .inl hi
  · exact .inr ⟨g, x, h1, h2, (h g x h3).trans h3⟩
theorem RR.move {b : Nat} {w w' : World} {v : Value} {rows : List (List Int)} (h : RR b w v rows) (hv : ∀ k, v.ownBlock = some k → w'.heap[k]? = w.heap[k]?) (h3 : Fr3 w w') : RR b w' v rows := by
  obtain ⟨vals, ho, hr⟩ := h
  exact ⟨vals, own_move ho hv, hr.imp_ (fun _ _ q => q.move h3)⟩
theorem RR.below {b : Nat} {w w' : World} {v : Value} {rows : List (List Int)} (h : RR b w v rows) (hb : Below w.heap.size w w') : RR b w' v rows :=
  h.move (fun k hk => hb.block k (by obtain ⟨vals, ho, _⟩ := h; exact own_lt ho k hk)) (Fr3.below hb)
theorem RR.nil (b : Nat) (w : World) : RR b w (.slice none 0 0) [] := ⟨[], World.ownsRow_nil _ _ _ _, Reps.none _ _⟩
theorem RR.lt {b : Nat} {w : World} {v : Value} {rows : List (List Int)} (h : RR b w v rows) (k : Nat) (hk : v.ownBlock = some k) : k < w.heap.size := by obtain ⟨vals, ho, _⟩ := h; exact own_lt ho k hk
theorem RR.slice {b : Nat} {w : World} {v : Value} {rows : List (List Int)} (h : RR b w v rows) : ∃ A c, v = .slice A rows.length c := by obtain ⟨vals, ho, _⟩ := h; exact own_slice ho
theorem RR.app {b : Nat} {W w1 : World} {v v1 u : Value} {vals : List Value} {rows : List (List Int)} {xs : List Int} (hv : W.ownsRow b 35 1 v rows.length vals) (hr : Reps (InR W) 1 rows vals) (hx : InR W xs [u])
    (ho : w1.ownsRow b 35 1 v1 (vals ++ [u]).length (vals ++ [u])) (hg : W.grownBy w1 v.ownBlock) : RR b w1 v1 (rows ++ [xs]) := by
  have h3 := Fr3.grown hv (by decide) hg
  have hl : vals.length = rows.length := by have := hv.1; simpa using this
  refine ⟨vals ++ [u], by rw [show (rows ++ [xs]).length = (vals ++ [u]).length by simp [hl]]; exact ho, (hr.imp_ (fun _ _ q => q.move h3)).snoc (hx.move h3) rfl⟩
theorem RR.other {b n : Nat} {W w1 : World} {v v' : Value} {vals : List Value} {e : Nat} {rows : List (List Int)} (h : RR b W v' rows) (hv : W.ownsRow b e 1 v n vals) (he : e ≠ 3) (hs : ∀ k, v.ownBlock = some k → v'.ownBlock ≠ some k) (hg : W.grownBy w1 v.ownBlock) : RR b w1 v' rows :=
  h.move (fun k hk => hg.block k (h.lt k hk) (fun e2 => hs k e2.symm hk)) (Fr3.grown hv he hg)
theorem InR.K {w : World} {xs : List Int} {cs : List Value} (h : InR w xs cs) : kL.K w xs cs := by
  rcases h with ⟨rfl, rfl⟩ | ⟨g, x, rfl, rfl, h3⟩
  · exact ⟨none, 0, rfl, Nat.le_refl _, Kd.C_nil _ _⟩
  · exact row_K (xs := [x]) h3 (by simp)
theorem RR.C {b : Nat} {w : World} {v : Value} {rows : List (List Int)} (h : RR b w v rows) : ∃ A c, v = .slice A rows.length c ∧ rows.length ≤ c ∧ Kd.C kL w A rows.length rows := by
  obtain ⟨vals, ho, hr⟩ := h
  exact OwnRow.reads ⟨vals, ho, hr.imp_ (fun _ _ q => q.K)⟩
/-- no two share a block. -/
def Sep (v v' : Value) : Prop := ∀ k, v.ownBlock = some k → v'.ownBlock ≠ some k
theorem Sep.symm {v v' : Value} (h : Sep v v') : Sep v' v := fun k hk e => h k e hk
theorem Sep.grow {W : World} {v v1 v' : Value} (h : Sep v v') (hat : v1.ownBlock = v.ownBlock ∨ ∃ k, v1.ownBlock = some k ∧ W.heap.size ≤ k) (hl : ∀ k, v'.ownBlock = some k → k < W.heap.size) : Sep v1 v' := by
  intro k hk e
  rcases hat with h1 | ⟨j, h1, hj⟩
  · exact h k (h1 ▸ hk) e
  · rw [hk] at h1; injection h1 with h1
    have := hl k e; omega
def nxR (K i : Nat) : Int := (((i + 1) % K : Nat) : Int)
def nowR (K i : Nat) : List (List Int) := (List.range i).map fun j => [nxR K j]
def cutR (K c i : Nat) : List (List Int) := (List.range i).map fun j => if j = c then [] else [nxR K j]
def agoR (K c i : Nat) : List (List Int) := (List.range i).map fun j => if j = c then [nxR K j] else []
def wantR (i : Nat) : List ByteArray := (List.range i).map fun j : Nat => wordB (j : Int)
theorem nowR_snoc (K i : Nat) : nowR K (i + 1) = nowR K i ++ [[nxR K i]] := by unfold nowR; rw [List.range_succ, List.map_append]; rfl
theorem cutR_snoc (K c i : Nat) : cutR K c (i + 1) = cutR K c i ++ [if i = c then [] else [nxR K i]] := by unfold cutR; rw [List.range_succ, List.map_append]; rfl
theorem agoR_snoc (K c i : Nat) : agoR K c (i + 1) = agoR K c i ++ [if i = c then [nxR K i] else []] := by unfold agoR; rw [List.range_succ, List.map_append]; rfl
theorem wantR_snoc (i : Nat) : wantR (i + 1) = wantR i ++ [wordB (i : Int)] := by unfold wantR; rw [List.range_succ, List.map_append]; rfl
structure RgS (b : Nat) (w0 wr : World) (v6 v7 v8 v9 : Value) (r6 r7 r8 : List (List Int)) (r9 : List ByteArray) : Prop where
  bel : Below b w0 wr
  sz : b ≤ wr.heap.size
  r6 : RR b wr v6 r6
  r7 : RR b wr v7 r7
  r8 : RR b wr v8 r8
  r9 : wr.ownsRow b 9 1 v9 r9.length (r9.map Value.string)
  s67 : Sep v6 v7
  s68 : Sep v6 v8
  s78 : Sep v7 v8
section
variable {b : Nat} {w0 wr w1 : World} {v6 v7 v8 v9 v1 u : Value} {r6 r7 r8 : List (List Int)} {r9 : List ByteArray} {vals : List Value} {xs : List Int} {s : ByteArray}
theorem RgS.below (h : RgS b w0 wr v6 v7 v8 v9 r6 r7 r8 r9) (hb : Below wr.heap.size wr w1) : RgS b w0 w1 v6 v7 v8 v9 r6 r7 r8 r9 :=
  ⟨h.bel.trans (hb.mono h.sz), Nat.le_trans h.sz hb.size, h.r6.below hb, h.r7.below hb, h.r8.below hb, own_move h.r9 (fun k hk => hb.block k (own_lt h.r9 k hk)), h.s67, h.s68, h.s78⟩
theorem r9_other {b n : Nat} {W w1 : World} {v v9 : Value} {vals cs : List Value} {m : Nat} (h : W.ownsRow b 9 1 v9 m cs) (hv : W.ownsRow b 35 1 v n vals) (hg : W.grownBy w1 v.ownBlock) : w1.ownsRow b 9 1 v9 m cs :=
  own_move h (fun k hk => hg.block k (own_lt h k hk) (fun e => rows_ne h hv (by decide) k hk e.symm))
theorem RgS.app6 (h : RgS b w0 wr v6 v7 v8 v9 r6 r7 r8 r9) (hv : wr.ownsRow b 35 1 v6 r6.length vals) (hr : Reps (InR wr) 1 r6 vals) (hx : InR wr xs [u]) (ho : w1.ownsRow b 35 1 v1 (vals ++ [u]).length (vals ++ [u])) (hg : wr.grownBy w1 v6.ownBlock)
    (hat : v1.ownBlock = v6.ownBlock ∨ ∃ k, v1.ownBlock = some k ∧ wr.heap.size ≤ k) (hb : Below b wr w1) : RgS b w0 w1 v1 v7 v8 v9 (r6 ++ [xs]) r7 r8 r9 :=
  ⟨h.bel.trans hb, Nat.le_trans h.sz hg.size, RR.app hv hr hx ho hg, h.r7.other hv (by decide) h.s67 hg, h.r8.other hv (by decide) h.s68 hg, r9_other h.r9 hv hg, h.s67.grow hat (fun k hk => h.r7.lt k hk), h.s68.grow hat (fun k hk => h.r8.lt k hk), h.s78⟩
theorem RgS.app7 (h : RgS b w0 wr v6 v7 v8 v9 r6 r7 r8 r9) (hv : wr.ownsRow b 35 1 v7 r7.length vals) (hr : Reps (InR wr) 1 r7 vals) (hx : InR wr xs [u]) (ho : w1.ownsRow b 35 1 v1 (vals ++ [u]).length (vals ++ [u])) (hg : wr.grownBy w1 v7.ownBlock)
    (hat : v1.ownBlock = v7.ownBlock ∨ ∃ k, v1.ownBlock = some k ∧ wr.heap.size ≤ k) (hb : Below b wr w1) : RgS b w0 w1 v6 v1 v8 v9 r6 (r7 ++ [xs]) r8 r9 :=
  ⟨h.bel.trans hb, Nat.le_trans h.sz hg.size, h.r6.other hv (by decide) h.s67.symm hg, RR.app hv hr hx ho hg, h.r8.other hv (by decide) h.s78 hg, r9_other h.r9 hv hg, (h.s67.symm.grow hat (fun k hk => h.r6.lt k hk)).symm, h.s68, h.s78.grow hat (fun k hk => h.r8.lt k hk)⟩
theorem RgS.app8 (h : RgS b w0 wr v6 v7 v8 v9 r6 r7 r8 r9) (hv : wr.ownsRow b 35 1 v8 r8.length vals) (hr : Reps (InR wr) 1 r8 vals) (hx : InR wr xs [u]) (ho : w1.ownsRow b 35 1 v1 (vals ++ [u]).length (vals ++ [u])) (hg : wr.grownBy w1 v8.ownBlock)
    (hat : v1.ownBlock = v8.ownBlock ∨ ∃ k, v1.ownBlock = some k ∧ wr.heap.size ≤ k) (hb : Below b wr w1) : RgS b w0 w1 v6 v7 v1 v9 r6 r7 (r8 ++ [xs]) r9 :=
  ⟨h.bel.trans hb, Nat.le_trans h.sz hg.size, h.r6.other hv (by decide) h.s68.symm hg, h.r7.other hv (by decide) h.s78.symm hg, RR.app hv hr hx ho hg, r9_other h.r9 hv hg, h.s67, (h.s68.symm.grow hat (fun k hk => h.r6.lt k hk)).symm, (h.s78.symm.grow hat (fun k hk => h.r7.lt k hk)).symm⟩
theorem RgS.app9 (h : RgS b w0 wr v6 v7 v8 v9 r6 r7 r8 r9) (ho : w1.ownsRow b 9 1 v1 (r9.map Value.string ++ [Value.string s]).length (r9.map Value.string ++ [Value.string s])) (hg : wr.grownBy w1 v9.ownBlock) (hb : Below b wr w1) : RgS b w0 w1 v6 v7 v8 v1 r6 r7 r8 (r9 ++ [s]) := by
  have key : ∀ {v : Value} {r : List (List Int)}, RR b wr v r → RR b w1 v r := fun hr => hr.other h.r9 (by decide) (fun k hk e => by
    obtain ⟨vals, ho2, _⟩ := hr
    exact rows_ne h.r9 ho2 (by decide) k hk e) hg
  exact ⟨h.bel.trans hb, Nat.le_trans h.sz hg.size, key h.r6, key h.r7, key h.r8, by simpa using ho, h.s67, h.s68, h.s78⟩
end
end Go.Proofs.Ytfkggeakjgphjaa.C

/- CirclesRing: walked. -/
namespace Go.Proofs.Ytfkggeakjgphjaa.C
set_option linter.unusedVariables false
set_option linter.unusedSimpArgs false
set_option linter.unusedSectionVars false
open Go.RowKit Go.Shelf Go.Proofs.YtfkggeakjgphjaaW.PrintWords Go.Proofs.YtfkggeakjgphjaaW.PrintLast Go.Proofs.YtfkggeakjgphjaaW.PrintMore
open Go.Proofs.RngT Go.Proofs.Circ
attribute [local go_sem] Oper.semAt_some
theorem below_of_drawn {w w' : World} (h : Drawn0 w w') : Below w.heap.size w w' := by
  obtain ⟨nd, rfl⟩ := h
  exact pw_below_drewN (Below.refl _ _) nd
theorem nm_len (r : List ByteArray) : (r.map Value.string).length = r.length := by simp
set_option maxHeartbeats 8000000 in
set_option maxRecDepth 100000 in
theorem ring_in (w : World) (a0 a1 : Int) (K c : Nat) (hK1 : 1 ≤ K) (hK : K ≤ 60) (hc : c < K) (e0 : wrap64 (wrap64 (Int.tmod a0 60) + 1) = (K : Int)) (e1 : Int.tmod (wrap64 a1) (K : Int) = (c : Int))
    (q1 : ckOf (nowR K K) [] = 8) (q2 : circT [] (ofF (nowR K K) []) = wantR K) (q3 : ckOf (cutR K c K) (agoR K c K) = 0) (q4 : circT [] (ofF (cutR K c K) (agoR K c K)) = [])
    (h1 : RowsIn K (nowR K K)) (h2 : RowsIn K (cutR K c K)) (h3 : RowsIn K (agoR K c K)) :
    CallsIn Fence.wide 9 Try.prog 5 #[.int .u8 a0, .int .u8 a1] w fun e w' => e = .returned (.bool true) ∧ Below w.heap.size w w' := by
  have Q1 := Lib.hid q1; have Q2 := Lib.hid q2; have Q3 := Lib.hid q3; have Q4 := Lib.hid q4; have H1 := Lib.hid h1; have H2 := Lib.hid h2; have H3 := Lib.hid h3
  have E0 := Lib.hid e0
  have hmod : ∀ i : Nat, ((i : Int) + 1) % (K : Int) = nxR K i := fun i => by
    unfold nxR
    exact (Int.natCast_emod (i + 1) K).symm
  have HM := Lib.hid hmod
  clear q1 q2 q3 q4 h1 h2 h3 e0 hmod
  refine callsIn_of_wp Try.func5 rfl trivial ?_ rfl
  simp only [Try.ntmps5, List.size_toArray, List.length_cons, List.length_nil, Nat.reduceAdd, Nat.reduceSub, Array.replicate_succ, Array.replicate_zero, List.push_toArray, List.append_toArray, List.nil_append, List.cons_append]
  obtain ⟨b, hb⟩ : ∃ b, b = w.heap.size := ⟨_, rfl⟩
  have HB := Lib.hid hb
  have HR0 : Hid (RgS b w w (.slice none 0 0) (.slice none 0 0) (.slice none 0 0) (.slice none 0 0) [] [] [] []) := Lib.hid ⟨Below.refl _ _, by omega, RR.nil _ _, RR.nil _ _, RR.nil _ _, World.ownsRow_nil _ _ _ _, fun k hk => by simp [Value.ownBlock] at hk, fun k hk => by simp [Value.ownBlock] at hk, fun k hk => by simp [Value.ownBlock] at hk⟩
  clear hb
  gi_wp2_with fail
  rw [E0.out]
  gi_loopw [6, 7, 8, 9, 10] (fun v6 v7 v8 v9 v10 wr => ∃ i : Nat, v10 = .int .i64 i ∧ i ≤ K ∧ Hid (RgS b w wr v6 v7 v8 v9 (nowR K i) (cutR K c i) (agoR K c i) (wantR i))) (fun _ _ _ _ v10 _ => K - (intOf v10).toNat)
  case atStart => exact ⟨0, rfl, Nat.zero_le _, HR0⟩
  case round =>
    clear HR0
    obtain ⟨i, rfl, hi, HS⟩ := hrel
    by_cases hlt : i < K
    · have hmi := HM.out i
      have HX := Lib.hid hmi
      have hb1 : Below wr.heap.size wr (wr.alloc (.cells #[.int .i64 (((i : Int) + 1) % (K : Int))] 3)) := (Below.refl _ _).alloc (Nat.le_refl _) _
      have hS1 := HS.out.below hb1
      have hin : InR (wr.alloc (.cells #[.int .i64 (((i : Int) + 1) % (K : Int))] 3)) [((i : Int) + 1) % (K : Int)] [.slice (some ⟨wr.heap.size, 0, none⟩) 1 1] := .inr ⟨wr.heap.size, _, rfl, rfl, World.alloc_heap_new _ _⟩
      obtain ⟨vals6, ho6, hr6⟩ := hS1.r6
      have hl6 : vals6.length = i := by have := ho6.1; simp [nowR] at this; exact this
      have ho6' : (wr.alloc (.cells #[.int .i64 (((i : Int) + 1) % (K : Int))] 3)).ownsRow b 35 1 u6 vals6.length vals6 := by
        rw [show vals6.length = (nowR K i).length by rw [hl6]; simp [nowR]]; exact ho6
      have hsz1 : b ≤ (wr.alloc (.cells #[.int .i64 (((i : Int) + 1) % (K : Int))] 3)).heap.size := hS1.sz
      have HS1 := Lib.hid hS1; have HIN := Lib.hid hin; have HO6 := Lib.hid ho6; have HR6 := Lib.hid hr6; have HO6' := Lib.hid ho6'
      clear hb1 hS1 hin ho6 hr6 HS hmi ho6'
      gi_wp2_with (gi_at_builtin; refine printIn_append (w0 := wr.alloc (.cells #[.int .i64 (((i : Int) + 1) % (K : Int))] 3)) (W := wr.alloc (.cells #[.int .i64 (((i : Int) + 1) % (K : Int))] 3)) b rfl _ _ 34 35 (.slice none 0 0) 24 rfl Try.underlying34 info35 rfl (by decide) u6 vals6 (.slice (some ⟨wr.heap.size, 0, none⟩) 1 1) rfl (by rw [World.size_alloc]; rfl) rfl HO6'.out (Below.refl _ _) hsz1 (by omega) ?_; intro p6 w6 hown6 hB6 hg6 hat6; have hS6 := HS1.out.app6 HO6.out HR6.out HIN.out hown6 hg6 hat6 hB6; have hin6 := HIN.out.move (Fr3.grown HO6.out (by decide) hg6); have HS6 := Lib.hid hS6; have HIN6 := Lib.hid hin6; clear hown6 hB6 hg6 hat6 hS6 hin6 HIN HO6 HO6' HR6 HS1)
      refine ⟨trivial, ?_⟩
      refine (callsIn_wide.2 (word_any (i : Int) (by omega) (by omega) w6)).mono ?_
      rintro e w7 ⟨rfl, hd⟩
      have hb7 := below_of_drawn hd
      have hS7 := HS6.out.below hb7
      have hin7 := HIN6.out.move (Fr3.below hb7)
      have ho9 := hS7.r9
      obtain ⟨x9, hx9⟩ : ∃ x9, x9 = (wantR i).map Value.string := ⟨_, rfl⟩
      have hl9 : x9.length = i := by rw [hx9]; simp [wantR]
      have ho9' : w7.ownsRow b 9 1 u9 x9.length x9 := by rw [hx9, nm_len]; exact ho9
      have hsz7 : b ≤ w7.heap.size := hS7.sz
      have HS7 := Lib.hid hS7; have HIN7 := Lib.hid hin7; have HO9 := Lib.hid ho9'; have HX9 := Lib.hid hx9
      clear hb7 hS7 hin7 ho9 ho9' hx9 HS6 HIN6 hd
      have ARM9 := fun (p9 : Value) (w8 : World) (hown : w8.ownsRow b 9 1 p9 (x9 ++ [Value.string (wordB (i : Int))]).length (x9 ++ [Value.string (wordB (i : Int))])) (hB : Below b w7 w8) (hg : w7.grownBy w8 u9.ownBlock) =>
        (show RgS b w w8 p6 u7 u8 p9 (nowR K i ++ [[((i : Int) + 1) % (K : Int)]]) (cutR K c i) (agoR K c i) (wantR i ++ [wordB (i : Int)]) ∧ InR w8 [((i : Int) + 1) % (K : Int)] [.slice (some ⟨wr.heap.size, 0, none⟩) 1 1] from
          ⟨HS7.out.app9 (by rw [HX9.out] at hown; exact hown) hg hB, HIN7.out.move (Fr3.grown HO9.out (by decide) hg)⟩)
      have H9 := Lib.hid ARM9
      clear ARM9
      by_cases hic : i = c
      · subst hic
        gi_wp2_with (first | (gi_at_builtin; refine printIn_append (w0 := w7) (W := w7) b rfl _ _ 24 9 (.string ByteArray.empty) 16 rfl Try.underlying24 info9 rfl (by decide) u9 x9 (.string (wordB (i : Int))) rfl rfl rfl HO9.out (Below.refl _ _) hsz7 (by omega) ?_; intro p9 w8 hown9 hB9 hg9 hat9; obtain ⟨hS8, hin8⟩ := H9.out p9 w8 hown9 hB9 hg9; obtain ⟨vals7, ho7, hr7⟩ := hS8.r7; have hl7 : vals7.length = i := (by have := ho7.1; simp [cutR] at this; exact this); have ho7' : w8.ownsRow b 35 1 u7 vals7.length vals7 := (by rw [show vals7.length = (cutR K i i).length by rw [hl7]; simp [cutR]]; exact ho7); have hsz8 := hS8.sz; have HS8 := Lib.hid hS8; have HIN8 := Lib.hid hin8; have HO7 := Lib.hid ho7; have HR7 := Lib.hid hr7; have HO7' := Lib.hid ho7'; clear hown9 hB9 hg9 hat9 hS8 hin8 ho7 hr7 ho7' HO9 H9) | (gi_at_builtin; refine printIn_append (w0 := w8) (W := w8) b rfl _ _ 34 35 (.slice none 0 0) 24 rfl Try.underlying34 info35 rfl (by decide) u7 vals7 (.slice none 0 0) rfl rfl rfl HO7'.out (Below.refl _ _) hsz8 (by omega) ?_; intro p7 w9 hown9 hB9 hg9 hat9; have hS9 := HS8.out.app7 HO7.out HR7.out (.inl ⟨rfl, rfl⟩) hown9 hg9 hat9 hB9; have hin9 := HIN8.out.move (Fr3.grown HO7.out (by decide) hg9); obtain ⟨vals8, ho8, hr8⟩ := hS9.r8; have hl8 : vals8.length = i := (by have := ho8.1; simp [agoR] at this; exact this); have ho8' : w9.ownsRow b 35 1 u8 vals8.length vals8 := (by rw [show vals8.length = (agoR K i i).length by rw [hl8]; simp [agoR]]; exact ho8); have hsz9 := hS9.sz; have HS9 := Lib.hid hS9; have HIN9 := Lib.hid hin9; have HO8 := Lib.hid ho8; have HR8 := Lib.hid hr8; have HO8' := Lib.hid ho8'; clear hown9 hB9 hg9 hat9 hS9 hin9 ho8 hr8 ho8' HO7 HO7' HR7 HS8 HIN8) | (gi_at_builtin; refine printIn_append (w0 := w9) (W := w9) b rfl _ _ 34 35 (.slice none 0 0) 24 rfl Try.underlying34 info35 rfl (by decide) u8 vals8 (.slice (some ⟨wr.heap.size, 0, none⟩) 1 1) rfl rfl rfl HO8'.out (Below.refl _ _) hsz9 (by omega) ?_; intro p8 w10 hown10 hB10 hg10 hat10; have hS10 := HS9.out.app8 HO8.out HR8.out HIN9.out hown10 hg10 hat10 hB10; have HS10 := Lib.hid hS10; clear hown10 hB10 hg10 hat10 hS10 HO8 HO8' HR8 HS9 HIN9))
        refine ⟨⟨i + 1, by go_num, by omega, ?_⟩, by simp [intOf]; omega⟩
        rw [nowR_snoc, cutR_snoc, agoR_snoc, wantR_snoc, if_pos rfl, if_pos rfl, ← HX.out]
        exact HS10
      · gi_wp2_with (first | (gi_at_builtin; refine printIn_append (w0 := w7) (W := w7) b rfl _ _ 24 9 (.string ByteArray.empty) 16 rfl Try.underlying24 info9 rfl (by decide) u9 x9 (.string (wordB (i : Int))) rfl rfl rfl HO9.out (Below.refl _ _) hsz7 (by omega) ?_; intro p9 w8 hown9 hB9 hg9 hat9; obtain ⟨hS8, hin8⟩ := H9.out p9 w8 hown9 hB9 hg9; obtain ⟨vals7, ho7, hr7⟩ := hS8.r7; have hl7 : vals7.length = i := (by have := ho7.1; simp [cutR] at this; exact this); have ho7' : w8.ownsRow b 35 1 u7 vals7.length vals7 := (by rw [show vals7.length = (cutR K c i).length by rw [hl7]; simp [cutR]]; exact ho7); have hsz8 := hS8.sz; have HS8 := Lib.hid hS8; have HIN8 := Lib.hid hin8; have HO7 := Lib.hid ho7; have HR7 := Lib.hid hr7; have HO7' := Lib.hid ho7'; clear hown9 hB9 hg9 hat9 hS8 hin8 ho7 hr7 ho7' HO9 H9) | (gi_at_builtin; refine printIn_append (w0 := w8) (W := w8) b rfl _ _ 34 35 (.slice none 0 0) 24 rfl Try.underlying34 info35 rfl (by decide) u7 vals7 (.slice (some ⟨wr.heap.size, 0, none⟩) 1 1) rfl rfl rfl HO7'.out (Below.refl _ _) hsz8 (by omega) ?_; intro p7 w9 hown9 hB9 hg9 hat9; have hS9 := HS8.out.app7 HO7.out HR7.out HIN8.out hown9 hg9 hat9 hB9; have hin9 := HIN8.out.move (Fr3.grown HO7.out (by decide) hg9); obtain ⟨vals8, ho8, hr8⟩ := hS9.r8; have hl8 : vals8.length = i := (by have := ho8.1; simp [agoR] at this; exact this); have ho8' : w9.ownsRow b 35 1 u8 vals8.length vals8 := (by rw [show vals8.length = (agoR K c i).length by rw [hl8]; simp [agoR]]; exact ho8); have hsz9 := hS9.sz; have HS9 := Lib.hid hS9; have HIN9 := Lib.hid hin9; have HO8 := Lib.hid ho8; have HR8 := Lib.hid hr8; have HO8' := Lib.hid ho8'; clear hown9 hB9 hg9 hat9 hS9 hin9 ho8 hr8 ho8' HO7 HO7' HR7 HS8 HIN8) | (gi_at_builtin; refine printIn_append (w0 := w9) (W := w9) b rfl _ _ 34 35 (.slice none 0 0) 24 rfl Try.underlying34 info35 rfl (by decide) u8 vals8 (.slice none 0 0) rfl rfl rfl HO8'.out (Below.refl _ _) hsz9 (by omega) ?_; intro p8 w10 hown10 hB10 hg10 hat10; have hS10 := HS9.out.app8 HO8.out HR8.out (.inl ⟨rfl, rfl⟩) hown10 hg10 hat10 hB10; have HS10 := Lib.hid hS10; clear hown10 hB10 hg10 hat10 hS10 HO8 HO8' HR8 HS9 HIN9))
        refine ⟨⟨i + 1, by go_num, by omega, ?_⟩, by simp [intOf]; omega⟩
        rw [nowR_snoc, cutR_snoc, agoR_snoc, wantR_snoc, if_neg hic, if_neg hic, ← HX.out]
        exact HS10
    · obtain rfl : i = K := by omega
      have hS := HS.out
      have l6 : (nowR i i).length = i := by simp [nowR]
      have l7 : (cutR i c i).length = i := by simp [cutR]
      have l8 : (agoR i c i).length = i := by simp [agoR]
      have l9 : (wantR i).length = i := by simp [wantR]
      obtain ⟨A6, c6, e6, hc6, hC6⟩ := hS.r6.C
      obtain ⟨A7, c7, e7, hc7, hC7⟩ := hS.r7.C
      obtain ⟨A8, c8, e8, hc8, hC8⟩ := hS.r8.C
      obtain ⟨A9, c9, e9, hc9, hC9⟩ := Kd.R_reads (ownS_R hS.r9)
      rw [l6] at e6 hc6 hC6
      rw [l7] at e7 hc7 hC7
      rw [l8] at e8 hc8 hC8
      rw [l9] at e9 hc9 hC9
      subst e6; subst e7; subst e8; subst e9
      have hbl := hS.bel
      rw [HB.out] at hbl
      have O1 := Lib.hid (of_any (n := i) (m := 0) l6.symm rfl H1.out.ok rokN A6 c6 none 0 wr hC6 hc6 (Kd.C_nil _ _) (Nat.le_refl _))
      have HC7 := Lib.hid hC7; have HC8 := Lib.hid hC8; have HC9 := Lib.hid hC9; have HBL := Lib.hid hbl
      have HL6 := Lib.hid l6; have HL7 := Lib.hid l7; have HL8 := Lib.hid l8
      clear hS hC6 hC7 hC8 hC9 hbl HS l6 l7 l8 l9
      gi_wp2_with fail
      refine ⟨trivial, ?_⟩
      refine (callsIn_wide.2 O1.out).mono ?_
      rintro e w1 ⟨B1, d1, B2, d2, B3, d3, rfl, hx, h5⟩
      obtain ⟨v1, hv1⟩ : ∃ v1, v1 = w1.alloc (.cells #[.int .i64 1, .slice B1 0 d1, .slice B2 i d2, .slice B3 0 d3] 26) := ⟨_, rfl⟩
      have hs1 : v1.heap.size = w1.heap.size + 1 := by rw [hv1]; simp
      rw [← hv1] at hx
      have X1 := Lib.hid hx
      have Y1 : Hid (Below wr.heap.size wr v1) := Lib.hid (by rw [hv1]; exact h5.alloc h5.size _)
      have hb7 := Kd.C_below HC7.out Y1.out
      have hb8 := Kd.C_below HC8.out Y1.out
      have O2 := Lib.hid (of_any (n := i) (m := i) HL7.out.symm HL8.out.symm H2.out.ok H3.out.ok A7 c7 A8 c8 v1 hb7 hc7 hb8 hc8)
      have HV1 := Lib.hid hv1
      clear hx h5 O1 hb7 hb8 hv1
      gi_wp2_with fail
      rw [← HV1.out]
      refine ⟨trivial, ?_⟩
      refine (callsIn_wide.2 O2.out).mono ?_
      rintro e w2 ⟨C1, i1, C2, i2, C3, i3, rfl, hx, h5⟩
      obtain ⟨v2, hv2⟩ : ∃ v2, v2 = w2.alloc (.cells #[.int .i64 1, .slice C1 0 i1, .slice C2 i i2, .slice C3 0 i3] 26) := ⟨_, rfl⟩
      rw [← hv2] at hx
      have Z2 : Below v1.heap.size v1 v2 := by rw [hv2]; exact h5.alloc h5.size _
      obtain ⟨PK, hst, hbl, hp, hq, hw9, h0⟩ : ∃ PK : World → Prop, (∀ W W', PK W → Below W.heap.size W W' → PK W') ∧ (∀ W, PK W → Below w.heap.size w W) ∧ (∀ W, PK W → Bx w1.heap.size B1 d1 B2 d2 B3 d3 i (nowR i i) [] W) ∧ (∀ W, PK W → Bx w2.heap.size C1 i1 C2 i2 C3 i3 i (cutR i c i) (agoR i c i) W) ∧ (∀ W, PK W → Kd.C Kd.string W A9 i (wantR i)) ∧ PK v2 :=
        ⟨fun W => Below w.heap.size w W ∧ Bx w1.heap.size B1 d1 B2 d2 B3 d3 i (nowR i i) [] W ∧ Bx w2.heap.size C1 i1 C2 i2 C3 i3 i (cutR i c i) (agoR i c i) W ∧ Kd.C Kd.string W A9 i (wantR i),
          fun W W' h hb => ⟨h.1.trans (hb.mono h.1.size), h.2.1.stay hb, h.2.2.1.stay hb, Kd.C_below h.2.2.2 hb⟩, fun W h => h.1, fun W h => h.2.1, fun W h => h.2.2.1, fun W h => h.2.2.2,
          (HBL.out.trans (Y1.out.mono HBL.out.size)).trans (Z2.mono (Nat.le_trans HBL.out.size Y1.out.size)), X1.out.stay Z2, hx, Kd.C_below (Kd.C_below HC9.out Y1.out) Z2⟩
      have HST := Lib.hid hst; have HBE := Lib.hid hbl; have HP := Lib.hid hp; have HQ := Lib.hid hq; have HW9 := Lib.hid hw9; have K0 := Lib.hid h0; have HV2 := Lib.hid hv2
      clear hx h5 O2 Z2 hst hbl hp hq hw9 h0 hv2 hs1
      gi_wp2_with fail
      rw [← HV2.out]
      refine ⟨trivial, ?_⟩
      refine (callsIn_wide.2 (alive_any v2)).mono ?_
      rintro e w3 ⟨rfl, hb5⟩
      have KN := Lib.hid (HST.out _ _ K0.out hb5)
      obtain ⟨t0, t1, t2, t3⟩ := box4 (HP.out _ KN.out).box
      have hlt1 := (HP.out _ KN.out).lt
      clear hb5 K0
      gi_wp2_with fail
      refine ⟨trivial, ?_⟩
      have hc1 := check_of H1.out (riN i (by omega)) HL6.out.symm (HP.out _ KN.out)
      rw [Q1.out] at hc1
      refine (callsIn_wide.2 hc1).mono ?_
      rintro e w4 ⟨rfl, hb5⟩
      have KC := Lib.hid (HST.out _ _ KN.out hb5)
      clear hc1 hb5 KN t0 t1 t2 t3 hlt1
      have KN := KC
      clear KC
      obtain ⟨t0, t1, t2, t3⟩ := box4 (HP.out _ KN.out).box
      have hlt1 := (HP.out _ KN.out).lt
      gi_wp2_with fail
      refine ⟨trivial, ?_⟩
      have hc1 := find_of H1.out (riN i (by omega)) HL6.out.symm (HP.out _ KN.out)
      rw [Q2.out] at hc1
      refine (callsIn_wide.2 hc1).mono ?_
      rintro e w5 ⟨A, c', rfl, hlc, hcc, hb5⟩
      have l9 : (wantR i).length = i := by simp [wantR]
      rw [l9] at hlc hcc ⊢
      have KC := Lib.hid (HST.out _ _ KN.out hb5)
      have hs := same_any A c' (wantR i) A9 c9 (wantR i) w5 (by rw [l9]; exact hcc) (by rw [l9]; exact hlc) (by rw [l9]; exact HW9.out _ KC.out) (by rw [l9]; exact hc9) (by omega)
      rw [decide_eq_true rfl, l9] at hs
      have HSM := Lib.hid hs
      clear hs hc1 hb5 hcc KN t0 t1 t2 t3 hlt1 l9
      have KN := KC
      clear KC
      gi_wp2_with fail
      refine ⟨trivial, ?_⟩
      refine (callsIn_wide.2 HSM.out).mono ?_
      rintro e w6 ⟨rfl, hd⟩
      have KC := Lib.hid (HST.out _ _ KN.out (below_of_drawn hd))
      clear KN hd HSM
      have KN := KC
      clear KC
      obtain ⟨t0, t1, t2, t3⟩ := box4 (HQ.out _ KN.out).box
      have hlt1 := (HQ.out _ KN.out).lt
      gi_wp2_with fail
      refine ⟨trivial, ?_⟩
      have hc1 := check_of H2.out H3.out HL7.out.symm (HQ.out _ KN.out)
      rw [Q3.out] at hc1
      refine (callsIn_wide.2 hc1).mono ?_
      rintro e w7 ⟨rfl, hb5⟩
      have KC := Lib.hid (HST.out _ _ KN.out hb5)
      clear hc1 hb5 KN t0 t1 t2 t3 hlt1
      have KN := KC
      clear KC
      obtain ⟨t0, t1, t2, t3⟩ := box4 (HQ.out _ KN.out).box
      have hlt1 := (HQ.out _ KN.out).lt
      gi_wp2_with fail
      refine ⟨trivial, ?_⟩
      have hc1 := find_of H2.out H3.out HL7.out.symm (HQ.out _ KN.out)
      rw [Q4.out] at hc1
      refine (callsIn_wide.2 hc1).mono ?_
      rintro e w8 ⟨A, c', rfl, hlc, hcc, hb5⟩
      have HEND := Lib.hid (HBE.out _ (HST.out _ _ KN.out hb5))
      clear hc1 hb5 hcc KN t0 t1 t2 t3 hlt1
      gi_wp2_with fail
      go_ret
      exact ⟨rfl, HEND.out⟩
theorem getD_map' {α : Type} (f : Nat → α) (K i : Nat) (d : α) : ((List.range K).map f).getD i d = if i < K then f i else d := by
  rw [List.getD_eq_getElem?_getD]
  by_cases h : i < K
  · rw [List.getElem?_eq_getElem (by simpa using h), if_pos h]; simp
  · rw [List.getElem?_eq_none (by simp; omega), if_neg h]; rfl
theorem nx_in {K i : Nat} (hK : 1 ≤ K) : 0 ≤ nxR K i ∧ nxR K i < (K : Int) := by unfold nxR; have := Nat.mod_lt (i + 1) (show 0 < K by omega); omega
theorem now_in {K : Nat} (h1 : 1 ≤ K) (hK : K ≤ 60) : RowsIn K (nowR K K) := rowsIn_of _ _ (by omega) (by simp [nowR]) (fun l hl => by
  obtain ⟨i, hi, rfl⟩ := List.mem_map.1 hl
  exact ⟨by simp, fun x hx => by rw [List.mem_singleton] at hx; rw [hx]; exact nx_in h1⟩)
theorem cut_in {K c : Nat} (h1 : 1 ≤ K) (hK : K ≤ 60) : RowsIn K (cutR K c K) := rowsIn_of _ _ (by omega) (by simp [cutR]) (fun l hl => by
  obtain ⟨i, hi, rfl⟩ := List.mem_map.1 hl
  split
  · simp
  · exact ⟨by simp, fun x hx => by rw [List.mem_singleton] at hx; rw [hx]; exact nx_in h1⟩)
theorem ago_in {K c : Nat} (h1 : 1 ≤ K) (hK : K ≤ 60) : RowsIn K (agoR K c K) := rowsIn_of _ _ (by omega) (by simp [agoR]) (fun l hl => by
  obtain ⟨i, hi, rfl⟩ := List.mem_map.1 hl
  split
  · exact ⟨by simp, fun x hx => by rw [List.mem_singleton] at hx; rw [hx]; exact nx_in h1⟩
  · simp)
theorem circNow {K : Nat} (h1 : 1 ≤ K) (hK : K ≤ 60) : circN [] (ofF (nowR K K) []) = List.range K := by
  have hn : K = (nowR K K).length := by simp [nowR]
  have g1 : ∀ i, i < K → ∀ x, x ∈ allN (needR [] (ofF (nowR K K) [])) i ↔ x = (i + 1) % K := fun i hi x => by
    rw [allOf (now_in h1 hK) (riN K (by omega)) hn]
    unfold nowR
    rw [getD_map', if_pos hi]
    unfold nxR
    rw [List.mem_singleton]
    exact ⟨fun h => Int.ofNat.inj h, fun h => by rw [h]⟩
  have g2 : ∀ x, K ≤ x → allN (needR [] (ofF (nowR K K) [])) x = [] := fun x hx => allNil (now_in h1 hK) (riN K (by omega)) hn x (by
    unfold nowR
    rw [getD_map', if_neg (by omega)])
  unfold circN
  rw [ofF_len, ← hn]
  exact circ_ring (by omega) g1 g2
theorem nowT {K : Nat} (h1 : 1 ≤ K) (hK : K ≤ 60) : circT [] (ofF (nowR K K) []) = wantR K := by
  unfold circT
  rw [circNow h1 hK]
  exact nmsOfF _ _ _ (fun i hi => by have := List.mem_range.1 hi; simp [nowR]; exact this)
theorem circCut {K c : Nat} (h1 : 1 ≤ K) (hK : K ≤ 60) (hc : c < K) : circN [] (ofF (cutR K c K) (agoR K c K)) = [] := by
  have hn : K = (cutR K c K).length := by simp [cutR]
  have g1 : ∀ i x, x ∈ allN (needR [] (ofF (cutR K c K) (agoR K c K))) i → i < K ∧ i ≠ c ∧ x = (i + 1) % K := fun i x hx => by
    rw [allOf (cut_in h1 hK) (ago_in h1 hK) hn] at hx
    unfold cutR at hx
    rw [getD_map'] at hx
    split at hx
    · rename_i hi
      split at hx
      · simp at hx
      · rename_i hic
        unfold nxR at hx
        rw [List.mem_singleton] at hx
        exact ⟨hi, hic, by omega⟩
    · simp at hx
  have hin : ∀ x y, y ∈ allN (needR [] (ofF (cutR K c K) (agoR K c K))) x → y < K := fun x y hy => by
    rw [(g1 x y hy).2.2]; exact Nat.mod_lt _ (by omega)
  unfold circN
  rw [ofF_len, ← hn, circ_nil_iff hin]
  -- how far to the cut: each step brings one nearer
  have key : ∀ m f t, f < K → Wk (allN (needR [] (ofF (cutR K c K) (agoR K c K)))) t m f → m ≤ (c + K - f) % K ∧ (c + K - f) % K = (c + K - t) % K + m := by
    intro m
    induction m with
    | zero => intro f t hf hw; obtain rfl : f = t := hw; omega
    | succ m ih =>
      rintro f t hf ⟨y, hy, hw⟩
      obtain ⟨_, hfc, rfl⟩ := g1 f y hy
      have hy2 := Nat.mod_lt (f + 1) (show 0 < K by omega)
      obtain ⟨i1, i2⟩ := ih _ t hy2 hw
      have hstep : (c + K - f) % K = (c + K - (f + 1) % K) % K + 1 := by
        rcases Nat.lt_or_ge (f + 1) K with h | h
        · rw [Nat.mod_eq_of_lt h]
          rcases Nat.lt_or_ge f c with h2 | h2
          · have a1 : c + K - f = (c - f) + K := by omega
            have a2 : c + K - (f + 1) = (c - (f + 1)) + K := by omega
            rw [a1, a2, Nat.add_mod_right, Nat.add_mod_right, Nat.mod_eq_of_lt (by omega), Nat.mod_eq_of_lt (by omega)]; omega
          · have h3 : c < f := by omega
            rw [Nat.mod_eq_of_lt (by omega), Nat.mod_eq_of_lt (by omega)]; omega
        · have h4 : f + 1 = K := by omega
          rw [h4, Nat.mod_self, Nat.sub_zero, Nat.add_mod_right, Nat.mod_eq_of_lt hc, Nat.mod_eq_of_lt (by omega)]; omega
      omega
  intro f hf m hm hw
  have := key m f f hf hw
  omega
theorem ring_any (w : World) (a0 a1 : Int) (h0 : (Lit.int .u8 a0).wf = true) (h1 : (Lit.int .u8 a1).wf = true) : Calls Try.prog 5 #[.int .u8 a0, .int .u8 a1] w fun e w' => e = .returned (.bool true) ∧ Below w.heap.size w w' := by
  have w0 : 0 ≤ a0 ∧ a0 ≤ 255 := by
    simp [Lit.wf, IntKind.min, IntKind.max, IntKind.signed, IntKind.bits] at h0
    omega
  have w1 : 0 ≤ a1 ∧ a1 ≤ 255 := by
    simp [Lit.wf, IntKind.min, IntKind.max, IntKind.signed, IntKind.bits] at h1
    omega
  obtain ⟨p, rfl⟩ : ∃ p : Nat, a0 = p := ⟨a0.toNat, by omega⟩
  obtain ⟨q, rfl⟩ : ∃ q : Nat, a1 = q := ⟨a1.toNat, by omega⟩
  have hp := Nat.mod_lt p (show 0 < 60 by omega)
  obtain ⟨K, hK⟩ : ∃ K, K = p % 60 + 1 := ⟨_, rfl⟩
  have hq := Nat.mod_lt q (show 0 < K by omega)
  have hck : circN [] (ofF (nowR K K) []) ≠ [] := by
    rw [circNow (by omega) (by omega)]
    intro e
    have := congrArg List.length e
    simp at this; omega
  refine callsIn_wide.1 (ring_in w p q K (q % K) (by omega) (by omega) hq ?_ ?_ ?_ (nowT (by omega) (by omega)) ?_ ?_ (now_in (by omega) (by omega)) (cut_in (by omega) (by omega)) (ago_in (by omega) (by omega)))
  · rw [Int.tmod_eq_emod_of_nonneg (by omega), show (p : Int) % 60 = ((p % 60 : Nat) : Int) by omega, w64 (n := ((p % 60 : Nat) : Int)) (by omega) (by omega), w64 (by omega) (by omega)]
    omega
  · rw [w64 (by omega) (by omega), Int.tmod_eq_emod_of_nonneg (by omega)]
    exact (Int.natCast_emod q K).symm
  · unfold ckOf
    rw [if_pos hck]
  · unfold ckOf
    rw [circCut (by omega) (by omega) hq]
    simp
  · unfold circT
    rw [circCut (by omega) (by omega) hq]
    rfl
end Go.Proofs.Ytfkggeakjgphjaa.C
