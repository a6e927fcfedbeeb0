/- JD: joined by wip/mkclaim.py (ours) from the texts FiA, FiW of this seat. -/
import Derived.Test.YtfkggeakjgphjaaJC
/- circles.Find: what lies in memory, and the circle in plain words. -/
namespace Go.Proofs.Ytfkggeakjgphjaa.C
set_option linter.unusedVariables false
set_option linter.unusedSimpArgs false
set_option linter.unusedSectionVars false
open Go.RowKit Go.Shelf Go.Proofs.YtfkggeakjgphjaaW.PrintWords Go.Proofs.YtfkggeakjgphjaaW.PrintLast Go.Proofs.YtfkggeakjgphjaaW.PrintMore
open Go.Proofs.RngT Go.Proofs.Circ
/-- how far, as a map of memory. -/
def ffOf (pre : List (Nat × Nat)) : Int → Option Value := fun m => (Go.Proofs.Circ.look pre m).map fun (k : Nat) => Value.int .i64 (k : Int)
theorem ffOf_nil : ffOf [] = fun _ => none := rfl
theorem ffOf_snoc (pre : List (Nat × Nat)) (x : Nat × Nat) : ffOf (pre ++ [x]) = fun m => if m = (x.1 : Int) then some (.int .i64 (x.2 : Int)) else ffOf pre m := by
  unfold ffOf
  funext m
  rw [look_snoc]
  by_cases hm : m = (x.1 : Int)
  · simp only [if_pos hm]; rfl
  · simp only [if_neg hm]
theorem ffOf_get (pre : List (Nat × Nat)) (m : Int) : (ffOf pre m).getD (.int .i64 0) = .int .i64 (((Go.Proofs.Circ.look pre m).getD 0 : Nat) : Int) := by
  unfold ffOf
  cases Go.Proofs.Circ.look pre m <;> rfl
theorem come_any (a : Value) (m t : Int) (w : World) (M : Nat) (ha : a = .map (some M)) :
    Calls Try.prog 25 #[a, .int .i64 m, .int .i64 t] w fun e w' => e = .returned (.func (.func 47) #[] #[.pointer (some ⟨w.heap.size + 1, 0, none⟩), .pointer (some ⟨w.heap.size + 1 + 1, 0, none⟩), .pointer (some ⟨w.heap.size, 0, none⟩)]) ∧ w' = ((w.alloc (.cells #[.map (some M)] 64)).alloc (.cells #[.int .i64 m] 3)).alloc (.cells #[.int .i64 t] 3) := by
  subst ha
  have hmf : ∀ (fn : Fn) (first cap : Array Value) (w : World), (Instr.makeFunc fn first cap).run Try.prog w = .ok (.func fn first cap) w := fun _ _ _ _ => rfl
  go_enter Try.func25, Try.ntmps25
  go_wp2_with fail
  go_ret
  exact ⟨rfl, rfl⟩
theorem come_seq (n : Nat) (hn : 1 ≤ n) (T : Nat → Prop) (b0 M many tg Bm Bt Ba : Nat) (w0 w : World) (R : Int → List Int) (hmany : many ≤ 100000) (hR : ∀ m x, x ∈ R m → 0 ≤ x ∧ x < many) (hRl : ∀ m, (R m).length ≤ 2000000)
    (hRows : Rows b0 M w0 R) (hw0 : Below w0.heap.size w0 w)
    (hB : w0.heap.size ≤ Bm ∧ w0.heap.size ≤ Bt ∧ w0.heap.size ≤ Ba) (hBW : Bm < w.heap.size ∧ Bt < w.heap.size ∧ Ba < w.heap.size) (hTB : ¬ T Bm ∧ ¬ T Ba)
    (hTn : ∀ j, T j → w0.heap.size ≤ j ∧ j < w.heap.size)
    (hbm : w.heap[Bm]? = some (.cells #[.int .i64 many] 3 (0, 0))) (hbt : w.heap[Bt]? = some (.cells #[.int .i64 tg] 3 (0, 0))) (hba : w.heap[Ba]? = some (.cells #[.map (some M)] 64 (0, 0))) :
    SeqT Fence.wide n Try.prog 47 #[.pointer (some ⟨Bm, 0, none⟩), .pointer (some ⟨Bt, 0, none⟩), .pointer (some ⟨Ba, 0, none⟩)] encP T (fun xs => xs = reach (allN R) many tg) (fun pre => pre <+: reach (allN R) many tg) (fun pre x => pre ++ [x] <+: reach (allN R) many tg) w := by
  intro l J Jx W hl hlW hW hJ hJx hY h0
  have h1 := hw0.size
  have h2 := hW.size
  exact come1_in n hn T l w0.heap.size b0 M many tg Bm Bt Ba w0 R hmany hR hRl hRows J Jx W (hw0.trans (hW.mono h1)) rfl hB ⟨by omega, by omega, by omega⟩ hTB ⟨by omega, by omega⟩
    (fun j hj => ⟨(hTn j hj).1, by have := (hTn j hj).2; omega⟩) (by omega) hlW hJ hJx hY ((hW.block _ hBW.1).trans hbm) ((hW.block _ hBW.2.1).trans hbt) ((hW.block _ hBW.2.2).trans hba) h0
set_option maxHeartbeats 1000000 in
/-- Find's inner predicate: is it so far? -/
theorem far_pred (B D Mf : Nat) (w : World) (pre : List (Nat × Nat)) (n : Int) (hb : w.heap[B]? = some (.cells #[.map (some Mf)] 66 (0, 0))) (hd : w.heap[D]? = some (.cells #[.int .i64 n] 3 (0, 0))) (hm : MapG.MapE encI okI w Mf (ffOf pre)) :
    PnW (fun y => decide ((((Go.Proofs.Circ.look pre y).getD 0 : Nat) : Int) = n)) B D w := by
  intro y W hok hW
  have hBl : B < w.heap.size := (Array.getElem?_eq_some_iff.1 hb).1
  have hDl : D < w.heap.size := (Array.getElem?_eq_some_iff.1 hd).1
  obtain ⟨c0, c1⟩ := one_cell ((hW.block B hBl).trans hb)
  obtain ⟨d0, d1⟩ := one_cell ((hW.block D hDl).trans hd)
  have HMP := Lib.hid (hm.move (hW.block Mf hm.lt))
  have HV := Lib.hid (ffOf_get pre y)
  have HOK := Lib.hid hok
  have HW := Lib.hid hW
  obtain ⟨fy, hfy⟩ : ∃ fy : Int, fy = (((Go.Proofs.Circ.look pre y).getD 0 : Nat) : Int) := ⟨_, rfl⟩
  rw [← hfy] at HV
  show Calls Try.prog 27 _ W fun e w' => e = .returned (.bool (decide ((((Go.Proofs.Circ.look pre y).getD 0 : Nat) : Int) = n))) ∧ _
  rw [← hfy]
  clear hb hd hW hm hok hfy
  go_enter Try.func27, Try.ntmps27
  go_wp2_with (at_lookup; refine MapG.wpList_look1 rfl _ _ rfl Try.underlying66 keyedI (zero3 _) encI_inj keyI HMP.out y HOK.out (.int .i64 fy) HV.out rfl rfl ?_)
  go_ret
  exact ⟨by simp; rfl, HW.out⟩
/-- the names of flows. -/
def nmsOf (fls : List S51) (l : List Nat) : List ByteArray := l.map fun i => (fls.getD i z51).f0
/-- P9.2, of a program. -/
def circN (ins : List S84) (fls : List S51) : List Nat := circ (allN (needR ins fls)) fls.length
def circT (ins : List S84) (fls : List S51) : List ByteArray := nmsOf fls (circN ins fls)
theorem find_first {α : Type} {l : List α} {f : α → Bool} {k : Nat} (hk : k < l.length) (h : f l[k] = true) (h0 : ∀ j (hj : j < l.length), j < k → f l[j] = false) : l.find? f = some l[k] := by
  induction l generalizing k with
  | nil => simp at hk
  | cons x l ih =>
    cases k with
    | zero =>
      simp only [List.getElem_cons_zero] at h ⊢
      rw [List.find?_cons, h]
    | succ k =>
      have h1 := h0 0 (by simp) (by omega)
      simp only [List.getElem_cons_zero] at h1
      rw [List.find?_cons, h1]
      exact ih (by simpa using hk) (by simpa using h) (fun j hj hjk => by have := h0 (j + 1) (by simpa using hj) (by omega); rwa [List.getElem_cons_succ] at this)
theorem path_step {all : Nat → List Nat} {f : Nat → Nat} {n at_ k : Nat} (hk : k < (all at_).length) (h : f (all at_)[k] = n + 1) (h0 : ∀ j (hj : j < (all at_).length), j < k → f (all at_)[j] ≠ n + 1) :
    path all f (n + 1) at_ = (all at_)[k] :: path all f n (all at_)[k] := by
  rw [path, find_first (f := fun x => f x == n + 1) hk (by simpa using h) (fun j hj hjk => by simpa using h0 j hj hjk)]
theorem circ_none {all : Nat → List Nat} {many : Nat} (h : ∀ f, f < many → far all many f f = 0) : circ all many = [] := by
  unfold circ
  rw [List.find?_eq_none.2 (fun f hf => by simpa using h f (List.mem_range.1 hf))]
theorem circ_some {all : Nat → List Nat} {many f : Nat} (hf : f < many) (h : ∀ g, g < f → far all many g g = 0) (h1 : far all many f f ≠ 0) : circ all many = f :: path all (far all many f) (far all many f f - 1) f := by
  unfold circ
  have : (List.range many).find? (fun f => far all many f f != 0) = some f := by
    have := find_first (l := List.range many) (f := fun f => far all many f f != 0) (k := f) (by simpa using hf) (by simpa using h1) (fun j hj hjk => by simpa using h j hjk)
    simpa using this
  rw [this]
end Go.Proofs.Ytfkggeakjgphjaa.C

/- circles.Find: walked. -/
namespace Go.Proofs.Ytfkggeakjgphjaa.C
set_option linter.unusedVariables false
set_option linter.unusedSimpArgs false
set_option linter.unusedSectionVars false
open Go.RowKit Go.Shelf Go.Proofs.YtfkggeakjgphjaaW.PrintWords Go.Proofs.YtfkggeakjgphjaaW.PrintLast Go.Proofs.YtfkggeakjgphjaaW.PrintMore
open Go.Proofs.RngT Go.Proofs.Circ
open Go.Proofs.Ytfkggeakjgphjaa.B (own_kept)
attribute [local go_sem] Oper.semAt_some
theorem bfs_lt (all : Nat → List Nat) (many : Nat) : ∀ (k s : Nat) (sl E : List Nat) (x : Nat × Nat), x ∈ bfs all many k s sl E → x.1 < many ∧ s ≤ x.2 ∧ x.2 < s + k
  | 0, _, _, _, x, h => by simp [bfs] at h
  | k + 1, s, sl, E, x, h => by
    rw [bfs] at h
    split at h
    · simp at h
    · rcases List.mem_append.1 h with h | h
      · obtain ⟨y, hy, rfl⟩ := List.mem_map.1 h
        exact ⟨(mem_nx.1 hy).1, Nat.le_refl _, by simp⟩
      · have := bfs_lt all many k (s + 1) _ _ x h
        omega
theorem reach_lt {all : Nat → List Nat} {many tg : Nat} {x : Nat × Nat} (h : x ∈ reach all many tg) : x.1 < many ∧ x.2 ≤ many + 2 := by
  have := bfs_lt all many _ _ _ _ x h
  omega
theorem look_mem (l : List (Nat × Nat)) (y : Int) (m : Nat) (h : Go.Proofs.Circ.look l y = some m) : ∃ x ∈ l, x.2 = m := by
  have key : ∀ (l : List (Nat × Nat)) (f : Int → Option Nat), l.foldl (fun f p => fun m => if m = (p.1 : Int) then some p.2 else f m) f y = some m → (∃ x ∈ l, x.2 = m) ∨ f y = some m := by
    intro l
    induction l with
    | nil => exact fun f h => .inr h
    | cons p l ih =>
      intro f h
      rcases ih _ h with ⟨x, hx, e⟩ | h
      · exact .inl ⟨x, List.mem_cons_of_mem _ hx, e⟩
      · dsimp only at h
        split at h
        · injection h with h; exact .inl ⟨p, List.mem_cons_self, h⟩
        · exact .inr h
  rcases key l _ h with h | h
  · exact h
  · cases h
theorem far_le (all : Nat → List Nat) (many tg x : Nat) : far all many tg x ≤ many + 2 := by
  unfold far
  cases h : Go.Proofs.Circ.look (reach all many tg) (x : Int) with
  | none => simp
  | some m =>
    obtain ⟨p, hp, rfl⟩ := look_mem _ _ _ h
    exact (reach_lt hp).2
theorem needR_in {ins : List S84} {fls : List S51} (m x : Int) (h : x ∈ needR ins fls m) : 0 ≤ x ∧ x < (fls.length : Int) := by
  unfold needR needK at h
  split at h
  · unfold srt at h
    rw [List.mem_mergeSort] at h
    unfold ndRow ndL at h
    obtain ⟨r, hr, h1⟩ := List.mem_filterMap.1 h
    unfold ndOne at h1
    split at h1
    · rename_i th hth
      split at h1
      · rename_i hc
        injection h1 with h1
        subst h1
        exact ⟨hc.1, (fl_lt hth).1⟩
      · cases h1
    · cases h1
  · simp at h
theorem needR_len {ins : List S84} {fls : List S51} (hsm : ∀ x ∈ fls, Sm x.f4) (m : Int) : (needR ins fls m).length ≤ 2000000 := by
  unfold needR needK
  split
  · rename_i hm
    rw [srt_len]
    have h1 := ndL_len ins fls (refL (bodyAt fls m))
    have hlt : m.toNat < fls.length := by omega
    have h2 : bodyAt fls m = (fls[m.toNat]).f4 := by
      unfold bodyAt
      rw [List.getD_eq_getElem?_getD, List.getElem?_eq_getElem hlt]; rfl
    obtain ⟨_, k, hk, hle⟩ := hsm _ (List.getElem_mem hlt)
    have h3 := go1_len (fls[m.toNat]).f4 k 0 [] hk
    unfold ndRow
    rw [h2] at h1 ⊢
    unfold refL at h1 ⊢
    simp only [List.length_nil, Nat.zero_add] at h3
    omega
  · simp
theorem allN_in {ins : List S84} {fls : List S51} : ∀ x y, y ∈ allN (needR ins fls) x → y < fls.length := by
  intro x y hy
  obtain ⟨z, hz, rfl⟩ := List.mem_map.1 hy
  have := needR_in _ _ hz
  omega
structure FiS (B M N : Nat) (w wr : World) (ob : Obj) (R : Int → List Int) (i : Nat) (Ds : List Nat) : Prop where
  rows : Rows (M + 1) M wr R
  bel : Below B w wr
  pb : wr.heap[B]? = some ob
  bm : B < M
  nd : Ds.Nodup
  ds : ∀ D, D ∈ Ds → B < D ∧ wr.heap[D]? = some (.deferred (some []))
  zz : ∀ f, f < i → far (allN R) N f f = 0
def FiPost (w : World) (l : List ByteArray) (e : Ending) (w' : World) : Prop := ∃ A c, e = .returned (.slice A l.length c) ∧ w'.ownsRow w.heap.size 9 1 (.slice A l.length c) l.length (l.map Value.string) ∧ Below w.heap.size w w'
def FiI (h : Nat) (wr : World) (pre : List (Nat × Nat)) (W : World) : Prop := W.heap[h + 1]? = some (.cells #[.map (some h)] 66 (0, 0)) ∧ MapG.MapE encI okI W h (ffOf pre) ∧ Below h wr W ∧ h + 5 ≤ W.heap.size
theorem info9 : (Try.prog.info? 9).map (fun i => (i.zero, i.size, i.bytes)) = some (some (.string ByteArray.empty), 1, 16) := by kernel_rfl
def lenV : Value → Nat
  | .slice _ n _ => n
  | _ => 0
/-- the circle, as far as it is built. -/
structure FiL (L : Nat) (W wr : World) (fls : List S51) (v : Value) (bn mm : Nat) (bl : List Nat) : Prop where
  bel : Below L W wr
  box : wr.heap[bn]? = some (.cells #[.int .i64 mm] 3 (0, 0))
  bb : L ≤ bn
  row : wr.ownsRow L 9 1 v (nmsOf fls bl).length ((nmsOf fls bl).map Value.string)
theorem nms_len (fls : List S51) (l : List Nat) : (nmsOf fls l).length = l.length := by simp [nmsOf]
theorem box_row {w : World} {b bn n : Nat} {v u : Value} {xs : List Value} (h : w.ownsRow b 9 1 v n xs) (hb : w.heap[bn]? = some (.cells #[u] 3 (0, 0))) : some bn ≠ v.ownBlock := by
  intro e
  rcases h.2 with ⟨rfl, _⟩ | ⟨g, cap, cur, rfl, _, hh, _⟩
  · simp [Value.ownBlock] at e
  · have : bn = g := by simpa [Value.ownBlock] using e
    subst this
    rw [hb] at hh
    injection hh with hh
    injection hh with _ h3 _
    cases h3
def fq (R : Int → List Int) (N i : Nat) (n : Int) (y : Int) : Bool := decide ((((Go.Proofs.Circ.look (reach (allN R) N i) y).getD 0 : Nat) : Int) = n)
theorem fq_far {R : Int → List Int} {N i : Nat} {y : Int} {q : Nat} (hy : 0 ≤ y) : fq R N i ((q : Int) + 1) y = true ↔ far (allN R) N i y.toNat = q + 1 := by
  unfold fq far
  rw [decide_eq_true_iff, show ((y.toNat : Nat) : Int) = y by omega]
  omega
theorem step_at {R : Int → List Int} {N i at_ q k : Nat} (hR : ∀ m x, x ∈ R m → 0 ≤ x) (hk : k < (R at_).length) (h1 : fq R N i ((q : Int) + 1) (R at_)[k] = true) (h0 : ∀ j (hj : j < (R at_).length), j < k → fq R N i ((q : Int) + 1) (R at_)[j] = false) :
    path (allN R) (far (allN R) N i) (q + 1) at_ = (R at_)[k].toNat :: path (allN R) (far (allN R) N i) q (R at_)[k].toNat ∧ far (allN R) N i (R at_)[k].toNat = q + 1 := by
  have hz : ∀ j (hj : j < (R at_).length), (0 : Int) ≤ (R at_)[j] := fun j hj => hR _ _ (List.getElem_mem hj)
  have hf := (fq_far (hz k hk)).1 h1
  refine ⟨?_, hf⟩
  have hkl : k < (allN R at_).length := by unfold allN; rw [List.length_map]; exact hk
  have hg : ∀ j (hj : j < (allN R at_).length), (allN R at_)[j] = ((R at_)[j]'(by unfold allN at hj; rwa [List.length_map] at hj)).toNat := fun j hj => by simp [allN]
  have := path_step (all := allN R) (f := far (allN R) N i) (n := q) hkl (by rw [hg]; exact hf) (fun j hj hjk e => by
    rw [hg] at e
    have hj' : j < (R at_).length := by unfold allN at hj; rwa [List.length_map] at hj
    have h2 := (fq_far (R := R) (N := N) (i := i) (q := q) (hz j hj')).2 e
    rw [h0 j hj' hjk] at h2
    cases h2)
  rw [hg] at this
  exact this
theorem step_ex {R : Int → List Int} {N i at_ q : Nat} (hR : ∀ m x, x ∈ R m → 0 ≤ x) (hin : ∀ x y, y ∈ allN R x → y < N) (h : far (allN R) N i at_ = q + 1 + 1) : ∃ j, ∃ hj : j < (R at_).length, fq R N i ((q : Int) + 1) (R at_)[j] = true := by
  obtain ⟨_, hls⟩ := (far_pos hin at_ (q + 1 + 1) (by omega)).1 h
  obtain ⟨y, hy, h2⟩ := ls_step hls
  rcases h2 with ⟨e, _⟩ | ⟨_, h2⟩
  · omega
  · have hf := (far_pos hin y (q + 1) (by omega)).2 ⟨hin _ _ hy, h2⟩
    obtain ⟨z, hz, rfl⟩ := List.mem_map.1 hy
    obtain ⟨j, hj, rfl⟩ := List.mem_iff_getElem.1 hz
    exact ⟨j, hj, (fq_far (hR _ _ hz)).2 hf⟩
set_option maxHeartbeats 8000000 in
set_option maxRecDepth 100000 in
theorem cfind_in (w : World) (st : Int) (ins : List S84) (fls : List S51) (outs : List ByteArray) (A1 A2 A3 : Option Addr) (c1 c2 c3 N : Nat) (hN : N = fls.length)
    (hl1 : ins.length ≤ 140737488351232) (hl2 : N ≤ 100000) (hsm : ∀ x ∈ fls, Sm x.f4)
    (hC1 : Kd.C k84 w A1 ins.length ins) (hc1 : ins.length ≤ c1) (hC2 : Kd.C k51 w A2 N fls) (hc2 : N ≤ c2) :
    CallsIn Fence.wide 9 Try.prog 11 #[.agg #[.int .i64 st, .slice A1 ins.length c1, .slice A2 N c2, .slice A3 outs.length c3]] w (FiPost w (circT ins fls)) := by
  have hmm := @run_makeMap Try.prog
  have hmf : ∀ (fn : Fn) (first cap : Array Value) (w : World), (Instr.makeFunc fn first cap).run Try.prog w = .ok (.func fn first cap) w := fun _ _ _ _ => rfl
  obtain ⟨B, hB⟩ : ∃ B, B = w.heap.size := ⟨_, rfl⟩
  have HB := Lib.hid hB
  have HN := Lib.hid hN
  obtain ⟨ob, hob⟩ : ∃ ob : Obj, ob = .cells #[.int .i64 st, .slice A1 ins.length c1, .slice A2 N c2, .slice A3 outs.length c3] 26 := ⟨_, rfl⟩
  have HOB := Lib.hid hob
  have h0 := World.alloc_heap_new w ob
  have hb1 : Below w.heap.size w (w.alloc ob) := (Below.refl _ _).alloc (Nat.le_refl _) _
  obtain ⟨W1, hW1⟩ : ∃ W1, W1 = w.alloc ob := ⟨_, rfl⟩
  have hz1 : W1.heap.size = w.heap.size + 1 := by rw [hW1]; simp
  rw [← hW1] at h0 hb1
  have HW1 : Hid (W1 = (w.alloc (.cells #[.int .i64 st, .slice A1 ins.length c1, .slice A2 N c2, .slice A3 outs.length c3] 26))) := Lib.hid (by rw [hW1, hob])
  have hnd := needs_any W1 st ins fls outs A1 A2 A3 c1 c2 c3 hl1 (by omega) hsm (Kd.C_below hC1 hb1) hc1 (by rw [← hN]; exact Kd.C_below hC2 hb1) (by omega)
  rw [← hN] at hnd
  rw [← hB] at h0 hb1 hz1
  have HND := Lib.hid hnd; have H0 := Lib.hid h0; have HZ1 := Lib.hid hz1; have HB1 := Lib.hid hb1; have HC2 := Lib.hid hC2
  have HR0 : Hid (∀ m x, x ∈ needR ins fls m → 0 ≤ x ∧ x < (N : Int)) := Lib.hid (by rw [hN]; exact needR_in)
  have HRL := Lib.hid (needR_len (ins := ins) hsm)
  have HIN : Hid (∀ x y, y ∈ allN (needR ins fls) x → y < N) := Lib.hid (by rw [hN]; exact allN_in)
  clear hnd h0 hz1 hb1 hC1 hC2 hB hob hW1 hsm hN
  refine callsIn_of_wp_marks Try.func11 rfl trivial ?_ rfl
  simp only [Try.ntmps11, List.size_toArray, List.length_cons, List.length_nil, Nat.reduceAdd, Nat.reduceSub, Array.replicate_succ, Array.replicate_zero, List.push_toArray, List.append_toArray, List.nil_append, List.cons_append]
  gi_wp2_with fail
  rw [← HW1.out, ← HB.out]
  refine ⟨trivial, ?_⟩
  refine (callsIn_wide.2 HND.out).mono ?_
  rintro e w2 ⟨M, hM, rfl, hrw, hbl⟩
  have hBM : B < M := by have := HZ1.out; omega
  have HS0 : Hid (FiS B M N w w2 ob (needR ins fls) 0 []) := Lib.hid ⟨hrw, HB1.out.trans (hbl.mono (by have := HZ1.out; omega)), (hbl.block _ (by have := HZ1.out; omega)).trans H0.out, hBM, List.nodup_nil, (fun D h => by simp at h), (fun f h => by omega)⟩
  have hpb := HS0.out.pb
  rw [HOB.out] at hpb
  obtain ⟨t0, t1, t2, t3⟩ := box4 hpb
  have hBl : B < w2.heap.size := (Array.getElem?_eq_some_iff.1 HS0.out.pb).1
  clear hM hrw hbl HND H0 hpb
  gi_wp2_with fail
  clear t0 t1 t2 t3 hBl
  refine wpIn_loop (fun a wr => ∃ (i : Nat) (Ds : List Nat) (u12 u13 u14 u15 u4 u5 u18 u19 u20 u21 u22 u23 u24 u25 u26 u32 u33 u34 u35 u74 : Value), a = { tmps := #[.agg #[.int .i64 st, .slice A1 ins.length c1, .slice A2 N c2, .slice A3 outs.length c3], .pointer (some ⟨B, 0, none⟩), .slice none 0 0, .map (some M), u4, u5, undef, undef, undef, undef, undef, undef, u12, u13, u14, u15, .int .i64 N, .int .i64 i, u18, u19, u20, u21, u22, u23, u24, u25, u26, undef, undef, undef, undef, undef, u32, u33, u34, u35, undef, undef, undef, undef, undef, undef, undef, undef, undef, undef, undef, undef, undef, undef, undef, undef, undef, undef, undef, undef, undef, undef, undef, undef, undef, undef, undef, undef, undef, undef, undef, undef, undef, undef, undef, undef, undef, undef, u74], defers := marks Ds } ∧ i ≤ N ∧ FiS B M N w wr ob (needR ins fls) i Ds) (fun a _ => N - (intOf (a.tmps.getD 17 undef)).toNat) ?_ ?_
  case refine_1 => exact ⟨0, [], _, _, _, _, _, _, _, _, _, _, _, _, _, _, _, _, _, _, _, _, rfl, Nat.zero_le _, HS0.out⟩
  case refine_2 =>
    rintro a wr ⟨i, Ds, u12, u13, u14, u15, u4, u5, u18, u19, u20, u21, u22, u23, u24, u25, u26, u32, u33, u34, u35, u74, rfl, hi, hS⟩
    have HS := Lib.hid hS
    clear hS HS0
    by_cases hlt : i < N
    · have hpb := HS.out.pb
      rw [HOB.out] at hpb
      obtain ⟨t0, t1, t2, t3⟩ := box4 hpb
      obtain ⟨h, hh⟩ : ∃ h, h = wr.heap.size := ⟨_, rfl⟩
      have HH := Lib.hid hh
      have hBl : B < wr.heap.size := (Array.getElem?_eq_some_iff.1 HS.out.pb).1
      clear hpb hh
      gi_wp2_with fail
      refine ⟨trivial, ?_⟩
      refine (callsIn_wide.2 (come_any _ N i _ M rfl)).mono ?_
      rintro e w' ⟨rfl, rfl⟩
      -- the world ahead of the range
      have h30 := al_get wr [.map #[] 0, .cells #[.map (some h)] 66, .cells #[.map (some M)] 64, .cells #[.int .i64 N] 3, .cells #[.int .i64 i] 3] 0 _ rfl
      have h31 := al_get wr [.map #[] 0, .cells #[.map (some h)] 66, .cells #[.map (some M)] 64, .cells #[.int .i64 N] 3, .cells #[.int .i64 i] 3] 1 _ rfl
      have h32 := al_get wr [.map #[] 0, .cells #[.map (some h)] 66, .cells #[.map (some M)] 64, .cells #[.int .i64 N] 3, .cells #[.int .i64 i] 3] 2 _ rfl
      have h33 := al_get wr [.map #[] 0, .cells #[.map (some h)] 66, .cells #[.map (some M)] 64, .cells #[.int .i64 N] 3, .cells #[.int .i64 i] 3] 3 _ rfl
      have h34 := al_get wr [.map #[] 0, .cells #[.map (some h)] 66, .cells #[.map (some M)] 64, .cells #[.int .i64 N] 3, .cells #[.int .i64 i] 3] 4 _ rfl
      have hz3 := al_size wr [.map #[] 0, .cells #[.map (some h)] 66, .cells #[.map (some M)] 64, .cells #[.int .i64 N] 3, .cells #[.int .i64 i] 3]
      have hb3 := al_below wr [.map #[] 0, .cells #[.map (some h)] 66, .cells #[.map (some M)] 64, .cells #[.int .i64 N] 3, .cells #[.int .i64 i] 3]
      have hm3 : MapG.MapE encI okI (al wr [.map #[] 0, .cells #[.map (some h)] 66, .cells #[.map (some M)] 64, .cells #[.int .i64 N] 3, .cells #[.int .i64 i] 3]) wr.heap.size (fun _ => none) := (MapG.MapE.made wr).move (h30.trans (al_get wr [.map #[] 0] 0 _ rfl).symm)
      obtain ⟨W3, hW3⟩ : ∃ W3, W3 = al wr [.map #[] 0, .cells #[.map (some h)] 66, .cells #[.map (some M)] 64, .cells #[.int .i64 N] 3, .cells #[.int .i64 i] 3] := ⟨_, rfl⟩
      rw [← hW3] at h30 h31 h32 h33 h34 hz3 hb3 hm3
      have HW3 : Hid (W3 = (((((wr.alloc (.map #[] 0)).alloc (.cells #[.map (some wr.heap.size)] 66)).alloc (.cells #[.map (some M)] 64)).alloc (.cells #[.int .i64 N] 3)).alloc (.cells #[.int .i64 i] 3))) := Lib.hid (by rw [hW3, HH.out]; rfl)
      replace hz3 : W3.heap.size = wr.heap.size + 5 := hz3
      have hI3 : FiI wr.heap.size wr [] W3 := ⟨by rw [← HH.out]; rw [← HH.out] at h31; exact h31, by rw [ffOf_nil]; exact hm3, hb3, by omega⟩
      have hseq := come_seq 8 (by omega) (fun j => j = h) (M + 1) M N i (h + 3) (h + 4) (h + 2) wr W3 (needR ins fls) hl2 HR0.out HRL.out HS.out.rows hb3 (by rw [HH.out]; omega) (by rw [HH.out]; omega) (by omega) (fun j hj => by rw [hj, HH.out]; omega) (by rw [HH.out]; exact h33) (by rw [HH.out]; exact h34) (by rw [HH.out]; exact h32)
      rw [← HH.out] at hz3 hI3
      have HSEQ := Lib.hid hseq; have HI3 := Lib.hid hI3; have HZ3 := Lib.hid hz3
      clear hseq hI3 hz3 hm3 hb3 h30 h31 h32 h33 h34 hW3 t0 t1 t2 t3 hBl
      simp only [World.size_alloc]
      rw [← HW3.out, ← HH.out]
      gi_wp2_with fail
      refine wpIn_rangeFunc_T rfl (by omega) (gf := 47) (lb := #[.pointer (some ⟨h + 3, 0, none⟩), .pointer (some ⟨h + 4, 0, none⟩), .pointer (some ⟨h + 2, 0, none⟩)]) rfl trivial (enters_of Try.func47 (by kernel_rfl) rfl) HSEQ.out
        (fun j hj => by have := HZ3.out; omega) (Below.refl _ _) (fun _ => rfl) (FiI h wr) (fun _ _ _ => False)
        (fun s A C q hb => ⟨(hb.block _ (by have := HZ3.out; omega)).trans q.1, q.2.1.move (hb.block _ (by have := HZ3.out; omega)), q.2.2.1.trans (hb.mono (by have := HZ3.out; omega)), by have := q.2.2.2; have := hb.size; omega⟩)
        (fun c s A C q hb => q)
        HI3.out
        (fun x a' W => ∃ (u12 u13 u14 u15 u4 u18 u19 u20 u21 u22 u23 u24 u25 u26 u32 u33 u34 u35 u74 u27 u28 : Value), a' = { tmps := #[.agg #[.int .i64 st, .slice A1 ins.length c1, .slice A2 N c2, .slice A3 outs.length c3], .pointer (some ⟨B, 0, none⟩), .slice none 0 0, .map (some M), u4, .pointer (some ⟨h + 1, 0, none⟩), .int .i64 x.1, .int .i64 x.2, undef, undef, undef, undef, u12, u13, u14, u15, .int .i64 N, .int .i64 i, u18, u19, u20, u21, u22, u23, u24, u25, u26, u27, u28, undef, undef, undef, u32, u33, u34, u35, undef, undef, undef, undef, undef, undef, undef, undef, undef, undef, undef, undef, undef, undef, undef, undef, undef, undef, undef, undef, undef, undef, undef, undef, undef, undef, undef, undef, undef, undef, undef, undef, undef, undef, undef, undef, undef, undef, u74], defers := [] })
        ?hax ?assign ?body ?done ?stop
      case hax => exact fun x a' W l o _ _ q => q
      case assign =>
        intro l pre x W K hi hK
        dsimp only [encP]
        gi_wp2
        exact hK _ _ (Fr.refl _ _) hi ⟨_, _, _, _, _, _, _, _, _, _, _, _, _, _, _, _, _, _, _, _, _, rfl⟩
      case body =>
        rintro l pre x a' W hl ⟨hc, hmp, hbl, hsz⟩ ⟨u12, u13, u14, u15, u4, u18, u19, u20, u21, u22, u23, u24, u25, u26, u32, u33, u34, u35, u74, u27, u28, rfl⟩ hG
        have hx := reach_lt (mem_pre hG)
        have HMP := Lib.hid hmp; have HBL := Lib.hid hbl; have HC := Lib.hid hc
        have hcl := one_cell hc
        obtain ⟨c0, c1⟩ := hcl
        have HOK : Hid (okI (x.1 : Int)) := Lib.hid (WalkArith.wf_i64 (by omega))
        have hhl : h + 1 < W.heap.size := by omega
        clear hc hmp hbl hG
        gi_wp2_with (gi_at_mapUpdate; refine MapG.wpListIn_upd rfl _ _ _ rfl Try.underlying66 keyedI encI_inj keyI HMP.out (x.1 : Int) HOK.out (.int .i64 x.2) rfl rfl rfl ?_; intro w7 hm7 hg7)
        have hf8 : Fr (fun j => j = h) W w7 := (Fr.refl _ W).grown hg7 (fun k e => .inl (by injection e with e; exact e.symm))
        refine ⟨hf8, (hf8.block _ hhl (by omega)).trans HC.out, ?_, below_fr HBL.out hf8 (fun j hj => by omega) (by omega), by have := hf8.size; omega⟩
        rw [ffOf_snoc]
        exact hm7
      case stop => exact fun _ _ _ _ _ _ q _ => q.elim
      case done =>
        rintro D xs W hD rfl ⟨hc, hmp, hbl, hsz⟩ hK
        have hDh : h + 5 ≤ D := by have := HZ3.out; omega
        have hDl : D < W.heap.size := (Array.getElem?_eq_some_iff.1 hK).1
        have hBh : B < h := by rw [HH.out]; exact (Array.getElem?_eq_some_iff.1 HS.out.pb).1
        have hgt := ffOf_get (reach (allN (needR ins fls)) N i) (i : Int)
        have hfar : (((Go.Proofs.Circ.look (reach (allN (needR ins fls)) N i) (i : Int)).getD 0 : Nat) : Int) = (far (allN (needR ins fls)) N i i : Nat) := rfl
        rw [hfar] at hgt
        have hS2 : FiS B M N w W ob (needR ins fls) i (D :: Ds) := by
          have hs := HS.out
          have hh := HH.out
          refine ⟨hs.rows.stay hbl (by omega), hs.bel.trans (hbl.mono (by omega)), (hbl.block _ hBh).trans hs.pb, hs.bm, List.nodup_cons.2 ⟨fun hin => ?_, hs.nd⟩, fun D' hD' => ?_, hs.zz⟩
          · have := (Array.getElem?_eq_some_iff.1 (hs.ds D hin).2).1; omega
          · rcases List.mem_cons.1 hD' with rfl | hin
            · exact ⟨by omega, hK⟩
            · have h1 := hs.ds D' hin
              exact ⟨h1.1, (hbl.block _ (by have := (Array.getElem?_eq_some_iff.1 h1.2).1; omega)).trans h1.2⟩
        have HS2 := Lib.hid hS2; have HMP := Lib.hid hmp; have HGT := Lib.hid hgt; have HC := Lib.hid hc; have HSZ := Lib.hid hsz
        obtain ⟨c0, c1⟩ := one_cell hc
        have hhl : h + 1 < W.heap.size := by omega
        have HOK : Hid (okI (i : Int)) := Lib.hid (WalkArith.wf_i64 (by omega))
        have HUP : Hid (∀ v : Nat, far (allN (needR ins fls)) N i i = v → v ≤ N + 2) := Lib.hid (by
          intro v hv; rw [← hv]; exact far_le _ _ _ _)
        obtain ⟨fi, hfi⟩ : ∃ fi : Nat, fi = far (allN (needR ins fls)) N i i := ⟨_, rfl⟩
        rw [← hfi] at HGT HUP
        have hup := HUP.out fi rfl
        have HFI := Lib.hid hfi
        clear hS2 hc hmp hbl hgt hfar hK hfi HUP HS
        by_cases hz : fi = 0
        · subst hz
          have HZZ : Hid (∀ f, f < i + 1 → far (allN (needR ins fls)) N f f = 0) := Lib.hid (fun f hf => by
            by_cases e : f = i
            · subst e; exact HFI.out.symm
            · exact HS2.out.zz f (by omega))
          gi_wp2_with (gi_at_lookup; refine MapG.wpListIn_look1 rfl _ _ rfl Try.underlying66 keyedI (zero3 _) encI_inj keyI HMP.out (i : Int) HOK.out (.int .i64 (0 : Nat)) HGT.out rfl rfl ?_)
          refine ⟨⟨i + 1, D :: Ds, _, _, _, _, _, _, _, _, _, _, _, _, _, _, _, _, _, _, _, _, rfl, by omega, ⟨HS2.out.rows, HS2.out.bel, HS2.out.pb, HS2.out.bm, HS2.out.nd, HS2.out.ds, HZZ.out⟩⟩, by simp [intOf]; omega⟩
        · obtain ⟨m, rfl⟩ : ∃ m, fi = m + 1 := ⟨fi - 1, by omega⟩
          have hix : i < fls.length := by rw [← HN.out]; exact hlt
          have hCI : circT ins fls = nmsOf fls (i :: path (allN (needR ins fls)) (far (allN (needR ins fls)) N i) m i) := by
            unfold circT circN
            rw [← HN.out, circ_some hlt HS2.out.zz (by rw [← HFI.out]; omega), ← HFI.out]
            rfl
          have HCI := Lib.hid hCI
          have hpb := HS2.out.pb
          rw [HOB.out] at hpb
          obtain ⟨t0, t1, t2, t3⟩ := box4 hpb
          have hBl : B < W.heap.size := (Array.getElem?_eq_some_iff.1 HS2.out.pb).1
          have hC := Kd.C_below HC2.out (by rw [← HB.out]; exact HS2.out.bel)
          obtain ⟨ad, A7, c7, hA, p0, p1, p2, p3, p4, p5, p6, p7, hl7, hC7⟩ := at_T51 hC (i : Int) (by omega) (by omega)
          subst hA
          rw [rdT51 fls i hix] at p0 p1 p2 p3 p4 p5 p6 p7 hl7 hC7
          simp only [Int.toNat_natCast] at p0 p1 p2 p3 p4 p5 p6 p7
          obtain ⟨nmi, hnmi⟩ : ∃ nmi, nmi = fls[i].f0 := ⟨_, rfl⟩
          rw [← hnmi] at p0
          have HNMI := Lib.hid hnmi
          have hadl := cell_lt p0
          clear hC hpb hz p1 p2 p3 p4 p5 p6 p7 hl7 hC7 hCI hnmi
          have HMP2 := Lib.hid (HMP.out.move (Below.heap_alloc W (.cells #[.string nmi] 9) _ HMP.out.lt))
          gi_wp2_with (gi_at_lookup; first | refine MapG.wpListIn_look1 rfl _ _ rfl Try.underlying66 keyedI (zero3 _) encI_inj keyI HMP.out (i : Int) HOK.out (.int .i64 (m + 1 : Nat)) HGT.out rfl rfl ?_ | refine MapG.wpListIn_look1 rfl _ _ rfl Try.underlying66 keyedI (zero3 _) encI_inj keyI HMP2.out (i : Int) HOK.out (.int .i64 (m + 1 : Nat)) HGT.out rfl rfl ?_)
          have hl0 := al_get W [.cells #[.string nmi] 9, .cells #[.int .i64 m] 3] 0 _ rfl
          have hl1 := al_get W [.cells #[.string nmi] 9, .cells #[.int .i64 m] 3] 1 _ rfl
          have hlb := al_below W [.cells #[.string nmi] 9, .cells #[.int .i64 m] 3]
          obtain ⟨W5, hW5⟩ : ∃ W5, W5 = al W [.cells #[.string nmi] 9, .cells #[.int .i64 m] 3] := ⟨_, rfl⟩
          rw [← hW5] at hl0 hl1 hlb
          have HW5 : Hid (W5 = (W.alloc (.cells #[.string nmi] 9)).alloc (.cells #[.int .i64 m] 3)) := Lib.hid (by rw [hW5]; rfl)
          obtain ⟨L, hL⟩ : ∃ L, L = W.heap.size := ⟨_, rfl⟩
          have hnm1 : nmsOf fls [i] = [nmi] := by
            have := HNMI.out
            rw [this]
            unfold nmsOf
            rw [List.map_cons, List.map_nil, List.getD_eq_getElem?_getD, List.getElem?_eq_getElem hix]
            rfl
          have hF0 : FiL L W W5 fls (.slice (some ⟨W.heap.size, 0, none⟩) 1 1) (W.heap.size + 1) m [i] := by
            refine ⟨by rw [hL]; exact hlb, hl1, by omega, ?_⟩
            rw [hnm1]
            refine ⟨by simp, .inr ⟨W.heap.size, 1, #[.string nmi], rfl, by omega, ?_, by simp, by unfold maxLen; omega, rfl, by simp⟩⟩
            rw [Nat.add_zero] at hl0; exact hl0
          have HF0 := Lib.hid hF0
          have HL := Lib.hid hL
          rw [← HW5.out]
          clear hF0 hl0 hl1 hlb hW5 hnm1 t0 t1 t2 t3 p0 hadl hhl c0 c1 HMP2 hL hBl HNMI hix hmm HZ3 HSEQ HI3
          gi_loopw [8, 9, 10] (fun v8 v9 v10 wr => ∃ (mm at_ bn : Nat) (bl : List Nat), v9 = .int .i64 at_ ∧ v10 = .pointer (some ⟨bn, 0, none⟩) ∧ at_ < N ∧ mm ≤ m ∧ bl.length + mm = m + 1 ∧ lenV v8 = bl.length ∧ Hid (far (allN (needR ins fls)) N i at_ = mm + 1) ∧ Hid (bl ++ path (allN (needR ins fls)) (far (allN (needR ins fls)) N i) mm at_ = i :: path (allN (needR ins fls)) (far (allN (needR ins fls)) N i) m i) ∧ Hid (FiL L W wr fls v8 bn mm bl)) (fun v8 _ _ _ => m + 1 - lenV v8)
          case atStart => exact ⟨m, i, W.heap.size + 1, [i], rfl, rfl, hlt, Nat.le_refl _, by simp; omega, rfl, Lib.hid HFI.out.symm, Lib.hid rfl, HF0⟩
          case round =>
            obtain ⟨mm, at_, bn, bl, rfl, rfl, hat, hmm, hbl, hlv, HFA, HPA, HFL⟩ := hrel
            clear HF0 HW5
            have hbox := HFL.out.box
            have hbnl : bn < wr.heap.size := (Array.getElem?_eq_some_iff.1 hbox).1
            obtain ⟨b0, b1⟩ := one_cell hbox
            obtain ⟨A8, c8, h8⟩ := own_slice HFL.out.row
            subst h8
            obtain ⟨n8, hn8⟩ : ∃ n8, n8 = (nmsOf fls bl).length := ⟨_, rfl⟩
            have HN8 := Lib.hid hn8
            have hn8b : n8 = bl.length := by rw [hn8, nms_len]
            rw [← hn8] at HFL ⊢
            subst hn8b
            clear hbox hn8 hlv
            by_cases h0 : mm = 0
            · subst h0
              have HEND : Hid (circT ins fls = nmsOf fls bl) := Lib.hid (by rw [HCI.out, ← HPA.out, path, List.append_nil])
              have hW := HS2.out
              have hDl : ∀ D' ∈ D :: Ds, D' < L := fun D' hD' => by rw [HL.out]; exact (Array.getElem?_eq_some_iff.1 (hW.ds D' hD').2).1
              have HDL := Lib.hid hDl
              clear hDl hW
              gi_wp2_with fail
              refine leaves_marks (D :: Ds) wr HS2.out.nd (fun D' hD' => (HFL.out.bel.block D' (HDL.out D' hD')).trans (HS2.out.ds D' hD').2) ?_
              refine ⟨.slice A8 bl.length c8, by simp [results, Try.results11, go_sem], ?_⟩
              have hLw : L ≤ wr.heap.size := by have h1 := HFL.out.bel.size; have h2 := HL.out; omega
              have hsh := shut_fr (D :: Ds) wr
              have hBLW : Below w.heap.size w wr := by rw [← HB.out]; exact HS2.out.bel.trans (HFL.out.bel.mono (by rw [HL.out]; omega))
              unfold FiPost
              rw [HEND.out, ← HN8.out]
              refine ⟨A8, c8, rfl, ?_, ?_⟩
              · have h1 := own_weaken HFL.out.row (show w.heap.size ≤ L by rw [HL.out, ← HB.out]; omega)
                rw [← HN8.out] at h1
                refine own_move h1 (fun k hk => hsh.block k (own_lt HFL.out.row k hk) (fun hin => ?_))
                have h2 := own_base HFL.out.row k hk
                have h3 := HDL.out k hin
                omega
              · exact below_fr hBLW hsh (fun D' hD' => by rw [← HB.out]; have := (HS2.out.ds D' hD').1; omega) hBLW.size
            · obtain ⟨q, rfl⟩ : ∃ q, mm = q + 1 := ⟨mm - 1, by omega⟩
              clear h0
              have hwr := HS2.out.rows.stay (HFL.out.bel) (by rw [HL.out]; exact Nat.le_refl _)
              obtain ⟨_, f, hmp, hra⟩ := hwr
              obtain ⟨v, hv, ho⟩ := hra.get (at_ : Int)
              obtain ⟨Ar, cr, rfl⟩ := own_slice ho
              have hCr := own_C ho rfl
              have hrl := HRL.out (at_ : Int)
              have hR0 := HR0.out
              have hok : ∀ y ∈ needR ins fls (at_ : Int), okI y := fun y hy => WalkArith.wf_i64 (by have := hR0 _ _ hy; omega)
              have hbw := HFL.out.bel
              have hmf := (HMP.out.move (hbw.block h (by have := HL.out; omega)))
              have hcf := (hbw.block (h + 1) (by have := HL.out; omega)).trans HC.out
              have hpred := far_pred (h + 1) bn h wr (reach (allN (needR ins fls)) N i) ((q + 1 : Nat) : Int) hcf HFL.out.box hmf
              have hidx := idxNW (fq (needR ins fls) N i ((q + 1 : Nat) : Int)) (h + 1) bn Ar cr (needR ins fls at_) wr hCr (by omega) hpred hok
              have hex := step_ex (fun m x hx => (hR0 m x hx).1) HIN.out HFA.out
              obtain ⟨nr, hnr⟩ : ∃ nr, nr = (needR ins fls (at_ : Int)).length := ⟨_, rfl⟩
              rw [← hnr] at hv hidx
              have HMPr := Lib.hid hmp; have HV := Lib.hid hv; have HIDX := Lib.hid hidx; have HEX := Lib.hid hex; have HNR := Lib.hid hnr
              have HOA : Hid (okI (at_ : Int)) := Lib.hid (WalkArith.wf_i64 (by omega))
              have HCR := Lib.hid hCr
              have hMl := hmp.lt
              clear hmp hra hv ho hCr hrl hR0 hok hbw hmf hcf hpred hidx hex hnr
              gi_wp2_with (gi_at_lookup; refine MapG.wpListIn_look1 rfl _ _ rfl Try.underlying64 keyedI (zero35 _) encI_inj keyI HMPr.out (at_ : Int) HOA.out (.slice Ar nr cr) HV.out rfl rfl ?_)
              refine ⟨trivial, ?_⟩
              refine (callsIn_wide.2 HIDX.out).mono ?_
              rintro e w' ⟨r, rfl, hr, hb'⟩
              obtain ⟨k, hkl, rfl, hk1, hk0⟩ : ∃ k : Nat, ∃ hk : k < (needR ins fls (at_ : Int)).length, r = k ∧ fq (needR ins fls) N i ((q + 1 : Nat) : Int) (needR ins fls at_)[k] = true ∧ ∀ j (hj : j < (needR ins fls (at_ : Int)).length), j < k → fq (needR ins fls) N i ((q + 1 : Nat) : Int) (needR ins fls at_)[j] = false := by
                rcases hr with hr | ⟨_, hno⟩
                · exact hr
                · obtain ⟨j, hj, e⟩ := HEX.out
                  exact absurd ((hno j hj).symm.trans e) (by simp)
              obtain ⟨hpath, hfy⟩ := step_at (fun m x hx => (HR0.out m x hx).1) hkl hk1 hk0
              have hyR := HR0.out _ _ (List.getElem_mem hkl)
              have hcr' := HCR.out
              have hcr2 := Kd.C_below hcr' hb'
              have hrl := HRL.out (at_ : Int)
              obtain ⟨ad9, hA9, p9⟩ := at_N hcr2 k hkl hkl
              subst hA9
              obtain ⟨y, hy⟩ : ∃ y : Nat, (needR ins fls (at_ : Int))[k] = (y : Int) := ⟨_, (Int.toNat_of_nonneg hyR.1).symm⟩
              rw [hy] at hpath hfy hyR p9
              simp only [Int.toNat_natCast] at hpath hfy
              have hyN : y < N := by omega
              have hyl : y < fls.length := by rw [← HN.out]; exact hyN
              have hkn : k < nr := by rw [HNR.out]; exact hkl
              have hnrl : nr ≤ 2000000 := by rw [HNR.out]; exact hrl
              have hbLw : Below L W w' := HFL.out.bel.trans (hb'.mono (by have := HFL.out.bel.size; have := HL.out; omega))
              have hBW' : Below B w w' := HS2.out.bel.trans (hbLw.mono (by rw [HL.out]; omega))
              have hpb := (hbLw.block B (by have := HL.out; omega)).trans HS2.out.pb
              rw [HOB.out] at hpb
              obtain ⟨t0, t1, t2, t3⟩ := box4 hpb
              have hBl : B < w'.heap.size := by have := hbLw.size; have := HL.out; omega
              have hC := Kd.C_below HC2.out (by rw [← HB.out]; exact hBW')
              obtain ⟨ad, A7, c7, hA, p0, p1, p2, p3, p4, p5, p6, p7, hl7, hC7⟩ := at_T51 hC (y : Int) (by omega) (by omega)
              injection hA with hA
              subst hA
              rw [rdT51 fls y hyl] at p0 p1 p2 p3 p4 p5 p6 p7 hl7 hC7
              simp only [Int.toNat_natCast] at p0 p1 p2 p3 p4 p5 p6 p7
              obtain ⟨nmy, hnmy⟩ : ∃ nmy, nmy = fls[y].f0 := ⟨_, rfl⟩
              rw [← hnmy] at p0
              have hnms : nmsOf fls (bl ++ [y]) = nmsOf fls bl ++ [nmy] := by
                rw [hnmy]
                unfold nmsOf
                rw [List.map_append, List.map_cons, List.map_nil, List.getD_eq_getElem?_getD, List.getElem?_eq_getElem hyl]
                rfl
              have HNMS := Lib.hid hnms
              have hbox' := (hb'.block bn hbnl).trans HFL.out.box
              have hbn' : bn < w'.heap.size := Nat.lt_of_lt_of_le hbnl hb'.size
              have hrow' := own_move HFL.out.row (fun k hk => hb'.block k (own_lt HFL.out.row k hk))
              have hbnr := box_row hrow' hbox'
              have HBOX := Lib.hid hbox'; have HROW := Lib.hid hrow'; have HBNR := Lib.hid hbnr; have HBLW := Lib.hid hbLw
              have HMP9 := Lib.hid (HMPr.out.move (hb'.block M HMPr.out.lt))
              have HPATH := Lib.hid hpath; have HFY := Lib.hid hfy; have HBB := Lib.hid HFL.out.bb
              have hLw' : L ≤ w'.heap.size := by have := hbLw.size; have := HL.out; omega
              obtain ⟨bx, hbx⟩ : ∃ bx, bx = (nmsOf fls bl).map Value.string := ⟨_, rfl⟩
              have hbxl : bx.length = bl.length := by rw [hbx, List.length_map, ← HN8.out]
              have HROW : Hid (w'.ownsRow L 9 1 (.slice A8 bl.length c8) bx.length bx) := Lib.hid (by have h1 := HROW.out; rw [← hbx, ← HN8.out, ← hbxl] at h1; rw [← hbxl]; exact h1)
              have HBX := Lib.hid hbx
              have hadl := cell_lt p0
              have hadl9 := cell_lt p9
              clear hr hk1 hk0 hpath hfy hcr' hcr2 hrl hy hbLw hBW' hpb hC p1 p2 p3 p4 p5 p6 p7 hl7 hC7 hnms hnmy hbox' hrow' hbnr hbx b0 b1 HFL HMPr HIDX HEX hb' hyR hyl hkl
              gi_wp2_with (first | (gi_at_lookup; refine MapG.wpListIn_look1 rfl _ _ rfl Try.underlying64 keyedI (zero35 _) encI_inj keyI HMP9.out (at_ : Int) HOA.out (.slice (some ad9) nr cr) HV.out rfl rfl ?_) | (gi_at_builtin; refine printIn_append (w0 := w') (W := w') L rfl _ _ 24 9 (.string ByteArray.empty) 16 rfl Try.underlying24 info9 rfl (by decide) (.slice A8 bl.length c8) bx (.string nmy) rfl rfl rfl HROW.out (Below.refl _ _) hLw' (by omega) ?_; intro v1 w9 hown9 hB9 hg9 hat9; have hz9 := one_cell ((hg9.block bn hbn' HBNR.out).trans HBOX.out); obtain ⟨z0, z1⟩ := hz9; have hbn9 : bn < w9.heap.size := Nat.lt_of_lt_of_le hbn' hg9.size; have hlv9 : lenV v1 = bl.length + 1 := (by obtain ⟨A9, c9, e9⟩ := own_slice hown9; rw [e9]; show (bx ++ [Value.string nmy]).length = _; rw [List.length_append, hbxl]; rfl); have HOWN9 := Lib.hid hown9; have HB9 := Lib.hid hB9; clear hown9 hB9 hg9 hat9))
              have hz9 : L ≤ w9.heap.size := Nat.le_trans hLw' HB9.out.size
              have hbw9 : Below L W w9 := HBLW.out.trans HB9.out
              refine ⟨⟨q, y, w9.heap.size, bl ++ [y], rfl, rfl, hyN, by omega, by simp; omega, by rw [hlv9]; simp, HFY, Lib.hid ?_, Lib.hid ⟨hbw9.alloc hz9 _, World.alloc_heap_new _ _, hz9, ?_⟩⟩, ?_⟩
              · rw [← HPA.out, HPATH.out, List.append_assoc]; rfl
              · have h1 := HOWN9.out.alloc (.cells #[.int .i64 q] 3)
                rw [HNMS.out, List.map_append, List.map_cons, List.map_nil, ← HBX.out]
                rw [show (nmsOf fls bl ++ [nmy]).length = (bx ++ [Value.string nmy]).length by rw [List.length_append, List.length_append, hbxl, nms_len]; rfl]
                exact h1
              · rw [hlv9]; show m + 1 - (bl.length + 1) < m + 1 - bl.length; omega
    · obtain rfl : i = N := by omega
      have hnil : circT ins fls = [] := by
        unfold circT circN
        rw [circ_none (fun f hf => by rw [← HN.out]; exact HS.out.zz f (by rw [HN.out]; exact hf))]
        rfl
      have HNIL := Lib.hid hnil
      clear hnil
      gi_wp2_with fail
      refine leaves_marks Ds wr HS.out.nd (fun D hD => (HS.out.ds D hD).2) ?_
      refine ⟨.slice none 0 0, by simp [results, Try.results11, go_sem], ?_⟩
      rw [HNIL.out]
      refine ⟨none, 0, rfl, World.ownsRow_nil _ _ _ _, ?_⟩
      rw [← HB.out]
      exact below_fr HS.out.bel (shut_fr Ds wr) (fun D hD => by have := (HS.out.ds D hD).1; omega) (by rw [HB.out]; exact HS.out.bel.size)
theorem cfind_any (w : World) (st : Int) (ins : List S84) (fls : List S51) (outs : List ByteArray) (A1 A2 A3 : Option Addr) (c1 c2 c3 : Nat)
    (hl1 : ins.length ≤ 140737488351232) (hl2 : fls.length ≤ 100000) (hsm : ∀ x ∈ fls, Sm x.f4)
    (hC1 : Kd.C k84 w A1 ins.length ins) (hc1 : ins.length ≤ c1) (hC2 : Kd.C k51 w A2 fls.length fls) (hc2 : fls.length ≤ c2) :
    Calls Try.prog 11 #[.agg #[.int .i64 st, .slice A1 ins.length c1, .slice A2 fls.length c2, .slice A3 outs.length c3]] w (FiPost w (circT ins fls)) :=
  callsIn_wide.1 (cfind_in w st ins fls outs A1 A2 A3 c1 c2 c3 fls.length rfl hl1 hl2 hsm hC1 hc1 hC2 hc2)
end Go.Proofs.Ytfkggeakjgphjaa.C
