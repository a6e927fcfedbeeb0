/- Book: lists of tokens are kept: walk. -/
import Derived.Test.YtgenhcanaoejkaaGreatDoorBkV
import Derived.Test.YtgenhcanaoejkaaGreatDoorSzM
import Derived.Deep.RegionHeld3
import Derived.LoopTactic
namespace Go.Proofs.YtgenhcanaoejkaaGreatDoor.B
set_option linter.unusedVariables false
set_option linter.unusedSimpArgs false
set_option linter.unusedSectionVars false
open Go.RowKit Go.Proofs.YtgenhcanaoejkaaGreatDoorW.PrintWords Go.Proofs.YtgenhcanaoejkaaGreatDoorW.PrintLast Go.Proofs.YtgenhcanaoejkaaGreatDoorW.PrintMore
open Go.Proofs.YtgenhcanaoejkaaGreatDoor.S
theorem info67 : (Tryz.prog.info? 67).map (fun i => (i.zero, i.size, i.bytes)) = some (some (.agg #[.slice none 0 0, .slice none 0 0, .int .i64 0]), 3, 56) := by kernel_rfl
def nilV : Value := .slice none 0 0
/-- the Book's cells: how many lists, and the lists of tokens. -/
def bookCells (N : Nat) (tv : Value) : Array Value := #[.int .i64 N, .slice none 0 0, .slice none 0 0, .slice none 0 0, .slice none 0 0, .slice none 0 0, tv, .slice none 0 0, .slice none 0 0, .slice none 0 0, .slice none 0 0, .slice none 0 0, .slice none 0 0, .slice none 0 0, .slice none 0 0, .slice none 0 0, .slice none 0 0, .slice none 0 0]
def rowCells (rows : List (Value × Value × Nat)) : List Value := rows.flatMap fun r => [r.1, r.2.1, .int .i64 r.2.2]
structure Bk (w : World) (base kb : Nat) (N : Nat) (tv : Value) (rows : List (Value × Value × Nat)) : Prop where
  book : w.heap[kb]? = some (.cells (bookCells N tv) 45 (0, 0))
  hkb : base ≤ kb
  tok : w.ownsRow base 67 3 tv rows.length (rowCells rows)
  ne : tv.ownBlock ≠ some kb
theorem Bk.cell {w : World} {base kb N : Nat} {tv : Value} {rows : List (Value × Value × Nat)} (h : Bk w base kb N tv rows) (j : Nat) : w.cell? ⟨kb, j, none⟩ = (bookCells N tv)[j]? := by
  simp [World.cell?, h.book]
theorem blk_cell {w : World} {k : Nat} {cs : Array Value} {t : TypeId} (h : w.heap[k]? = some (.cells cs t (0, 0))) (j : Nat) : w.cell? ⟨k, j, none⟩ = cs[j]? := by simp [World.cell?, h]
theorem blk_frozen {w : World} {k : Nat} {cs : Array Value} {t : TypeId} (h : w.heap[k]? = some (.cells cs t (0, 0))) (j : Nat) : w.frozen? ⟨k, j, none⟩ = false := by simp [World.frozen?, h]
theorem blk_set {w : World} {k : Nat} {cs : Array Value} {t : TypeId} (h : w.heap[k]? = some (.cells cs t (0, 0))) (j : Nat) (u : Value) : (w.setCell ⟨k, j, none⟩ u).heap[k]? = some (.cells (cs.setIfInBounds j u) t (0, 0)) := by
  simp [World.setCell, h, Array.getElem?_modify]
theorem set_other (w : World) (k j : Nat) (u : Value) (q : Nat) (hq : q ≠ k) : (w.setCell ⟨k, j, none⟩ u).heap[q]? = w.heap[q]? := Below.heap_setCell w _ u q hq
theorem set_size (w : World) (k j : Nat) (u : Value) : (w.setCell ⟨k, j, none⟩ u).heap.size = w.heap.size := by simp [World.setCell]
/-- blocks other than the Book's own two are as they were. -/
def Kept (w w' : World) (kb : Nat) (tv : Value) : Prop := w.heap.size ≤ w'.heap.size ∧ ∀ k, k < w.heap.size → k ≠ kb → some k ≠ tv.ownBlock → w'.heap[k]? = w.heap[k]?
def KeepPost (base kb N : Nat) (tv v : Value) (rows : List (Value × Value × Nat)) (w : World) (e : Ending) (w' : World) : Prop :=
  e = .returned (.tuple #[]) ∧ Below base w w' ∧ ∃ tv', Bk w' base kb (N + 1) tv' (rows ++ [(v, nilV, N + 1)]) ∧ Kept w w' kb tv ∧ (tv'.ownBlock = tv.ownBlock ∨ ∃ b, tv'.ownBlock = some b ∧ w.heap.size ≤ b)
theorem rowCells_snoc (rows : List (Value × Value × Nat)) (r : Value × Value × Nat) : rowCells (rows ++ [r]) = rowCells rows ++ [r.1, r.2.1, .int .i64 r.2.2] := by
  unfold rowCells; rw [List.flatMap_append]; simp
theorem keep_end {base kb N : Nat} {tv v : Value} {rows : List (Value × Value × Nat)} {w w1 w2 : World} {A1 : Option Addr} {c1 : Nat} (h : Bk w base kb N tv rows) (HK1 : Hid (w1.heap[kb]? = some (.cells (bookCells (N + 1) tv) 45 (0, 0))))
    (HS1 : Hid (w1.heap.size = w.heap.size)) (HO1 : Hid (∀ q, q ≠ kb → w1.heap[q]? = w.heap[q]?)) (HB1 : Hid (Below base w w1)) (hB : Below base w1 w2) (hg : w1.drew.grownBy w2 tv.ownBlock)
    (hown : w2.ownsRow base 67 3 (.slice A1 (rows.length + 1) c1) (rows.length + 1) (rowCells rows ++ [v, .slice none 0 0, .int .i64 ((N : Int) + 1)]))
    (hat : (Value.slice A1 (rows.length + 1) c1).ownBlock = tv.ownBlock ∨ ∃ b, (Value.slice A1 (rows.length + 1) c1).ownBlock = some b ∧ w1.drew.heap.size ≤ b) :
    KeepPost base kb N tv v rows w (.returned (.tuple #[])) (w2.setCell ⟨kb, 6, none⟩ (.slice A1 (rows.length + 1) c1)) := by
  have hlt : kb < w1.heap.size := (Array.getElem?_eq_some_iff.1 HK1.out).1
  have hk2 : w2.heap[kb]? = some (.cells (bookCells (N + 1) tv) 45 (0, 0)) := by rw [hg.block kb hlt (fun e => h.ne e.symm)]; exact HK1.out
  have hne : (Value.slice A1 (rows.length + 1) c1).ownBlock ≠ some kb := by
    rcases hat with e | ⟨b, e, hb⟩
    · rw [e]; exact h.ne
    · rw [e]
      intro q
      injection q with q
      have : w1.drew.heap.size = w1.heap.size := rfl
      omega
  refine ⟨rfl, (HB1.out.trans hB).setCell (p := ⟨kb, 6, none⟩) h.hkb _, .slice A1 (rows.length + 1) c1, ⟨?_, h.hkb, ?_, hne⟩, ⟨?_, ?_⟩, ?_⟩
  · rw [blk_set hk2 6]; rfl
  · rw [rowCells_snoc, List.length_append]
    exact own_kept hown (fun k hk => set_other w2 kb 6 _ k (fun e => hne (by rw [hk, e])))
  · rw [set_size, ← HS1.out]; exact hg.size
  · intro k hk hk1 hk2
    rw [set_other w2 kb 6 _ k hk1, hg.block k (by rw [show w1.drew.heap.size = w1.heap.size from rfl, HS1.out]; exact hk) hk2]
    exact HO1.out k hk1
  · rcases hat with e | ⟨b, e, hb⟩
    · exact .inl e
    · exact .inr ⟨b, e, by rw [← HS1.out]; exact hb⟩
set_option maxHeartbeats 4000000 in
set_option maxRecDepth 100000 in
theorem keep_walk (base kb N : Nat) (tv : Value) (rows : List (Value × Value × Nat)) (A : Option Addr) (n c : Nat) (w : World) (h : Bk w base kb N tv rows) (hN : N < 50) (hr : rows.length ≤ 50) :
    Calls Tryz.prog 16 #[.pointer (some ⟨kb, 0, none⟩), .slice A n c] w (KeepPost base kb N tv (.slice A n c) rows w) := by
  have c0 := h.cell 0
  have hf := blk_frozen h.book 0
  simp only [bookCells] at c0
  dsimp at c0
  have hk1 := blk_set h.book 0 (.int .i64 ((N : Int) + 1))
  have hc1 : (bookCells N tv).setIfInBounds 0 (.int .i64 ((N : Int) + 1)) = bookCells (N + 1) tv := rfl
  rw [hc1] at hk1
  have hs1 := set_size w kb 0 (.int .i64 ((N : Int) + 1))
  have ho1 := set_other w kb 0 (.int .i64 ((N : Int) + 1))
  have hb1 : Below base w (w.setCell ⟨kb, 0, none⟩ (.int .i64 ((N : Int) + 1))) := (Below.refl base w).setCell (p := ⟨kb, 0, none⟩) h.hkb _
  have ht1 := own_kept h.tok (w' := w.setCell ⟨kb, 0, none⟩ (.int .i64 ((N : Int) + 1))) (fun k hk => ho1 k (fun e => h.ne (by rw [hk, e])))
  have hbase : base ≤ (w.setCell ⟨kb, 0, none⟩ (.int .i64 ((N : Int) + 1))).heap.size := by
    have : kb < w.heap.size := (Array.getElem?_eq_some_iff.1 h.book).1
    have := h.hkb
    omega
  have HK1 := Lib.hid hk1; have HS1 := Lib.hid hs1; have HO1 := Lib.hid ho1; have HB1 := Lib.hid hb1; have HT1 := Lib.hid ht1; have HBA := Lib.hid hbase
  clear hk1 hs1 ho1 hb1 ht1 hbase hc1
  go_enter Tryz.func16, Tryz.ntmps16
  go_wp2_with fail
  generalize w.setCell ⟨kb, 0, none⟩ (.int .i64 ((N : Int) + 1)) = w1 at *
  have d0 := blk_cell HK1.out 0
  have d6 := blk_cell HK1.out 6
  have df := blk_frozen HK1.out 6
  simp only [bookCells] at d0 d6
  dsimp at d0 d6
  have hlt : kb < w1.heap.size := (Array.getElem?_eq_some_iff.1 HK1.out).1
  have hne := h.ne
  have fa : ∀ o : Obj, (w1.alloc o).drew.frozen? ⟨kb, 6, none⟩ = false := fun o => by rw [World.frozen?_of_block (w := w1) (Below.heap_alloc w1 o kb hlt)]; exact df
  have fb : ∀ o : Obj, (w1.drew.alloc o).frozen? ⟨kb, 6, none⟩ = false := fun o => by rw [World.frozen?_of_block (w := w1) (Below.heap_alloc w1.drew o kb hlt)]; exact df
  go_region_law (first | (refine step_append_cells (w0 := w1) (W := w1.drew) base rfl (.tmp 15) (.tmp 22) 32 67 (.agg #[.slice none 0 0, .slice none 0 0, .int .i64 0]) 3 56 rfl Tryz.underlying32 info67 rfl (by decide) (by decide) tv rows.length (rowCells rows) [.slice A n c, .slice none 0 0, .int .i64 ((N : Int) + 1)] rfl rfl rfl (by simp [Value.oneCell']) HT1.out (Below.refl base w1).drew HBA.out (by omega) ?_; intro v1 w2 hown hB hg hat; obtain ⟨A1, c1, hv1⟩ := own_slice hown; subst hv1; have k0 := hg.cell (a := ⟨kb, 0, none⟩) (by simpa using d0) (fun e => hne e.symm); have k6 := hg.cell (a := ⟨kb, 6, none⟩) (by simpa using d6) (fun e => hne e.symm); have kf : w2.frozen? ⟨kb, 6, none⟩ = false := by rw [World.frozen?_of_block (w := w1.drew) (hg.block kb hlt (fun e => hne e.symm))]; exact df))
  all_goals (go_end0; exact keep_end h HK1 HS1 HO1 HB1 hB hg hown hat)
end Go.Proofs.YtgenhcanaoejkaaGreatDoor.B
