/- tokens.Read: the state of its walk, in plain words. -/
import Derived.Test.YtgenhcanaoejkaaGreatDoorExtD
import Derived.Test.YtgenhcanaoejkaaGreatDoorTkY
import Derived.WalkSmall
import Derived.WalkMore
import Derived.Test.YtgenhcanaoejkaaGreatDoorTkW
import Derived.Deep.RegionHeld3
import Derived.Laws.EntriesVeiled
namespace Go.Proofs.YtgenhcanaoejkaaGreatDoor.S
set_option linter.unusedVariables false
set_option linter.unusedSimpArgs false
set_option linter.unusedSectionVars false
open Go.RowKit Go.Proofs.YtgenhcanaoejkaaGreatDoorW.PrintWords Go.Proofs.YtgenhcanaoejkaaGreatDoorW.PrintLast Go.Proofs.YtgenhcanaoejkaaGreatDoorW.PrintMore
/-- what is read, and what is read behind it. -/
def ahead (ts : List Tok.T) : Option (List Tok.T) × Nat → Option (List Tok.T) × Nat
  | (some us, q) => (some (ts ++ us), q)
  | (none, q) => (none, q)
/-- the walk's state: what was read, where it stands, the table of kinds. -/
structure ReadInv (s : ByteArray) (w wr : World) (v : Value) (ts : List Tok.T) (p : Nat) : Prop where
  hp : p ≤ s.size
  hn : ts.length ≤ p
  row : Kd.R k54 54 wr (w.heap.size + 1) (fun _ => True) v (ts.map toS)
  bel : Below (w.heap.size + 1) (w.alloc (.cells #[.int .u8 1, .func (.func 9) #[] #[], .int .u8 2, .func (.func 10) #[] #[], .int .u8 3, .func (.func 11) #[] #[]] 52)) wr
  goes : Tok.R (bytesOf s) 0 = ahead ts (Tok.R ((bytesOf s).drop p) p)
theorem ReadInv.step {s : ByteArray} {w wr w2 : World} {v : Value} {ts : List Tok.T} {p : Nat} (h : ReadInv s w wr v ts p) (hb : Below wr.heap.size wr w2) : ReadInv s w w2 v ts p :=
  ⟨h.hp, h.hn, Kd.R_below h.row hb, h.bel.trans (hb.mono (by have := h.bel.size; simpa using this)), h.goes⟩
theorem ReadInv.cells {s : ByteArray} {w wr : World} {v : Value} {ts : List Tok.T} {p : Nat} (h : ReadInv s w wr v ts p) : wr.heap[w.heap.size]? = some (.cells #[.int .u8 1, .func (.func 9) #[] #[], .int .u8 2, .func (.func 10) #[] #[], .int .u8 3, .func (.func 11) #[] #[]] 52) := by
  rw [h.bel.block _ (by omega)]
  exact heap_alloc_new w _
theorem ReadInv.cell {s : ByteArray} {w wr : World} {v : Value} {ts : List Tok.T} {p : Nat} (h : ReadInv s w wr v ts p) (j : Nat) : wr.cell? ⟨w.heap.size, j, none⟩ = (#[.int .u8 1, .func (.func 9) #[] #[], .int .u8 2, .func (.func 10) #[] #[], .int .u8 3, .func (.func 11) #[] #[]] : Array Value)[j]? := by
  simp [World.cell?, h.cells]
theorem drop_extract (s : ByteArray) (p : Nat) : bytesOf (s.extract p s.size) = (bytesOf s).drop p := by
  show ((s.extract p s.size).data.toList).map toI = (s.data.toList.map toI).drop p
  rw [Lib.extract_to_end, List.map_drop]
theorem extract_size (s : ByteArray) (p : Nat) : (s.extract p s.size).size = s.size - p := by
  rw [← bytesOf_length, drop_extract, List.length_drop, bytesOf_length]
theorem box_kept {wr w2 : World} {a b : Value} {t : TypeId} (hb : Below ((wr.alloc (.cells #[a, b] t)).drew).heap.size ((wr.alloc (.cells #[a, b] t)).drew) w2) :
    w2.heap[wr.heap.size]? = some (.cells #[a, b] t) ∧ Below wr.heap.size wr w2 := by
  have h1 : (wr.alloc (.cells #[a, b] t)).drew.heap[wr.heap.size]? = some (.cells #[a, b] t) := heap_alloc_new wr _
  have hs : (wr.alloc (.cells #[a, b] t)).drew.heap.size = wr.heap.size + 1 := by simp
  refine ⟨by rw [hb.block _ (by omega)]; exact h1, ?_⟩
  exact ((Below.refl wr.heap.size wr).alloc (Nat.le_refl _) _).drew.trans (hb.mono (by omega))
theorem cell_block {w : World} {g : Nat} {cs : Array Value} {t : TypeId} (h : w.heap[g]? = some (.cells cs t)) (j : Nat) : w.cell? ⟨g, j, none⟩ = cs[j]? := by
  simp [World.cell?, h]
theorem ahead_put (ts : List Tok.T) (t : Tok.T) (x : Option (List Tok.T) × Nat) : ahead ts (Tok.put t x) = ahead (ts ++ [t]) x := by
  rcases x with ⟨_ | us, q⟩
  · rfl
  · simp [ahead, Tok.put]
theorem ofB_take (s : ByteArray) (p m : Nat) : ofB (((bytesOf s).drop p).take m) = s.extract p (p + m) := by
  have h1 : (s.extract p (p + m)).data.toList = (s.data.toList.drop p).take m := by rw [Lib.extract_data]; congr 1; omega
  have h2 : ((bytesOf s).drop p).take m = ((s.data.toList.drop p).take m).map toI := by rw [bytes_map, List.map_take, List.map_drop]
  have h3 : ∀ l : List UInt8, (l.map toI).map (fun c => UInt8.ofNat c.toNat) = l := by
    intro l
    rw [List.map_map]
    conv => rhs; rw [← List.map_id l]
    apply List.map_congr_left
    intro b _
    simp [toI]
  unfold ofB
  rw [h2, h3, ← h1]
theorem ReadInv.skip {s : ByteArray} {w wr : World} {v : Value} {ts : List Tok.T} {p n : Nat} (h : ReadInv s w wr v ts p) (hn : n = Tok.silentLen ((bytesOf s).drop p)) (h0 : 0 < n) : ReadInv s w wr v ts (p + n) := by
  have hle := Tok.silentLen_le ((bytesOf s).drop p)
  rw [← hn, List.length_drop, bytesOf_length] at hle
  have := h.hp
  refine ⟨by omega, by have := h.hn; omega, h.row, h.bel, ?_⟩
  rw [h.goes]
  congr 1
  have hd : (bytesOf s).drop (p + n) = ((bytesOf s).drop p).drop n := by rw [List.drop_drop]
  rw [hd]
  cases hx : (bytesOf s).drop p with
  | nil => rw [hx, Tok.silent_nil] at hn; omega
  | cons c r => rw [hx] at hn; rw [Tok.R_silent p (by omega), hn]
theorem ReadInv.take {s : ByteArray} {w wr w3 : World} {v v1 : Value} {ts : List Tok.T} {p m : Nat} {k : Int} (h : ReadInv s w wr v ts p) (hs : Tok.silentLen ((bytesOf s).drop p) = 0) (hh : Tok.head ((bytesOf s).drop p) = (k, m)) (h0 : 0 < m)
    (hrow : Kd.R k54 54 w3 (w.heap.size + 1) (fun _ => True) v1 (ts.map toS ++ [⟨k, s.extract p (p + m), p⟩])) (hb : Below (w.heap.size + 1) (w.alloc (.cells #[.int .u8 1, .func (.func 9) #[] #[], .int .u8 2, .func (.func 10) #[] #[], .int .u8 3, .func (.func 11) #[] #[]] 52)) w3) :
    ReadInv s w w3 v1 (ts ++ [⟨k, ((bytesOf s).drop p).take m, p⟩]) (p + m) := by
  have hle := Tok.head_le ((bytesOf s).drop p)
  rw [hh, List.length_drop, bytesOf_length] at hle
  simp only at hle
  have hp := h.hp
  refine ⟨by omega, by have := h.hn; rw [List.length_append]; simp; omega, ?_, hb, ?_⟩
  · rw [List.map_append]
    simp only [List.map_cons, List.map_nil, toS, ofB_take]
    exact hrow
  · rw [h.goes]
    have hd : (bytesOf s).drop (p + m) = ((bytesOf s).drop p).drop m := by rw [List.drop_drop]
    rw [hd]
    cases hx : (bytesOf s).drop p with
    | nil => rw [hx] at hh; have : Tok.head [] = (3, 0) := rfl; rw [this] at hh; injection hh with _ h2; omega
    | cons c r =>
      rw [hx] at hs hh
      rw [Tok.R_head p hs (by rw [hh]; exact h0), hh, ahead_put]
theorem ReadInv.none {s : ByteArray} {w wr : World} {v : Value} {ts : List Tok.T} {p : Nat} (h : ReadInv s w wr v ts p) (hp : p < s.size) (hs : Tok.silentLen ((bytesOf s).drop p) = 0) (hh : (Tok.head ((bytesOf s).drop p)).2 = 0) : readOf (Tok.R (bytesOf s) 0) = ([], (p : Int), 5) := by
  rw [h.goes]
  cases hx : (bytesOf s).drop p with
  | nil => have : ((bytesOf s).drop p).length = 0 := by rw [hx]; rfl
           rw [List.length_drop, bytesOf_length] at this; omega
  | cons c r => rw [hx] at hs hh; rw [Tok.R_none p hs hh]; rfl
theorem ReadInv.done {s : ByteArray} {w wr : World} {v : Value} {ts : List Tok.T} {p : Nat} (h : ReadInv s w wr v ts p) (hp : ¬ p < s.size) : readOf (Tok.R (bytesOf s) 0) = (ts.map toS, 0, 0) := by
  rw [h.goes, List.drop_eq_nil_of_le (by rw [bytesOf_length]; omega), Tok.R_nil]
  simp [ahead, readOf]
theorem ReadInv.kept {s : ByteArray} {w wr : World} {v : Value} {ts : List Tok.T} {p : Nat} (h : ReadInv s w wr v ts p) : Below w.heap.size w wr :=
  ((Below.refl w.heap.size w).alloc (Nat.le_refl _) _).trans (h.bel.mono (by omega))
def ReadPost (s : ByteArray) (w : World) (e : Ending) (w' : World) : Prop := ∃ v, e = .returned (.tuple #[v, .int .i64 (readOf (Tok.R (bytesOf s) 0)).2.1, .int .i64 (readOf (Tok.R (bytesOf s) 0)).2.2]) ∧ Kd.R k54 54 w' w.heap.size (fun _ => True) v (readOf (Tok.R (bytesOf s) 0)).1 ∧ Below w.heap.size w w'
theorem below_of_eq {w w' : World} (h : w' = w) : Below w.heap.size w w' := h ▸ Below.refl _ _
theorem slice_fact0 (s : ByteArray) (l h : Int) (h0 : 0 ≤ l) (h1 : l ≤ h) (h2 : h ≤ s.size) (W : World) : (Instr.slice 9 (.string s) (some (.int .i64 l)) (some (.int .i64 h)) none).run Tryz.prog W = .ok (.string (s.extract l.toNat h.toNat)) W := by
  have eh : (h.toNat : Int) = h := Int.toNat_of_nonneg (by omega)
  simp [Instr.slice, run_underlying Tryz.underlying9, Instr.sliceBounds, run_sliceBound, *, eh, (by omega : 0 ≤ l), (by omega : 0 ≤ h)]
theorem slice_fact (s : ByteArray) (p m : Nat) (h : p + m ≤ s.size) (hs : s.size ≤ 65536) (W : World) : (Instr.slice 9 (.string s) (some (.int .i64 p)) (some (.int .i64 (IntKind.i64.wrap ((p : Int) + (m : Int))))) none).run Tryz.prog W = .ok (.string (s.extract p (p + m))) W := by
  have e : IntKind.i64.wrap ((p : Int) + (m : Int)) = ((p + m : Nat) : Int) := by
    rw [i64_w]
    unfold wrap64; omega
  rw [e, slice_fact0 s p ((p + m : Nat) : Int) (by omega) (by omega) (by omega)]
  rfl
end Go.Proofs.YtgenhcanaoejkaaGreatDoor.S
