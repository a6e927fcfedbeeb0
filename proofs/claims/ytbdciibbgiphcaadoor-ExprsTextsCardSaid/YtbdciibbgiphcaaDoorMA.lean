/- Structs, shelf contracts, tokens and names. Joined by wip/merge.py (ours) from several texts of this seat. -/
import Derived.Test.YtbdciibbgiphcaaDoorProg
import Derived.Below
import Derived.Deep.Draws
import Derived.Deep.AppendLies
import Derived.Maps.AppendAt
import Derived.OwnWalk
import Derived.Laws.BytesArg
import Derived.Laws.MakeOwn
import Derived.Laws.OwnMore
import Derived.Deep.OwnRows
import Derived.Tactics
import Derived.Lib.ConvBytes
import Derived.Laws.Slices
import Derived.WalkKit
import Derived.KernelRfl
import Derived.RowKit3
import Derived.Deep.LoopGhost
import Derived.Deep.QuietTactic
import Derived.BigQuiet
import Derived.WideLaws
import Derived.Deep.DeepCutAuto
import Derived.Deep.CutBlock
import Derived.Deep.RegionHeld3
import Derived.Laws.Rows
import Derived.Lib.AppendStr
import Derived.ArgAppend
import Derived.Laws.IdiomCopy
import Derived.OrdersHeld
import Derived.Laws.BitsLemmas
import Derived.RowKit
import Derived.Test.YtbdciibbgiphcaaDoorWWords
import Derived.Test.YtbdciibbgiphcaaDoorWLast
import Derived.Test.YtbdciibbgiphcaaDoorWTab
import Derived.Test.YtbdciibbgiphcaaDoorWFour
import Derived.Test.YtbdciibbgiphcaaDoorWQPut
import Derived.Test.YtbdciibbgiphcaaDoorWApart
import Derived.Test.YtbdciibbgiphcaaDoorWArr
import Derived.Test.YtbdciibbgiphcaaDoorWZeros
import Derived.Test.YtbdciibbgiphcaaDoorWFoot
import Derived.Test.YtbdciibbgiphcaaDoorWKept
import Derived.Test.YtbdciibbgiphcaaDoorWShare
import Derived.Test.YtbdciibbgiphcaaDoorWN
import Derived.Test.YtbdciibbgiphcaaDoorWFootNe
import Derived.Test.YtbdciibbgiphcaaDoorWAt
import Derived.Test.YtbdciibbgiphcaaDoorWEqStruct
import Derived.Test.YtbdciibbgiphcaaDoorWRepsOne
import Derived.Test.YtbdciibbgiphcaaDoorWInv
import Derived.Test.YtbdciibbgiphcaaDoorWGuard
import Derived.Test.YtbdciibbgiphcaaDoorWNEv
import Derived.Test.YtbdciibbgiphcaaDoorWMore
import Derived.Shelf.Strings.Trim
import Derived.Shelf.Small.Utf8
import Derived.Shelf.Small.Strs
import Derived.Shelf.Small.Wraps
import Derived.Shelf.Strconv.Itoa0
import Derived.Shelf.Strconv.Itoa1
import Derived.Shelf.LaysM
import Derived.Shelf.Strconv.Itoa2
import Derived.Shelf.Strconv.Itoa3
import Derived.Shelf.Strconv.Itoa4
import Derived.Shelf.Strconv.ParseIntEmpty
import Derived.Shelf.Strconv.Clone
import Derived.Shelf.Strconv.SyntaxError
import Derived.Shelf.LaysC
import Derived.Shelf.Strconv.ToError
import Derived.Shelf.Strconv.Lower
import Derived.Shelf.Strconv.ParseUint10
import Derived.Shelf.Strconv.ParseUint10Empty
import Derived.Shelf.Strconv.ParseUint10Any
import Derived.Shelf.Strconv.ParseInt10
import Derived.Shelf.Strconv.RangeError
import Derived.Shelf.Strconv.ToErrorRange
import Derived.Shelf.Strconv.ParseUintEmpty
import Derived.Shelf.Strconv.ParseUint10b64
import Derived.Shelf.Strconv.ParseUint10b32
import Derived.Shelf.Strconv.ParseUint10b16
import Derived.Shelf.Strconv.ParseUint10b8
import Derived.Shelf.Strconv.ParseUint10At
import Derived.Shelf.Strconv.ParseInt10At64
import Derived.Shelf.Strconv.ParseInt10At32
import Derived.Shelf.Strconv.ParseInt10At16
import Derived.Shelf.Strconv.ParseInt10At8
import Derived.Shelf.Strconv.ParseInt10All
import Derived.Shelf.Strconv.ParseIntPublic10
import Derived.Shelf.Strconv.ErrVarParseInt
import Derived.Shelf.Strings.Search1
import Derived.Shelf.Strings.Prefix
import Derived.Shelf.Unicode.Decode
import Derived.Shelf.Strings.Runes
import Derived.Shelf.Strings.AsciiSet
import Derived.Shelf.Unicode.DecodeSlow
import Derived.Shelf.Unicode.DecodeAny
import Derived.Shelf.Slices.Turned
import Derived.Tactics2
import Derived.Laws.RangeString
import Derived.Laws.RangeAny
import Derived.LoopTactic
import Derived.Lib.Hide
-- Written for this claim by wip/myprint.py (a program of this session over the kit's printer).
namespace Go.Proofs.YtbdciibbgiphcaaDoor.V
open Go.RowKit Go.Proofs.YtbdciibbgiphcaaDoorW.PrintWords Go.Proofs.YtbdciibbgiphcaaDoorW.PrintLast Go.Proofs.YtbdciibbgiphcaaDoorW.PrintMore
attribute [local go_sem] max2_int min2_int max_two min_two max_three min_three max_four min_four   -- for this text's walks alone
set_option linter.unusedVariables false
set_option linter.unusedSimpArgs false



def errW : Option Int → Value
 | none => .nilIface
 | some c => .iface 0 (.int .i64 c)
theorem errW_none : errW none = .nilIface := rfl
theorem errW_some (c : Int) : errW (some c) = .iface 0 (.int .i64 c) := rfl

theorem info3 : (Tryd.prog.info? 3).map (fun i => (i.zero, i.size, i.bytes)) = some (some (.int .i64 0), 1, 8) := by kernel_rfl
theorem info9 : (Tryd.prog.info? 9).map (fun i => (i.zero, i.size, i.bytes)) = some (some (.string ⟨#[]⟩), 1, 16) := by kernel_rfl
theorem info22 : (Tryd.prog.info? 22).map (fun i => (i.zero, i.size, i.bytes)) = some (some (.int .u8 0), 1, 1) := by kernel_rfl
theorem info25 : (Tryd.prog.info? 25).map (fun i => (i.zero, i.size, i.bytes)) = some (some (.agg #[(.int .u8 0), (.int .i64 0), (.string ⟨#[]⟩), (.slice none 0 0)]), 4, 56) := by kernel_rfl
theorem info45 : (Tryd.prog.info? 45).map (fun i => (i.zero, i.size, i.bytes)) = some (some (.agg #[(.int .u8 0), (.string ⟨#[]⟩), (.int .i64 0)]), 3, 32) := by kernel_rfl
theorem info83 : (Tryd.prog.info? 83).map (fun i => (i.zero, i.size, i.bytes)) = some (some (.agg #[(.int .u8 0), (.int .i64 0), (.int .u8 0), (.string ⟨#[]⟩)]), 4, 40) := by kernel_rfl
-- the values' own types
/-! #### struct type 25, nested in itself -/
structure S25 where
 f0 : Int
 f1 : Int
 f2 : ByteArray
 f3 : (List S25)
def z25 : S25 := ⟨(0 : Int), (0 : Int), (⟨#[]⟩ : ByteArray), ([] : List S25)⟩
def F25 (d : Kd S25) : Kd S25 := Kd.iso (Kd.pair (Kd.int .u8) (Kd.pair (Kd.int .i64) (Kd.pair Kd.string (Kd.slice 25 d)))) (fun x : S25 => (x.f0, x.f1, x.f2, x.f3))
theorem mono25 : Kd.Mono F25 := Kd.mono_iso _ (Kd.mono_pair (Kd.mono_const _) (Kd.mono_pair (Kd.mono_const _) (Kd.mono_pair (Kd.mono_const _) (Kd.mono_slice 25 Kd.mono_id))))
theorem sub25 : Kd.Sub F25 [25] := Kd.sub_iso _ (Kd.sub_pair (Kd.sub_const _ (by decide)) (Kd.sub_pair (Kd.sub_const _ (by decide)) (Kd.sub_pair (Kd.sub_const _ (by decide)) (Kd.sub_slice 25 (by decide) Kd.sub_id))))
theorem sz25 : ∀ n, (Kd.upto F25 4 [25] n).sz = 4 := Kd.upto_sz (fun _ => rfl)
def k25 : Kd S25 := Kd.fix F25 4 [25] sz25 (Kd.upto_E sub25)
theorem k25_open {w : World} {x : S25} {cs : List Value} (h : k25.K w x cs) : ∃ A3 c3, cs = [.int .u8 x.f0, .int .i64 x.f1, .string x.f2, .slice A3 x.f3.length c3] ∧ x.f3.length ≤ c3 ∧ k25.C w A3 x.f3.length x.f3 := by
 obtain ⟨n, h⟩ := h
 cases n with
 | zero => exact h.elim
 | succ n =>
  obtain ⟨_, _, rfl, rfl, ⟨_, _, rfl, rfl, ⟨_, _, rfl, rfl, ⟨A3, c3, rfl, l3, g3⟩⟩⟩⟩ := h
  exact ⟨A3, c3, rfl, l3, Kd.fix_C g3⟩
theorem k25_openM {w : World} {base : Nat} {ok : Nat → Prop} {x : S25} {cs : List Value} (h : k25.M w base ok x cs) : ∃ v3, cs = [.int .u8 x.f0, .int .i64 x.f1, .string x.f2, v3] ∧ k25.R 25 w base ok v3 x.f3 := by
 obtain ⟨n, h⟩ := h
 cases n with
 | zero => exact h.elim
 | succ n =>
  obtain ⟨_, _, rfl, rfl, ⟨_, _, rfl, rfl, ⟨_, _, rfl, rfl, ⟨v3, rfl, g3⟩⟩⟩⟩ := h
  exact ⟨v3, rfl, Kd.fix_R g3⟩
theorem k25_mk (w : World) (x : S25) {A3 : Option Addr} {c3 : Nat} (l3 : x.f3.length ≤ c3) (g3 : k25.C w A3 x.f3.length x.f3) : k25.K w x [.int .u8 x.f0, .int .i64 x.f1, .string x.f2, .slice A3 x.f3.length c3] := by
 obtain ⟨n3, q3⟩ := Kd.fix_C_back mono25 g3
 have r3 := Kd.upto_C_le mono25 sz25 (show n3 ≤ n3 by omega) q3
 exact ⟨n3 + 1, ⟨[.int .u8 x.f0], [.int .i64 x.f1, .string x.f2, .slice A3 x.f3.length c3], rfl, rfl, ⟨[.int .i64 x.f1], [.string x.f2, .slice A3 x.f3.length c3], rfl, rfl, ⟨[.string x.f2], [.slice A3 x.f3.length c3], rfl, rfl, ⟨A3, c3, rfl, l3, r3⟩⟩⟩⟩⟩
theorem k25_mkM (w : World) (base : Nat) (ok : Nat → Prop) (x : S25) {v3 : Value} (g3 : k25.R 25 w base ok v3 x.f3) : k25.M w base ok x [.int .u8 x.f0, .int .i64 x.f1, .string x.f2, v3] := by
 obtain ⟨n3, q3⟩ := Kd.fix_R_back mono25 g3
 have r3 := Kd.upto_R_le mono25 sz25 (show n3 ≤ n3 by omega) q3
 exact ⟨n3 + 1, ⟨[.int .u8 x.f0], [.int .i64 x.f1, .string x.f2, v3], rfl, rfl, ⟨[.int .i64 x.f1], [.string x.f2, v3], rfl, rfl, ⟨[.string x.f2], [v3], rfl, rfl, ⟨v3, rfl, r3⟩⟩⟩⟩⟩
theorem k25_openF {W : World} {ok : Nat → Prop} {x : S25} {cs : List Value} (h : Kd.FK k25 W ok x cs) : ∃ A3 c3, cs = [.int .u8 x.f0, .int .i64 x.f1, .string x.f2, .slice A3 x.f3.length c3] ∧ x.f3.length ≤ c3 ∧ Kd.F k25 W ok A3 x.f3.length x.f3 := by
 obtain ⟨A3, c3, rfl, l3, _⟩ := k25_open (Kd.FK_now h)
 exact ⟨A3, c3, rfl, l3, (fun W' hW => by obtain ⟨A3_, c3_, he, l3_, g3_⟩ := k25_open (h W' hW); injection (Option.some.inj (show some (Value.slice A3 x.f3.length c3) = some (Value.slice A3_ x.f3.length c3_) from congrArg (fun l => l[3]?) he)) with ha_ _ _; rw [ha_]; exact g3_)⟩
theorem k25_mkF (W : World) (ok : Nat → Prop) (x : S25) {A3 : Option Addr} {c3 : Nat} (l3 : x.f3.length ≤ c3) (g3 : Kd.F k25 W ok A3 x.f3.length x.f3) : Kd.FK k25 W ok x [.int .u8 x.f0, .int .i64 x.f1, .string x.f2, .slice A3 x.f3.length c3] := fun W2 hW => k25_mk W2 x l3 (g3 W2 hW)
def rd_T25 (xs : List S25) (i : Int) : S25 := xs.getD i.toNat z25
theorem at_T25 {w : World} {A : Option Addr} {n : Nat} {xs : List S25} (h : Kd.C k25 w A n xs) (i : Int) (h0 : 0 ≤ i) (h1 : i < n) : ∃ ad A3 c3, A = some ad ∧ w.cell? (ad.add (i.toNat * 4)) = some (.int .u8 (rd_T25 xs i).f0) ∧ w.cell? ⟨(ad.add (i.toNat * 4)).block, (ad.add (i.toNat * 4)).off + 1, none⟩ = some (.int .i64 (rd_T25 xs i).f1) ∧ w.cell? ⟨(ad.add (i.toNat * 4)).block, (ad.add (i.toNat * 4)).off + 2, none⟩ = some (.string (rd_T25 xs i).f2) ∧ w.cell? ⟨(ad.add (i.toNat * 4)).block, (ad.add (i.toNat * 4)).off + 3, none⟩ = some (.slice A3 (rd_T25 xs i).f3.length c3) ∧ (rd_T25 xs i).f3.length ≤ c3 ∧ k25.C w A3 (rd_T25 xs i).f3.length (rd_T25 xs i).f3 := by
 obtain ⟨ad, c, e, _, hK, hc0⟩ := Kd.C_get h z25 i h0 h1
 have hc : ∀ j u, c[j]? = some u → w.cell? (ad.add (i.toNat * 4 + j)) = some u := hc0
 obtain ⟨A3, c3, rfl, l3, g3⟩ := k25_open hK
 exact ⟨ad, A3, c3, e, hc 0 _ rfl, by rw [← add_field _ _ 1 (by omega)]; exact hc 1 _ rfl, by rw [← add_field _ _ 2 (by omega)]; exact hc 2 _ rfl, by rw [← add_field _ _ 3 (by omega)]; exact hc 3 _ rfl, l3, g3⟩

/-! #### struct type 83 -/
structure S83 where
 f0 : Int
 f1 : Int
 f2 : Int
 f3 : ByteArray
def z83 : S83 := ⟨(0 : Int), (0 : Int), (0 : Int), (⟨#[]⟩ : ByteArray)⟩
def k83 : Kd S83 := Kd.iso (Kd.pair (Kd.int .u8) (Kd.pair (Kd.int .i64) (Kd.pair (Kd.int .u8) Kd.string))) (fun x : S83 => (x.f0, x.f1, x.f2, x.f3))
theorem k83_open {w : World} {x : S83} {cs : List Value} (h : k83.K w x cs) : cs = [.int .u8 x.f0, .int .i64 x.f1, .int .u8 x.f2, .string x.f3] := by
 obtain ⟨_, _, rfl, rfl, ⟨_, _, rfl, rfl, ⟨_, _, rfl, rfl, rfl⟩⟩⟩ := h
 exact rfl
theorem k83_openM {w : World} {base : Nat} {ok : Nat → Prop} {x : S83} {cs : List Value} (h : k83.M w base ok x cs) : cs = [.int .u8 x.f0, .int .i64 x.f1, .int .u8 x.f2, .string x.f3] := by
 obtain ⟨_, _, rfl, rfl, ⟨_, _, rfl, rfl, ⟨_, _, rfl, rfl, rfl⟩⟩⟩ := h
 exact rfl
theorem k83_mk (w : World) (x : S83)  : k83.K w x [.int .u8 x.f0, .int .i64 x.f1, .int .u8 x.f2, .string x.f3] := ⟨[.int .u8 x.f0], [.int .i64 x.f1, .int .u8 x.f2, .string x.f3], rfl, rfl, ⟨[.int .i64 x.f1], [.int .u8 x.f2, .string x.f3], rfl, rfl, ⟨[.int .u8 x.f2], [.string x.f3], rfl, rfl, rfl⟩⟩⟩
theorem k83_mkM (w : World) (base : Nat) (ok : Nat → Prop) (x : S83)  : k83.M w base ok x [.int .u8 x.f0, .int .i64 x.f1, .int .u8 x.f2, .string x.f3] := ⟨[.int .u8 x.f0], [.int .i64 x.f1, .int .u8 x.f2, .string x.f3], rfl, rfl, ⟨[.int .i64 x.f1], [.int .u8 x.f2, .string x.f3], rfl, rfl, ⟨[.int .u8 x.f2], [.string x.f3], rfl, rfl, rfl⟩⟩⟩
theorem k83_mkF (W : World) (ok : Nat → Prop) (x : S83) : Kd.FK k83 W ok x [.int .u8 x.f0, .int .i64 x.f1, .int .u8 x.f2, .string x.f3] := fun W2 _ => k83_mk W2 x
def rd_T83 (xs : List S83) (i : Int) : S83 := xs.getD i.toNat z83
theorem at_T83 {w : World} {A : Option Addr} {n : Nat} {xs : List S83} (h : Kd.C k83 w A n xs) (i : Int) (h0 : 0 ≤ i) (h1 : i < n) : ∃ ad , A = some ad ∧ w.cell? (ad.add (i.toNat * 4)) = some (.int .u8 (rd_T83 xs i).f0) ∧ w.cell? ⟨(ad.add (i.toNat * 4)).block, (ad.add (i.toNat * 4)).off + 1, none⟩ = some (.int .i64 (rd_T83 xs i).f1) ∧ w.cell? ⟨(ad.add (i.toNat * 4)).block, (ad.add (i.toNat * 4)).off + 2, none⟩ = some (.int .u8 (rd_T83 xs i).f2) ∧ w.cell? ⟨(ad.add (i.toNat * 4)).block, (ad.add (i.toNat * 4)).off + 3, none⟩ = some (.string (rd_T83 xs i).f3) := by
 obtain ⟨ad, c, e, _, hK, hc0⟩ := Kd.C_get h z83 i h0 h1
 have hc : ∀ j u, c[j]? = some u → w.cell? (ad.add (i.toNat * 4 + j)) = some u := hc0
 obtain rfl := k83_open hK
 exact ⟨ad, e, hc 0 _ rfl, by rw [← add_field _ _ 1 (by omega)]; exact hc 1 _ rfl, by rw [← add_field _ _ 2 (by omega)]; exact hc 2 _ rfl, by rw [← add_field _ _ 3 (by omega)]; exact hc 3 _ rfl⟩

/-! #### struct type 45 -/
structure S45 where
 f0 : Int
 f1 : ByteArray
 f2 : Int
def z45 : S45 := ⟨(0 : Int), (⟨#[]⟩ : ByteArray), (0 : Int)⟩
def k45 : Kd S45 := Kd.iso (Kd.pair (Kd.int .u8) (Kd.pair Kd.string (Kd.int .i64))) (fun x : S45 => (x.f0, x.f1, x.f2))
theorem k45_open {w : World} {x : S45} {cs : List Value} (h : k45.K w x cs) : cs = [.int .u8 x.f0, .string x.f1, .int .i64 x.f2] := by
 obtain ⟨_, _, rfl, rfl, ⟨_, _, rfl, rfl, rfl⟩⟩ := h
 exact rfl
theorem k45_openM {w : World} {base : Nat} {ok : Nat → Prop} {x : S45} {cs : List Value} (h : k45.M w base ok x cs) : cs = [.int .u8 x.f0, .string x.f1, .int .i64 x.f2] := by
 obtain ⟨_, _, rfl, rfl, ⟨_, _, rfl, rfl, rfl⟩⟩ := h
 exact rfl
theorem k45_mk (w : World) (x : S45)  : k45.K w x [.int .u8 x.f0, .string x.f1, .int .i64 x.f2] := ⟨[.int .u8 x.f0], [.string x.f1, .int .i64 x.f2], rfl, rfl, ⟨[.string x.f1], [.int .i64 x.f2], rfl, rfl, rfl⟩⟩
theorem k45_mkM (w : World) (base : Nat) (ok : Nat → Prop) (x : S45)  : k45.M w base ok x [.int .u8 x.f0, .string x.f1, .int .i64 x.f2] := ⟨[.int .u8 x.f0], [.string x.f1, .int .i64 x.f2], rfl, rfl, ⟨[.string x.f1], [.int .i64 x.f2], rfl, rfl, rfl⟩⟩
theorem k45_mkF (W : World) (ok : Nat → Prop) (x : S45) : Kd.FK k45 W ok x [.int .u8 x.f0, .string x.f1, .int .i64 x.f2] := fun W2 _ => k45_mk W2 x
def rd_T45 (xs : List S45) (i : Int) : S45 := xs.getD i.toNat z45
theorem at_T45 {w : World} {A : Option Addr} {n : Nat} {xs : List S45} (h : Kd.C k45 w A n xs) (i : Int) (h0 : 0 ≤ i) (h1 : i < n) : ∃ ad , A = some ad ∧ w.cell? (ad.add (i.toNat * 3)) = some (.int .u8 (rd_T45 xs i).f0) ∧ w.cell? ⟨(ad.add (i.toNat * 3)).block, (ad.add (i.toNat * 3)).off + 1, none⟩ = some (.string (rd_T45 xs i).f1) ∧ w.cell? ⟨(ad.add (i.toNat * 3)).block, (ad.add (i.toNat * 3)).off + 2, none⟩ = some (.int .i64 (rd_T45 xs i).f2) := by
 obtain ⟨ad, c, e, _, hK, hc0⟩ := Kd.C_get h z45 i h0 h1
 have hc : ∀ j u, c[j]? = some u → w.cell? (ad.add (i.toNat * 3 + j)) = some u := hc0
 obtain rfl := k45_open hK
 exact ⟨ad, e, hc 0 _ rfl, by rw [← add_field _ _ 1 (by omega)]; exact hc 1 _ rfl, by rw [← add_field _ _ 2 (by omega)]; exact hc 2 _ rfl⟩

/-! #### struct type 51 -/
structure S51 where
 f0 : ByteArray
 f1 : Int
def z51 : S51 := ⟨(⟨#[]⟩ : ByteArray), (0 : Int)⟩
def k51 : Kd S51 := Kd.iso (Kd.pair Kd.string (Kd.int .i64)) (fun x : S51 => (x.f0, x.f1))
theorem k51_open {w : World} {x : S51} {cs : List Value} (h : k51.K w x cs) : cs = [.string x.f0, .int .i64 x.f1] := by
 obtain ⟨_, _, rfl, rfl, rfl⟩ := h
 exact rfl
theorem k51_openM {w : World} {base : Nat} {ok : Nat → Prop} {x : S51} {cs : List Value} (h : k51.M w base ok x cs) : cs = [.string x.f0, .int .i64 x.f1] := by
 obtain ⟨_, _, rfl, rfl, rfl⟩ := h
 exact rfl
theorem k51_mk (w : World) (x : S51)  : k51.K w x [.string x.f0, .int .i64 x.f1] := ⟨[.string x.f0], [.int .i64 x.f1], rfl, rfl, rfl⟩
theorem k51_mkM (w : World) (base : Nat) (ok : Nat → Prop) (x : S51)  : k51.M w base ok x [.string x.f0, .int .i64 x.f1] := ⟨[.string x.f0], [.int .i64 x.f1], rfl, rfl, rfl⟩
theorem k51_mkF (W : World) (ok : Nat → Prop) (x : S51) : Kd.FK k51 W ok x [.string x.f0, .int .i64 x.f1] := fun W2 _ => k51_mk W2 x
def rd_T51 (xs : List S51) (i : Int) : S51 := xs.getD i.toNat z51
theorem at_T51 {w : World} {A : Option Addr} {n : Nat} {xs : List S51} (h : Kd.C k51 w A n xs) (i : Int) (h0 : 0 ≤ i) (h1 : i < n) : ∃ ad , A = some ad ∧ w.cell? (ad.add (i.toNat * 2)) = some (.string (rd_T51 xs i).f0) ∧ w.cell? ⟨(ad.add (i.toNat * 2)).block, (ad.add (i.toNat * 2)).off + 1, none⟩ = some (.int .i64 (rd_T51 xs i).f1) := by
 obtain ⟨ad, c, e, _, hK, hc0⟩ := Kd.C_get h z51 i h0 h1
 have hc : ∀ j u, c[j]? = some u → w.cell? (ad.add (i.toNat * 2 + j)) = some u := hc0
 obtain rfl := k51_open hK
 exact ⟨ad, e, hc 0 _ rfl, by rw [← add_field _ _ 1 (by omega)]; exact hc 1 _ rfl⟩

end Go.Proofs.YtbdciibbgiphcaaDoor.V

/-
 DERIVED: THE SHELF's CONTRACTS AT THIS DUMP, IN PLAIN WORDS (tools/lay-plain.mjs out of 'TrydShelf.lean', which tools/lay-shelf.mjs wrote): THE SAME DECLARATIONS UNDER THE SAME NAMES: 'import', 'namespace', 'open', 'def', 'theorem' AND NOTHING ELSE: no command of the shelf's: FOR A HAND-IN. Each laying: the table of numbers ('.._ren') and one theorem, a field a fact of the dump's own or the kernel's comparison; each contract: ONE APPLICATION.
-/
namespace Go.Proofs
open Go.Shelf
def Tryd.lays161_ren : Go.Shelf.Ren := ⟨fun | 161 => 66 | 231 => 78 | 227 => 79 | 233 => 80 | 235 => 81 | 228 => 93 | 197 => 94 | 151 => 95 | 260 => 102 | 152 => 103 | 137 => 65 | 119 => 107 | 224 => 108 | 225 => 109 | 217 => 77 | 266 => 92 | n => n, fun | 9 => 9 | 4 => 4 | 3 => 3 | 5 => 5 | 117 => 112 | 116 => 111 | 0 => 0 | 124 => 115 | 105 => 131 | 21 => 21 | 119 => 150 | 46 => 142 | 139 => 153 | 138 => 152 | n => n, fun | 3 => 2 | 4 => 3 | n => n⟩
theorem Tryd.lays161 : Go.Proofs.Lays.n161 Tryd.prog Tryd.lays161_ren := {
 mixed := by kernel_rfl
 f119 := Tryd.func107.trans (congrArg some (by kernel_rfl))
 f137 := Tryd.func65.trans (congrArg some (by kernel_rfl))
 f151 := Tryd.func95.trans (congrArg some (by kernel_rfl))
 f152 := Tryd.func103.trans (congrArg some (by kernel_rfl))
 f161 := Tryd.func66.trans (congrArg some (by kernel_rfl))
 f197 := Tryd.func94.trans (congrArg some (by kernel_rfl))
 f217 := Tryd.func77.trans (congrArg some (by kernel_rfl))
 f224 := Tryd.func108.trans (congrArg some (by kernel_rfl))
 f225 := Tryd.func109.trans (congrArg some (by kernel_rfl))
 f227 := Tryd.func79.trans (congrArg some (by kernel_rfl))
 f228 := Tryd.func93.trans (congrArg some (by kernel_rfl))
 f231 := Tryd.func78.trans (congrArg some (by kernel_rfl))
 f233 := Tryd.func80.trans (congrArg some (by kernel_rfl))
 f235 := Tryd.func81.trans (congrArg some (by kernel_rfl))
 f260 := Tryd.func102.trans (congrArg some (by kernel_rfl))
 f266 := Tryd.func92.trans (congrArg some (by kernel_rfl))
 t0 := Tryd.underlying0
 a0 := Tryd.isAgg0
 z0 := Tryd.sizeOf0
 v0 := Tryd.zeroValue0
 t3 := Tryd.underlying3
 a3 := Tryd.isAgg3
 z3 := Tryd.sizeOf3
 v3 := Tryd.zeroValue3
 t4 := Tryd.underlying4
 a4 := Tryd.isAgg4
 z4 := Tryd.sizeOf4
 v4 := Tryd.zeroValue4
 t5 := Tryd.underlying5
 a5 := Tryd.isAgg5
 z5 := Tryd.sizeOf5
 v5 := Tryd.zeroValue5
 t9 := Tryd.underlying9
 a9 := Tryd.isAgg9
 z9 := Tryd.sizeOf9
 v9 := Tryd.zeroValue9
 t21 := Tryd.underlying21
 a21 := Tryd.isAgg21
 z21 := Tryd.sizeOf21
 v21 := Tryd.zeroValue21
 t46 := Tryd.underlying142
 a46 := Tryd.isAgg142
 z46 := Tryd.sizeOf142
 v46 := Tryd.zeroValue142
 t105 := Tryd.underlying131
 a105 := Tryd.isAgg131
 z105 := Tryd.sizeOf131
 v105 := Tryd.zeroValue131
 t116 := Tryd.underlying111
 a116 := Tryd.isAgg111
 z116 := Tryd.sizeOf111
 t117 := Tryd.underlying112
 a117 := Tryd.isAgg112
 z117 := Tryd.sizeOf112
 v117 := Tryd.zeroValue112
 t119 := Tryd.underlying150
 a119 := Tryd.isAgg150
 z119 := Tryd.sizeOf150
 t124 := Tryd.underlying115
 a124 := Tryd.isAgg115
 z124 := Tryd.sizeOf115
 v124 := Tryd.zeroValue115
 t138 := Tryd.underlying152
 a138 := Tryd.isAgg152
 z138 := Tryd.sizeOf152
 v138 := Tryd.zeroValue152
 t139 := Tryd.underlying153
 a139 := Tryd.isAgg153
 z139 := Tryd.sizeOf153
 v139 := Tryd.zeroValue153
 g3 := by kernel_rfl
 g4 := by kernel_rfl }
def Tryd.lays137_ren : Go.Shelf.Ren := ⟨fun | 137 => 65 | 217 => 77 | 266 => 92 | n => n, fun | 9 => 9 | 5 => 5 | 3 => 3 | n => n, fun | n => n⟩
theorem Tryd.lays137 : Go.Proofs.Lays.n137 Tryd.prog Tryd.lays137_ren := {
 mixed := by kernel_rfl
 f137 := Tryd.func65.trans (congrArg some (by kernel_rfl))
 f217 := Tryd.func77.trans (congrArg some (by kernel_rfl))
 f266 := Tryd.func92.trans (congrArg some (by kernel_rfl))
 t3 := Tryd.underlying3
 a3 := Tryd.isAgg3
 z3 := Tryd.sizeOf3
 v3 := Tryd.zeroValue3
 t5 := Tryd.underlying5
 a5 := Tryd.isAgg5
 z5 := Tryd.sizeOf5
 v5 := Tryd.zeroValue5
 t9 := Tryd.underlying9
 a9 := Tryd.isAgg9
 z9 := Tryd.sizeOf9
 v9 := Tryd.zeroValue9 }
open Go.RowKit in
/-- strings.IndexByte: "IndexByte returns the index of the first instance of c in s, or -1 if c is not present in s.": IT RETURNS 'Lib.indexByte s c'; the world is as it was. (LAID: no walk: one application.) -/
theorem Tryd.strings_IndexByte (s : ByteArray) (c : Int) (w : World) :
  Calls Tryd.prog 65 #[.string s, .int .u8 c] w fun e w' => e = .returned (.int .i64 (Lib.indexByte s.data.toList c.toNat.toUInt8)) ∧ w' = w := Any.strings_IndexByte Tryd.lays137 s c w
def Tryd.lays121_ren : Go.Shelf.Ren := ⟨fun | 121 => 51 | 214 => 73 | n => n, fun | 4 => 4 | 9 => 9 | n => n, fun | n => n⟩
theorem Tryd.lays121 : Go.Proofs.Lays.n121 Tryd.prog Tryd.lays121_ren := {
 mixed := by kernel_rfl
 f121 := Tryd.func51.trans (congrArg some (by kernel_rfl))
 f214 := Tryd.func73.trans (congrArg some (by kernel_rfl))
 t4 := Tryd.underlying4
 a4 := Tryd.isAgg4
 z4 := Tryd.sizeOf4
 v4 := Tryd.zeroValue4
 t9 := Tryd.underlying9
 a9 := Tryd.isAgg9
 z9 := Tryd.sizeOf9
 v9 := Tryd.zeroValue9 }
open Go.RowKit in
/-- strconv.FormatBool: "FormatBool returns "true" or "false" according to the value of b.": IT RETURNS 'Lib.formatBool b'; the world is as it was. (LAID: no walk: one application.) -/
theorem Tryd.strconv_FormatBool (b : Bool) (w : World) :
  Calls Tryd.prog 51 #[.bool b] w fun e w' => e = .returned (.string ⟨(Lib.formatBool b).toArray⟩) ∧ w' = w := Any.strconv_FormatBool Tryd.lays121 b w
def Tryd.laysM173_ren : Go.Shelf.Ren := ⟨fun | 173 => 50 | 246 => 72 | 283 => 85 | 284 => 86 | 285 => 87 | 286 => 88 | 129 => 98 | 317 => 97 | 318 => 99 | 319 => 100 | 320 => 101 | 337 => 105 | 338 => 106 | n => n, fun | 2 => 2 | 3 => 3 | 9 => 9 | 4 => 4 | 171 => 122 | 0 => 0 | 53 => 123 | 37 => 126 | 5 => 5 | 173 => 127 | 212 => 138 | 51 => 139 | 20 => 20 | 213 => 140 | 46 => 142 | 232 => 156 | 233 => 157 | n => n, fun | 17 => 0 | 18 => 4 | 19 => 5 | n => n⟩
theorem Tryd.laysM173 : Go.Proofs.LaysM.n173 Tryd.prog Tryd.laysM173_ren := {
 mixed := by kernel_rfl
 f129 := Tryd.func98.trans (congrArg some (by kernel_rfl))
 f173 := Tryd.func50.trans (congrArg some (by kernel_rfl))
 f246 := Tryd.func72.trans (congrArg some (by kernel_rfl))
 f283 := Tryd.func85.trans (congrArg some (by kernel_rfl))
 f284 := Tryd.func86.trans (congrArg some (by kernel_rfl))
 f285 := Tryd.func87.trans (congrArg some (by kernel_rfl))
 f286 := Tryd.func88.trans (congrArg some (by kernel_rfl))
 f317 := Tryd.func97.trans (congrArg some (by kernel_rfl))
 f318 := Tryd.func99.trans (congrArg some (by kernel_rfl))
 f319 := Tryd.func100.trans (congrArg some (by kernel_rfl))
 f320 := Tryd.func101.trans (congrArg some (by kernel_rfl))
 f337 := Tryd.func105.trans (congrArg some (by kernel_rfl))
 f338 := Tryd.func106.trans (congrArg some (by kernel_rfl))
 t0 := Tryd.underlying0
 a0 := Tryd.isAgg0
 z0 := Tryd.sizeOf0
 v0 := Tryd.zeroValue0
 t2 := Tryd.underlying2
 a2 := Tryd.isAgg2
 z2 := Tryd.sizeOf2
 v2 := Tryd.zeroValue2
 t3 := Tryd.underlying3
 a3 := Tryd.isAgg3
 z3 := Tryd.sizeOf3
 v3 := Tryd.zeroValue3
 t4 := Tryd.underlying4
 a4 := Tryd.isAgg4
 z4 := Tryd.sizeOf4
 v4 := Tryd.zeroValue4
 t5 := Tryd.underlying5
 a5 := Tryd.isAgg5
 z5 := Tryd.sizeOf5
 v5 := Tryd.zeroValue5
 t9 := Tryd.underlying9
 a9 := Tryd.isAgg9
 z9 := Tryd.sizeOf9
 v9 := Tryd.zeroValue9
 t20 := Tryd.underlying20
 a20 := Tryd.isAgg20
 z20 := Tryd.sizeOf20
 v20 := Tryd.zeroValue20
 t37 := Tryd.underlying126
 a37 := Tryd.isAgg126
 z37 := Tryd.sizeOf126
 v37 := Tryd.zeroValue126
 t46 := Tryd.underlying142
 a46 := Tryd.isAgg142
 z46 := Tryd.sizeOf142
 v46 := Tryd.zeroValue142
 t51 := Tryd.underlying139
 a51 := Tryd.isAgg139
 z51 := Tryd.sizeOf139
 v51 := Tryd.zeroValue139
 t53 := Tryd.underlying123
 a53 := Tryd.isAgg123
 z53 := Tryd.sizeOf123
 v53 := Tryd.zeroValue123
 t171 := Tryd.underlying122
 a171 := Tryd.isAgg122
 z171 := Tryd.sizeOf122
 v171 := Tryd.zeroValue122
 t173 := Tryd.underlying127
 a173 := Tryd.isAgg127
 z173 := Tryd.sizeOf127
 v173 := Tryd.zeroValue127
 t212 := Tryd.underlying138
 a212 := Tryd.isAgg138
 z212 := Tryd.sizeOf138
 v212 := Tryd.zeroValue138
 t213 := Tryd.underlying140
 a213 := Tryd.isAgg140
 z213 := Tryd.sizeOf140
 t232 := Tryd.underlying156
 a232 := Tryd.isAgg156
 z232 := Tryd.sizeOf156
 v232 := Tryd.zeroValue156
 t233 := Tryd.underlying157
 a233 := Tryd.isAgg157
 z233 := Tryd.sizeOf157
 v233 := Tryd.zeroValue157
 g17 := by kernel_rfl
 g18 := by kernel_rfl
 g19 := by kernel_rfl
 i0 := by kernel_rfl
 i2 := by kernel_rfl
 i3 := by kernel_rfl
 i4 := by kernel_rfl
 i5 := by kernel_rfl
 i9 := by kernel_rfl
 i20 := by kernel_rfl
 i37 := by kernel_rfl
 i46 := by kernel_rfl
 i51 := by kernel_rfl
 i53 := by kernel_rfl
 i171 := by kernel_rfl
 i173 := by kernel_rfl
 i212 := by kernel_rfl
 i232 := by kernel_rfl
 i233 := by kernel_rfl
 m17 := by kernel_rfl
 m18 := by kernel_rfl
 m19 := by kernel_rfl }
open Go.RowKit Go.Sort Go.Lib in
/-- strconv.FormatInt: "FormatInt returns the string representation of i in the given base": AT BASE 10: i's decimal numeral, for every int64. (LAID: no walk: one application.) -/
theorem Tryd.strconv_FormatInt_10 (n : Int) (h0 : -9223372036854775808 ≤ n) (h1 : n ≤ 9223372036854775807) (w : World) (htab : Lib.TabIs Tryd.prog w "internal/strconv.uint64pow10" .u64 Lib.pow10Tab) :
  Calls Tryd.prog 50 #[.int .i64 n, .int .i64 10] w fun e w' => e = .returned (.string ⟨(Lib.itoa n).toArray⟩) ∧ ∃ k os, w' = grow (w.drewN k) os := Any.strconv_FormatInt_10 Tryd.laysM173 n h0 h1 w htab
def Tryd.lays173_ren : Go.Shelf.Ren := ⟨fun | 173 => 50 | 246 => 72 | 283 => 85 | 284 => 86 | 285 => 87 | 286 => 88 | 129 => 98 | 317 => 97 | 318 => 99 | 319 => 100 | 320 => 101 | 337 => 105 | 338 => 106 | n => n, fun | 2 => 2 | 3 => 3 | 9 => 9 | 4 => 4 | 171 => 122 | 0 => 0 | 53 => 123 | 37 => 126 | 5 => 5 | 173 => 127 | 212 => 138 | 51 => 139 | 20 => 20 | 213 => 140 | 46 => 142 | 232 => 156 | 233 => 157 | n => n, fun | 17 => 0 | 18 => 4 | 19 => 5 | n => n⟩
theorem Tryd.lays173 : Go.Proofs.Lays.n173 Tryd.prog Tryd.lays173_ren := {
 mixed := by kernel_rfl
 f129 := Tryd.func98.trans (congrArg some (by kernel_rfl))
 f173 := Tryd.func50.trans (congrArg some (by kernel_rfl))
 f246 := Tryd.func72.trans (congrArg some (by kernel_rfl))
 f283 := Tryd.func85.trans (congrArg some (by kernel_rfl))
 f284 := Tryd.func86.trans (congrArg some (by kernel_rfl))
 f285 := Tryd.func87.trans (congrArg some (by kernel_rfl))
 f286 := Tryd.func88.trans (congrArg some (by kernel_rfl))
 f317 := Tryd.func97.trans (congrArg some (by kernel_rfl))
 f318 := Tryd.func99.trans (congrArg some (by kernel_rfl))
 f319 := Tryd.func100.trans (congrArg some (by kernel_rfl))
 f320 := Tryd.func101.trans (congrArg some (by kernel_rfl))
 f337 := Tryd.func105.trans (congrArg some (by kernel_rfl))
 f338 := Tryd.func106.trans (congrArg some (by kernel_rfl))
 t0 := Tryd.underlying0
 a0 := Tryd.isAgg0
 z0 := Tryd.sizeOf0
 v0 := Tryd.zeroValue0
 t2 := Tryd.underlying2
 a2 := Tryd.isAgg2
 z2 := Tryd.sizeOf2
 v2 := Tryd.zeroValue2
 t3 := Tryd.underlying3
 a3 := Tryd.isAgg3
 z3 := Tryd.sizeOf3
 v3 := Tryd.zeroValue3
 t4 := Tryd.underlying4
 a4 := Tryd.isAgg4
 z4 := Tryd.sizeOf4
 v4 := Tryd.zeroValue4
 t5 := Tryd.underlying5
 a5 := Tryd.isAgg5
 z5 := Tryd.sizeOf5
 v5 := Tryd.zeroValue5
 t9 := Tryd.underlying9
 a9 := Tryd.isAgg9
 z9 := Tryd.sizeOf9
 v9 := Tryd.zeroValue9
 t20 := Tryd.underlying20
 a20 := Tryd.isAgg20
 z20 := Tryd.sizeOf20
 v20 := Tryd.zeroValue20
 t37 := Tryd.underlying126
 a37 := Tryd.isAgg126
 z37 := Tryd.sizeOf126
 v37 := Tryd.zeroValue126
 t46 := Tryd.underlying142
 a46 := Tryd.isAgg142
 z46 := Tryd.sizeOf142
 v46 := Tryd.zeroValue142
 t51 := Tryd.underlying139
 a51 := Tryd.isAgg139
 z51 := Tryd.sizeOf139
 v51 := Tryd.zeroValue139
 t53 := Tryd.underlying123
 a53 := Tryd.isAgg123
 z53 := Tryd.sizeOf123
 v53 := Tryd.zeroValue123
 t171 := Tryd.underlying122
 a171 := Tryd.isAgg122
 z171 := Tryd.sizeOf122
 v171 := Tryd.zeroValue122
 t173 := Tryd.underlying127
 a173 := Tryd.isAgg127
 z173 := Tryd.sizeOf127
 v173 := Tryd.zeroValue127
 t212 := Tryd.underlying138
 a212 := Tryd.isAgg138
 z212 := Tryd.sizeOf138
 v212 := Tryd.zeroValue138
 t213 := Tryd.underlying140
 a213 := Tryd.isAgg140
 z213 := Tryd.sizeOf140
 t232 := Tryd.underlying156
 a232 := Tryd.isAgg156
 z232 := Tryd.sizeOf156
 v232 := Tryd.zeroValue156
 t233 := Tryd.underlying157
 a233 := Tryd.isAgg157
 z233 := Tryd.sizeOf157
 v233 := Tryd.zeroValue157
 g17 := by kernel_rfl
 g18 := by kernel_rfl
 g19 := by kernel_rfl }
open Go.RowKit Go.Sort Go.Lib in
/-- THE ROAD WITHOUT THE TABLE: 0 <= i < 100. (LAID: no walk: one application.) -/
theorem Tryd.strconv_FormatInt_10_small (i : Nat) (hi : i < 100) (w : World) :
  Calls Tryd.prog 50 #[.int .i64 i, .int .i64 10] w fun e w' => e = .returned (.string ⟨(Lib.decDigits i).toArray⟩) ∧ w' = w := Any.strconv_FormatInt_10_small Tryd.lays173 i hi w
def Tryd.lays99_ren : Go.Shelf.Ren := ⟨fun | 99 => 49 | 206 => 71 | n => n, fun | 9 => 9 | 4 => 4 | 3 => 3 | n => n, fun | n => n⟩
theorem Tryd.lays99 : Go.Proofs.Lays.n99 Tryd.prog Tryd.lays99_ren := {
 mixed := by kernel_rfl
 f99 := Tryd.func49.trans (congrArg some (by kernel_rfl))
 f206 := Tryd.func71.trans (congrArg some (by kernel_rfl))
 t3 := Tryd.underlying3
 a3 := Tryd.isAgg3
 z3 := Tryd.sizeOf3
 v3 := Tryd.zeroValue3
 t4 := Tryd.underlying4
 a4 := Tryd.isAgg4
 z4 := Tryd.sizeOf4
 v4 := Tryd.zeroValue4
 t9 := Tryd.underlying9
 a9 := Tryd.isAgg9
 z9 := Tryd.sizeOf9
 v9 := Tryd.zeroValue9 }
open Go.RowKit Go.Lib in
/-- strings.HasPrefix: "HasPrefix reports whether the string s begins with prefix.": IT RETURNS 'Lib.hasPrefix s prefix'; the world is as it was. (LAID: no walk: one application.) -/
theorem Tryd.strings_HasPrefix (s p : ByteArray) (w : World) :
  Calls Tryd.prog 49 #[.string s, .string p] w fun e w' => e = .returned (.bool (Lib.hasPrefix s.data.toList p.data.toList)) ∧ w' = w := Any.strings_HasPrefix Tryd.lays99 s p w
def Tryd.lays110_ren : Go.Shelf.Ren := ⟨fun | 110 => 74 | 109 => 89 | n => n, fun | 31 => 41 | 9 => 9 | 4 => 4 | 3 => 3 | 0 => 0 | n => n, fun | n => n⟩
theorem Tryd.lays110 : Go.Proofs.Lays.n110 Tryd.prog Tryd.lays110_ren := {
 mixed := by kernel_rfl
 f109 := Tryd.func89.trans (congrArg some (by kernel_rfl))
 f110 := Tryd.func74.trans (congrArg some (by kernel_rfl))
 t0 := Tryd.underlying0
 a0 := Tryd.isAgg0
 z0 := Tryd.sizeOf0
 v0 := Tryd.zeroValue0
 t3 := Tryd.underlying3
 a3 := Tryd.isAgg3
 z3 := Tryd.sizeOf3
 v3 := Tryd.zeroValue3
 t4 := Tryd.underlying4
 a4 := Tryd.isAgg4
 z4 := Tryd.sizeOf4
 v4 := Tryd.zeroValue4
 t9 := Tryd.underlying9
 a9 := Tryd.isAgg9
 z9 := Tryd.sizeOf9
 v9 := Tryd.zeroValue9
 t31 := Tryd.underlying41
 a31 := Tryd.isAgg41
 z31 := Tryd.sizeOf41
 v31 := Tryd.zeroValue41 }
open Go.Lib in
/-- slices.Contains at []string: "Contains reports whether v is present in s.": IT RETURNS 'Lib.containsS (the elements) v', which is true just where v is among them ('Lib.containsS_iff'); the world is as it was. ITS CALLEE slices.Index IS MET BY ITS OWN CONTRACT OFF THE SHELF (lay that first): no loop is walked here. (LAID: no walk: one application.) -/
theorem Tryd.slices_Contains_string (b off n c : Nat) (zs : List ByteArray) (x : ByteArray) (w : World) (hz : n ≤ zs.length) (hbig : n ≤ 9223372036854775807) (hc : ∀ j, j < zs.length → w.cell? ⟨b, off + j, none⟩ = some (.string (zs.getD j ByteArray.empty))) :
  Calls Tryd.prog 74 #[.slice (some ⟨b, off, none⟩) n c, .string x] w fun e w' => e = .returned (.bool (Lib.containsS (zs.take n) x)) ∧ w' = w := Any.slices_Contains_string Tryd.lays110 b off n c zs x w hz hbig hc
open Go.Lib in
/-- The same at a slice of length 0, a nil one too. (LAID: no walk: one application.) -/
theorem Tryd.slices_Contains_string_empty (a : Option Addr) (c : Nat) (x : ByteArray) (w : World) :
  Calls Tryd.prog 74 #[.slice a 0 c, .string x] w fun e w' => e = .returned (.bool false) ∧ w' = w := Any.slices_Contains_string_empty Tryd.lays110 a c x w
end Go.Proofs

/- The tokens of a text, as the chapter tells them, in plain Lean: a text is a list of bytes. -/
namespace Go.Proofs.YtbdciibbgiphcaaDoor.Tok
set_option linter.unusedVariables false
set_option linter.unusedSimpArgs false

def letter (c : Int) : Bool := decide (97 ≤ c) && decide (c ≤ 122) || decide (65 ≤ c) && decide (c ≤ 90)
def digit (c : Int) : Bool := decide (48 ≤ c) && decide (c ≤ 57)
def inWord (c : Int) : Bool := letter c || (digit c || c == 95)
def blank (c : Int) : Bool := c == 32 || c == 9 || c == 10 || c == 13

/-- how many bytes of a word, a number, signs, of what says nothing, a text begins with. -/
def wordLen : List Int → Nat
 | [] => 0
 | c :: r => if letter c then 1 + (r.takeWhile inWord).length else 0
def numLen (l : List Int) : Nat :=
 let n := (l.takeWhile digit).length
 if 1 < n ∧ l.head? = some 48 then 0 else n
def two (l : List Int) : Bool := [[60, 61], [61, 61], [33, 61], [45, 62]].any fun x => x.isPrefixOf l
def signs : List Int := [40, 41, 58, 59, 44, 61, 43, 45, 42, 47, 37, 60]
def signLen (l : List Int) : Nat := if two l then 2 else match l with | [] => 0 | c :: _ => if signs.contains c then 1 else 0
def silentLen (l : List Int) : Nat :=
 let k := (l.takeWhile blank).length
 let rest := l.drop k
 if [45, 45].isPrefixOf rest then k + (rest.takeWhile fun c => c != 10).length else k

structure T where
 kind : Int
 text : List Int
 pos : Int

/-- what stands at the head: which kind, how many bytes (0: no token). -/
def head (l : List Int) : Int × Nat := if 0 < wordLen l then (1, wordLen l) else if 0 < numLen l then (2, numLen l) else (3, signLen l)

/-- the tokens from a place on, or the place of a wrong byte. -/
def read : Nat → List Int → Nat → Option (List T) × Nat
 | _, [], p => (some [], p)
 | 0, _ :: _, p => (none, p)
 | f + 1, c :: r, p =>
  if 0 < silentLen (c :: r) then read f ((c :: r).drop (silentLen (c :: r))) (p + silentLen (c :: r))
  else if 0 < (head (c :: r)).2 then
   match read f ((c :: r).drop (head (c :: r)).2) (p + (head (c :: r)).2) with
   | (some ts, q) => (some (⟨(head (c :: r)).1, (c :: r).take (head (c :: r)).2, p⟩ :: ts), q)
   | (none, q) => (none, q)
  else (none, p)

theorem takeWhile_le (f : Int → Bool) (l : List Int) : (l.takeWhile f).length ≤ l.length := (List.takeWhile_sublist f).length_le
theorem wordLen_le : ∀ l : List Int, wordLen l ≤ l.length
 | [] => by simp [wordLen]
 | c :: r => by
  have := takeWhile_le inWord r
  simp only [wordLen, List.length_cons]
  split <;> omega
theorem numLen_le (l : List Int) : numLen l ≤ l.length := by
 have := takeWhile_le digit l
 unfold numLen
 simp only
 split <;> omega
theorem two_len {l : List Int} (h : two l = true) : 2 ≤ l.length := by
 unfold two at h
 match l with
 | [] => simp at h
 | [a] => simp [List.isPrefixOf] at h
 | _ :: _ :: r => simp
theorem signLen_le (l : List Int) : signLen l ≤ l.length := by
 unfold signLen
 split
 ·rename_i h; exact two_len h
 ·cases l with
  | nil => simp
  | cons c r => simp only; split <;> simp
theorem silentLen_le (l : List Int) : silentLen l ≤ l.length := by
 have h1 := takeWhile_le blank l
 have h2 := takeWhile_le (fun c => c != 10) (l.drop (l.takeWhile blank).length)
 rw [List.length_drop] at h2
 unfold silentLen
 simp only
 split <;> omega
theorem head_le (l : List Int) : (head l).2 ≤ l.length := by
 unfold head
 have := wordLen_le l; have := numLen_le l; have := signLen_le l
 split
 ·assumption
 ·split <;> assumption
theorem head_kind (l : List Int) : 1 ≤ (head l).1 ∧ (head l).1 ≤ 3 := by
 unfold head
 split
 ·simp
 ·split <;> simp

/-- rounds enough: as many as bytes. -/
theorem read_fuel : ∀ (f g : Nat) (l : List Int) (p : Nat), l.length ≤ f → l.length ≤ g → read f l p = read g l p
 | f, g, [], p, _, _ => by cases f <;> cases g <;> rfl
 | 0, g, c :: r, p, h, _ => absurd h (by simp)
 | f + 1, 0, c :: r, p, _, h => absurd h (by simp)
 | f + 1, g + 1, c :: r, p, hf, hg => by
  simp only [List.length_cons] at hf hg
  unfold read
  have h1 := silentLen_le (c :: r)
  have h2 := head_le (c :: r)
  by_cases hs : 0 < silentLen (c :: r)
  ·rw [if_pos hs, if_pos hs]
   exact read_fuel f g _ _ (by rw [List.length_drop]; simp; omega) (by rw [List.length_drop]; simp; omega)
  ·rw [if_neg hs, if_neg hs]
   by_cases ht : 0 < (head (c :: r)).2
   ·rw [if_pos ht, if_pos ht, read_fuel f g ((c :: r).drop (head (c :: r)).2) _ (by rw [List.length_drop]; simp; omega) (by rw [List.length_drop]; simp; omega)]
   ·rw [if_neg ht, if_neg ht]

/-- the tokens of a text. -/
def toks (l : List Int) : Option (List T) × Nat := read l.length l 0
end Go.Proofs.YtbdciibbgiphcaaDoor.Tok

/- Plain facts about the tokens of a text. -/
namespace Go.Proofs.YtbdciibbgiphcaaDoor.Tok
set_option linter.unusedVariables false
set_option linter.unusedSimpArgs false

/-- how many bytes a text begins with that are so. -/
def tw (f : Int → Bool) (l : List Int) : Nat := (l.takeWhile f).length
theorem tw_nil (f : Int → Bool) : tw f [] = 0 := rfl
theorem tw_yes {f : Int → Bool} {c : Int} (r : List Int) (h : f c = true) : tw f (c :: r) = tw f r + 1 := by simp [tw, List.takeWhile_cons, h]
theorem tw_no {f : Int → Bool} {c : Int} (r : List Int) (h : f c = false) : tw f (c :: r) = 0 := by simp [tw, List.takeWhile_cons, h]
theorem tw_le (f : Int → Bool) (l : List Int) : tw f l ≤ l.length := takeWhile_le f l
theorem tw_min (f : Int → Bool) : ∀ (a b : List Int), tw f a = min (tw f (a ++ b)) a.length
 | [], b => by simp [tw_nil]
 | c :: a, b => by
  have ih := tw_min f a b
  cases h : f c with
  | true => rw [List.cons_append, tw_yes _ h, tw_yes _ h, ih, List.length_cons]; omega
  | false => rw [List.cons_append, tw_no _ h, tw_no _ h]; omega
theorem tw_stop (f : Int → Bool) {d : Int} (hd : f d = false) : ∀ (a b : List Int), tw f (a ++ d :: b) = tw f a
 | [], b => by simp [tw_nil, tw_no _ hd]
 | c :: a, b => by
  have ih := tw_stop f hd a b
  cases h : f c with
  | true => rw [List.cons_append, tw_yes _ h, tw_yes _ h, ih]
  | false => rw [List.cons_append, tw_no _ h, tw_no _ h]
theorem tw_all (f : Int → Bool) : ∀ (l : List Int), tw f l = l.length ↔ ∀ c ∈ l, f c = true
 | [] => by simp [tw_nil]
 | c :: l => by
  have ih := tw_all f l
  cases h : f c with
  | true => rw [tw_yes _ h, List.length_cons]; simp [h, ← ih]
  | false => rw [tw_no _ h, List.length_cons]; simp [h]

theorem wordLen_cons (c : Int) (r : List Int) : wordLen (c :: r) = if letter c then 1 + tw inWord r else 0 := rfl
theorem numLen_eq (l : List Int) : numLen l = if 1 < tw digit l ∧ l.head? = some 48 then 0 else tw digit l := rfl
theorem digit_inWord {c : Int} (h : digit c = true) : inWord c = true := by simp [inWord, h]
theorem letter_inWord {c : Int} (h : letter c = true) : inWord c = true := by simp [inWord, h]
theorem letter_not_digit {c : Int} (h : letter c = true) : digit c = false := by
 simp only [letter, digit, Bool.or_eq_true, Bool.and_eq_true, decide_eq_true_eq, Bool.and_eq_false_iff, decide_eq_false_iff_not] at h ⊢
 omega

theorem int_beq_comm (a b : Int) : (a == b) = (b == a) := by rw [Bool.eq_iff_iff, beq_iff_eq, beq_iff_eq]; exact eq_comm
end Go.Proofs.YtbdciibbgiphcaaDoor.Tok

/- What the functions of the package tokens answer, for the printed texts: plain definitions. -/
namespace Go.Proofs.YtbdciibbgiphcaaDoor.V
set_option linter.unusedVariables false
set_option linter.unusedSimpArgs false
open Go.RowKit Go.Proofs.YtbdciibbgiphcaaDoorW.PrintWords Go.Proofs.YtbdciibbgiphcaaDoorW.PrintLast Go.Proofs.YtbdciibbgiphcaaDoorW.PrintMore
def words : List ByteArray := [⟨#[115, 116, 97, 116, 105, 111, 110, 115]⟩, ⟨#[105, 110]⟩, ⟨#[97, 116]⟩, ⟨#[102, 108, 111, 119]⟩, ⟨#[100, 101, 102, 97, 117, 108, 116]⟩, ⟨#[111, 117, 116]⟩, ⟨#[105, 102]⟩, ⟨#[116, 104, 101, 110]⟩, ⟨#[101, 108, 115, 101]⟩, ⟨#[112, 114, 101]⟩, ⟨#[97, 110, 100]⟩, ⟨#[111, 114]⟩, ⟨#[110, 111, 116]⟩, ⟨#[116, 114, 117, 101]⟩, ⟨#[102, 97, 108, 115, 101]⟩, ⟨#[105, 110, 116]⟩, ⟨#[98, 111, 111, 108]⟩]
def nameOk (s : ByteArray) : Bool := decide (0 < s.size) && (decide (s.size ≤ 40) && (decide (Tok.wordLen (bytesOf s) = s.size) && !(words.any fun x => x.data.toList == s.data.toList)))
def tokens_Name.f (a0 : ByteArray) : Option (Bool) := some (nameOk a0)
end Go.Proofs.YtbdciibbgiphcaaDoor.V

/- tokens.run, ofWord, ofNumber: walks. -/
namespace Go.Proofs.YtbdciibbgiphcaaDoor
set_option linter.unusedVariables false
set_option linter.unusedSimpArgs false
set_option linter.unusedSectionVars false
open Go.RowKit
open Go.Proofs.YtbdciibbgiphcaaDoorW.PrintWords
/-- how many bytes a text begins with that are so; i: where it begins. -/
def pre (p : Nat → Int → Bool) : List Int → Nat → Nat
 | [], _ => 0
 | c :: r, i => if p i c then 1 + pre p r (i + 1) else 0
theorem drop_bytes (s : ByteArray) (i : Nat) (h : i < s.size) : (bytesOf s).drop i = ((s[i]'h).toNat : Int) :: (bytesOf s).drop (i + 1) := by
 have hl : i < (bytesOf s).length := by rw [bytesOf_length]; exact h
 rw [List.drop_eq_getElem_cons hl]
 congr 1
 simp [bytesOf]
 rfl
theorem drop_end (s : ByteArray) (i : Nat) (h : ¬ i < s.size) : (bytesOf s).drop i = [] := List.drop_eq_nil_of_le (by rw [bytesOf_length]; omega)
def RunPost (p : Nat → Int → Bool) (s : ByteArray) (w : World) (e : Ending) (w' : World) : Prop := e = .returned (.int .i64 (pre p (bytesOf s) 0 : Nat)) ∧ Below w.heap.size w w'
theorem below_iter (w : World) (s : ByteArray) (pos : Nat) : Below w.heap.size w (w.iter s pos) := below_alloc (Below.refl _ _) _
set_option maxHeartbeats 2000000 in
set_option maxRecDepth 100000 in
theorem run33 (p : Nat → Int → Bool) (hp : ∀ (i : Nat) (c : Int) (w : World), 0 ≤ c → c ≤ 2147483647 → Calls Tryd.prog 61 #[.int .i64 i, .int .i32 c] w fun e w' => e = .returned (.bool (p i c)) ∧ w' = w)
  (hasc : ∀ (i : Nat) (c : Int), 128 ≤ c → p i c = false) (s : ByteArray) (w : World) (hs : s.size ≤ 9223372036854775806) :
  Calls Tryd.prog 60 #[.string s, .func (Fn.func 61) #[] #[]] w (RunPost p s w) := by
 go_enter Tryd.func60, Tryd.ntmps60
 go_wp2_with fail
 go_loopw [5, 6] (fun a b w' => ∃ (pos : Nat), w' = w.iter s pos ∧ pos ≤ s.size ∧ Hid (pos + pre p ((bytesOf s).drop pos) pos = pre p (bytesOf s) 0)) (fun _ _ w' => s.size - w'.iterPos w.heap.size)
 case atStart => exact ⟨0, rfl, Nat.zero_le _, Lib.hid (by simp)⟩
 case round =>
  obtain ⟨pos, rfl, hle, HP⟩ := hrel
  by_cases h : pos < s.size
  ·have hnx : ∀ ty, (Instr.next (.pointer (some ⟨w.heap.size, 0, none⟩)) true ty).run Tryd.prog (w.iter s pos) = _ := fun ty => run_next_any w s pos ty h
   have HD := Lib.hid (drop_bytes s pos h)
   go_wp2_with fail
   refine (hp pos (Utf8.decode s pos).1 _ (by omega) (by have := decode_le s pos; omega)).mono ?_
   rintro _ _ ⟨rfl, rfl⟩
   by_cases ha : (s[pos]'h).toNat < 128
   ·have hd := decode_ascii s pos h ha
    rw [hd]
    cases hb : p pos ((s[pos]'h).toNat : Int) with
    | true =>
     have HB := Lib.hid hb
     clear hb
     go_wp2_with fail
     refine ⟨⟨pos + 1, rfl, by omega, Lib.hid ?_⟩, by simp; omega⟩
     rw [← HP.out, HD.out]
     simp only [pre, HB.out, if_true]
     omega
    | false =>
     have HB := Lib.hid hb
     clear hb
     go_wp2_with fail
     go_ret
     refine ⟨?_, below_iter _ _ _⟩
     rw [← HP.out, HD.out]
     simp [pre, HB.out]
   ·have hdh := (decode_high s pos h (by omega)).1
    have hb := hasc pos ((Utf8.decode s pos).1 : Int) (by omega)
    have hb2 := hasc pos ((s[pos]'h).toNat : Int) (by omega)
    rw [hb]
    have HB2 := Lib.hid hb2
    clear hb hb2
    go_wp2_with fail
    go_ret
    refine ⟨?_, below_iter _ _ _⟩
    rw [← HP.out, HD.out]
    simp [pre, HB2.out]
  ·have hnx : ∀ ty, (Instr.next (.pointer (some ⟨w.heap.size, 0, none⟩)) true ty).run Tryd.prog (w.iter s pos) = _ := fun ty => run_next_end w s pos ty h
   have HD := Lib.hid (drop_end s pos h)
   have HPS : Hid (pos = s.size) := Lib.hid (by omega)
   go_wp2_with fail
   go_ret
   refine ⟨?_, below_iter _ _ _⟩
   rw [← HP.out, HD.out]
   simp [pre, HPS.out]
set_option maxHeartbeats 2000000 in
set_option maxRecDepth 100000 in
theorem run28 (p : Nat → Int → Bool) (hp : ∀ (i : Nat) (c : Int) (w : World), 0 ≤ c → c ≤ 2147483647 → Calls Tryd.prog 64 #[.int .i64 i, .int .i32 c] w fun e w' => e = .returned (.bool (p i c)) ∧ w' = w)
  (hasc : ∀ (i : Nat) (c : Int), 128 ≤ c → p i c = false) (s : ByteArray) (w : World) (hs : s.size ≤ 9223372036854775806) :
  Calls Tryd.prog 60 #[.string s, .func (Fn.func 64) #[] #[]] w (RunPost p s w) := by
 go_enter Tryd.func60, Tryd.ntmps60
 go_wp2_with fail
 go_loopw [5, 6] (fun a b w' => ∃ (pos : Nat), w' = w.iter s pos ∧ pos ≤ s.size ∧ Hid (pos + pre p ((bytesOf s).drop pos) pos = pre p (bytesOf s) 0)) (fun _ _ w' => s.size - w'.iterPos w.heap.size)
 case atStart => exact ⟨0, rfl, Nat.zero_le _, Lib.hid (by simp)⟩
 case round =>
  obtain ⟨pos, rfl, hle, HP⟩ := hrel
  by_cases h : pos < s.size
  ·have hnx : ∀ ty, (Instr.next (.pointer (some ⟨w.heap.size, 0, none⟩)) true ty).run Tryd.prog (w.iter s pos) = _ := fun ty => run_next_any w s pos ty h
   have HD := Lib.hid (drop_bytes s pos h)
   go_wp2_with fail
   refine (hp pos (Utf8.decode s pos).1 _ (by omega) (by have := decode_le s pos; omega)).mono ?_
   rintro _ _ ⟨rfl, rfl⟩
   by_cases ha : (s[pos]'h).toNat < 128
   ·have hd := decode_ascii s pos h ha
    rw [hd]
    cases hb : p pos ((s[pos]'h).toNat : Int) with
    | true =>
     have HB := Lib.hid hb
     clear hb
     go_wp2_with fail
     refine ⟨⟨pos + 1, rfl, by omega, Lib.hid ?_⟩, by simp; omega⟩
     rw [← HP.out, HD.out]
     simp only [pre, HB.out, if_true]
     omega
    | false =>
     have HB := Lib.hid hb
     clear hb
     go_wp2_with fail
     go_ret
     refine ⟨?_, below_iter _ _ _⟩
     rw [← HP.out, HD.out]
     simp [pre, HB.out]
   ·have hdh := (decode_high s pos h (by omega)).1
    have hb := hasc pos ((Utf8.decode s pos).1 : Int) (by omega)
    have hb2 := hasc pos ((s[pos]'h).toNat : Int) (by omega)
    rw [hb]
    have HB2 := Lib.hid hb2
    clear hb hb2
    go_wp2_with fail
    go_ret
    refine ⟨?_, below_iter _ _ _⟩
    rw [← HP.out, HD.out]
    simp [pre, HB2.out]
  ·have hnx : ∀ ty, (Instr.next (.pointer (some ⟨w.heap.size, 0, none⟩)) true ty).run Tryd.prog (w.iter s pos) = _ := fun ty => run_next_end w s pos ty h
   have HD := Lib.hid (drop_end s pos h)
   have HPS : Hid (pos = s.size) := Lib.hid (by omega)
   go_wp2_with fail
   go_ret
   refine ⟨?_, below_iter _ _ _⟩
   rw [← HP.out, HD.out]
   simp [pre, HPS.out]

theorem letter_walk (c : Int) (w : World) : Calls Tryd.prog 62 #[.int .i32 c] w fun e w' => e = .returned (.bool (Tok.letter c)) ∧ w' = w := by
 go_enter Tryd.func62, Tryd.ntmps62
 go_wp2_with fail
 all_goals
  go_ret
  refine ⟨congrArg (fun b => Ending.returned (Value.bool b)) (?_ : _ = Tok.letter c), rfl⟩
  rw [Bool.eq_iff_iff]
  simp [Tok.letter]
  try omega
theorem digit_walk (c : Int) (w : World) : Calls Tryd.prog 63 #[.int .i32 c] w fun e w' => e = .returned (.bool (Tok.digit c)) ∧ w' = w := by
 go_enter Tryd.func63, Tryd.ntmps63
 go_wp2_with fail
 all_goals
  go_ret
  refine ⟨congrArg (fun b => Ending.returned (Value.bool b)) (?_ : _ = Tok.digit c), rfl⟩
  rw [Bool.eq_iff_iff]
  simp [Tok.digit]
  try omega
def numP (i : Nat) (c : Int) : Bool := Tok.digit c
def wordP (i : Nat) (c : Int) : Bool := Tok.letter c || (decide (0 < i) && (Tok.digit c || c == 95))
theorem pred28 (i : Nat) (c : Int) (w : World) : Calls Tryd.prog 64 #[.int .i64 i, .int .i32 c] w fun e w' => e = .returned (.bool (numP i c)) ∧ w' = w := by
 go_enter Tryd.func64, Tryd.ntmps64
 go_wp2_with fail
 refine (digit_walk c w).mono ?_
 rintro _ _ ⟨rfl, rfl⟩
 go_wp2_with fail
 go_ret
 exact ⟨rfl, rfl⟩
theorem pred33 (i : Nat) (c : Int) (w : World) : Calls Tryd.prog 61 #[.int .i64 i, .int .i32 c] w fun e w' => e = .returned (.bool (wordP i c)) ∧ w' = w := by
 go_enter Tryd.func61, Tryd.ntmps61
 go_wp2_with fail
 refine (letter_walk c w).mono ?_
 rintro _ _ ⟨rfl, rfl⟩
 cases hl : Tok.letter c with
 | true =>
  have HL := Lib.hid hl
  clear hl
  go_wp2_with fail
  go_ret
  exact ⟨by simp [wordP, HL.out], rfl⟩
 | false =>
  have HL := Lib.hid hl
  clear hl
  by_cases h0 : 0 < i
  ·go_wp2_with fail
   refine (digit_walk c _).mono ?_
   rintro _ _ ⟨rfl, rfl⟩
   cases hd : Tok.digit c with
   | true =>
    have HD := Lib.hid hd
    clear hd
    go_wp2_with fail
    go_ret
    exact ⟨by simp [wordP, HL.out, HD.out, h0], rfl⟩
   | false =>
    have HD := Lib.hid hd
    clear hd
    go_wp2_with fail
    go_ret
    exact ⟨by simp [wordP, HL.out, HD.out, h0], rfl⟩
  ·go_wp2_with fail
   go_ret
   exact ⟨by simp [wordP, HL.out, h0], rfl⟩
theorem ofWord_walk (s : ByteArray) (w : World) (hs : s.size ≤ 9223372036854775806) : Calls Tryd.prog 37 #[.string s] w (RunPost wordP s w) := by
 go_enter Tryd.func37, Tryd.ntmps37
 go_wp2_with fail
 refine (run33 wordP (fun i c w _ _ => pred33 i c w) (fun i c h => by simp [wordP, Tok.letter, Tok.digit]; omega) s w hs).mono ?_
 rintro _ w1 ⟨rfl, b1⟩
 go_wp2_with fail
 go_ret
 exact ⟨rfl, b1⟩

theorem pre_num : ∀ (l : List Int) (i : Nat), pre numP l i = (l.takeWhile Tok.digit).length
 | [], _ => rfl
 | c :: r, i => by
  unfold pre
  rw [List.takeWhile_cons, pre_num r]
  show (if Tok.digit c = true then _ else _) = _
  split <;> simp <;> omega
theorem pre_word1 : ∀ (l : List Int) (i : Nat), 0 < i → pre wordP l i = (l.takeWhile Tok.inWord).length
 | [], _, _ => rfl
 | c :: r, i, h => by
  have e : wordP i c = Tok.inWord c := by simp [wordP, Tok.inWord, h]
  unfold pre
  rw [List.takeWhile_cons, pre_word1 r (i + 1) (by omega), e]
  split <;> simp <;> omega
theorem pre_word (l : List Int) : pre wordP l 0 = Tok.wordLen l := by
 cases l with
 | nil => rfl
 | cons c r =>
  have e : wordP 0 c = Tok.letter c := by simp [wordP]
  unfold pre
  rw [e, pre_word1 r 1 (by omega)]
  rfl
theorem head_bytes (s : ByteArray) (h : 0 < s.size) : (bytesOf s).head? = some ((s[0]'h).toNat : Int) := by
 have := drop_bytes s 0 h
 rw [List.drop_zero] at this
 rw [this]; rfl
theorem ofNumber_walk (s : ByteArray) (w : World) (hs : s.size ≤ 9223372036854775806) : Calls Tryd.prog 38 #[.string s] w fun e w' => e = .returned (.int .i64 (Tok.numLen (bytesOf s) : Nat)) ∧ Below w.heap.size w w' := by
 go_enter Tryd.func38, Tryd.ntmps38
 go_wp2_with fail
 refine (run28 numP (fun i c w _ _ => pred28 i c w) (fun i c h => by simp [numP, Tok.digit]; omega) s w hs).mono ?_
 rintro _ w1 ⟨rfl, b1⟩
 rw [pre_num]
 obtain ⟨n, hn⟩ : ∃ n, n = ((bytesOf s).takeWhile Tok.digit).length := ⟨_, rfl⟩
 have hle : n ≤ s.size := by rw [hn, ← bytesOf_length]; exact Tok.takeWhile_le _ _
 have HN := Lib.hid hn
 rw [← hn]
 clear hn
 by_cases h1 : 1 < n
 ·have h0 : 0 < s.size := by omega
  by_cases h2 : (s[0]'h0).toNat = 48
  ·have H2 := Lib.hid h2
   go_wp2_with fail
   go_ret
   refine ⟨?_, b1⟩
   have e : (1 < ((bytesOf s).takeWhile Tok.digit).length ∧ (bytesOf s).head? = some 48) := ⟨by rw [← HN.out]; exact h1, by rw [head_bytes s h0, H2.out]; rfl⟩
   unfold Tok.numLen
   simp only
   rw [if_pos e]
   rfl
  ·have H2 := Lib.hid h2
   go_wp2_with fail
   go_ret
   refine ⟨?_, b1⟩
   have e : ¬ (1 < ((bytesOf s).takeWhile Tok.digit).length ∧ (bytesOf s).head? = some 48) := by
    rintro ⟨_, h⟩
    rw [head_bytes s h0] at h
    injection h with h
    exact H2.out (by omega)
   unfold Tok.numLen
   simp only
   rw [if_neg e, ← HN.out]
   rfl
 ·go_wp2_with fail
  go_ret
  refine ⟨?_, b1⟩
  unfold Tok.numLen
  simp only [← HN.out]
  rw [if_neg (fun h => h1 h.1)]
  rfl
end Go.Proofs.YtbdciibbgiphcaaDoor

/- tokens.words and tokens.Name: printed by wip/myprint.py, but for what stands ahead of them (ofWord, slices.Contains) and behind. -/
namespace Go.Proofs.YtbdciibbgiphcaaDoor.M
open Go.RowKit Go.Proofs.YtbdciibbgiphcaaDoorW.PrintWords Go.Proofs.YtbdciibbgiphcaaDoorW.PrintLast Go.Proofs.YtbdciibbgiphcaaDoorW.PrintMore
open Go.Proofs.YtbdciibbgiphcaaDoor.V (info3 info9 errW errW_none errW_some)
attribute [local go_sem] max2_int min2_int max_two min_two max_three min_three max_four min_four   -- for this text's walks alone
set_option linter.unusedVariables false
set_option linter.unusedSimpArgs false
def tokens_ofWord.f (a0 : ByteArray) : Option (Int) := if a0.size ≤ 9223372036854775806 then some (Tok.wordLen (bytesOf a0) : Nat) else none
theorem tokens_ofWord.calls (a0 : ByteArray) (r : Int) (w : World) (h : tokens_ofWord.f a0 = some r) :
  Calls Tryd.prog 37 #[.string a0] w fun e w' => e = .returned (.int .i64 r) ∧ Below w.heap.size w w' := by
 unfold tokens_ofWord.f at h
 split at h
 ·rename_i hs
  injection h with h
  refine (ofWord_walk a0 w hs).mono ?_
  rintro e w' ⟨rfl, hb⟩
  exact ⟨by rw [← h, pre_word], hb⟩
 ·cases h
def slices_Contains_string_string.f (l0 : List ByteArray) (a1 : ByteArray) : Option (Bool) := if l0.length ≤ 100 then some (Lib.containsS l0 a1) else none
theorem slices_Contains_string_string.calls (A0 : Option Addr) (c0 : Nat) (l0 : List ByteArray) (a1 : ByteArray) (r : Bool) (w : World) (hr0 : Kd.C Kd.string w A0 l0.length l0) (hc0 : l0.length ≤ c0) (h : slices_Contains_string_string.f l0 a1 = some r) :
  Calls Tryd.prog 74 #[.slice A0 l0.length c0, .string a1] w fun e w' => e = .returned (.bool r) ∧ Drawn0 w w' := by
 unfold slices_Contains_string_string.f at h
 split at h
 ·rename_i hl
  injection h with h
  subst h
  cases l0 with
  | nil =>
   refine (Tryd.slices_Contains_string_empty A0 c0 a1 w).mono ?_
   rintro e w' ⟨rfl, rfl⟩
   exact ⟨rfl, Drawn0.refl _⟩
  | cons x l =>
   obtain ⟨ad, c, e, _, hK, hc⟩ := Kd.C_get hr0 ByteArray.empty 0 (by omega) (by simp only [List.length_cons]; omega)
   subst e
   have hce : ∀ j, j < (x :: l).length → w.cell? (ad.add j) = some (.string ((x :: l).getD j ByteArray.empty)) := by
    intro j hj
    obtain ⟨ad', c', e', _, hK', hc'⟩ := Kd.C_get hr0 ByteArray.empty (j : Int) (by omega) (by omega)
    cases e'
    have hK2 : c' = [.string ((x :: l).getD j ByteArray.empty)] := hK'
    have := hc' 0 _ (by rw [hK2]; rfl)
    rw [show (j : Int).toNat * Kd.string.sz + 0 = j from Nat.mul_one j] at this
    rw [this]
   have h0 := hce 0 (by simp)
   obtain ⟨b, off, spot⟩ := ad
   have hsp : spot = none := by simpa [Addr.add] using World.cell?_spot h0
   subst hsp
   refine (Tryd.slices_Contains_string b off (x :: l).length c0 (x :: l) a1 w (Nat.le_refl _) (by omega) (fun j hj => ?_)).mono ?_
   ·have := hce j hj
    by_cases hj0 : j = 0
    ·subst hj0; simpa [Addr.add] using this
    ·simpa [Addr.add, hj0] using this
   ·rintro e w' ⟨rfl, rfl⟩
    exact ⟨by rw [List.take_length], Drawn0.refl _⟩
 ·cases h

/-! ### tokens_words: function 23 -/
def tokens_words.f  : Option (List ByteArray) := some (([(⟨#[115, 116, 97, 116, 105, 111, 110, 115]⟩ : ByteArray), (⟨#[105, 110]⟩ : ByteArray), (⟨#[97, 116]⟩ : ByteArray), (⟨#[102, 108, 111, 119]⟩ : ByteArray), (⟨#[100, 101, 102, 97, 117, 108, 116]⟩ : ByteArray), (⟨#[111, 117, 116]⟩ : ByteArray), (⟨#[105, 102]⟩ : ByteArray), (⟨#[116, 104, 101, 110]⟩ : ByteArray), (⟨#[101, 108, 115, 101]⟩ : ByteArray), (⟨#[112, 114, 101]⟩ : ByteArray), (⟨#[97, 110, 100]⟩ : ByteArray), (⟨#[111, 114]⟩ : ByteArray), (⟨#[110, 111, 116]⟩ : ByteArray), (⟨#[116, 114, 117, 101]⟩ : ByteArray), (⟨#[102, 97, 108, 115, 101]⟩ : ByteArray), (⟨#[105, 110, 116]⟩ : ByteArray), (⟨#[98, 111, 111, 108]⟩ : ByteArray)] : List ByteArray))
set_option maxHeartbeats 8000000 in
set_option maxRecDepth 100000 in
theorem tokens_words.calls  (r : List ByteArray) (w : World) (h : tokens_words.f  = some r) :
  Calls Tryd.prog 75 #[] w fun e w' => ∃ v0_ : Value, e = .returned (v0_) ∧ Kd.R Kd.string 9 w' w.heap.size (fun _ => True) v0_ r ∧ Below w.heap.size w w' := by
 have HB := Aside0.mk (Below.refl w.heap.size w)
 have H : (some (([(⟨#[115, 116, 97, 116, 105, 111, 110, 115]⟩ : ByteArray), (⟨#[105, 110]⟩ : ByteArray), (⟨#[97, 116]⟩ : ByteArray), (⟨#[102, 108, 111, 119]⟩ : ByteArray), (⟨#[100, 101, 102, 97, 117, 108, 116]⟩ : ByteArray), (⟨#[111, 117, 116]⟩ : ByteArray), (⟨#[105, 102]⟩ : ByteArray), (⟨#[116, 104, 101, 110]⟩ : ByteArray), (⟨#[101, 108, 115, 101]⟩ : ByteArray), (⟨#[112, 114, 101]⟩ : ByteArray), (⟨#[97, 110, 100]⟩ : ByteArray), (⟨#[111, 114]⟩ : ByteArray), (⟨#[110, 111, 116]⟩ : ByteArray), (⟨#[116, 114, 117, 101]⟩ : ByteArray), (⟨#[102, 97, 108, 115, 101]⟩ : ByteArray), (⟨#[105, 110, 116]⟩ : ByteArray), (⟨#[98, 111, 111, 108]⟩ : ByteArray)] : List ByteArray))) = some r := h
 clear h
 obtain ⟨y101, hy101⟩ : ∃ y_ : List ByteArray, y_ = (([(⟨#[115, 116, 97, 116, 105, 111, 110, 115]⟩ : ByteArray), (⟨#[105, 110]⟩ : ByteArray), (⟨#[97, 116]⟩ : ByteArray), (⟨#[102, 108, 111, 119]⟩ : ByteArray), (⟨#[100, 101, 102, 97, 117, 108, 116]⟩ : ByteArray), (⟨#[111, 117, 116]⟩ : ByteArray), (⟨#[105, 102]⟩ : ByteArray), (⟨#[116, 104, 101, 110]⟩ : ByteArray), (⟨#[101, 108, 115, 101]⟩ : ByteArray), (⟨#[112, 114, 101]⟩ : ByteArray), (⟨#[97, 110, 100]⟩ : ByteArray), (⟨#[111, 114]⟩ : ByteArray), (⟨#[110, 111, 116]⟩ : ByteArray), (⟨#[116, 114, 117, 101]⟩ : ByteArray), (⟨#[102, 97, 108, 115, 101]⟩ : ByteArray), (⟨#[105, 110, 116]⟩ : ByteArray), (⟨#[98, 111, 111, 108]⟩ : ByteArray)] : List ByteArray)) := ⟨_, rfl⟩
 replace H : (some y101) = some r := by first | (rw [hy101]; with_reducible exact H) | (have H2_ := (Option.bind_some _ _).symm.trans H; rw [hy101]; with_reducible exact H2_) | (have H2_ := (Option.bind_some _ _).symm.trans H; with_reducible exact H2_) | with_reducible exact H | (rw [hy101]; exact H) | exact H
 have Ny101 := Aside0.mk hy101
 clear hy101
 obtain rfl := Option.some.inj H
 go_enter Tryd.func75, Tryd.ntmps75
 go_wp2_with (first | ((with_reducible refine gate_dst (N := 1) rfl ?_); refine Kd.R_lit Kd.string _ 9 ?hg (N := 1) ?hd (xs := ([(⟨#[115, 116, 97, 116, 105, 111, 110, 115]⟩ : ByteArray), (⟨#[105, 110]⟩ : ByteArray), (⟨#[97, 116]⟩ : ByteArray), (⟨#[102, 108, 111, 119]⟩ : ByteArray), (⟨#[100, 101, 102, 97, 117, 108, 116]⟩ : ByteArray), (⟨#[111, 117, 116]⟩ : ByteArray), (⟨#[105, 102]⟩ : ByteArray), (⟨#[116, 104, 101, 110]⟩ : ByteArray), (⟨#[101, 108, 115, 101]⟩ : ByteArray), (⟨#[112, 114, 101]⟩ : ByteArray), (⟨#[97, 110, 100]⟩ : ByteArray), (⟨#[111, 114]⟩ : ByteArray), (⟨#[110, 111, 116]⟩ : ByteArray), (⟨#[116, 114, 117, 101]⟩ : ByteArray), (⟨#[102, 97, 108, 115, 101]⟩ : ByteArray), (⟨#[105, 110, 116]⟩ : ByteArray), (⟨#[98, 111, 111, 108]⟩ : ByteArray)] : List ByteArray)) (inner := [.string (⟨#[115, 116, 97, 116, 105, 111, 110, 115]⟩ : ByteArray), .string (⟨#[105, 110]⟩ : ByteArray), .string (⟨#[97, 116]⟩ : ByteArray), .string (⟨#[102, 108, 111, 119]⟩ : ByteArray), .string (⟨#[100, 101, 102, 97, 117, 108, 116]⟩ : ByteArray), .string (⟨#[111, 117, 116]⟩ : ByteArray), .string (⟨#[105, 102]⟩ : ByteArray), .string (⟨#[116, 104, 101, 110]⟩ : ByteArray), .string (⟨#[101, 108, 115, 101]⟩ : ByteArray), .string (⟨#[112, 114, 101]⟩ : ByteArray), .string (⟨#[97, 110, 100]⟩ : ByteArray), .string (⟨#[111, 114]⟩ : ByteArray), .string (⟨#[110, 111, 116]⟩ : ByteArray), .string (⟨#[116, 114, 117, 101]⟩ : ByteArray), .string (⟨#[102, 97, 108, 115, 101]⟩ : ByteArray), .string (⟨#[105, 110, 116]⟩ : ByteArray), .string (⟨#[98, 111, 111, 108]⟩ : ByteArray)]) (ok := fun _ => True) (okp := fun _ => True) ?hr ?hp (fun _ hk => hk) trivial (Below.refl _ _) (Nat.le_refl _) (by simp) ?_; (case hd => rfl); (case hg => rfl); (case hr => first | (go_simp; done) | (go_simp; rfl)); (case hp => exact (Reps.one (show Kd.M Kd.string _ _ _ (⟨#[115, 116, 97, 116, 105, 111, 110, 115]⟩ : ByteArray) [.string (⟨#[115, 116, 97, 116, 105, 111, 110, 115]⟩ : ByteArray)] from rfl) (Reps.one (show Kd.M Kd.string _ _ _ (⟨#[105, 110]⟩ : ByteArray) [.string (⟨#[105, 110]⟩ : ByteArray)] from rfl) (Reps.one (show Kd.M Kd.string _ _ _ (⟨#[97, 116]⟩ : ByteArray) [.string (⟨#[97, 116]⟩ : ByteArray)] from rfl) (Reps.one (show Kd.M Kd.string _ _ _ (⟨#[102, 108, 111, 119]⟩ : ByteArray) [.string (⟨#[102, 108, 111, 119]⟩ : ByteArray)] from rfl) (Reps.one (show Kd.M Kd.string _ _ _ (⟨#[100, 101, 102, 97, 117, 108, 116]⟩ : ByteArray) [.string (⟨#[100, 101, 102, 97, 117, 108, 116]⟩ : ByteArray)] from rfl) (Reps.one (show Kd.M Kd.string _ _ _ (⟨#[111, 117, 116]⟩ : ByteArray) [.string (⟨#[111, 117, 116]⟩ : ByteArray)] from rfl) (Reps.one (show Kd.M Kd.string _ _ _ (⟨#[105, 102]⟩ : ByteArray) [.string (⟨#[105, 102]⟩ : ByteArray)] from rfl) (Reps.one (show Kd.M Kd.string _ _ _ (⟨#[116, 104, 101, 110]⟩ : ByteArray) [.string (⟨#[116, 104, 101, 110]⟩ : ByteArray)] from rfl) (Reps.one (show Kd.M Kd.string _ _ _ (⟨#[101, 108, 115, 101]⟩ : ByteArray) [.string (⟨#[101, 108, 115, 101]⟩ : ByteArray)] from rfl) (Reps.one (show Kd.M Kd.string _ _ _ (⟨#[112, 114, 101]⟩ : ByteArray) [.string (⟨#[112, 114, 101]⟩ : ByteArray)] from rfl) (Reps.one (show Kd.M Kd.string _ _ _ (⟨#[97, 110, 100]⟩ : ByteArray) [.string (⟨#[97, 110, 100]⟩ : ByteArray)] from rfl) (Reps.one (show Kd.M Kd.string _ _ _ (⟨#[111, 114]⟩ : ByteArray) [.string (⟨#[111, 114]⟩ : ByteArray)] from rfl) (Reps.one (show Kd.M Kd.string _ _ _ (⟨#[110, 111, 116]⟩ : ByteArray) [.string (⟨#[110, 111, 116]⟩ : ByteArray)] from rfl) (Reps.one (show Kd.M Kd.string _ _ _ (⟨#[116, 114, 117, 101]⟩ : ByteArray) [.string (⟨#[116, 114, 117, 101]⟩ : ByteArray)] from rfl) (Reps.one (show Kd.M Kd.string _ _ _ (⟨#[102, 97, 108, 115, 101]⟩ : ByteArray) [.string (⟨#[102, 97, 108, 115, 101]⟩ : ByteArray)] from rfl) (Reps.one (show Kd.M Kd.string _ _ _ (⟨#[105, 110, 116]⟩ : ByteArray) [.string (⟨#[105, 110, 116]⟩ : ByteArray)] from rfl) (Reps.one (show Kd.M Kd.string _ _ _ (⟨#[98, 111, 111, 108]⟩ : ByteArray) [.string (⟨#[98, 111, 111, 108]⟩ : ByteArray)] from rfl) (Reps.none _ _))))))))))))))))))); intro v102 w1 ho2 hb hg_ hnew_; clear hg_ hnew_; (first | rw [← Ny101.out] at ho2 | (simp only [Int.reduceToNat] at ho2; rw [← Ny101.out] at ho2)); have n0_ := Aside0.mk (Kd.R_lower ho2 (below_size (by repeat (first | (with_reducible first | exact HB.out | apply below_alloc | apply pw_below_drewN | apply below_drew1) | exact HB.out)))); have n1_ := Aside0.mk (below_step (by repeat (first | (with_reducible first | exact HB.out | apply below_alloc | apply pw_below_drewN | apply below_drew1) | exact HB.out)) hb); clear HB; have HO103 := n0_; have HB := n1_; clear n0_ n1_; clear hb ho2))
 go_ret
 exact ⟨_, by first | rfl | (simp [errW_none, errW_some] <;> rfl) | (simp [*, errW_none, errW_some] <;> rfl), by (with_reducible repeat (first | apply Kd.R_alloc | apply Kd.R_drewN | apply Kd.R_drew)); exact HO103.out, by repeat (first | (with_reducible first | exact HB.out | apply below_alloc | apply pw_below_drewN | apply below_drew1) | exact HB.out)⟩

/-! ### tokens_Name: function 13 -/
def tokens_Name.f (a0 : ByteArray) : Option (Bool) := if a0.toList = ([] : List UInt8) then (some false) else (if (a0.size : Int) ≤ 40 then ((tokens_ofWord.f a0).bind fun t104 => (if t104 = (a0.size : Int) then ((tokens_words.f).bind fun t105 => ((slices_Contains_string_string.f t105 a0).bind fun t108 => (some (!t108)))) else (some false))) else (some false))
set_option maxHeartbeats 8000000 in
set_option maxRecDepth 100000 in
theorem tokens_Name.calls (a0 : ByteArray) (r : Bool) (w : World) (h : tokens_Name.f a0 = some r) :
  Calls Tryd.prog 57 #[.string a0] w fun e w' => e = .returned (.bool r) ∧ Below w.heap.size w w' := by
 have HB := Aside0.mk (Below.refl w.heap.size w)
 have H : (if a0.toList = ([] : List UInt8) then (some false) else (if (a0.size : Int) ≤ 40 then ((tokens_ofWord.f a0).bind fun t104 => (if t104 = (a0.size : Int) then ((tokens_words.f).bind fun t105 => ((slices_Contains_string_string.f t105 a0).bind fun t108 => (some (!t108)))) else (some false))) else (some false))) = some r := h
 clear h
 by_cases c2 : a0.toList = ([] : List UInt8)
 ·rw [if_pos c2] at H
  have c2b0 : (a0.toList == ([] : List UInt8)) = true := beq_iff_eq.mpr c2
  have c2b1 : (a0.toList != ([] : List UInt8)) = false := bne_eq_false_iff_eq.mpr c2
  clear c2
  obtain rfl := Option.some.inj H
  go_enter Tryd.func57, Tryd.ntmps57
  go_wp2
  go_ret
  exact ⟨by first | rfl | (simp [errW_none, errW_some] <;> rfl) | (simp [*, errW_none, errW_some] <;> rfl), by repeat (first | (with_reducible first | exact HB.out | apply below_alloc | apply pw_below_drewN | apply below_drew1) | exact HB.out)⟩
 ·rw [if_neg c2] at H
  have c2b0 : (a0.toList == ([] : List UInt8)) = false := beq_eq_false_iff_ne.mpr c2
  have c2b1 : (a0.toList != ([] : List UInt8)) = true := bne_iff_ne.mpr c2
  by_cases c3 : (a0.size : Int) ≤ 40
  ·rw [if_pos c3] at H
   have c3b0 : decide ((a0.size : Int) ≤ 40) = true := decide_eq_true c3
   have c3b1 : decide (a0.size ≤ 40) = true := decide_eq_true (by omega)
   clear c3
   replace H := Option.bind_eq_some_iff.mp H
   obtain ⟨t104, A40, H⟩ := H
   replace H : (if t104 = (a0.size : Int) then ((tokens_words.f).bind fun t105 => ((slices_Contains_string_string.f t105 a0).bind fun t108 => (some (!t108)))) else (some false)) = some r := H
   have A4 := Aside0.mk A40
   clear A40
   by_cases c5 : t104 = (a0.size : Int)
   ·rw [if_pos c5] at H
    have c5b0 : (t104 == (a0.size : Int)) = true := beq_iff_eq.mpr c5
    have c5b1 : (t104 != (a0.size : Int)) = false := bne_eq_false_iff_eq.mpr c5
    clear c5
    replace H := Option.bind_eq_some_iff.mp H
    obtain ⟨t105, A60, H⟩ := H
    replace H : ((slices_Contains_string_string.f t105 a0).bind fun t108 => (some (!t108))) = some r := H
    have A6 := Aside0.mk A60
    clear A60
    replace H := Option.bind_eq_some_iff.mp H
    obtain ⟨t108, A70, H⟩ := H
    replace H : (some (!t108)) = some r := H
    have A7 := Aside0.mk A70
    clear A70
    obtain rfl := Option.some.inj H
    go_enter Tryd.func57, Tryd.ntmps57
    go_wp2_with (first | (go_at_call 37; (with_reducible refine (tokens_ofWord.calls a0 t104 _ A4.out).mono ?_); rintro e w8 ⟨rfl, hb⟩; have n0_ := Aside0.mk (below_step (by repeat (first | (with_reducible first | exact HB.out | apply below_alloc | apply pw_below_drewN | apply below_drew1) | exact HB.out)) hb); clear HB; have HB := n0_; clear n0_; (try clear hb); (try clear hb2); (try clear hk); (try clear hi)) | (go_at_call 75; (with_reducible refine (tokens_words.calls  t105 _ A6.out).mono ?_); rintro e w9 ⟨v106, rfl, ho0, hb⟩; have n0_ := Aside0.mk (Kd.R_lower ho0 (below_size (by repeat (first | (with_reducible first | exact HB.out | apply below_alloc | apply pw_below_drewN | apply below_drew1) | exact HB.out)))); have n1_ := Aside0.mk (below_step (by repeat (first | (with_reducible first | exact HB.out | apply below_alloc | apply pw_below_drewN | apply below_drew1) | exact HB.out)) hb); clear HB; have HO107 := n0_; have HB := n1_; clear n0_ n1_; (try clear hb); (try clear hb2); (try clear hk); (try clear hi); (try clear ho0); obtain ⟨Ao10, co10, eo10⟩ := Kd.R_slice HO107.out; subst eo10) | (go_at_call 74; (with_reducible refine (slices_Contains_string_string.calls _ _ t105 a0 t108 _ ?side1 ?side2 A7.out).mono ?_); (case side1 => repeat (first | exact (Kd.R_reads' HO107.out).2.2 | (with_reducible refine Kd.C_alloc ?_ _) | (with_reducible refine Kd.C_drewN ?_ _) | (with_reducible refine Kd.C_drew ?_))); (case side2 => exact (Kd.R_reads' HO107.out).2.1); rintro e w' ⟨rfl, ⟨nd, rfl⟩⟩))
    go_ret
    exact ⟨by first | rfl | (simp [errW_none, errW_some] <;> rfl) | (simp [*, errW_none, errW_some] <;> rfl), by repeat (first | (with_reducible first | exact HB.out | apply below_alloc | apply pw_below_drewN | apply below_drew1) | exact HB.out)⟩
   ·rw [if_neg c5] at H
    have c5b0 : (t104 == (a0.size : Int)) = false := beq_eq_false_iff_ne.mpr c5
    have c5b1 : (t104 != (a0.size : Int)) = true := bne_iff_ne.mpr c5
    obtain rfl := Option.some.inj H
    go_enter Tryd.func57, Tryd.ntmps57
    go_wp2_with (first | (go_at_call 37; (with_reducible refine (tokens_ofWord.calls a0 t104 _ A4.out).mono ?_); rintro e w11 ⟨rfl, hb⟩; have n0_ := Aside0.mk (below_step (by repeat (first | (with_reducible first | exact HB.out | apply below_alloc | apply pw_below_drewN | apply below_drew1) | exact HB.out)) hb); clear HB; have HB := n0_; clear n0_; (try clear hb); (try clear hb2); (try clear hk); (try clear hi)))
    go_ret
    exact ⟨by first | rfl | (simp [errW_none, errW_some] <;> rfl) | (simp [*, errW_none, errW_some] <;> rfl), by repeat (first | (with_reducible first | exact HB.out | apply below_alloc | apply pw_below_drewN | apply below_drew1) | exact HB.out)⟩
  ·rw [if_neg c3] at H
   have c3b0 : decide ((a0.size : Int) ≤ 40) = false := decide_eq_false c3
   have c3b1 : decide (a0.size ≤ 40) = false := decide_eq_false (by omega)
   clear c3
   obtain rfl := Option.some.inj H
   go_enter Tryd.func57, Tryd.ntmps57
   go_wp2
   go_ret
   exact ⟨by first | rfl | (simp [errW_none, errW_some] <;> rfl) | (simp [*, errW_none, errW_some] <;> rfl), by repeat (first | (with_reducible first | exact HB.out | apply below_alloc | apply pw_below_drewN | apply below_drew1) | exact HB.out)⟩


theorem name_eq (s : ByteArray) : tokens_Name.f s = some (V.nameOk s) := by
 unfold tokens_Name.f V.nameOk
 by_cases h0 : s.size = 0
 ·have : s.toList = [] := by rw [ByteArray.toList_eq]; exact List.eq_nil_of_length_eq_zero (by rw [data_length]; exact h0)
  rw [if_pos this]
  simp [h0]
 ·have hne : ¬ s.toList = [] := fun q => h0 (by rw [ByteArray.toList_eq] at q; rw [← data_length, q]; rfl)
  rw [if_neg hne, decide_eq_true (show 0 < s.size by omega), Bool.true_and]
  by_cases h40 : s.size ≤ 40
  ·rw [if_pos (by omega), decide_eq_true h40, Bool.true_and]
   unfold tokens_ofWord.f
   rw [if_pos (by omega), Option.bind_some]
   by_cases hw : Tok.wordLen (bytesOf s) = s.size
   ·rw [if_pos (by rw [hw]), decide_eq_true hw, Bool.true_and]
    unfold tokens_words.f
    rw [Option.bind_some]
    unfold slices_Contains_string_string.f
    rw [if_pos (by simp), Option.bind_some]
    congr 2
    rw [Bool.eq_iff_iff, Lib.containsS_iff, List.any_eq_true]
    show s ∈ V.words ↔ _
    constructor
    ·intro h; exact ⟨s, h, by simp⟩
    ·rintro ⟨x, hx, he⟩
     have : x = s := by
      rw [beq_iff_eq] at he
      cases x; cases s
      congr 1
      exact Array.toList_inj.1 he
     rw [← this]; exact hx
   ·rw [if_neg (by omega), decide_eq_false hw]; rfl
  ·rw [if_neg (by omega), decide_eq_false h40]; rfl
end Go.Proofs.YtbdciibbgiphcaaDoor.M
namespace Go.Proofs.YtbdciibbgiphcaaDoor.V
open Go.RowKit
theorem tokens_Name.calls (a0 : ByteArray) (r : Bool) (w : World) (h : tokens_Name.f a0 = some r) :
  Calls Tryd.prog 57 #[.string a0] w fun e w' => e = .returned (.bool r) ∧ Below w.heap.size w w' :=
 M.tokens_Name.calls a0 r w (by rw [M.name_eq]; exact h)
end Go.Proofs.YtbdciibbgiphcaaDoor.V
