/- Structs, shelf contracts, tokens, names and numbers. Joined by wip/merge.py (ours) from several texts of this seat. -/
import Derived.Test.YtbdciibbgiphcaaDoorProg
import Derived.Below
import Derived.Deep.Draws
import Derived.Deep.AppendLies
import Derived.Maps.AppendAt
import Derived.OwnWalk
import Derived.Laws.BytesArg
import Derived.Laws.MakeOwn
import Derived.Laws.OwnMore
import Derived.Deep.OwnRows
import Derived.Tactics
import Derived.Lib.ConvBytes
import Derived.Laws.Slices
import Derived.WalkKit
import Derived.KernelRfl
import Derived.RowKit3
import Derived.Deep.LoopGhost
import Derived.Deep.QuietTactic
import Derived.BigQuiet
import Derived.WideLaws
import Derived.Deep.DeepCutAuto
import Derived.Deep.CutBlock
import Derived.Deep.RegionHeld3
import Derived.Laws.Rows
import Derived.Lib.AppendStr
import Derived.ArgAppend
import Derived.Laws.IdiomCopy
import Derived.OrdersHeld
import Derived.Laws.BitsLemmas
import Derived.RowKit
import Derived.Test.YtbdciibbgiphcaaDoorWWords
import Derived.Test.YtbdciibbgiphcaaDoorWLast
import Derived.Test.YtbdciibbgiphcaaDoorWTab
import Derived.Test.YtbdciibbgiphcaaDoorWFour
import Derived.Test.YtbdciibbgiphcaaDoorWQPut
import Derived.Test.YtbdciibbgiphcaaDoorWApart
import Derived.Test.YtbdciibbgiphcaaDoorWArr
import Derived.Test.YtbdciibbgiphcaaDoorWZeros
import Derived.Test.YtbdciibbgiphcaaDoorWFoot
import Derived.Test.YtbdciibbgiphcaaDoorWKept
import Derived.Test.YtbdciibbgiphcaaDoorWShare
import Derived.Test.YtbdciibbgiphcaaDoorWN
import Derived.Test.YtbdciibbgiphcaaDoorWFootNe
import Derived.Test.YtbdciibbgiphcaaDoorWAt
import Derived.Test.YtbdciibbgiphcaaDoorWEqStruct
import Derived.Test.YtbdciibbgiphcaaDoorWRepsOne
import Derived.Test.YtbdciibbgiphcaaDoorWInv
import Derived.Test.YtbdciibbgiphcaaDoorWGuard
import Derived.Test.YtbdciibbgiphcaaDoorWNEv
import Derived.Test.YtbdciibbgiphcaaDoorWMore
import Derived.Shelf.Strings.Trim
import Derived.Shelf.Small.Utf8
import Derived.Shelf.Small.Strs
import Derived.Shelf.Small.Wraps
import Derived.Shelf.Strconv.Itoa0
import Derived.Shelf.Strconv.Itoa1
import Derived.Shelf.LaysM
import Derived.Shelf.Strconv.Itoa2
import Derived.Shelf.Strconv.Itoa3
import Derived.Shelf.Strconv.Itoa4
import Derived.Shelf.Strconv.ParseIntEmpty
import Derived.Shelf.Strconv.Clone
import Derived.Shelf.Strconv.SyntaxError
import Derived.Shelf.LaysC
import Derived.Shelf.Strconv.ToError
import Derived.Shelf.Strconv.Lower
import Derived.Shelf.Strconv.ParseUint10
import Derived.Shelf.Strconv.ParseUint10Empty
import Derived.Shelf.Strconv.ParseUint10Any
import Derived.Shelf.Strconv.ParseInt10
import Derived.Shelf.Strconv.RangeError
import Derived.Shelf.Strconv.ToErrorRange
import Derived.Shelf.Strconv.ParseUintEmpty
import Derived.Shelf.Strconv.ParseUint10b64
import Derived.Shelf.Strconv.ParseUint10b32
import Derived.Shelf.Strconv.ParseUint10b16
import Derived.Shelf.Strconv.ParseUint10b8
import Derived.Shelf.Strconv.ParseUint10At
import Derived.Shelf.Strconv.ParseInt10At64
import Derived.Shelf.Strconv.ParseInt10At32
import Derived.Shelf.Strconv.ParseInt10At16
import Derived.Shelf.Strconv.ParseInt10At8
import Derived.Shelf.Strconv.ParseInt10All
import Derived.Shelf.Strconv.ParseIntPublic10
import Derived.Shelf.Strconv.ErrVarParseInt
import Derived.Shelf.Strings.Search1
import Derived.Shelf.Strings.Prefix
import Derived.Shelf.Unicode.Decode
import Derived.Shelf.Strings.Runes
import Derived.Shelf.Strings.AsciiSet
import Derived.Shelf.Unicode.DecodeSlow
import Derived.Shelf.Unicode.DecodeAny
import Derived.Shelf.Slices.Turned
import Derived.Tactics2
import Derived.Laws.RangeString
import Derived.Laws.RangeAny
import Derived.LoopTactic
import Derived.Lib.Hide
import Derived.Shelf.Strings.SlTrimAscii
import Derived.WalkSmall
import Derived.WalkMore
import Derived.Laws.EntriesVeiled
-- Written for this claim by wip/myprint.py (a program of this session over the kit's printer).
namespace Go.Proofs.YtbdciibbgiphcaaDoor.V
open Go.RowKit Go.Proofs.YtbdciibbgiphcaaDoorW.PrintWords Go.Proofs.YtbdciibbgiphcaaDoorW.PrintLast Go.Proofs.YtbdciibbgiphcaaDoorW.PrintMore
attribute [local go_sem] max2_int min2_int max_two min_two max_three min_three max_four min_four   -- for this text's walks alone
set_option linter.unusedVariables false
set_option linter.unusedSimpArgs false



def errW : Option Int → Value
 | none => .nilIface
 | some c => .iface 0 (.int .i64 c)
theorem errW_none : errW none = .nilIface := rfl
theorem errW_some (c : Int) : errW (some c) = .iface 0 (.int .i64 c) := rfl

theorem info3 : (Tryd.prog.info? 3).map (fun i => (i.zero, i.size, i.bytes)) = some (some (.int .i64 0), 1, 8) := by kernel_rfl
theorem info9 : (Tryd.prog.info? 9).map (fun i => (i.zero, i.size, i.bytes)) = some (some (.string ⟨#[]⟩), 1, 16) := by kernel_rfl
theorem info45 : (Tryd.prog.info? 45).map (fun i => (i.zero, i.size, i.bytes)) = some (some (.agg #[(.int .u8 0), (.string ⟨#[]⟩), (.int .i64 0)]), 3, 32) := by kernel_rfl
/-! #### struct type 25, nested in itself -/
structure S25 where
 f0 : Int
 f1 : Int
 f2 : ByteArray
 f3 : (List S25)
def z25 : S25 := ⟨(0 : Int), (0 : Int), (⟨#[]⟩ : ByteArray), ([] : List S25)⟩
def F25 (d : Kd S25) : Kd S25 := Kd.iso (Kd.pair (Kd.int .u8) (Kd.pair (Kd.int .i64) (Kd.pair Kd.string (Kd.slice 25 d)))) (fun x : S25 => (x.f0, x.f1, x.f2, x.f3))
theorem mono25 : Kd.Mono F25 := Kd.mono_iso _ (Kd.mono_pair (Kd.mono_const _) (Kd.mono_pair (Kd.mono_const _) (Kd.mono_pair (Kd.mono_const _) (Kd.mono_slice 25 Kd.mono_id))))
theorem sub25 : Kd.Sub F25 [25] := Kd.sub_iso _ (Kd.sub_pair (Kd.sub_const _ (by decide)) (Kd.sub_pair (Kd.sub_const _ (by decide)) (Kd.sub_pair (Kd.sub_const _ (by decide)) (Kd.sub_slice 25 (by decide) Kd.sub_id))))
theorem sz25 : ∀ n, (Kd.upto F25 4 [25] n).sz = 4 := Kd.upto_sz (fun _ => rfl)
def k25 : Kd S25 := Kd.fix F25 4 [25] sz25 (Kd.upto_E sub25)
theorem k25_open {w : World} {x : S25} {cs : List Value} (h : k25.K w x cs) : ∃ A3 c3, cs = [.int .u8 x.f0, .int .i64 x.f1, .string x.f2, .slice A3 x.f3.length c3] ∧ x.f3.length ≤ c3 ∧ k25.C w A3 x.f3.length x.f3 := by
 obtain ⟨n, h⟩ := h
 cases n with
 | zero => exact h.elim
 | succ n =>
  obtain ⟨_, _, rfl, rfl, ⟨_, _, rfl, rfl, ⟨_, _, rfl, rfl, ⟨A3, c3, rfl, l3, g3⟩⟩⟩⟩ := h
  exact ⟨A3, c3, rfl, l3, Kd.fix_C g3⟩
theorem k25_mk (w : World) (x : S25) {A3 : Option Addr} {c3 : Nat} (l3 : x.f3.length ≤ c3) (g3 : k25.C w A3 x.f3.length x.f3) : k25.K w x [.int .u8 x.f0, .int .i64 x.f1, .string x.f2, .slice A3 x.f3.length c3] := by
 obtain ⟨n3, q3⟩ := Kd.fix_C_back mono25 g3
 have r3 := Kd.upto_C_le mono25 sz25 (show n3 ≤ n3 by omega) q3
 exact ⟨n3 + 1, ⟨[.int .u8 x.f0], [.int .i64 x.f1, .string x.f2, .slice A3 x.f3.length c3], rfl, rfl, ⟨[.int .i64 x.f1], [.string x.f2, .slice A3 x.f3.length c3], rfl, rfl, ⟨[.string x.f2], [.slice A3 x.f3.length c3], rfl, rfl, ⟨A3, c3, rfl, l3, r3⟩⟩⟩⟩⟩
def rd_T25 (xs : List S25) (i : Int) : S25 := xs.getD i.toNat z25
theorem at_T25 {w : World} {A : Option Addr} {n : Nat} {xs : List S25} (h : Kd.C k25 w A n xs) (i : Int) (h0 : 0 ≤ i) (h1 : i < n) : ∃ ad A3 c3, A = some ad ∧ w.cell? (ad.add (i.toNat * 4)) = some (.int .u8 (rd_T25 xs i).f0) ∧ w.cell? ⟨(ad.add (i.toNat * 4)).block, (ad.add (i.toNat * 4)).off + 1, none⟩ = some (.int .i64 (rd_T25 xs i).f1) ∧ w.cell? ⟨(ad.add (i.toNat * 4)).block, (ad.add (i.toNat * 4)).off + 2, none⟩ = some (.string (rd_T25 xs i).f2) ∧ w.cell? ⟨(ad.add (i.toNat * 4)).block, (ad.add (i.toNat * 4)).off + 3, none⟩ = some (.slice A3 (rd_T25 xs i).f3.length c3) ∧ (rd_T25 xs i).f3.length ≤ c3 ∧ k25.C w A3 (rd_T25 xs i).f3.length (rd_T25 xs i).f3 := by
 obtain ⟨ad, c, e, _, hK, hc0⟩ := Kd.C_get h z25 i h0 h1
 have hc : ∀ j u, c[j]? = some u → w.cell? (ad.add (i.toNat * 4 + j)) = some u := hc0
 obtain ⟨A3, c3, rfl, l3, g3⟩ := k25_open hK
 exact ⟨ad, A3, c3, e, hc 0 _ rfl, by rw [← add_field _ _ 1 (by omega)]; exact hc 1 _ rfl, by rw [← add_field _ _ 2 (by omega)]; exact hc 2 _ rfl, by rw [← add_field _ _ 3 (by omega)]; exact hc 3 _ rfl, l3, g3⟩

/-! #### struct type 83 -/
structure S83 where
 f0 : Int
 f1 : Int
 f2 : Int
 f3 : ByteArray
def z83 : S83 := ⟨(0 : Int), (0 : Int), (0 : Int), (⟨#[]⟩ : ByteArray)⟩
def k83 : Kd S83 := Kd.iso (Kd.pair (Kd.int .u8) (Kd.pair (Kd.int .i64) (Kd.pair (Kd.int .u8) Kd.string))) (fun x : S83 => (x.f0, x.f1, x.f2, x.f3))
theorem k83_open {w : World} {x : S83} {cs : List Value} (h : k83.K w x cs) : cs = [.int .u8 x.f0, .int .i64 x.f1, .int .u8 x.f2, .string x.f3] := by
 obtain ⟨_, _, rfl, rfl, ⟨_, _, rfl, rfl, ⟨_, _, rfl, rfl, rfl⟩⟩⟩ := h
 exact rfl
theorem k83_mkM (w : World) (base : Nat) (ok : Nat → Prop) (x : S83)  : k83.M w base ok x [.int .u8 x.f0, .int .i64 x.f1, .int .u8 x.f2, .string x.f3] := ⟨[.int .u8 x.f0], [.int .i64 x.f1, .int .u8 x.f2, .string x.f3], rfl, rfl, ⟨[.int .i64 x.f1], [.int .u8 x.f2, .string x.f3], rfl, rfl, ⟨[.int .u8 x.f2], [.string x.f3], rfl, rfl, rfl⟩⟩⟩
def rd_T83 (xs : List S83) (i : Int) : S83 := xs.getD i.toNat z83
theorem at_T83 {w : World} {A : Option Addr} {n : Nat} {xs : List S83} (h : Kd.C k83 w A n xs) (i : Int) (h0 : 0 ≤ i) (h1 : i < n) : ∃ ad , A = some ad ∧ w.cell? (ad.add (i.toNat * 4)) = some (.int .u8 (rd_T83 xs i).f0) ∧ w.cell? ⟨(ad.add (i.toNat * 4)).block, (ad.add (i.toNat * 4)).off + 1, none⟩ = some (.int .i64 (rd_T83 xs i).f1) ∧ w.cell? ⟨(ad.add (i.toNat * 4)).block, (ad.add (i.toNat * 4)).off + 2, none⟩ = some (.int .u8 (rd_T83 xs i).f2) ∧ w.cell? ⟨(ad.add (i.toNat * 4)).block, (ad.add (i.toNat * 4)).off + 3, none⟩ = some (.string (rd_T83 xs i).f3) := by
 obtain ⟨ad, c, e, _, hK, hc0⟩ := Kd.C_get h z83 i h0 h1
 have hc : ∀ j u, c[j]? = some u → w.cell? (ad.add (i.toNat * 4 + j)) = some u := hc0
 obtain rfl := k83_open hK
 exact ⟨ad, e, hc 0 _ rfl, by rw [← add_field _ _ 1 (by omega)]; exact hc 1 _ rfl, by rw [← add_field _ _ 2 (by omega)]; exact hc 2 _ rfl, by rw [← add_field _ _ 3 (by omega)]; exact hc 3 _ rfl⟩

/-! #### struct type 45 -/
structure S45 where
 f0 : Int
 f1 : ByteArray
 f2 : Int
def z45 : S45 := ⟨(0 : Int), (⟨#[]⟩ : ByteArray), (0 : Int)⟩
def k45 : Kd S45 := Kd.iso (Kd.pair (Kd.int .u8) (Kd.pair Kd.string (Kd.int .i64))) (fun x : S45 => (x.f0, x.f1, x.f2))
theorem k45_open {w : World} {x : S45} {cs : List Value} (h : k45.K w x cs) : cs = [.int .u8 x.f0, .string x.f1, .int .i64 x.f2] := by
 obtain ⟨_, _, rfl, rfl, ⟨_, _, rfl, rfl, rfl⟩⟩ := h
 exact rfl
theorem k45_mk (w : World) (x : S45)  : k45.K w x [.int .u8 x.f0, .string x.f1, .int .i64 x.f2] := ⟨[.int .u8 x.f0], [.string x.f1, .int .i64 x.f2], rfl, rfl, ⟨[.string x.f1], [.int .i64 x.f2], rfl, rfl, rfl⟩⟩
theorem k45_mkM (w : World) (base : Nat) (ok : Nat → Prop) (x : S45)  : k45.M w base ok x [.int .u8 x.f0, .string x.f1, .int .i64 x.f2] := ⟨[.int .u8 x.f0], [.string x.f1, .int .i64 x.f2], rfl, rfl, ⟨[.string x.f1], [.int .i64 x.f2], rfl, rfl, rfl⟩⟩
def rd_T45 (xs : List S45) (i : Int) : S45 := xs.getD i.toNat z45
theorem at_T45 {w : World} {A : Option Addr} {n : Nat} {xs : List S45} (h : Kd.C k45 w A n xs) (i : Int) (h0 : 0 ≤ i) (h1 : i < n) : ∃ ad , A = some ad ∧ w.cell? (ad.add (i.toNat * 3)) = some (.int .u8 (rd_T45 xs i).f0) ∧ w.cell? ⟨(ad.add (i.toNat * 3)).block, (ad.add (i.toNat * 3)).off + 1, none⟩ = some (.string (rd_T45 xs i).f1) ∧ w.cell? ⟨(ad.add (i.toNat * 3)).block, (ad.add (i.toNat * 3)).off + 2, none⟩ = some (.int .i64 (rd_T45 xs i).f2) := by
 obtain ⟨ad, c, e, _, hK, hc0⟩ := Kd.C_get h z45 i h0 h1
 have hc : ∀ j u, c[j]? = some u → w.cell? (ad.add (i.toNat * 3 + j)) = some u := hc0
 obtain rfl := k45_open hK
 exact ⟨ad, e, hc 0 _ rfl, by rw [← add_field _ _ 1 (by omega)]; exact hc 1 _ rfl, by rw [← add_field _ _ 2 (by omega)]; exact hc 2 _ rfl⟩

/-! #### struct type 51 -/
structure S51 where
 f0 : ByteArray
 f1 : Int
def z51 : S51 := ⟨(⟨#[]⟩ : ByteArray), (0 : Int)⟩
def k51 : Kd S51 := Kd.iso (Kd.pair Kd.string (Kd.int .i64)) (fun x : S51 => (x.f0, x.f1))
theorem k51_open {w : World} {x : S51} {cs : List Value} (h : k51.K w x cs) : cs = [.string x.f0, .int .i64 x.f1] := by
 obtain ⟨_, _, rfl, rfl, rfl⟩ := h
 exact rfl
theorem k51_mk (w : World) (x : S51)  : k51.K w x [.string x.f0, .int .i64 x.f1] := ⟨[.string x.f0], [.int .i64 x.f1], rfl, rfl, rfl⟩
def rd_T51 (xs : List S51) (i : Int) : S51 := xs.getD i.toNat z51
theorem at_T51 {w : World} {A : Option Addr} {n : Nat} {xs : List S51} (h : Kd.C k51 w A n xs) (i : Int) (h0 : 0 ≤ i) (h1 : i < n) : ∃ ad , A = some ad ∧ w.cell? (ad.add (i.toNat * 2)) = some (.string (rd_T51 xs i).f0) ∧ w.cell? ⟨(ad.add (i.toNat * 2)).block, (ad.add (i.toNat * 2)).off + 1, none⟩ = some (.int .i64 (rd_T51 xs i).f1) := by
 obtain ⟨ad, c, e, _, hK, hc0⟩ := Kd.C_get h z51 i h0 h1
 have hc : ∀ j u, c[j]? = some u → w.cell? (ad.add (i.toNat * 2 + j)) = some u := hc0
 obtain rfl := k51_open hK
 exact ⟨ad, e, hc 0 _ rfl, by rw [← add_field _ _ 1 (by omega)]; exact hc 1 _ rfl⟩

end Go.Proofs.YtbdciibbgiphcaaDoor.V

/-
 DERIVED: THE SHELF's CONTRACTS AT THIS DUMP, IN PLAIN WORDS (tools/lay-plain.mjs out of 'TrydShelf.lean', which tools/lay-shelf.mjs wrote): THE SAME DECLARATIONS UNDER THE SAME NAMES: 'import', 'namespace', 'open', 'def', 'theorem' AND NOTHING ELSE: no command of the shelf's: FOR A HAND-IN. Each laying: the table of numbers ('.._ren') and one theorem, a field a fact of the dump's own or the kernel's comparison; each contract: ONE APPLICATION.
-/
namespace Go.Proofs
open Go.Shelf
def Tryd.lays161_ren : Go.Shelf.Ren := ⟨fun | 161 => 66 | 231 => 78 | 227 => 79 | 233 => 80 | 235 => 81 | 228 => 93 | 197 => 94 | 151 => 95 | 260 => 102 | 152 => 103 | 137 => 65 | 119 => 107 | 224 => 108 | 225 => 109 | 217 => 77 | 266 => 92 | n => n, fun | 9 => 9 | 4 => 4 | 3 => 3 | 5 => 5 | 117 => 112 | 116 => 111 | 0 => 0 | 124 => 115 | 105 => 131 | 21 => 21 | 119 => 150 | 46 => 142 | 139 => 153 | 138 => 152 | n => n, fun | 3 => 2 | 4 => 3 | n => n⟩
theorem Tryd.lays161 : Go.Proofs.Lays.n161 Tryd.prog Tryd.lays161_ren := {
 mixed := by kernel_rfl
 f119 := Tryd.func107.trans (congrArg some (by kernel_rfl))
 f137 := Tryd.func65.trans (congrArg some (by kernel_rfl))
 f151 := Tryd.func95.trans (congrArg some (by kernel_rfl))
 f152 := Tryd.func103.trans (congrArg some (by kernel_rfl))
 f161 := Tryd.func66.trans (congrArg some (by kernel_rfl))
 f197 := Tryd.func94.trans (congrArg some (by kernel_rfl))
 f217 := Tryd.func77.trans (congrArg some (by kernel_rfl))
 f224 := Tryd.func108.trans (congrArg some (by kernel_rfl))
 f225 := Tryd.func109.trans (congrArg some (by kernel_rfl))
 f227 := Tryd.func79.trans (congrArg some (by kernel_rfl))
 f228 := Tryd.func93.trans (congrArg some (by kernel_rfl))
 f231 := Tryd.func78.trans (congrArg some (by kernel_rfl))
 f233 := Tryd.func80.trans (congrArg some (by kernel_rfl))
 f235 := Tryd.func81.trans (congrArg some (by kernel_rfl))
 f260 := Tryd.func102.trans (congrArg some (by kernel_rfl))
 f266 := Tryd.func92.trans (congrArg some (by kernel_rfl))
 t0 := Tryd.underlying0
 a0 := Tryd.isAgg0
 z0 := Tryd.sizeOf0
 v0 := Tryd.zeroValue0
 t3 := Tryd.underlying3
 a3 := Tryd.isAgg3
 z3 := Tryd.sizeOf3
 v3 := Tryd.zeroValue3
 t4 := Tryd.underlying4
 a4 := Tryd.isAgg4
 z4 := Tryd.sizeOf4
 v4 := Tryd.zeroValue4
 t5 := Tryd.underlying5
 a5 := Tryd.isAgg5
 z5 := Tryd.sizeOf5
 v5 := Tryd.zeroValue5
 t9 := Tryd.underlying9
 a9 := Tryd.isAgg9
 z9 := Tryd.sizeOf9
 v9 := Tryd.zeroValue9
 t21 := Tryd.underlying21
 a21 := Tryd.isAgg21
 z21 := Tryd.sizeOf21
 v21 := Tryd.zeroValue21
 t46 := Tryd.underlying142
 a46 := Tryd.isAgg142
 z46 := Tryd.sizeOf142
 v46 := Tryd.zeroValue142
 t105 := Tryd.underlying131
 a105 := Tryd.isAgg131
 z105 := Tryd.sizeOf131
 v105 := Tryd.zeroValue131
 t116 := Tryd.underlying111
 a116 := Tryd.isAgg111
 z116 := Tryd.sizeOf111
 t117 := Tryd.underlying112
 a117 := Tryd.isAgg112
 z117 := Tryd.sizeOf112
 v117 := Tryd.zeroValue112
 t119 := Tryd.underlying150
 a119 := Tryd.isAgg150
 z119 := Tryd.sizeOf150
 t124 := Tryd.underlying115
 a124 := Tryd.isAgg115
 z124 := Tryd.sizeOf115
 v124 := Tryd.zeroValue115
 t138 := Tryd.underlying152
 a138 := Tryd.isAgg152
 z138 := Tryd.sizeOf152
 v138 := Tryd.zeroValue152
 t139 := Tryd.underlying153
 a139 := Tryd.isAgg153
 z139 := Tryd.sizeOf153
 v139 := Tryd.zeroValue153
 g3 := by kernel_rfl
 g4 := by kernel_rfl }
def Tryd.lays137_ren : Go.Shelf.Ren := ⟨fun | 137 => 65 | 217 => 77 | 266 => 92 | n => n, fun | 9 => 9 | 5 => 5 | 3 => 3 | n => n, fun | n => n⟩
theorem Tryd.lays137 : Go.Proofs.Lays.n137 Tryd.prog Tryd.lays137_ren := {
 mixed := by kernel_rfl
 f137 := Tryd.func65.trans (congrArg some (by kernel_rfl))
 f217 := Tryd.func77.trans (congrArg some (by kernel_rfl))
 f266 := Tryd.func92.trans (congrArg some (by kernel_rfl))
 t3 := Tryd.underlying3
 a3 := Tryd.isAgg3
 z3 := Tryd.sizeOf3
 v3 := Tryd.zeroValue3
 t5 := Tryd.underlying5
 a5 := Tryd.isAgg5
 z5 := Tryd.sizeOf5
 v5 := Tryd.zeroValue5
 t9 := Tryd.underlying9
 a9 := Tryd.isAgg9
 z9 := Tryd.sizeOf9
 v9 := Tryd.zeroValue9 }
open Go.RowKit in
/-- strings.IndexByte: "IndexByte returns the index of the first instance of c in s, or -1 if c is not present in s.": IT RETURNS 'Lib.indexByte s c'; the world is as it was. (LAID: no walk: one application.) -/
theorem Tryd.strings_IndexByte (s : ByteArray) (c : Int) (w : World) :
  Calls Tryd.prog 65 #[.string s, .int .u8 c] w fun e w' => e = .returned (.int .i64 (Lib.indexByte s.data.toList c.toNat.toUInt8)) ∧ w' = w := Any.strings_IndexByte Tryd.lays137 s c w
def Tryd.lays121_ren : Go.Shelf.Ren := ⟨fun | 121 => 51 | 214 => 73 | n => n, fun | 4 => 4 | 9 => 9 | n => n, fun | n => n⟩
theorem Tryd.lays121 : Go.Proofs.Lays.n121 Tryd.prog Tryd.lays121_ren := {
 mixed := by kernel_rfl
 f121 := Tryd.func51.trans (congrArg some (by kernel_rfl))
 f214 := Tryd.func73.trans (congrArg some (by kernel_rfl))
 t4 := Tryd.underlying4
 a4 := Tryd.isAgg4
 z4 := Tryd.sizeOf4
 v4 := Tryd.zeroValue4
 t9 := Tryd.underlying9
 a9 := Tryd.isAgg9
 z9 := Tryd.sizeOf9
 v9 := Tryd.zeroValue9 }
open Go.RowKit in
/-- strconv.FormatBool: "FormatBool returns "true" or "false" according to the value of b.": IT RETURNS 'Lib.formatBool b'; the world is as it was. (LAID: no walk: one application.) -/
theorem Tryd.strconv_FormatBool (b : Bool) (w : World) :
  Calls Tryd.prog 51 #[.bool b] w fun e w' => e = .returned (.string ⟨(Lib.formatBool b).toArray⟩) ∧ w' = w := Any.strconv_FormatBool Tryd.lays121 b w
def Tryd.laysM173_ren : Go.Shelf.Ren := ⟨fun | 173 => 50 | 246 => 72 | 283 => 85 | 284 => 86 | 285 => 87 | 286 => 88 | 129 => 98 | 317 => 97 | 318 => 99 | 319 => 100 | 320 => 101 | 337 => 105 | 338 => 106 | n => n, fun | 2 => 2 | 3 => 3 | 9 => 9 | 4 => 4 | 171 => 122 | 0 => 0 | 53 => 123 | 37 => 126 | 5 => 5 | 173 => 127 | 212 => 138 | 51 => 139 | 20 => 20 | 213 => 140 | 46 => 142 | 232 => 156 | 233 => 157 | n => n, fun | 17 => 0 | 18 => 4 | 19 => 5 | n => n⟩
theorem Tryd.laysM173 : Go.Proofs.LaysM.n173 Tryd.prog Tryd.laysM173_ren := {
 mixed := by kernel_rfl
 f129 := Tryd.func98.trans (congrArg some (by kernel_rfl))
 f173 := Tryd.func50.trans (congrArg some (by kernel_rfl))
 f246 := Tryd.func72.trans (congrArg some (by kernel_rfl))
 f283 := Tryd.func85.trans (congrArg some (by kernel_rfl))
 f284 := Tryd.func86.trans (congrArg some (by kernel_rfl))
 f285 := Tryd.func87.trans (congrArg some (by kernel_rfl))
 f286 := Tryd.func88.trans (congrArg some (by kernel_rfl))
 f317 := Tryd.func97.trans (congrArg some (by kernel_rfl))
 f318 := Tryd.func99.trans (congrArg some (by kernel_rfl))
 f319 := Tryd.func100.trans (congrArg some (by kernel_rfl))
 f320 := Tryd.func101.trans (congrArg some (by kernel_rfl))
 f337 := Tryd.func105.trans (congrArg some (by kernel_rfl))
 f338 := Tryd.func106.trans (congrArg some (by kernel_rfl))
 t0 := Tryd.underlying0
 a0 := Tryd.isAgg0
 z0 := Tryd.sizeOf0
 v0 := Tryd.zeroValue0
 t2 := Tryd.underlying2
 a2 := Tryd.isAgg2
 z2 := Tryd.sizeOf2
 v2 := Tryd.zeroValue2
 t3 := Tryd.underlying3
 a3 := Tryd.isAgg3
 z3 := Tryd.sizeOf3
 v3 := Tryd.zeroValue3
 t4 := Tryd.underlying4
 a4 := Tryd.isAgg4
 z4 := Tryd.sizeOf4
 v4 := Tryd.zeroValue4
 t5 := Tryd.underlying5
 a5 := Tryd.isAgg5
 z5 := Tryd.sizeOf5
 v5 := Tryd.zeroValue5
 t9 := Tryd.underlying9
 a9 := Tryd.isAgg9
 z9 := Tryd.sizeOf9
 v9 := Tryd.zeroValue9
 t20 := Tryd.underlying20
 a20 := Tryd.isAgg20
 z20 := Tryd.sizeOf20
 v20 := Tryd.zeroValue20
 t37 := Tryd.underlying126
 a37 := Tryd.isAgg126
 z37 := Tryd.sizeOf126
 v37 := Tryd.zeroValue126
 t46 := Tryd.underlying142
 a46 := Tryd.isAgg142
 z46 := Tryd.sizeOf142
 v46 := Tryd.zeroValue142
 t51 := Tryd.underlying139
 a51 := Tryd.isAgg139
 z51 := Tryd.sizeOf139
 v51 := Tryd.zeroValue139
 t53 := Tryd.underlying123
 a53 := Tryd.isAgg123
 z53 := Tryd.sizeOf123
 v53 := Tryd.zeroValue123
 t171 := Tryd.underlying122
 a171 := Tryd.isAgg122
 z171 := Tryd.sizeOf122
 v171 := Tryd.zeroValue122
 t173 := Tryd.underlying127
 a173 := Tryd.isAgg127
 z173 := Tryd.sizeOf127
 v173 := Tryd.zeroValue127
 t212 := Tryd.underlying138
 a212 := Tryd.isAgg138
 z212 := Tryd.sizeOf138
 v212 := Tryd.zeroValue138
 t213 := Tryd.underlying140
 a213 := Tryd.isAgg140
 z213 := Tryd.sizeOf140
 t232 := Tryd.underlying156
 a232 := Tryd.isAgg156
 z232 := Tryd.sizeOf156
 v232 := Tryd.zeroValue156
 t233 := Tryd.underlying157
 a233 := Tryd.isAgg157
 z233 := Tryd.sizeOf157
 v233 := Tryd.zeroValue157
 g17 := by kernel_rfl
 g18 := by kernel_rfl
 g19 := by kernel_rfl
 i0 := by kernel_rfl
 i2 := by kernel_rfl
 i3 := by kernel_rfl
 i4 := by kernel_rfl
 i5 := by kernel_rfl
 i9 := by kernel_rfl
 i20 := by kernel_rfl
 i37 := by kernel_rfl
 i46 := by kernel_rfl
 i51 := by kernel_rfl
 i53 := by kernel_rfl
 i171 := by kernel_rfl
 i173 := by kernel_rfl
 i212 := by kernel_rfl
 i232 := by kernel_rfl
 i233 := by kernel_rfl
 m17 := by kernel_rfl
 m18 := by kernel_rfl
 m19 := by kernel_rfl }
open Go.RowKit Go.Sort Go.Lib in
/-- strconv.FormatInt: "FormatInt returns the string representation of i in the given base": AT BASE 10: i's decimal numeral, for every int64. (LAID: no walk: one application.) -/
theorem Tryd.strconv_FormatInt_10 (n : Int) (h0 : -9223372036854775808 ≤ n) (h1 : n ≤ 9223372036854775807) (w : World) (htab : Lib.TabIs Tryd.prog w "internal/strconv.uint64pow10" .u64 Lib.pow10Tab) :
  Calls Tryd.prog 50 #[.int .i64 n, .int .i64 10] w fun e w' => e = .returned (.string ⟨(Lib.itoa n).toArray⟩) ∧ ∃ k os, w' = grow (w.drewN k) os := Any.strconv_FormatInt_10 Tryd.laysM173 n h0 h1 w htab
open Go.RowKit Go.Sort Go.Lib in
def Tryd.laysC174_ren : Go.Shelf.Ren := ⟨fun | 174 => 104 | 247 => 110 | 245 => 111 | 287 => 112 | 279 => 113 | 280 => 114 | 281 => 115 | 282 => 116 | 321 => 117 | 322 => 118 | 316 => 119 | 171 => 121 | 205 => 120 | 243 => 122 | 246 => 72 | 283 => 85 | 284 => 86 | 285 => 87 | 286 => 88 | 129 => 98 | 317 => 97 | 318 => 99 | 319 => 100 | 320 => 101 | 337 => 105 | 338 => 106 | n => n, fun | 9 => 9 | 3 => 3 | 2 => 2 | 75 => 146 | 85 => 147 | 4 => 4 | 167 => 158 | 5 => 5 | 53 => 123 | 175 => 159 | 46 => 142 | 168 => 161 | 37 => 126 | 0 => 0 | 210 => 167 | 21 => 21 | 127 => 169 | 145 => 172 | 143 => 170 | 171 => 122 | 173 => 127 | 212 => 138 | 51 => 139 | 20 => 20 | 213 => 140 | 232 => 156 | 233 => 157 | 80 => 173 | n => n, fun | 15 => 6 | 16 => 7 | 17 => 0 | 18 => 4 | 19 => 5 | n => n⟩
theorem Tryd.laysC174 : Go.Proofs.LaysC.n174 Tryd.prog Tryd.laysC174_ren := {
 mixed := by kernel_rfl
 f129 := Tryd.func98.trans (congrArg some (by kernel_rfl))
 f171 := Tryd.func121.trans (congrArg some (by kernel_rfl))
 f174 := Tryd.func104.trans (congrArg some (by kernel_rfl))
 f205 := Tryd.func120.trans (congrArg some (by kernel_rfl))
 f243 := Tryd.func122.trans (congrArg some (by kernel_rfl))
 f245 := Tryd.func111.trans (congrArg some (by kernel_rfl))
 f246 := Tryd.func72.trans (congrArg some (by kernel_rfl))
 f247 := Tryd.func110.trans (congrArg some (by kernel_rfl))
 f279 := Tryd.func113.trans (congrArg some (by kernel_rfl))
 f280 := Tryd.func114.trans (congrArg some (by kernel_rfl))
 f281 := Tryd.func115.trans (congrArg some (by kernel_rfl))
 f282 := Tryd.func116.trans (congrArg some (by kernel_rfl))
 f283 := Tryd.func85.trans (congrArg some (by kernel_rfl))
 f284 := Tryd.func86.trans (congrArg some (by kernel_rfl))
 f285 := Tryd.func87.trans (congrArg some (by kernel_rfl))
 f286 := Tryd.func88.trans (congrArg some (by kernel_rfl))
 f287 := Tryd.func112.trans (congrArg some (by kernel_rfl))
 f316 := Tryd.func119.trans (congrArg some (by kernel_rfl))
 f317 := Tryd.func97.trans (congrArg some (by kernel_rfl))
 f318 := Tryd.func99.trans (congrArg some (by kernel_rfl))
 f319 := Tryd.func100.trans (congrArg some (by kernel_rfl))
 f320 := Tryd.func101.trans (congrArg some (by kernel_rfl))
 f321 := Tryd.func117.trans (congrArg some (by kernel_rfl))
 f322 := Tryd.func118.trans (congrArg some (by kernel_rfl))
 f337 := Tryd.func105.trans (congrArg some (by kernel_rfl))
 f338 := Tryd.func106.trans (congrArg some (by kernel_rfl))
 t0 := Tryd.underlying0
 a0 := Tryd.isAgg0
 z0 := Tryd.sizeOf0
 v0 := Tryd.zeroValue0
 t2 := Tryd.underlying2
 a2 := Tryd.isAgg2
 z2 := Tryd.sizeOf2
 v2 := Tryd.zeroValue2
 t3 := Tryd.underlying3
 a3 := Tryd.isAgg3
 z3 := Tryd.sizeOf3
 v3 := Tryd.zeroValue3
 t4 := Tryd.underlying4
 a4 := Tryd.isAgg4
 z4 := Tryd.sizeOf4
 v4 := Tryd.zeroValue4
 t5 := Tryd.underlying5
 a5 := Tryd.isAgg5
 z5 := Tryd.sizeOf5
 v5 := Tryd.zeroValue5
 t9 := Tryd.underlying9
 a9 := Tryd.isAgg9
 z9 := Tryd.sizeOf9
 v9 := Tryd.zeroValue9
 t20 := Tryd.underlying20
 a20 := Tryd.isAgg20
 z20 := Tryd.sizeOf20
 v20 := Tryd.zeroValue20
 t21 := Tryd.underlying21
 a21 := Tryd.isAgg21
 z21 := Tryd.sizeOf21
 v21 := Tryd.zeroValue21
 t37 := Tryd.underlying126
 a37 := Tryd.isAgg126
 z37 := Tryd.sizeOf126
 v37 := Tryd.zeroValue126
 t46 := Tryd.underlying142
 a46 := Tryd.isAgg142
 z46 := Tryd.sizeOf142
 v46 := Tryd.zeroValue142
 t51 := Tryd.underlying139
 a51 := Tryd.isAgg139
 z51 := Tryd.sizeOf139
 v51 := Tryd.zeroValue139
 t53 := Tryd.underlying123
 a53 := Tryd.isAgg123
 z53 := Tryd.sizeOf123
 v53 := Tryd.zeroValue123
 t75 := Tryd.underlying146
 a75 := Tryd.isAgg146
 z75 := Tryd.sizeOf146
 v75 := Tryd.zeroValue146
 t85 := Tryd.underlying147
 a85 := Tryd.isAgg147
 z85 := Tryd.sizeOf147
 v85 := Tryd.zeroValue147
 t127 := Tryd.underlying169
 a127 := Tryd.isAgg169
 z127 := Tryd.sizeOf169
 v127 := Tryd.zeroValue169
 t143 := Tryd.underlying170
 a143 := Tryd.isAgg170
 z143 := Tryd.sizeOf170
 v143 := Tryd.zeroValue170
 t145 := Tryd.underlying172
 a145 := Tryd.isAgg172
 z145 := Tryd.sizeOf172
 v145 := Tryd.zeroValue172
 t167 := Tryd.underlying158
 a167 := Tryd.isAgg158
 z167 := Tryd.sizeOf158
 v167 := Tryd.zeroValue158
 t168 := Tryd.underlying161
 a168 := Tryd.isAgg161
 z168 := Tryd.sizeOf161
 v168 := Tryd.zeroValue161
 t171 := Tryd.underlying122
 a171 := Tryd.isAgg122
 z171 := Tryd.sizeOf122
 v171 := Tryd.zeroValue122
 t173 := Tryd.underlying127
 a173 := Tryd.isAgg127
 z173 := Tryd.sizeOf127
 v173 := Tryd.zeroValue127
 t175 := Tryd.underlying159
 a175 := Tryd.isAgg159
 z175 := Tryd.sizeOf159
 v175 := Tryd.zeroValue159
 t210 := Tryd.underlying167
 a210 := Tryd.isAgg167
 z210 := Tryd.sizeOf167
 v210 := Tryd.zeroValue167
 t212 := Tryd.underlying138
 a212 := Tryd.isAgg138
 z212 := Tryd.sizeOf138
 v212 := Tryd.zeroValue138
 t213 := Tryd.underlying140
 a213 := Tryd.isAgg140
 z213 := Tryd.sizeOf140
 t232 := Tryd.underlying156
 a232 := Tryd.isAgg156
 z232 := Tryd.sizeOf156
 v232 := Tryd.zeroValue156
 t233 := Tryd.underlying157
 a233 := Tryd.isAgg157
 z233 := Tryd.sizeOf157
 v233 := Tryd.zeroValue157
 g15 := by kernel_rfl
 g16 := by kernel_rfl
 g17 := by kernel_rfl
 g18 := by kernel_rfl
 g19 := by kernel_rfl
 t80 := Tryd.underlying173
 a80 := Tryd.isAgg173
 z80 := Tryd.sizeOf173
 v80 := Tryd.zeroValue173
 i0 := by kernel_rfl
 i2 := by kernel_rfl
 i3 := by kernel_rfl
 i4 := by kernel_rfl
 i5 := by kernel_rfl
 i9 := by kernel_rfl
 i20 := by kernel_rfl
 i21 := by kernel_rfl
 i37 := by kernel_rfl
 i46 := by kernel_rfl
 i51 := by kernel_rfl
 i53 := by kernel_rfl
 i75 := by kernel_rfl
 i80 := by kernel_rfl
 i85 := by kernel_rfl
 i127 := by kernel_rfl
 i143 := by kernel_rfl
 i145 := by kernel_rfl
 i167 := by kernel_rfl
 i168 := by kernel_rfl
 i171 := by kernel_rfl
 i173 := by kernel_rfl
 i175 := by kernel_rfl
 i210 := by kernel_rfl
 i212 := by kernel_rfl
 i232 := by kernel_rfl
 i233 := by kernel_rfl
 m15 := by kernel_rfl
 m16 := by kernel_rfl
 m17 := by kernel_rfl
 m18 := by kernel_rfl
 m19 := by kernel_rfl
 c0 := by kernel_rfl
 c2 := by kernel_rfl
 c3 := by kernel_rfl
 c4 := by kernel_rfl
 c5 := by kernel_rfl
 c9 := by kernel_rfl
 c20 := by kernel_rfl
 c21 := by kernel_rfl
 c37 := by kernel_rfl
 c46 := by kernel_rfl
 c51 := by kernel_rfl
 c53 := by kernel_rfl
 c75 := by kernel_rfl
 c80 := by kernel_rfl
 c85 := by kernel_rfl
 c127 := by kernel_rfl
 c143 := by kernel_rfl
 c145 := by kernel_rfl
 c167 := by kernel_rfl
 c168 := by kernel_rfl
 c171 := by kernel_rfl
 c173 := by kernel_rfl
 c175 := by kernel_rfl
 c210 := by kernel_rfl
 c212 := by kernel_rfl
 c213 := by kernel_rfl
 c232 := by kernel_rfl
 c233 := by kernel_rfl }
open Go.RowKit in
/-- strconv.ParseInt(s, 10, 64), AT EVERY STRING THAT SPELLS AN int64 ('Lib.parseIntB 64 s.data.toList = .ok v'): v, AND NO ERROR. (LAID: no walk: one application.) -/
theorem Tryd.strconv_ParseInt_10_at64_ok (s : ByteArray) (hmax : s.size ≤ 9223372036854775806) (v : Int) (h : Lib.parseIntB 64 s.data.toList = .ok v) (w : World) :
  Calls Tryd.prog 104 #[.string s, .int .i64 10, .int .i64 64] w fun e w' => e = .returned (.tuple #[.int .i64 v, .nilIface]) ∧ (w' = w ∨ ∃ t, w' = Lib.bytesWorld w 5 t) := Any.strconv_ParseInt_10_at64_ok Tryd.laysC174 s hmax v h w
open Go.RowKit in
theorem Tryd.strconv_ParseInt_10_at64_range_var (s : ByteArray) (hlim : s.size ≤ 281474976710656) (h : Lib.parseIntB 64 s.data.toList = .range) (tp : TypeId) (p : Value) (w : World) (hvar : w.var? Tryd.prog "strconv.ErrRange" = some #[.iface tp p]) :
  Calls Tryd.prog 104 #[.string s, .int .i64 10, .int .i64 64] w fun e w' => ∃ N, e = .returned (.tuple #[.int .i64 (Lib.intSat 64 s.data.toList), .iface 161 (.pointer (some ⟨N, 0, none⟩))]) ∧ w.heap.size ≤ N ∧ w'.heap[N]? = some (.cells #[.string ⟨#[80, 97, 114, 115, 101, 73, 110, 116]⟩, .string s, .iface tp p] 167 (0, 0)) ∧ Below w.heap.size w w' := Any.strconv_ParseInt_10_at64_range_var Tryd.laysC174 s hlim h tp p w hvar
def Tryd.lays99_ren : Go.Shelf.Ren := ⟨fun | 99 => 49 | 206 => 71 | n => n, fun | 9 => 9 | 4 => 4 | 3 => 3 | n => n, fun | n => n⟩
theorem Tryd.lays99 : Go.Proofs.Lays.n99 Tryd.prog Tryd.lays99_ren := {
 mixed := by kernel_rfl
 f99 := Tryd.func49.trans (congrArg some (by kernel_rfl))
 f206 := Tryd.func71.trans (congrArg some (by kernel_rfl))
 t3 := Tryd.underlying3
 a3 := Tryd.isAgg3
 z3 := Tryd.sizeOf3
 v3 := Tryd.zeroValue3
 t4 := Tryd.underlying4
 a4 := Tryd.isAgg4
 z4 := Tryd.sizeOf4
 v4 := Tryd.zeroValue4
 t9 := Tryd.underlying9
 a9 := Tryd.isAgg9
 z9 := Tryd.sizeOf9
 v9 := Tryd.zeroValue9 }
open Go.RowKit Go.Lib in
/-- strings.HasPrefix: "HasPrefix reports whether the string s begins with prefix.": IT RETURNS 'Lib.hasPrefix s prefix'; the world is as it was. (LAID: no walk: one application.) -/
theorem Tryd.strings_HasPrefix (s p : ByteArray) (w : World) :
  Calls Tryd.prog 49 #[.string s, .string p] w fun e w' => e = .returned (.bool (Lib.hasPrefix s.data.toList p.data.toList)) ∧ w' = w := Any.strings_HasPrefix Tryd.lays99 s p w
def Tryd.lays110_ren : Go.Shelf.Ren := ⟨fun | 110 => 74 | 109 => 89 | n => n, fun | 31 => 41 | 9 => 9 | 4 => 4 | 3 => 3 | 0 => 0 | n => n, fun | n => n⟩
theorem Tryd.lays110 : Go.Proofs.Lays.n110 Tryd.prog Tryd.lays110_ren := {
 mixed := by kernel_rfl
 f109 := Tryd.func89.trans (congrArg some (by kernel_rfl))
 f110 := Tryd.func74.trans (congrArg some (by kernel_rfl))
 t0 := Tryd.underlying0
 a0 := Tryd.isAgg0
 z0 := Tryd.sizeOf0
 v0 := Tryd.zeroValue0
 t3 := Tryd.underlying3
 a3 := Tryd.isAgg3
 z3 := Tryd.sizeOf3
 v3 := Tryd.zeroValue3
 t4 := Tryd.underlying4
 a4 := Tryd.isAgg4
 z4 := Tryd.sizeOf4
 v4 := Tryd.zeroValue4
 t9 := Tryd.underlying9
 a9 := Tryd.isAgg9
 z9 := Tryd.sizeOf9
 v9 := Tryd.zeroValue9
 t31 := Tryd.underlying41
 a31 := Tryd.isAgg41
 z31 := Tryd.sizeOf41
 v31 := Tryd.zeroValue41 }
open Go.Lib in
/-- slices.Contains at []string: "Contains reports whether v is present in s.": IT RETURNS 'Lib.containsS (the elements) v', which is true just where v is among them ('Lib.containsS_iff'); the world is as it was. ITS CALLEE slices.Index IS MET BY ITS OWN CONTRACT OFF THE SHELF (lay that first): no loop is walked here. (LAID: no walk: one application.) -/
theorem Tryd.slices_Contains_string (b off n c : Nat) (zs : List ByteArray) (x : ByteArray) (w : World) (hz : n ≤ zs.length) (hbig : n ≤ 9223372036854775807) (hc : ∀ j, j < zs.length → w.cell? ⟨b, off + j, none⟩ = some (.string (zs.getD j ByteArray.empty))) :
  Calls Tryd.prog 74 #[.slice (some ⟨b, off, none⟩) n c, .string x] w fun e w' => e = .returned (.bool (Lib.containsS (zs.take n) x)) ∧ w' = w := Any.slices_Contains_string Tryd.lays110 b off n c zs x w hz hbig hc
open Go.Lib in
/-- The same at a slice of length 0, a nil one too. (LAID: no walk: one application.) -/
theorem Tryd.slices_Contains_string_empty (a : Option Addr) (c : Nat) (x : ByteArray) (w : World) :
  Calls Tryd.prog 74 #[.slice a 0 c, .string x] w fun e w' => e = .returned (.bool false) ∧ w' = w := Any.slices_Contains_string_empty Tryd.lays110 a c x w
end Go.Proofs

/- The tokens of a text, as the chapter tells them, in plain Lean: a text is a list of bytes. -/
namespace Go.Proofs.YtbdciibbgiphcaaDoor.Tok
set_option linter.unusedVariables false
set_option linter.unusedSimpArgs false

def letter (c : Int) : Bool := decide (97 ≤ c) && decide (c ≤ 122) || decide (65 ≤ c) && decide (c ≤ 90)
def digit (c : Int) : Bool := decide (48 ≤ c) && decide (c ≤ 57)
def inWord (c : Int) : Bool := letter c || (digit c || c == 95)
def blank (c : Int) : Bool := c == 32 || c == 9 || c == 10 || c == 13

/-- how many bytes of a word, a number, signs, of what says nothing, a text begins with. -/
def wordLen : List Int → Nat
 | [] => 0
 | c :: r => if letter c then 1 + (r.takeWhile inWord).length else 0
def numLen (l : List Int) : Nat :=
 let n := (l.takeWhile digit).length
 if 1 < n ∧ l.head? = some 48 then 0 else n
def two (l : List Int) : Bool := [[60, 61], [61, 61], [33, 61], [45, 62]].any fun x => x.isPrefixOf l
def signs : List Int := [40, 41, 58, 59, 44, 61, 43, 45, 42, 47, 37, 60]
def signLen (l : List Int) : Nat := if two l then 2 else match l with | [] => 0 | c :: _ => if signs.contains c then 1 else 0
def silentLen (l : List Int) : Nat :=
 let k := (l.takeWhile blank).length
 let rest := l.drop k
 if [45, 45].isPrefixOf rest then k + (rest.takeWhile fun c => c != 10).length else k

structure T where
 kind : Int
 text : List Int
 pos : Int

/-- what stands at the head: which kind, how many bytes (0: no token). -/
def head (l : List Int) : Int × Nat := if 0 < wordLen l then (1, wordLen l) else if 0 < numLen l then (2, numLen l) else (3, signLen l)

/-- the tokens from a place on, or the place of a wrong byte. -/
def read : Nat → List Int → Nat → Option (List T) × Nat
 | _, [], p => (some [], p)
 | 0, _ :: _, p => (none, p)
 | f + 1, c :: r, p =>
  if 0 < silentLen (c :: r) then read f ((c :: r).drop (silentLen (c :: r))) (p + silentLen (c :: r))
  else if 0 < (head (c :: r)).2 then
   match read f ((c :: r).drop (head (c :: r)).2) (p + (head (c :: r)).2) with
   | (some ts, q) => (some (⟨(head (c :: r)).1, (c :: r).take (head (c :: r)).2, p⟩ :: ts), q)
   | (none, q) => (none, q)
  else (none, p)

theorem takeWhile_le (f : Int → Bool) (l : List Int) : (l.takeWhile f).length ≤ l.length := (List.takeWhile_sublist f).length_le
theorem wordLen_le : ∀ l : List Int, wordLen l ≤ l.length
 | [] => by simp [wordLen]
 | c :: r => by
  have := takeWhile_le inWord r
  simp only [wordLen, List.length_cons]
  split <;> omega
theorem numLen_le (l : List Int) : numLen l ≤ l.length := by
 have := takeWhile_le digit l
 unfold numLen
 simp only
 split <;> omega
theorem two_len {l : List Int} (h : two l = true) : 2 ≤ l.length := by
 unfold two at h
 match l with
 | [] => simp at h
 | [a] => simp [List.isPrefixOf] at h
 | _ :: _ :: r => simp
theorem signLen_le (l : List Int) : signLen l ≤ l.length := by
 unfold signLen
 split
 ·rename_i h; exact two_len h
 ·cases l with
  | nil => simp
  | cons c r => simp only; split <;> simp
theorem silentLen_le (l : List Int) : silentLen l ≤ l.length := by
 have h1 := takeWhile_le blank l
 have h2 := takeWhile_le (fun c => c != 10) (l.drop (l.takeWhile blank).length)
 rw [List.length_drop] at h2
 unfold silentLen
 simp only
 split <;> omega
theorem head_le (l : List Int) : (head l).2 ≤ l.length := by
 unfold head
 have := wordLen_le l; have := numLen_le l; have := signLen_le l
 split
 ·assumption
 ·split <;> assumption
theorem head_kind (l : List Int) : 1 ≤ (head l).1 ∧ (head l).1 ≤ 3 := by
 unfold head
 split
 ·simp
 ·split <;> simp

/-- rounds enough: as many as bytes. -/
theorem read_fuel : ∀ (f g : Nat) (l : List Int) (p : Nat), l.length ≤ f → l.length ≤ g → read f l p = read g l p
 | f, g, [], p, _, _ => by cases f <;> cases g <;> rfl
 | 0, g, c :: r, p, h, _ => absurd h (by simp)
 | f + 1, 0, c :: r, p, _, h => absurd h (by simp)
 | f + 1, g + 1, c :: r, p, hf, hg => by
  simp only [List.length_cons] at hf hg
  unfold read
  have h1 := silentLen_le (c :: r)
  have h2 := head_le (c :: r)
  by_cases hs : 0 < silentLen (c :: r)
  ·rw [if_pos hs, if_pos hs]
   exact read_fuel f g _ _ (by rw [List.length_drop]; simp; omega) (by rw [List.length_drop]; simp; omega)
  ·rw [if_neg hs, if_neg hs]
   by_cases ht : 0 < (head (c :: r)).2
   ·rw [if_pos ht, if_pos ht, read_fuel f g ((c :: r).drop (head (c :: r)).2) _ (by rw [List.length_drop]; simp; omega) (by rw [List.length_drop]; simp; omega)]
   ·rw [if_neg ht, if_neg ht]

end Go.Proofs.YtbdciibbgiphcaaDoor.Tok

/- Plain facts about the tokens of a text. -/
namespace Go.Proofs.YtbdciibbgiphcaaDoor.Tok
set_option linter.unusedVariables false
set_option linter.unusedSimpArgs false

/-- how many bytes a text begins with that are so. -/
def tw (f : Int → Bool) (l : List Int) : Nat := (l.takeWhile f).length
theorem tw_yes {f : Int → Bool} {c : Int} (r : List Int) (h : f c = true) : tw f (c :: r) = tw f r + 1 := by simp [tw, List.takeWhile_cons, h]
theorem tw_no {f : Int → Bool} {c : Int} (r : List Int) (h : f c = false) : tw f (c :: r) = 0 := by simp [tw, List.takeWhile_cons, h]
theorem tw_le (f : Int → Bool) (l : List Int) : tw f l ≤ l.length := takeWhile_le f l
/-- comment ahead. -/
def dash (l : List Int) : Bool := [45, 45].isPrefixOf l
theorem silent_nil : silentLen [] = 0 := rfl
theorem silent_eq (l : List Int) : silentLen l = if dash (l.drop (tw blank l)) then tw blank l + tw (fun c => c != 10) (l.drop (tw blank l)) else tw blank l := rfl
/-- the tokens from a place on. -/
def R (l : List Int) (p : Nat) : Option (List T) × Nat := read l.length l p
theorem read_R (f : Nat) (l : List Int) (p : Nat) (h : l.length ≤ f) : read f l p = R l p := read_fuel _ _ _ _ h (Nat.le_refl _)
theorem R_nil (p : Nat) : R [] p = (some [], p) := rfl
theorem R_silent {c : Int} {r : List Int} (p : Nat) (h : 0 < silentLen (c :: r)) : R (c :: r) p = R ((c :: r).drop (silentLen (c :: r))) (p + silentLen (c :: r)) := by
 conv => lhs; unfold R
 rw [List.length_cons]
 unfold read
 rw [if_pos h, read_R]
 rw [List.length_drop, List.length_cons]; omega
def put (t : T) : Option (List T) × Nat → Option (List T) × Nat
 | (some ts, q) => (some (t :: ts), q)
 | (none, q) => (none, q)
theorem R_head {c : Int} {r : List Int} (p : Nat) (hs : silentLen (c :: r) = 0) (hh : 0 < (head (c :: r)).2) :
  R (c :: r) p = put ⟨(head (c :: r)).1, (c :: r).take (head (c :: r)).2, p⟩ (R ((c :: r).drop (head (c :: r)).2) (p + (head (c :: r)).2)) := by
 conv => lhs; unfold R
 rw [List.length_cons]
 unfold read
 rw [if_neg (by omega), if_pos hh, read_R _ _ _ (by rw [List.length_drop, List.length_cons]; omega)]
 unfold put
 split <;> simp_all
theorem R_none {c : Int} {r : List Int} (p : Nat) (hs : silentLen (c :: r) = 0) (hh : (head (c :: r)).2 = 0) : R (c :: r) p = (none, p) := by
 conv => lhs; unfold R
 rw [List.length_cons]
 unfold read
 rw [if_neg (by omega), if_neg (by omega)]

/-! ## Elsewhere. -/
def T.by (t : T) (k : Nat) : T := ⟨t.kind, t.text, t.pos + k⟩
end Go.Proofs.YtbdciibbgiphcaaDoor.Tok

/- Plain facts about the tokens of a text: gaps, blanks, words. -/
namespace Go.Proofs.YtbdciibbgiphcaaDoor.Tok
set_option linter.unusedVariables false
set_option linter.unusedSimpArgs false

/-! ## Tokens with a blank between each two. -/
def Ok (t : T) : Prop := silentLen t.text = 0 ∧ head t.text = (t.kind, t.text.length) ∧ 0 < t.text.length
def blanks : List (List Int) := [[32], [9], [10], [13], [32, 45, 45, 32, 120, 10]]
def place (bl : List Int) : Nat → List T → List T
 | _, [] => []
 | p, t :: ts => ⟨t.kind, t.text, p⟩ :: place bl (p + t.text.length + bl.length) ts
end Go.Proofs.YtbdciibbgiphcaaDoor.Tok

/- What the functions of the package tokens answer, for the printed texts: plain definitions. -/
namespace Go.Proofs.YtbdciibbgiphcaaDoor.V
set_option linter.unusedVariables false
set_option linter.unusedSimpArgs false
open Go.RowKit Go.Proofs.YtbdciibbgiphcaaDoorW.PrintWords Go.Proofs.YtbdciibbgiphcaaDoorW.PrintLast Go.Proofs.YtbdciibbgiphcaaDoorW.PrintMore
/-- the variable that a number too great leads to holds an error. -/
def VarOk (w : World) : Prop := ∃ tp p, w.var? Tryd.prog "strconv.ErrRange" = some #[.iface tp p]
/-- bytes as a string. -/
def ofB (l : List Int) : ByteArray := ⟨(l.map fun c => UInt8.ofNat c.toNat).toArray⟩
def toS (t : Tok.T) : S45 := ⟨t.kind, ofB t.text, t.pos⟩
def readOf (x : Option (List Tok.T) × Nat) : (List S45) × Int × Int := match x with
 | (some ts, _) => (ts.map toS, 0, 0)
 | (none, q) => ([], (q : Int), 5)
def tokens_Read.f (a0 : ByteArray) : Option ((List (S45)) × Int × Int) := some (if a0.size ≤ 65536 then readOf (Tok.R (bytesOf a0) 0) else ([], 0, 3))
def words : List ByteArray := [⟨#[115, 116, 97, 116, 105, 111, 110, 115]⟩, ⟨#[105, 110]⟩, ⟨#[97, 116]⟩, ⟨#[102, 108, 111, 119]⟩, ⟨#[100, 101, 102, 97, 117, 108, 116]⟩, ⟨#[111, 117, 116]⟩, ⟨#[105, 102]⟩, ⟨#[116, 104, 101, 110]⟩, ⟨#[101, 108, 115, 101]⟩, ⟨#[112, 114, 101]⟩, ⟨#[97, 110, 100]⟩, ⟨#[111, 114]⟩, ⟨#[110, 111, 116]⟩, ⟨#[116, 114, 117, 101]⟩, ⟨#[102, 97, 108, 115, 101]⟩, ⟨#[105, 110, 116]⟩, ⟨#[98, 111, 111, 108]⟩]
def nameOk (s : ByteArray) : Bool := decide (0 < s.size) && (decide (s.size ≤ 40) && (decide (Tok.wordLen (bytesOf s) = s.size) && !(words.any fun x => x.data.toList == s.data.toList)))
def tokens_Name.f (a0 : ByteArray) : Option (Bool) := some (nameOk a0)
def numberOf (s : ByteArray) : Option (Int × Int) := if 0 < s.size ∧ Tok.numLen (bytesOf s) = s.size then (match Lib.parseIntB 64 s.data.toList with
 | .ok v => some (v, 0)
 | .range => some (0, 3)
 | _ => none) else some (0, 5)
def tokens_Number.f (a0 : ByteArray) : Option (Int × Int) := if a0.size ≤ 281474976710656 then numberOf a0 else none
def belfrylaw04_alive.f  : Option (Bool) := some true
end Go.Proofs.YtbdciibbgiphcaaDoor.V

/- tokens.run, ofWord, ofNumber: walks. -/
namespace Go.Proofs.YtbdciibbgiphcaaDoor
set_option linter.unusedVariables false
set_option linter.unusedSimpArgs false
set_option linter.unusedSectionVars false
open Go.RowKit
open Go.Proofs.YtbdciibbgiphcaaDoorW.PrintWords
/-- how many bytes a text begins with that are so; i: where it begins. -/
def pre (p : Nat → Int → Bool) : List Int → Nat → Nat
 | [], _ => 0
 | c :: r, i => if p i c then 1 + pre p r (i + 1) else 0
theorem drop_bytes (s : ByteArray) (i : Nat) (h : i < s.size) : (bytesOf s).drop i = ((s[i]'h).toNat : Int) :: (bytesOf s).drop (i + 1) := by
 have hl : i < (bytesOf s).length := by rw [bytesOf_length]; exact h
 rw [List.drop_eq_getElem_cons hl]
 congr 1
 simp [bytesOf]
 rfl
theorem drop_end (s : ByteArray) (i : Nat) (h : ¬ i < s.size) : (bytesOf s).drop i = [] := List.drop_eq_nil_of_le (by rw [bytesOf_length]; omega)
def RunPost (p : Nat → Int → Bool) (s : ByteArray) (w : World) (e : Ending) (w' : World) : Prop := e = .returned (.int .i64 (pre p (bytesOf s) 0 : Nat)) ∧ Below w.heap.size w w'
theorem below_iter (w : World) (s : ByteArray) (pos : Nat) : Below w.heap.size w (w.iter s pos) := below_alloc (Below.refl _ _) _
set_option maxHeartbeats 2000000 in
set_option maxRecDepth 100000 in
theorem run33 (p : Nat → Int → Bool) (hp : ∀ (i : Nat) (c : Int) (w : World), 0 ≤ c → c ≤ 2147483647 → Calls Tryd.prog 61 #[.int .i64 i, .int .i32 c] w fun e w' => e = .returned (.bool (p i c)) ∧ w' = w)
  (hasc : ∀ (i : Nat) (c : Int), 128 ≤ c → p i c = false) (s : ByteArray) (w : World) (hs : s.size ≤ 9223372036854775806) :
  Calls Tryd.prog 60 #[.string s, .func (Fn.func 61) #[] #[]] w (RunPost p s w) := by
 go_enter Tryd.func60, Tryd.ntmps60
 go_wp2_with fail
 go_loopw [5, 6] (fun a b w' => ∃ (pos : Nat), w' = w.iter s pos ∧ pos ≤ s.size ∧ Hid (pos + pre p ((bytesOf s).drop pos) pos = pre p (bytesOf s) 0)) (fun _ _ w' => s.size - w'.iterPos w.heap.size)
 case atStart => exact ⟨0, rfl, Nat.zero_le _, Lib.hid (by simp)⟩
 case round =>
  obtain ⟨pos, rfl, hle, HP⟩ := hrel
  by_cases h : pos < s.size
  ·have hnx : ∀ ty, (Instr.next (.pointer (some ⟨w.heap.size, 0, none⟩)) true ty).run Tryd.prog (w.iter s pos) = _ := fun ty => run_next_any w s pos ty h
   have HD := Lib.hid (drop_bytes s pos h)
   go_wp2_with fail
   refine (hp pos (Utf8.decode s pos).1 _ (by omega) (by have := decode_le s pos; omega)).mono ?_
   rintro _ _ ⟨rfl, rfl⟩
   by_cases ha : (s[pos]'h).toNat < 128
   ·have hd := decode_ascii s pos h ha
    rw [hd]
    cases hb : p pos ((s[pos]'h).toNat : Int) with
    | true =>
     have HB := Lib.hid hb
     clear hb
     go_wp2_with fail
     refine ⟨⟨pos + 1, rfl, by omega, Lib.hid ?_⟩, by simp; omega⟩
     rw [← HP.out, HD.out]
     simp only [pre, HB.out, if_true]
     omega
    | false =>
     have HB := Lib.hid hb
     clear hb
     go_wp2_with fail
     go_ret
     refine ⟨?_, below_iter _ _ _⟩
     rw [← HP.out, HD.out]
     simp [pre, HB.out]
   ·have hdh := (decode_high s pos h (by omega)).1
    have hb := hasc pos ((Utf8.decode s pos).1 : Int) (by omega)
    have hb2 := hasc pos ((s[pos]'h).toNat : Int) (by omega)
    rw [hb]
    have HB2 := Lib.hid hb2
    clear hb hb2
    go_wp2_with fail
    go_ret
    refine ⟨?_, below_iter _ _ _⟩
    rw [← HP.out, HD.out]
    simp [pre, HB2.out]
  ·have hnx : ∀ ty, (Instr.next (.pointer (some ⟨w.heap.size, 0, none⟩)) true ty).run Tryd.prog (w.iter s pos) = _ := fun ty => run_next_end w s pos ty h
   have HD := Lib.hid (drop_end s pos h)
   have HPS : Hid (pos = s.size) := Lib.hid (by omega)
   go_wp2_with fail
   go_ret
   refine ⟨?_, below_iter _ _ _⟩
   rw [← HP.out, HD.out]
   simp [pre, HPS.out]
set_option maxHeartbeats 2000000 in
set_option maxRecDepth 100000 in
theorem run28 (p : Nat → Int → Bool) (hp : ∀ (i : Nat) (c : Int) (w : World), 0 ≤ c → c ≤ 2147483647 → Calls Tryd.prog 64 #[.int .i64 i, .int .i32 c] w fun e w' => e = .returned (.bool (p i c)) ∧ w' = w)
  (hasc : ∀ (i : Nat) (c : Int), 128 ≤ c → p i c = false) (s : ByteArray) (w : World) (hs : s.size ≤ 9223372036854775806) :
  Calls Tryd.prog 60 #[.string s, .func (Fn.func 64) #[] #[]] w (RunPost p s w) := by
 go_enter Tryd.func60, Tryd.ntmps60
 go_wp2_with fail
 go_loopw [5, 6] (fun a b w' => ∃ (pos : Nat), w' = w.iter s pos ∧ pos ≤ s.size ∧ Hid (pos + pre p ((bytesOf s).drop pos) pos = pre p (bytesOf s) 0)) (fun _ _ w' => s.size - w'.iterPos w.heap.size)
 case atStart => exact ⟨0, rfl, Nat.zero_le _, Lib.hid (by simp)⟩
 case round =>
  obtain ⟨pos, rfl, hle, HP⟩ := hrel
  by_cases h : pos < s.size
  ·have hnx : ∀ ty, (Instr.next (.pointer (some ⟨w.heap.size, 0, none⟩)) true ty).run Tryd.prog (w.iter s pos) = _ := fun ty => run_next_any w s pos ty h
   have HD := Lib.hid (drop_bytes s pos h)
   go_wp2_with fail
   refine (hp pos (Utf8.decode s pos).1 _ (by omega) (by have := decode_le s pos; omega)).mono ?_
   rintro _ _ ⟨rfl, rfl⟩
   by_cases ha : (s[pos]'h).toNat < 128
   ·have hd := decode_ascii s pos h ha
    rw [hd]
    cases hb : p pos ((s[pos]'h).toNat : Int) with
    | true =>
     have HB := Lib.hid hb
     clear hb
     go_wp2_with fail
     refine ⟨⟨pos + 1, rfl, by omega, Lib.hid ?_⟩, by simp; omega⟩
     rw [← HP.out, HD.out]
     simp only [pre, HB.out, if_true]
     omega
    | false =>
     have HB := Lib.hid hb
     clear hb
     go_wp2_with fail
     go_ret
     refine ⟨?_, below_iter _ _ _⟩
     rw [← HP.out, HD.out]
     simp [pre, HB.out]
   ·have hdh := (decode_high s pos h (by omega)).1
    have hb := hasc pos ((Utf8.decode s pos).1 : Int) (by omega)
    have hb2 := hasc pos ((s[pos]'h).toNat : Int) (by omega)
    rw [hb]
    have HB2 := Lib.hid hb2
    clear hb hb2
    go_wp2_with fail
    go_ret
    refine ⟨?_, below_iter _ _ _⟩
    rw [← HP.out, HD.out]
    simp [pre, HB2.out]
  ·have hnx : ∀ ty, (Instr.next (.pointer (some ⟨w.heap.size, 0, none⟩)) true ty).run Tryd.prog (w.iter s pos) = _ := fun ty => run_next_end w s pos ty h
   have HD := Lib.hid (drop_end s pos h)
   have HPS : Hid (pos = s.size) := Lib.hid (by omega)
   go_wp2_with fail
   go_ret
   refine ⟨?_, below_iter _ _ _⟩
   rw [← HP.out, HD.out]
   simp [pre, HPS.out]

theorem letter_walk (c : Int) (w : World) : Calls Tryd.prog 62 #[.int .i32 c] w fun e w' => e = .returned (.bool (Tok.letter c)) ∧ w' = w := by
 go_enter Tryd.func62, Tryd.ntmps62
 go_wp2_with fail
 all_goals
  go_ret
  refine ⟨congrArg (fun b => Ending.returned (Value.bool b)) (?_ : _ = Tok.letter c), rfl⟩
  rw [Bool.eq_iff_iff]
  simp [Tok.letter]
  try omega
theorem digit_walk (c : Int) (w : World) : Calls Tryd.prog 63 #[.int .i32 c] w fun e w' => e = .returned (.bool (Tok.digit c)) ∧ w' = w := by
 go_enter Tryd.func63, Tryd.ntmps63
 go_wp2_with fail
 all_goals
  go_ret
  refine ⟨congrArg (fun b => Ending.returned (Value.bool b)) (?_ : _ = Tok.digit c), rfl⟩
  rw [Bool.eq_iff_iff]
  simp [Tok.digit]
  try omega
def numP (i : Nat) (c : Int) : Bool := Tok.digit c
def wordP (i : Nat) (c : Int) : Bool := Tok.letter c || (decide (0 < i) && (Tok.digit c || c == 95))
theorem pred28 (i : Nat) (c : Int) (w : World) : Calls Tryd.prog 64 #[.int .i64 i, .int .i32 c] w fun e w' => e = .returned (.bool (numP i c)) ∧ w' = w := by
 go_enter Tryd.func64, Tryd.ntmps64
 go_wp2_with fail
 refine (digit_walk c w).mono ?_
 rintro _ _ ⟨rfl, rfl⟩
 go_wp2_with fail
 go_ret
 exact ⟨rfl, rfl⟩
theorem pred33 (i : Nat) (c : Int) (w : World) : Calls Tryd.prog 61 #[.int .i64 i, .int .i32 c] w fun e w' => e = .returned (.bool (wordP i c)) ∧ w' = w := by
 go_enter Tryd.func61, Tryd.ntmps61
 go_wp2_with fail
 refine (letter_walk c w).mono ?_
 rintro _ _ ⟨rfl, rfl⟩
 cases hl : Tok.letter c with
 | true =>
  have HL := Lib.hid hl
  clear hl
  go_wp2_with fail
  go_ret
  exact ⟨by simp [wordP, HL.out], rfl⟩
 | false =>
  have HL := Lib.hid hl
  clear hl
  by_cases h0 : 0 < i
  ·go_wp2_with fail
   refine (digit_walk c _).mono ?_
   rintro _ _ ⟨rfl, rfl⟩
   cases hd : Tok.digit c with
   | true =>
    have HD := Lib.hid hd
    clear hd
    go_wp2_with fail
    go_ret
    exact ⟨by simp [wordP, HL.out, HD.out, h0], rfl⟩
   | false =>
    have HD := Lib.hid hd
    clear hd
    go_wp2_with fail
    go_ret
    exact ⟨by simp [wordP, HL.out, HD.out, h0], rfl⟩
  ·go_wp2_with fail
   go_ret
   exact ⟨by simp [wordP, HL.out, h0], rfl⟩
theorem ofWord_walk (s : ByteArray) (w : World) (hs : s.size ≤ 9223372036854775806) : Calls Tryd.prog 37 #[.string s] w (RunPost wordP s w) := by
 go_enter Tryd.func37, Tryd.ntmps37
 go_wp2_with fail
 refine (run33 wordP (fun i c w _ _ => pred33 i c w) (fun i c h => by simp [wordP, Tok.letter, Tok.digit]; omega) s w hs).mono ?_
 rintro _ w1 ⟨rfl, b1⟩
 go_wp2_with fail
 go_ret
 exact ⟨rfl, b1⟩

theorem pre_num : ∀ (l : List Int) (i : Nat), pre numP l i = (l.takeWhile Tok.digit).length
 | [], _ => rfl
 | c :: r, i => by
  unfold pre
  rw [List.takeWhile_cons, pre_num r]
  show (if Tok.digit c = true then _ else _) = _
  split <;> simp <;> omega
theorem pre_word1 : ∀ (l : List Int) (i : Nat), 0 < i → pre wordP l i = (l.takeWhile Tok.inWord).length
 | [], _, _ => rfl
 | c :: r, i, h => by
  have e : wordP i c = Tok.inWord c := by simp [wordP, Tok.inWord, h]
  unfold pre
  rw [List.takeWhile_cons, pre_word1 r (i + 1) (by omega), e]
  split <;> simp <;> omega
theorem pre_word (l : List Int) : pre wordP l 0 = Tok.wordLen l := by
 cases l with
 | nil => rfl
 | cons c r =>
  have e : wordP 0 c = Tok.letter c := by simp [wordP]
  unfold pre
  rw [e, pre_word1 r 1 (by omega)]
  rfl
theorem head_bytes (s : ByteArray) (h : 0 < s.size) : (bytesOf s).head? = some ((s[0]'h).toNat : Int) := by
 have := drop_bytes s 0 h
 rw [List.drop_zero] at this
 rw [this]; rfl
theorem ofNumber_walk (s : ByteArray) (w : World) (hs : s.size ≤ 9223372036854775806) : Calls Tryd.prog 38 #[.string s] w fun e w' => e = .returned (.int .i64 (Tok.numLen (bytesOf s) : Nat)) ∧ Below w.heap.size w w' := by
 go_enter Tryd.func38, Tryd.ntmps38
 go_wp2_with fail
 refine (run28 numP (fun i c w _ _ => pred28 i c w) (fun i c h => by simp [numP, Tok.digit]; omega) s w hs).mono ?_
 rintro _ w1 ⟨rfl, b1⟩
 rw [pre_num]
 obtain ⟨n, hn⟩ : ∃ n, n = ((bytesOf s).takeWhile Tok.digit).length := ⟨_, rfl⟩
 have hle : n ≤ s.size := by rw [hn, ← bytesOf_length]; exact Tok.takeWhile_le _ _
 have HN := Lib.hid hn
 rw [← hn]
 clear hn
 by_cases h1 : 1 < n
 ·have h0 : 0 < s.size := by omega
  by_cases h2 : (s[0]'h0).toNat = 48
  ·have H2 := Lib.hid h2
   go_wp2_with fail
   go_ret
   refine ⟨?_, b1⟩
   have e : (1 < ((bytesOf s).takeWhile Tok.digit).length ∧ (bytesOf s).head? = some 48) := ⟨by rw [← HN.out]; exact h1, by rw [head_bytes s h0, H2.out]; rfl⟩
   unfold Tok.numLen
   simp only
   rw [if_pos e]
   rfl
  ·have H2 := Lib.hid h2
   go_wp2_with fail
   go_ret
   refine ⟨?_, b1⟩
   have e : ¬ (1 < ((bytesOf s).takeWhile Tok.digit).length ∧ (bytesOf s).head? = some 48) := by
    rintro ⟨_, h⟩
    rw [head_bytes s h0] at h
    injection h with h
    exact H2.out (by omega)
   unfold Tok.numLen
   simp only
   rw [if_neg e, ← HN.out]
   rfl
 ·go_wp2_with fail
  go_ret
  refine ⟨?_, b1⟩
  unfold Tok.numLen
  simp only [← HN.out]
  rw [if_neg (fun h => h1 h.1)]
  rfl
end Go.Proofs.YtbdciibbgiphcaaDoor

/- tokens.ofSigns: walk. -/
namespace Go.Proofs.YtbdciibbgiphcaaDoor
set_option linter.unusedVariables false
set_option linter.unusedSimpArgs false
set_option linter.unusedSectionVars false
open Go.RowKit
open Go.Proofs.YtbdciibbgiphcaaDoorW.PrintWords
def NoTwo (s : ByteArray) (j : Nat) : Prop := ∀ i x, i < j → [[60, 61], [61, 61], [33, 61], [45, 62]][i]? = some x → Lib.hasPrefix s.data.toList x = false
theorem NoTwo.zero (s : ByteArray) : NoTwo s 0 := fun i x h => absurd h (by omega)
theorem NoTwo.next {s : ByteArray} {j : Nat} {x : List UInt8} (h : NoTwo s j) (hx : [[60, 61], [61, 61], [33, 61], [45, 62]][j]? = some x) (hb : Lib.hasPrefix s.data.toList x = false) : NoTwo s (j + 1) := by
 intro i y hi hy
 by_cases e : i = j
 ·subst e
  rw [hx] at hy
  injection hy with hy
  subst hy
  exact hb
 ·exact h i y (by omega) hy
def toI (b : UInt8) : Int := (b.toNat : Int)
theorem toI_eq (a b : UInt8) : (toI a == toI b) = (a == b) := by
 rw [Bool.eq_iff_iff]
 simp only [beq_iff_eq, toI]
 constructor
 ·intro h; exact UInt8.toNat_inj.1 (by omega)
 ·intro h; rw [h]
theorem prefix_map : ∀ (x l : List UInt8), (x.map toI).isPrefixOf (l.map toI) = x.isPrefixOf l
 | [], _ => by simp
 | a :: x, [] => rfl
 | a :: x, b :: l => by
  simp only [List.map_cons, List.isPrefixOf, toI_eq, prefix_map x l]
theorem bytes_map (s : ByteArray) : bytesOf s = s.data.toList.map toI := rfl
theorem two_iff (s : ByteArray) : Tok.two (bytesOf s) = true ↔ ∃ x ∈ ([[60, 61], [61, 61], [33, 61], [45, 62]] : List (List UInt8)), Lib.hasPrefix s.data.toList x = true := by
 unfold Tok.two Lib.hasPrefix
 rw [bytes_map]
 have h1 := prefix_map [60, 61] s.data.toList
 have h2 := prefix_map [61, 61] s.data.toList
 have h3 := prefix_map [33, 61] s.data.toList
 have h4 := prefix_map [45, 62] s.data.toList
 simp only [List.any_cons, List.any_nil, Bool.or_false, Bool.or_eq_true, List.mem_cons, List.not_mem_nil, or_false, exists_eq_or_imp, exists_eq_left]
 rw [← h1, ← h2, ← h3, ← h4]
 rfl
theorem sign_two (s : ByteArray) (x : List UInt8) (hm : x ∈ ([[60, 61], [61, 61], [33, 61], [45, 62]] : List (List UInt8))) (h : Lib.hasPrefix s.data.toList x = true) : Tok.signLen (bytesOf s) = 2 := by
 unfold Tok.signLen
 rw [if_pos ((two_iff s).2 ⟨x, hm, h⟩)]
theorem index_nonneg : ∀ (l : List UInt8) (c : UInt8), 0 ≤ Lib.indexByte l c ↔ (l.map toI).contains (toI c) = true
 | [], c => by simp [Lib.indexByte]
 | b :: l, c => by
  have ih := index_nonneg l c
  have hlow : ∀ m : List UInt8, -1 ≤ Lib.indexByte m c := by
   intro m
   induction m with
   | nil => simp [Lib.indexByte]
   | cons d m ih2 =>
    simp only [Lib.indexByte]
    split
    ·omega
    ·split <;> omega
  have hl := hlow l
  simp only [Lib.indexByte, List.map_cons, List.contains_cons, Bool.or_eq_true]
  rw [← ih]
  have e : (toI c == toI b) = (b == c) := by rw [toI_eq]; exact Bool.beq_comm ..
  rw [e]
  by_cases hb : (b == c) = true
  ·simp [hb]
  ·simp only [hb, if_neg, Bool.false_eq_true, false_or]
   by_cases h1 : Lib.indexByte l c = -1
   ·simp [h1]
   ·simp [h1]; omega
theorem sign_one (s : ByteArray) (h0 : 0 < s.size) (h : NoTwo s 4) : (Tok.signLen (bytesOf s) : Int) = if 0 ≤ (Lib.indexByte [40, 41, 58, 59, 44, 61, 43, 45, 42, 47, 37, 60] (s[0]'h0) : Int) then 1 else 0 := by
 have ht : ¬ Tok.two (bytesOf s) = true := by
  rw [two_iff]
  rintro ⟨x, hm, hx⟩
  obtain ⟨i, hi, e⟩ := List.getElem_of_mem hm
  have := h i x (by simpa using hi) (by rw [List.getElem?_eq_getElem hi, e])
  rw [this] at hx
  cases hx
 obtain ⟨c, r, hc⟩ : ∃ c r, bytesOf s = c :: r := by
  cases hb : bytesOf s with
  | nil => have := bytesOf_length s; rw [hb] at this; simp at this; omega
  | cons c r => exact ⟨c, r, rfl⟩
 have hc0 : c = toI (s[0]'h0) := by
  have : (bytesOf s)[0]? = some (toI (s[0]'h0)) := by
   have hl : 0 < (bytesOf s).length := by rw [bytesOf_length]; exact h0
   rw [List.getElem?_eq_getElem hl]
   simp [bytesOf, toI]
   rfl
  rw [hc] at this
  simpa using this
 unfold Tok.signLen
 rw [if_neg ht, hc]
 simp only
 have hi := index_nonneg [40, 41, 58, 59, 44, 61, 43, 45, 42, 47, 37, 60] (s[0]'h0)
 have hs : ([40, 41, 58, 59, 44, 61, 43, 45, 42, 47, 37, 60] : List UInt8).map toI = Tok.signs := by rfl
 rw [hs, ← hc0] at hi
 by_cases hx : 0 ≤ Lib.indexByte [40, 41, 58, 59, 44, 61, 43, 45, 42, 47, 37, 60] (s[0]'h0)
 ·rw [if_pos hx, if_pos (hi.1 hx)]; rfl
 ·rw [if_neg hx, if_neg (fun q => hx (hi.2 q))]; rfl
set_option maxHeartbeats 4000000 in
set_option maxRecDepth 100000 in
theorem ofSigns_walk (s : ByteArray) (w : World) (h0 : 0 < s.size) : Calls Tryd.prog 39 #[.string s] w fun e w' => e = .returned (.int .i64 (Tok.signLen (bytesOf s) : Nat)) ∧ w' = w := by
 go_enter Tryd.func39, Tryd.ntmps39
 go_wp2_with fail
 go_loopw [6] (fun iv wr => ∃ J : Int, iv = .int .i64 J ∧ wr = w ∧ ((J = 0 ∧ Hid (NoTwo s 0)) ∨ (J = 1 ∧ Hid (NoTwo s 1)) ∨ (J = 2 ∧ Hid (NoTwo s 2)) ∨ (J = 3 ∧ Hid (NoTwo s 3)) ∨ (J = 4 ∧ Hid (NoTwo s 4)))) (fun iv _ => 4 - (intOf iv).toNat)
 case atStart => exact ⟨0, rfl, rfl, .inl ⟨rfl, Lib.hid (NoTwo.zero s)⟩⟩
 case round =>
  obtain ⟨J, rfl, rfl, ⟨rfl, HN⟩ | ⟨rfl, HN⟩ | ⟨rfl, HN⟩ | ⟨rfl, HN⟩ | ⟨rfl, HN⟩⟩ := hrel
  ·have hix : ∀ W : World, (Instr.index 101 (Value.agg #[Value.string { data := #[60, 61] }, Value.string { data := #[61, 61] }, Value.string { data := #[33, 61] }, Value.string { data := #[45, 62] }]) (Value.int IntKind.i64 0)).run Tryd.prog W = .ok (.string { data := #[60, 61] }) W := fun W => by kernel_rfl
   go_wp2_with fail
   refine (Tryd.strings_HasPrefix s { data := #[60, 61] } _).mono ?_
   rintro _ _ ⟨rfl, rfl⟩
   cases hb : Lib.hasPrefix s.data.toList [60, 61] with
   | true =>
    have HB := Lib.hid hb
    clear hb
    go_wp2_with fail
    go_ret
    exact ⟨by rw [sign_two s [60, 61] (by simp) HB.out]; rfl, rfl⟩
   | false =>
    have HB := Lib.hid hb
    clear hb
    go_wp2_with fail
    exact ⟨⟨1, rfl, trivial, .inr (.inl ⟨rfl, Lib.hid (HN.out.next (x := [60, 61]) rfl HB.out)⟩)⟩, by simp [intOf]⟩
  ·have hix : ∀ W : World, (Instr.index 101 (Value.agg #[Value.string { data := #[60, 61] }, Value.string { data := #[61, 61] }, Value.string { data := #[33, 61] }, Value.string { data := #[45, 62] }]) (Value.int IntKind.i64 1)).run Tryd.prog W = .ok (.string { data := #[61, 61] }) W := fun W => by kernel_rfl
   go_wp2_with fail
   refine (Tryd.strings_HasPrefix s { data := #[61, 61] } _).mono ?_
   rintro _ _ ⟨rfl, rfl⟩
   cases hb : Lib.hasPrefix s.data.toList [61, 61] with
   | true =>
    have HB := Lib.hid hb
    clear hb
    go_wp2_with fail
    go_ret
    exact ⟨by rw [sign_two s [61, 61] (by simp) HB.out]; rfl, rfl⟩
   | false =>
    have HB := Lib.hid hb
    clear hb
    go_wp2_with fail
    exact ⟨⟨2, rfl, trivial, .inr (.inr (.inl ⟨rfl, Lib.hid (HN.out.next (x := [61, 61]) rfl HB.out)⟩))⟩, by simp [intOf]⟩
  ·have hix : ∀ W : World, (Instr.index 101 (Value.agg #[Value.string { data := #[60, 61] }, Value.string { data := #[61, 61] }, Value.string { data := #[33, 61] }, Value.string { data := #[45, 62] }]) (Value.int IntKind.i64 2)).run Tryd.prog W = .ok (.string { data := #[33, 61] }) W := fun W => by kernel_rfl
   go_wp2_with fail
   refine (Tryd.strings_HasPrefix s { data := #[33, 61] } _).mono ?_
   rintro _ _ ⟨rfl, rfl⟩
   cases hb : Lib.hasPrefix s.data.toList [33, 61] with
   | true =>
    have HB := Lib.hid hb
    clear hb
    go_wp2_with fail
    go_ret
    exact ⟨by rw [sign_two s [33, 61] (by simp) HB.out]; rfl, rfl⟩
   | false =>
    have HB := Lib.hid hb
    clear hb
    go_wp2_with fail
    exact ⟨⟨3, rfl, trivial, .inr (.inr (.inr (.inl ⟨rfl, Lib.hid (HN.out.next (x := [33, 61]) rfl HB.out)⟩)))⟩, by simp [intOf]⟩
  ·have hix : ∀ W : World, (Instr.index 101 (Value.agg #[Value.string { data := #[60, 61] }, Value.string { data := #[61, 61] }, Value.string { data := #[33, 61] }, Value.string { data := #[45, 62] }]) (Value.int IntKind.i64 3)).run Tryd.prog W = .ok (.string { data := #[45, 62] }) W := fun W => by kernel_rfl
   go_wp2_with fail
   refine (Tryd.strings_HasPrefix s { data := #[45, 62] } _).mono ?_
   rintro _ _ ⟨rfl, rfl⟩
   cases hb : Lib.hasPrefix s.data.toList [45, 62] with
   | true =>
    have HB := Lib.hid hb
    clear hb
    go_wp2_with fail
    go_ret
    exact ⟨by rw [sign_two s [45, 62] (by simp) HB.out]; rfl, rfl⟩
   | false =>
    have HB := Lib.hid hb
    clear hb
    go_wp2_with fail
    exact ⟨⟨4, rfl, trivial, .inr (.inr (.inr (.inr ⟨rfl, Lib.hid (HN.out.next (x := [45, 62]) rfl HB.out)⟩)))⟩, by simp [intOf]⟩
  ·go_wp2_with fail
   refine (Tryd.strings_IndexByte { data := #[40, 41, 58, 59, 44, 61, 43, 45, 42, 47, 37, 60] } _ _).mono ?_
   rintro _ _ ⟨rfl, rfl⟩
   have h1 := sign_one s h0 HN.out
   by_cases hi : 0 ≤ Lib.indexByte [40, 41, 58, 59, 44, 61, 43, 45, 42, 47, 37, 60] (s[0]'h0)
   ·rw [if_pos hi] at h1
    have H1 := Lib.hid h1
    clear h1
    go_wp2_with fail
    go_ret
    exact ⟨by rw [H1.out]; rfl, rfl⟩
   ·rw [if_neg hi] at h1
    have H1 := Lib.hid h1
    clear h1
    go_wp2_with fail
    go_ret
    exact ⟨by rw [H1.out]; rfl, rfl⟩
end Go.Proofs.YtbdciibbgiphcaaDoor

/- tokens.silent: walk. -/
namespace Go.Proofs.YtbdciibbgiphcaaDoor
set_option linter.unusedVariables false
set_option linter.unusedSimpArgs false
set_option linter.unusedSectionVars false
open Go.RowKit
open Go.Proofs.YtbdciibbgiphcaaDoorW.PrintWords
theorem toI_blank (b : UInt8) : Tok.blank (toI b) = [32, 9, 10, 13].contains b := by
 have h : ∀ c : UInt8, (toI b == toI c) = (b == c) := fun c => toI_eq b c
 have h1 := h 32; have h2 := h 9; have h3 := h 10; have h4 := h 13
 simp only [Tok.blank, List.contains_cons, List.contains_nil, Bool.or_false, ← h1, ← h2, ← h3, ← h4, Bool.or_assoc]
 rfl
theorem drop_map (p : UInt8 → Bool) (q : Int → Bool) (h : ∀ b, q (toI b) = p b) : ∀ l : List UInt8, (l.dropWhile p).map toI = (l.map toI).drop (Tok.tw q (l.map toI))
 | [] => rfl
 | b :: l => by
  rw [List.dropWhile_cons, List.map_cons]
  cases hb : p b with
  | true => rw [Tok.tw_yes _ (by rw [h, hb]), List.drop_succ_cons, if_pos rfl]; exact drop_map p q h l
  | false => rw [Tok.tw_no _ (by rw [h, hb]), List.drop_zero, if_neg (by simp)]; rfl
theorem index_ten : ∀ l : List UInt8, Lib.indexByte l 10 = if Tok.tw (fun c => c != 10) (l.map toI) = l.length then -1 else (Tok.tw (fun c => c != 10) (l.map toI) : Int)
 | [] => rfl
 | b :: l => by
  have ih := index_ten l
  have hle : Tok.tw (fun c => c != 10) (l.map toI) ≤ l.length := by have := Tok.tw_le (fun c => c != 10) (l.map toI); rwa [List.length_map] at this
  simp only [Lib.indexByte, List.map_cons]
  have e : (toI b == 10) = (b == 10) := toI_eq b 10
  by_cases hb : (b == 10) = true
  ·rw [if_pos hb, Tok.tw_no _ (by rw [bne, e, hb]; rfl), if_neg (by simp)]; rfl
  ·rw [if_neg hb, Tok.tw_yes _ (by rw [bne, e]; simp [hb]), List.length_cons, ih]
   by_cases hx : Tok.tw (fun c => c != 10) (l.map toI) = l.length
   ·rw [if_pos hx, if_pos (show Tok.tw (fun c => c != 10) (List.map toI l) + 1 = l.length + 1 by omega)]; rfl
   ·have hn : ¬ (((Tok.tw (fun c => c != 10) (List.map toI l) : Nat) : Int) == -1) = true := by rw [beq_iff_eq]; omega
    rw [if_neg hx, if_neg hn, if_neg (by omega)]; omega
def RestIs (s rest : ByteArray) : Prop := bytesOf rest = (bytesOf s).drop (Tok.tw Tok.blank (bytesOf s)) ∧ rest.size = s.size - Tok.tw Tok.blank (bytesOf s) ∧ Tok.tw Tok.blank (bytesOf s) ≤ s.size
theorem rest_is (s : ByteArray) : RestIs s ⟨(Lib.trimLeftS s.data.toList [32, 9, 10, 13]).toArray⟩ := by
 have e : bytesOf ⟨(Lib.trimLeftS s.data.toList [32, 9, 10, 13]).toArray⟩ = (bytesOf s).drop (Tok.tw Tok.blank (bytesOf s)) := drop_map _ _ toI_blank s.data.toList
 refine ⟨e, ?_, ?_⟩
 ·rw [← bytesOf_length, e, List.length_drop, bytesOf_length]
 ·rw [← bytesOf_length]; exact Tok.tw_le _ _
theorem dash_prefix (s : ByteArray) : Lib.hasPrefix s.data.toList [45, 45] = Tok.dash (bytesOf s) := (prefix_map [45, 45] s.data.toList).symm
def SilentPost (s : ByteArray) (w : World) (e : Ending) (w' : World) : Prop := e = .returned (.int .i64 (Tok.silentLen (bytesOf s) : Nat)) ∧ Below w.heap.size w w'
set_option maxHeartbeats 4000000 in
set_option maxRecDepth 100000 in
theorem silent_walk (s : ByteArray) (w : World) (hs : s.size ≤ 9223372036854775806) : Calls Tryd.prog 40 #[.string s] w (SilentPost s w) := by
 go_enter Tryd.func40, Tryd.ntmps40
 go_wp2_with fail
 refine (Any.strings_TrimLeft_laid Tryd.lays161 (by kernel_rfl) s ⟨#[32, 9, 10, 13]⟩ _ (by decide) (ascii_of_all (by decide))).mono ?_
 rintro _ w1 ⟨rfl, hb⟩
 have HB := Lib.hid hb
 clear hb
 have hr := rest_is s
 generalize (⟨(Lib.trimLeftS s.data.toList (ByteArray.mk #[32, 9, 10, 13]).data.toList).toArray⟩ : ByteArray) = rest at *
 go_wp2_with fail
 refine (Tryd.strings_HasPrefix rest { data := #[45, 45] } _).mono ?_
 rintro _ _ ⟨rfl, rfl⟩
 obtain ⟨hr1, hr2, hr3⟩ := hr
 have hsl := Tok.silent_eq (bytesOf s)
 rw [← hr1, ← dash_prefix] at hsl
 have hlt : Tok.tw (fun c => c != 10) (bytesOf rest) ≤ rest.size := by rw [← bytesOf_length]; exact Tok.tw_le _ _
 cases hd : Lib.hasPrefix rest.data.toList [45, 45] with
 | true =>
  rw [hd, if_pos rfl] at hsl
  have HS := Lib.hid hsl
  have HD := Lib.hid hd
  clear hd hsl
  have hi := index_ten rest.data.toList
  rw [← bytes_map, show rest.data.toList.length = rest.size by rfl] at hi
  generalize hn : Tok.tw (fun c => c != 10) (bytesOf rest) = n at *
  generalize hk : Tok.tw Tok.blank (bytesOf s) = k at *
  have HR := Lib.hid hr1
  clear hr1
  go_wp2_with fail
  refine (Tryd.strings_IndexByte rest _ _).mono ?_
  rintro _ _ ⟨rfl, rfl⟩
  by_cases hx : n = rest.size
  ·rw [if_pos hx] at hi
   have HI := Lib.hid hi
   clear hi
   rw [show (Int.toNat 10).toUInt8 = 10 from rfl, HI.out]
   go_wp2_with fail
   go_ret
   refine ⟨?_, HB.out⟩
   rw [HS.out]
   show Ending.returned (Value.int .i64 _) = _
   congr 2
   omega
  ·rw [if_neg hx] at hi
   have HI := Lib.hid hi
   clear hi
   rw [show (Int.toNat 10).toUInt8 = 10 from rfl, HI.out]
   go_wp2_with fail
   go_ret
   refine ⟨?_, HB.out⟩
   rw [HS.out]
   show Ending.returned (Value.int .i64 _) = _
   congr 2
   omega
 | false =>
  rw [hd, if_neg (by simp)] at hsl
  have HS := Lib.hid hsl
  have HD := Lib.hid hd
  clear hd hsl hr1
  generalize hk : Tok.tw Tok.blank (bytesOf s) = k at *
  go_wp2_with fail
  go_ret
  refine ⟨?_, HB.out⟩
  rw [HS.out]
  go_num
end Go.Proofs.YtbdciibbgiphcaaDoor

/- tokens.Read: the state of its walk, in plain words. -/
namespace Go.Proofs.YtbdciibbgiphcaaDoor.V
set_option linter.unusedVariables false
set_option linter.unusedSimpArgs false
set_option linter.unusedSectionVars false
open Go.RowKit Go.Proofs.YtbdciibbgiphcaaDoorW.PrintWords Go.Proofs.YtbdciibbgiphcaaDoorW.PrintLast Go.Proofs.YtbdciibbgiphcaaDoorW.PrintMore
/-- what is read, and what is read behind it. -/
def ahead (ts : List Tok.T) : Option (List Tok.T) × Nat → Option (List Tok.T) × Nat
 | (some us, q) => (some (ts ++ us), q)
 | (none, q) => (none, q)
/-- the walk's state: what was read, where it stands, the table of kinds. -/
structure ReadInv (s : ByteArray) (w wr : World) (v : Value) (ts : List Tok.T) (p : Nat) : Prop where
 hp : p ≤ s.size
 hn : ts.length ≤ p
 row : Kd.R k45 45 wr (w.heap.size + 1) (fun _ => True) v (ts.map toS)
 bel : Below (w.heap.size + 1) (w.alloc (.cells #[.int .u8 1, .func (.func 37) #[] #[], .int .u8 2, .func (.func 38) #[] #[], .int .u8 3, .func (.func 39) #[] #[]] 72)) wr
 goes : Tok.R (bytesOf s) 0 = ahead ts (Tok.R ((bytesOf s).drop p) p)
theorem ReadInv.step {s : ByteArray} {w wr w2 : World} {v : Value} {ts : List Tok.T} {p : Nat} (h : ReadInv s w wr v ts p) (hb : Below wr.heap.size wr w2) : ReadInv s w w2 v ts p :=
 ⟨h.hp, h.hn, Kd.R_below h.row hb, h.bel.trans (hb.mono (by have := h.bel.size; simpa using this)), h.goes⟩
theorem ReadInv.cells {s : ByteArray} {w wr : World} {v : Value} {ts : List Tok.T} {p : Nat} (h : ReadInv s w wr v ts p) : wr.heap[w.heap.size]? = some (.cells #[.int .u8 1, .func (.func 37) #[] #[], .int .u8 2, .func (.func 38) #[] #[], .int .u8 3, .func (.func 39) #[] #[]] 72) := by
 rw [h.bel.block _ (by omega)]
 exact heap_alloc_new w _
theorem ReadInv.cell {s : ByteArray} {w wr : World} {v : Value} {ts : List Tok.T} {p : Nat} (h : ReadInv s w wr v ts p) (j : Nat) : wr.cell? ⟨w.heap.size, j, none⟩ = (#[.int .u8 1, .func (.func 37) #[] #[], .int .u8 2, .func (.func 38) #[] #[], .int .u8 3, .func (.func 39) #[] #[]] : Array Value)[j]? := by
 simp [World.cell?, h.cells]
theorem drop_extract (s : ByteArray) (p : Nat) : bytesOf (s.extract p s.size) = (bytesOf s).drop p := by
 show ((s.extract p s.size).data.toList).map toI = (s.data.toList.map toI).drop p
 rw [Lib.extract_to_end, List.map_drop]
theorem extract_size (s : ByteArray) (p : Nat) : (s.extract p s.size).size = s.size - p := by
 rw [← bytesOf_length, drop_extract, List.length_drop, bytesOf_length]
theorem box_kept {wr w2 : World} {a b : Value} {t : TypeId} (hb : Below ((wr.alloc (.cells #[a, b] t)).drew).heap.size ((wr.alloc (.cells #[a, b] t)).drew) w2) :
  w2.heap[wr.heap.size]? = some (.cells #[a, b] t) ∧ Below wr.heap.size wr w2 := by
 have h1 : (wr.alloc (.cells #[a, b] t)).drew.heap[wr.heap.size]? = some (.cells #[a, b] t) := heap_alloc_new wr _
 have hs : (wr.alloc (.cells #[a, b] t)).drew.heap.size = wr.heap.size + 1 := by simp
 refine ⟨by rw [hb.block _ (by omega)]; exact h1, ?_⟩
 exact ((Below.refl wr.heap.size wr).alloc (Nat.le_refl _) _).drew.trans (hb.mono (by omega))
theorem cell_block {w : World} {g : Nat} {cs : Array Value} {t : TypeId} (h : w.heap[g]? = some (.cells cs t)) (j : Nat) : w.cell? ⟨g, j, none⟩ = cs[j]? := by
 simp [World.cell?, h]
theorem ahead_put (ts : List Tok.T) (t : Tok.T) (x : Option (List Tok.T) × Nat) : ahead ts (Tok.put t x) = ahead (ts ++ [t]) x := by
 rcases x with ⟨_ | us, q⟩
 ·rfl
 ·simp [ahead, Tok.put]
theorem ofB_take (s : ByteArray) (p m : Nat) : ofB (((bytesOf s).drop p).take m) = s.extract p (p + m) := by
 have h1 : (s.extract p (p + m)).data.toList = (s.data.toList.drop p).take m := by rw [Lib.extract_data]; congr 1; omega
 have h2 : ((bytesOf s).drop p).take m = ((s.data.toList.drop p).take m).map toI := by rw [bytes_map, List.map_take, List.map_drop]
 have h3 : ∀ l : List UInt8, (l.map toI).map (fun c => UInt8.ofNat c.toNat) = l := by
  intro l
  rw [List.map_map]
  conv => rhs; rw [← List.map_id l]
  apply List.map_congr_left
  intro b _
  simp [toI]
 unfold ofB
 rw [h2, h3, ← h1]
theorem ReadInv.skip {s : ByteArray} {w wr : World} {v : Value} {ts : List Tok.T} {p n : Nat} (h : ReadInv s w wr v ts p) (hn : n = Tok.silentLen ((bytesOf s).drop p)) (h0 : 0 < n) : ReadInv s w wr v ts (p + n) := by
 have hle := Tok.silentLen_le ((bytesOf s).drop p)
 rw [← hn, List.length_drop, bytesOf_length] at hle
 have := h.hp
 refine ⟨by omega, by have := h.hn; omega, h.row, h.bel, ?_⟩
 rw [h.goes]
 congr 1
 have hd : (bytesOf s).drop (p + n) = ((bytesOf s).drop p).drop n := by rw [List.drop_drop]
 rw [hd]
 cases hx : (bytesOf s).drop p with
 | nil => rw [hx, Tok.silent_nil] at hn; omega
 | cons c r => rw [hx] at hn; rw [Tok.R_silent p (by omega), hn]
theorem ReadInv.take {s : ByteArray} {w wr w3 : World} {v v1 : Value} {ts : List Tok.T} {p m : Nat} {k : Int} (h : ReadInv s w wr v ts p) (hs : Tok.silentLen ((bytesOf s).drop p) = 0) (hh : Tok.head ((bytesOf s).drop p) = (k, m)) (h0 : 0 < m)
  (hrow : Kd.R k45 45 w3 (w.heap.size + 1) (fun _ => True) v1 (ts.map toS ++ [⟨k, s.extract p (p + m), p⟩])) (hb : Below (w.heap.size + 1) (w.alloc (.cells #[.int .u8 1, .func (.func 37) #[] #[], .int .u8 2, .func (.func 38) #[] #[], .int .u8 3, .func (.func 39) #[] #[]] 72)) w3) :
  ReadInv s w w3 v1 (ts ++ [⟨k, ((bytesOf s).drop p).take m, p⟩]) (p + m) := by
 have hle := Tok.head_le ((bytesOf s).drop p)
 rw [hh, List.length_drop, bytesOf_length] at hle
 simp only at hle
 have hp := h.hp
 refine ⟨by omega, by have := h.hn; rw [List.length_append]; simp; omega, ?_, hb, ?_⟩
 ·rw [List.map_append]
  simp only [List.map_cons, List.map_nil, toS, ofB_take]
  exact hrow
 ·rw [h.goes]
  have hd : (bytesOf s).drop (p + m) = ((bytesOf s).drop p).drop m := by rw [List.drop_drop]
  rw [hd]
  cases hx : (bytesOf s).drop p with
  | nil => rw [hx] at hh; have : Tok.head [] = (3, 0) := rfl; rw [this] at hh; injection hh with _ h2; omega
  | cons c r =>
   rw [hx] at hs hh
   rw [Tok.R_head p hs (by rw [hh]; exact h0), hh, ahead_put]
theorem ReadInv.none {s : ByteArray} {w wr : World} {v : Value} {ts : List Tok.T} {p : Nat} (h : ReadInv s w wr v ts p) (hp : p < s.size) (hs : Tok.silentLen ((bytesOf s).drop p) = 0) (hh : (Tok.head ((bytesOf s).drop p)).2 = 0) : readOf (Tok.R (bytesOf s) 0) = ([], (p : Int), 5) := by
 rw [h.goes]
 cases hx : (bytesOf s).drop p with
 | nil =>
  have : ((bytesOf s).drop p).length = 0 := by rw [hx]; rfl
  rw [List.length_drop, bytesOf_length] at this; omega
 | cons c r => rw [hx] at hs hh; rw [Tok.R_none p hs hh]; rfl
theorem ReadInv.done {s : ByteArray} {w wr : World} {v : Value} {ts : List Tok.T} {p : Nat} (h : ReadInv s w wr v ts p) (hp : ¬ p < s.size) : readOf (Tok.R (bytesOf s) 0) = (ts.map toS, 0, 0) := by
 rw [h.goes, List.drop_eq_nil_of_le (by rw [bytesOf_length]; omega), Tok.R_nil]
 simp [ahead, readOf]
theorem ReadInv.kept {s : ByteArray} {w wr : World} {v : Value} {ts : List Tok.T} {p : Nat} (h : ReadInv s w wr v ts p) : Below w.heap.size w wr :=
 ((Below.refl w.heap.size w).alloc (Nat.le_refl _) _).trans (h.bel.mono (by omega))
def ReadPost (s : ByteArray) (w : World) (e : Ending) (w' : World) : Prop := ∃ v, e = .returned (.tuple #[v, .int .i64 (readOf (Tok.R (bytesOf s) 0)).2.1, .int .i64 (readOf (Tok.R (bytesOf s) 0)).2.2]) ∧ Kd.R k45 45 w' w.heap.size (fun _ => True) v (readOf (Tok.R (bytesOf s) 0)).1 ∧ Below w.heap.size w w'
theorem below_of_eq {w w' : World} (h : w' = w) : Below w.heap.size w w' := h ▸ Below.refl _ _
theorem slice_fact0 (s : ByteArray) (l h : Int) (h0 : 0 ≤ l) (h1 : l ≤ h) (h2 : h ≤ s.size) (W : World) : (Instr.slice 9 (.string s) (some (.int .i64 l)) (some (.int .i64 h)) none).run Tryd.prog W = .ok (.string (s.extract l.toNat h.toNat)) W := by
 have eh : (h.toNat : Int) = h := Int.toNat_of_nonneg (by omega)
 simp [Instr.slice, run_underlying Tryd.underlying9, Instr.sliceBounds, run_sliceBound, *, eh, (by omega : 0 ≤ l), (by omega : 0 ≤ h)]
theorem slice_fact (s : ByteArray) (p m : Nat) (h : p + m ≤ s.size) (hs : s.size ≤ 65536) (W : World) : (Instr.slice 9 (.string s) (some (.int .i64 p)) (some (.int .i64 (IntKind.i64.wrap ((p : Int) + (m : Int))))) none).run Tryd.prog W = .ok (.string (s.extract p (p + m))) W := by
 have e : IntKind.i64.wrap ((p : Int) + (m : Int)) = ((p + m : Nat) : Int) := by
  rw [i64_w]
  unfold wrap64; omega
 rw [e, slice_fact0 s p ((p + m : Nat) : Int) (by omega) (by omega) (by omega)]
 rfl
end Go.Proofs.YtbdciibbgiphcaaDoor.V

/- tokens.Read: walk. Printed by wip/tokens/rdw.py. -/
namespace Go.Proofs.YtbdciibbgiphcaaDoor.V
set_option linter.unusedVariables false
set_option linter.unusedSimpArgs false
set_option linter.unusedSectionVars false
open Go.RowKit Go.Proofs.YtbdciibbgiphcaaDoorW.PrintWords Go.Proofs.YtbdciibbgiphcaaDoorW.PrintLast Go.Proofs.YtbdciibbgiphcaaDoorW.PrintMore
set_option maxHeartbeats 8000000 in
set_option maxRecDepth 100000 in
theorem read_walk (s : ByteArray) (w : World) (hs : s.size ≤ 65536) : Calls Tryd.prog 21 #[.string s] w (ReadPost s w) := by
 have hd1 : decide (65536 < (s.size : Int)) = false := decide_eq_false (by omega)
 have hd2 : decide (65536 < s.size) = false := decide_eq_false (by omega)
 go_enter Tryd.func21, Tryd.ntmps21
 go_wp2_with fail
 apply wp_scope_straight
 go_wp2_with fail
 apply wp_label
 go_wp2_with fail
 go_loopw [2, 3] (fun v2 v3 wr => ∃ (ts : List Tok.T) (p : Nat) (A : Option Addr) (c : Nat), v2 = .slice A ts.length c ∧ v3 = .int .i64 p ∧ Hid (ReadInv s w wr (.slice A ts.length c) ts p)) (fun _ v3 _ => s.size - (intOf v3).toNat)
 case atStart =>
  refine ⟨[], 0, none, 0, rfl, rfl, Lib.hid ⟨Nat.zero_le _, Nat.zero_le _, Kd.R_nil _ _ _ _ _, ?_, ?_⟩⟩
  ·exact Below.refl _ _
  ·rw [List.drop_zero]; rcases Tok.R (bytesOf s) 0 with ⟨_ | us, q⟩ <;> rfl
 case round =>
  obtain ⟨ts, p, A, c, rfl, rfl, HI⟩ := hrel
  by_cases hlt : p < s.size
  ·have hde := Lib.hid (drop_extract s p)
   have hsz := extract_size s p
   go_wp2_with fail
   refine (silent_walk (s.extract p s.size) _ (by omega)).mono ?_
   rintro _ w1 ⟨rfl, hb1⟩
   have HI1 := Lib.hid (HI.out.step hb1)
   clear HI hb1
   have hsl := Tok.silentLen_le (bytesOf (s.extract p s.size))
   rw [bytesOf_length, hsz] at hsl
   obtain ⟨n, hn⟩ : ∃ n, n = Tok.silentLen (bytesOf (s.extract p s.size)) := ⟨_, rfl⟩
   rw [← hn] at hsl ⊢
   have HN := Lib.hid hn
   clear hn
   by_cases h0 : 0 < n
   ·have HI2 := Lib.hid (HI1.out.skip (n := n) (by rw [HN.out, hde.out]) h0)
    clear HI1
    go_wp2_with fail
    exact ⟨⟨ts, p + n, A, c, rfl, by go_num, HI2⟩, by simp [intOf]; omega⟩
   ·obtain rfl : n = 0 := by omega
    have c0 := HI1.out.cell 0
    have c1 := HI1.out.cell 1
    have c2 := HI1.out.cell 2
    have c3 := HI1.out.cell 3
    have c4 := HI1.out.cell 4
    have c5 := HI1.out.cell 5
    dsimp at c0 c1 c2 c3 c4 c5
    go_wp2_with fail
    clear c0 c1 c2 c3 c4 c5
    go_loopw [2, 3, 31] (fun v2 v3 v31 wr2 => ∃ (J : Int), v2 = .slice A ts.length c ∧ v3 = .int .i64 p ∧ v31 = .int .i64 J ∧ Hid (ReadInv s w wr2 (.slice A ts.length c) ts p) ∧ ((J = 0 ∧ True) ∨ (J = 1 ∧ Hid (Tok.wordLen (bytesOf (s.extract p s.size)) = 0)) ∨ (J = 2 ∧ Hid (Tok.wordLen (bytesOf (s.extract p s.size)) = 0 ∧ Tok.numLen (bytesOf (s.extract p s.size)) = 0)) ∨ (J = 3 ∧ Hid (Tok.wordLen (bytesOf (s.extract p s.size)) = 0 ∧ Tok.numLen (bytesOf (s.extract p s.size)) = 0 ∧ Tok.signLen (bytesOf (s.extract p s.size)) = 0)))) (fun _ _ v31 _ => 3 - (intOf v31).toNat)
    case atStart => exact ⟨0, rfl, rfl, rfl, HI1, .inl ⟨rfl, trivial⟩⟩
    case round =>
     clear HI1
     obtain ⟨J, rfl, rfl, rfl, HI, ⟨rfl, HZ⟩ | ⟨rfl, HZ⟩ | ⟨rfl, HZ⟩ | ⟨rfl, HZ⟩⟩ := hrel
     ·have hix : ∀ W : World, (Instr.index 72 (Value.agg #[Value.int IntKind.u8 1, Value.func (Fn.func 37) #[] #[], Value.int IntKind.u8 2, Value.func (Fn.func 38) #[] #[], Value.int IntKind.u8 3, Value.func (Fn.func 39) #[] #[]]) (Value.int IntKind.i64 0)).run Tryd.prog W = .ok (.agg #[Value.int IntKind.u8 1, Value.func (Fn.func 37) #[] #[]]) W := fun W => by kernel_rfl
      go_wp2_with fail
      have hp1 : (0 : Int) ≤ (p : Int) := by omega
      have hp2 : (p : Int) ≤ (s.size : Int) := by omega
      go_region_held3 (fun w' => w'.cell? ⟨wr.heap.size, 1, none⟩ = some (.func (.func 37) #[] #[])) (first | assumption | go_keep) (first | (go_at_call 37; refine (ofWord_walk (s.extract p s.size) _ (by omega)).mono ?_; rintro e w2 ⟨rfl, hb2⟩; obtain ⟨hk, hb3⟩ := box_kept hb2; have hk0 := cell_block hk 0; have hk1 := cell_block hk 1; dsimp at hk0 hk1))
      clear hb2 hix
      rw [pre_word]
      have hml := Tok.wordLen_le (bytesOf (s.extract p s.size))
      rw [bytesOf_length, hsz] at hml
      obtain ⟨m, hm⟩ : ∃ m, m = Tok.wordLen (bytesOf (s.extract p s.size)) := ⟨_, rfl⟩
      rw [← hm] at hml ⊢
      have HM := Lib.hid hm
      clear hm
      have HI2 := Lib.hid (HI.out.step hb3)
      have hne : some wr.heap.size ≠ (Value.slice A ts.length c).ownBlock := fun e => absurd (Kd.R_lt HI.out.row _ e.symm) (by omega)
      have hB2 : w.heap.size + 1 ≤ w2.heap.size := by have := HI2.out.bel.size; simpa using this
      clear HI hb3
      by_cases hm0 : 0 < m
      ·have hh : Tok.head ((bytesOf s).drop p) = (1, m) := by rw [← hde.out]; unfold Tok.head; rw [← HM.out, if_pos hm0]
       have hss : Tok.silentLen ((bytesOf s).drop p) = 0 := by rw [← hde.out]; exact HN.out.symm
       have HH := Lib.hid hh
       have HSS := Lib.hid hss
       clear hh hss
       have htl := HI2.out.hn
       go_wp2_with fail
       have hrd : Kd.R k45 45 w2.drew (w.heap.size + 1) (fun _ => True) (.slice A ts.length c) (ts.map toS) := Kd.R_drew HI2.out.row
       have hbd := HI2.out.bel.drew
       have hsf := slice_fact s p m (by omega) hs
       go_region_held3 (fun w' => w'.cell? ⟨wr.heap.size, 0, none⟩ = some (.int .u8 1)) (first | trivial | assumption | go_keep) (first | (refine Kd.R_append_step k45 (w0 := w.alloc (.cells #[.int .u8 1, .func (.func 37) #[] #[], .int .u8 2, .func (.func 38) #[] #[], .int .u8 3, .func (.func 39) #[] #[]] 72)) (W := w2.drew) (w.heap.size + 1) rfl (.tmp 42) (.tmp 53) 38 45 (.agg #[.int .u8 0, .string ⟨#[]⟩, .int .i64 0]) 32 rfl Tryd.underlying38 info45 rfl (by decide) (by omega) (.slice A ts.length c) (ts.map toS) (⟨1, s.extract p (p + m), p⟩ : S45) [.int .u8 1, .string (s.extract p (p + m)), .int .i64 p] (fun _ => True) (fun _ => False) rfl rfl (k45_mkM _ _ _ (⟨1, s.extract p (p + m), p⟩ : S45)) (fun _ h => h.elim) (fun _ _ => trivial) hrd hbd (by simpa using hB2) (by rw [List.length_map]; omega) ?_; intro v1 w3 hrow hbel hg hat; have hk9 := hg.cell (a := ⟨wr.heap.size, 0, none⟩) (by simpa using hk0) hne; clear hg hat))
       have HI3 := Lib.hid (HI2.out.take HSS.out HH.out hm0 hrow hbel)
       clear hrow hbel hrd hbd HI2
       obtain ⟨A3, c3, hv3⟩ := Kd.R_slice HI3.out.row
       rw [List.length_map] at hv3
       subst hv3
       go_wp2_with fail
       exact ⟨⟨ts ++ [⟨1, ((bytesOf s).drop p).take m, p⟩], p + m, A3, c3, rfl, by go_num, HI3⟩, by simp [intOf]; omega⟩
      ·obtain rfl : m = 0 := by omega
       go_wp2_with fail
       exact ⟨⟨1, rfl, rfl, rfl, HI2, .inr (.inl ⟨rfl, Lib.hid HM.out.symm⟩)⟩, by simp [intOf]⟩
     ·have hix : ∀ W : World, (Instr.index 72 (Value.agg #[Value.int IntKind.u8 1, Value.func (Fn.func 37) #[] #[], Value.int IntKind.u8 2, Value.func (Fn.func 38) #[] #[], Value.int IntKind.u8 3, Value.func (Fn.func 39) #[] #[]]) (Value.int IntKind.i64 1)).run Tryd.prog W = .ok (.agg #[Value.int IntKind.u8 2, Value.func (Fn.func 38) #[] #[]]) W := fun W => by kernel_rfl
      go_wp2_with fail
      have hp1 : (0 : Int) ≤ (p : Int) := by omega
      have hp2 : (p : Int) ≤ (s.size : Int) := by omega
      go_region_held3 (fun w' => w'.cell? ⟨wr.heap.size, 1, none⟩ = some (.func (.func 38) #[] #[])) (first | assumption | go_keep) (first | (go_at_call 38; refine (ofNumber_walk (s.extract p s.size) _ (by omega)).mono ?_; rintro e w2 ⟨rfl, hb2⟩; obtain ⟨hk, hb3⟩ := box_kept hb2; have hk0 := cell_block hk 0; have hk1 := cell_block hk 1; dsimp at hk0 hk1))
      clear hb2 hix
      skip
      have hml := Tok.numLen_le (bytesOf (s.extract p s.size))
      rw [bytesOf_length, hsz] at hml
      obtain ⟨m, hm⟩ : ∃ m, m = Tok.numLen (bytesOf (s.extract p s.size)) := ⟨_, rfl⟩
      rw [← hm] at hml ⊢
      have HM := Lib.hid hm
      clear hm
      have HI2 := Lib.hid (HI.out.step hb3)
      have hne : some wr.heap.size ≠ (Value.slice A ts.length c).ownBlock := fun e => absurd (Kd.R_lt HI.out.row _ e.symm) (by omega)
      have hB2 : w.heap.size + 1 ≤ w2.heap.size := by have := HI2.out.bel.size; simpa using this
      clear HI hb3
      by_cases hm0 : 0 < m
      ·have hh : Tok.head ((bytesOf s).drop p) = (2, m) := by rw [← hde.out]; unfold Tok.head; rw [← HM.out, HZ.out, if_neg (Nat.lt_irrefl 0), if_pos hm0]
       have hss : Tok.silentLen ((bytesOf s).drop p) = 0 := by rw [← hde.out]; exact HN.out.symm
       have HH := Lib.hid hh
       have HSS := Lib.hid hss
       clear hh hss
       have htl := HI2.out.hn
       go_wp2_with fail
       have hrd : Kd.R k45 45 w2.drew (w.heap.size + 1) (fun _ => True) (.slice A ts.length c) (ts.map toS) := Kd.R_drew HI2.out.row
       have hbd := HI2.out.bel.drew
       have hsf := slice_fact s p m (by omega) hs
       go_region_held3 (fun w' => w'.cell? ⟨wr.heap.size, 0, none⟩ = some (.int .u8 2)) (first | trivial | assumption | go_keep) (first | (refine Kd.R_append_step k45 (w0 := w.alloc (.cells #[.int .u8 1, .func (.func 37) #[] #[], .int .u8 2, .func (.func 38) #[] #[], .int .u8 3, .func (.func 39) #[] #[]] 72)) (W := w2.drew) (w.heap.size + 1) rfl (.tmp 42) (.tmp 53) 38 45 (.agg #[.int .u8 0, .string ⟨#[]⟩, .int .i64 0]) 32 rfl Tryd.underlying38 info45 rfl (by decide) (by omega) (.slice A ts.length c) (ts.map toS) (⟨2, s.extract p (p + m), p⟩ : S45) [.int .u8 2, .string (s.extract p (p + m)), .int .i64 p] (fun _ => True) (fun _ => False) rfl rfl (k45_mkM _ _ _ (⟨2, s.extract p (p + m), p⟩ : S45)) (fun _ h => h.elim) (fun _ _ => trivial) hrd hbd (by simpa using hB2) (by rw [List.length_map]; omega) ?_; intro v1 w3 hrow hbel hg hat; have hk9 := hg.cell (a := ⟨wr.heap.size, 0, none⟩) (by simpa using hk0) hne; clear hg hat))
       have HI3 := Lib.hid (HI2.out.take HSS.out HH.out hm0 hrow hbel)
       clear hrow hbel hrd hbd HI2
       obtain ⟨A3, c3, hv3⟩ := Kd.R_slice HI3.out.row
       rw [List.length_map] at hv3
       subst hv3
       go_wp2_with fail
       exact ⟨⟨ts ++ [⟨2, ((bytesOf s).drop p).take m, p⟩], p + m, A3, c3, rfl, by go_num, HI3⟩, by simp [intOf]; omega⟩
      ·obtain rfl : m = 0 := by omega
       go_wp2_with fail
       exact ⟨⟨2, rfl, rfl, rfl, HI2, .inr (.inr (.inl ⟨rfl, Lib.hid ⟨HZ.out, HM.out.symm⟩⟩))⟩, by simp [intOf]⟩
     ·have hix : ∀ W : World, (Instr.index 72 (Value.agg #[Value.int IntKind.u8 1, Value.func (Fn.func 37) #[] #[], Value.int IntKind.u8 2, Value.func (Fn.func 38) #[] #[], Value.int IntKind.u8 3, Value.func (Fn.func 39) #[] #[]]) (Value.int IntKind.i64 2)).run Tryd.prog W = .ok (.agg #[Value.int IntKind.u8 3, Value.func (Fn.func 39) #[] #[]]) W := fun W => by kernel_rfl
      go_wp2_with fail
      have hp1 : (0 : Int) ≤ (p : Int) := by omega
      have hp2 : (p : Int) ≤ (s.size : Int) := by omega
      go_region_held3 (fun w' => w'.cell? ⟨wr.heap.size, 1, none⟩ = some (.func (.func 39) #[] #[])) (first | assumption | go_keep) (first | (go_at_call 39; refine (ofSigns_walk (s.extract p s.size) _ (by omega)).mono ?_; rintro e w2 ⟨rfl, hw2⟩; have hb2 := below_of_eq hw2; clear hw2; obtain ⟨hk, hb3⟩ := box_kept hb2; have hk0 := cell_block hk 0; have hk1 := cell_block hk 1; dsimp at hk0 hk1))
      clear hb2 hix
      skip
      have hml := Tok.signLen_le (bytesOf (s.extract p s.size))
      rw [bytesOf_length, hsz] at hml
      obtain ⟨m, hm⟩ : ∃ m, m = Tok.signLen (bytesOf (s.extract p s.size)) := ⟨_, rfl⟩
      rw [← hm] at hml ⊢
      have HM := Lib.hid hm
      clear hm
      have HI2 := Lib.hid (HI.out.step hb3)
      have hne : some wr.heap.size ≠ (Value.slice A ts.length c).ownBlock := fun e => absurd (Kd.R_lt HI.out.row _ e.symm) (by omega)
      have hB2 : w.heap.size + 1 ≤ w2.heap.size := by have := HI2.out.bel.size; simpa using this
      clear HI hb3
      by_cases hm0 : 0 < m
      ·have hh : Tok.head ((bytesOf s).drop p) = (3, m) := by rw [← hde.out]; unfold Tok.head; rw [← HM.out, HZ.out.1, HZ.out.2, if_neg (Nat.lt_irrefl 0), if_neg (Nat.lt_irrefl 0)]
       have hss : Tok.silentLen ((bytesOf s).drop p) = 0 := by rw [← hde.out]; exact HN.out.symm
       have HH := Lib.hid hh
       have HSS := Lib.hid hss
       clear hh hss
       have htl := HI2.out.hn
       go_wp2_with fail
       have hrd : Kd.R k45 45 w2.drew (w.heap.size + 1) (fun _ => True) (.slice A ts.length c) (ts.map toS) := Kd.R_drew HI2.out.row
       have hbd := HI2.out.bel.drew
       have hsf := slice_fact s p m (by omega) hs
       go_region_held3 (fun w' => w'.cell? ⟨wr.heap.size, 0, none⟩ = some (.int .u8 3)) (first | trivial | assumption | go_keep) (first | (refine Kd.R_append_step k45 (w0 := w.alloc (.cells #[.int .u8 1, .func (.func 37) #[] #[], .int .u8 2, .func (.func 38) #[] #[], .int .u8 3, .func (.func 39) #[] #[]] 72)) (W := w2.drew) (w.heap.size + 1) rfl (.tmp 42) (.tmp 53) 38 45 (.agg #[.int .u8 0, .string ⟨#[]⟩, .int .i64 0]) 32 rfl Tryd.underlying38 info45 rfl (by decide) (by omega) (.slice A ts.length c) (ts.map toS) (⟨3, s.extract p (p + m), p⟩ : S45) [.int .u8 3, .string (s.extract p (p + m)), .int .i64 p] (fun _ => True) (fun _ => False) rfl rfl (k45_mkM _ _ _ (⟨3, s.extract p (p + m), p⟩ : S45)) (fun _ h => h.elim) (fun _ _ => trivial) hrd hbd (by simpa using hB2) (by rw [List.length_map]; omega) ?_; intro v1 w3 hrow hbel hg hat; have hk9 := hg.cell (a := ⟨wr.heap.size, 0, none⟩) (by simpa using hk0) hne; clear hg hat))
       have HI3 := Lib.hid (HI2.out.take HSS.out HH.out hm0 hrow hbel)
       clear hrow hbel hrd hbd HI2
       obtain ⟨A3, c3, hv3⟩ := Kd.R_slice HI3.out.row
       rw [List.length_map] at hv3
       subst hv3
       go_wp2_with fail
       exact ⟨⟨ts ++ [⟨3, ((bytesOf s).drop p).take m, p⟩], p + m, A3, c3, rfl, by go_num, HI3⟩, by simp [intOf]; omega⟩
      ·obtain rfl : m = 0 := by omega
       go_wp2_with fail
       exact ⟨⟨3, rfl, rfl, rfl, HI2, .inr (.inr (.inr ⟨rfl, Lib.hid ⟨HZ.out.1, HZ.out.2, HM.out.symm⟩⟩))⟩, by simp [intOf]⟩
     ·have hnn := HI.out.none hlt (by rw [← hde.out]; exact HN.out.symm) (by rw [← hde.out]; unfold Tok.head; rw [HZ.out.1, HZ.out.2.1, HZ.out.2.2]; rfl)
      have HNN := Lib.hid hnn
      clear hnn
      go_wp2_with fail
      go_ret3
      refine ⟨.slice none 0 0, by rw [HNN.out]; rfl, by rw [HNN.out]; exact Kd.R_nil _ _ _ _ _, HI.out.kept⟩
  ·have hnn := HI.out.done hlt
   have HNN := Lib.hid hnn
   clear hnn
   go_wp2_with fail
   go_ret3
   refine ⟨.slice A ts.length c, by rw [HNN.out]; rfl, by rw [HNN.out]; exact Kd.R_lower HI.out.row (Nat.le_succ _), HI.out.kept⟩
end Go.Proofs.YtbdciibbgiphcaaDoor.V

/- tokens.Number: walk, and its contract for the printed texts. -/
namespace Go.Proofs.YtbdciibbgiphcaaDoor.V
set_option linter.unusedVariables false
set_option linter.unusedSimpArgs false
set_option linter.unusedSectionVars false
open Go.RowKit
open Go.Proofs.YtbdciibbgiphcaaDoorW.PrintWords
theorem errRange_named : Tryd.prog.globalNamed "strconv.ErrRange" = some 7 := by kernel_rfl
theorem VarOk.step {w0 w : World} (h : VarOk w0) (hb : Below w0.heap.size w0 w) : VarOk w := by
 obtain ⟨tp, p, hv⟩ := h
 refine ⟨tp, p, ?_⟩
 have hlt : 7 < w0.heap.size := by
  unfold World.var? at hv
  simp only [errRange_named, Option.bind_some] at hv
  rcases hx : w0.heap[7]? with _ | o
  ·rw [hx] at hv; simp at hv
  ·exact (Array.getElem?_eq_some_iff.1 hx).1
 exact var?_below hb errRange_named hlt hv
def NumPost (s : ByteArray) (r : Option (Int × Int)) (w : World) (e : Ending) (w' : World) : Prop := ∃ x y, r = some (x, y) ∧ e = .returned (.tuple #[.int .i64 x, .int .i64 y]) ∧ Below w.heap.size w w'
set_option maxHeartbeats 4000000 in
set_option maxRecDepth 100000 in
theorem number_walk (s : ByteArray) (w : World) (hs : s.size ≤ 281474976710656) (hv : VarOk w) (hsy : numberOf s ≠ none) : Calls Tryd.prog 96 #[.string s] w (NumPost s (numberOf s) w) := by
 have hne1 := hsy
 by_cases h0 : s.size = 0
 ·have he : s.toList = [] := by rw [ByteArray.toList_eq]; exact List.eq_nil_of_length_eq_zero (by rw [data_length]; exact h0)
  have hn : numberOf s = some (0, 5) := by unfold numberOf; rw [if_neg (fun q => by omega)]
  rw [hn]
  have he2 : (s.toList == ([] : List UInt8)) = true := by rw [he]; rfl
  go_enter Tryd.func96, Tryd.ntmps96
  go_wp2_with fail
  go_ret2
  exact ⟨0, 5, rfl, rfl, Below.refl _ _⟩
 ·have he : ¬ s.toList = [] := fun q => h0 (by rw [ByteArray.toList_eq] at q; rw [← data_length, q]; rfl)
  have he2 : (s.toList == ([] : List UInt8)) = false := beq_eq_false_iff_ne.mpr he
  have he3 : s.toList.isEmpty = false := by cases hx : s.toList with | nil => exact absurd hx he | cons _ _ => rfl
  by_cases hl : Tok.numLen (bytesOf s) = s.size
  ·have hl2 : (((Tok.numLen (bytesOf s) : Nat) : Int) != (s.size : Int)) = false := by rw [hl]; simp
   rcases hp : Lib.parseIntB 64 s.data.toList with v | _ | _
   ·have hn : numberOf s = some (v, 0) := by unfold numberOf; rw [if_pos ⟨by omega, hl⟩, hp]
    rw [hn]
    clear hsy hne1 hn
    go_enter Tryd.func96, Tryd.ntmps96
    go_wp2_with fail
    refine (ofNumber_walk s _ (by omega)).mono ?_
    rintro _ w1 ⟨rfl, hb1⟩
    go_wp2_with fail
    refine (Tryd.strconv_ParseInt_10_at64_ok s (by omega) v hp _).mono ?_
    rintro _ w2 ⟨rfl, hb2⟩
    have hb3 : Below w.heap.size w w2 := by
     rcases hb2 with rfl | ⟨t, rfl⟩
     ·exact hb1
     ·exact below_step hb1 (Lib.bytesWorld_below _ _ _)
    clear hb2
    go_wp2_with fail
    go_ret2
    exact ⟨v, 0, rfl, rfl, hb3⟩
   ·have hn : numberOf s = none := by unfold numberOf; rw [if_pos ⟨by omega, hl⟩, hp]
    exact absurd hn hsy
   ·have hn : numberOf s = some (0, 3) := by unfold numberOf; rw [if_pos ⟨by omega, hl⟩, hp]
    rw [hn]
    clear hsy hne1 hn
    go_enter Tryd.func96, Tryd.ntmps96
    go_wp2_with fail
    refine (ofNumber_walk s _ (by omega)).mono ?_
    rintro _ w1 ⟨rfl, hb1⟩
    obtain ⟨tp, pv, hv1⟩ := hv.step hb1
    go_wp2_with fail
    refine (Tryd.strconv_ParseInt_10_at64_range_var s hs hp tp pv w1 hv1).mono ?_
    rintro _ w2 ⟨N, rfl, -, -, hb2⟩
    have hb3 : Below w.heap.size w w2 := below_step hb1 hb2
    clear hb2
    go_wp2_with fail
    go_ret2
    exact ⟨0, 3, rfl, rfl, hb3⟩
  ·have hl2 : (((Tok.numLen (bytesOf s) : Nat) : Int) != (s.size : Int)) = true := by rw [bne_iff_ne]; omega
   have hn : numberOf s = some (0, 5) := by unfold numberOf; rw [if_neg (fun q => hl q.2)]
   rw [hn]
   clear hsy hne1 hn
   go_enter Tryd.func96, Tryd.ntmps96
   go_wp2_with fail
   refine (ofNumber_walk s _ (by omega)).mono ?_
   rintro _ w1 ⟨rfl, hb1⟩
   go_wp2_with fail
   go_ret2
   exact ⟨0, 5, rfl, rfl, hb1⟩
theorem tokens_Number.callsB (a0 : ByteArray) (r1 : Int) (r2 : Int) (w : World) {w0 : World} (hv : VarOk w0) (hb : Below w0.heap.size w0 w) (h : tokens_Number.f a0 = some (r1, r2)) :
  Calls Tryd.prog 96 #[.string a0] w fun e w' => e = .returned (.tuple #[.int .i64 r1, .int .i64 r2]) ∧ Below w.heap.size w w' := by
 unfold tokens_Number.f at h
 split at h
 ·rename_i hs
  refine (number_walk a0 w hs (hv.step hb) (by rw [h]; simp)).mono ?_
  rintro e w' ⟨x, y, hxy, rfl, hb2⟩
  rw [h] at hxy
  injection hxy with hxy
  injection hxy with h1 h2
  exact ⟨by rw [h1, h2], hb2⟩
 ·cases h
end Go.Proofs.YtbdciibbgiphcaaDoor.V

/- tokens.words and tokens.Name: printed by wip/myprint.py, but for what stands ahead of them (ofWord, slices.Contains) and behind. -/
namespace Go.Proofs.YtbdciibbgiphcaaDoor.M
open Go.RowKit Go.Proofs.YtbdciibbgiphcaaDoorW.PrintWords Go.Proofs.YtbdciibbgiphcaaDoorW.PrintLast Go.Proofs.YtbdciibbgiphcaaDoorW.PrintMore
open Go.Proofs.YtbdciibbgiphcaaDoor.V (info3 info9 errW errW_none errW_some)
attribute [local go_sem] max2_int min2_int max_two min_two max_three min_three max_four min_four   -- for this text's walks alone
set_option linter.unusedVariables false
set_option linter.unusedSimpArgs false
def tokens_ofWord.f (a0 : ByteArray) : Option (Int) := if a0.size ≤ 9223372036854775806 then some (Tok.wordLen (bytesOf a0) : Nat) else none
theorem tokens_ofWord.calls (a0 : ByteArray) (r : Int) (w : World) (h : tokens_ofWord.f a0 = some r) :
  Calls Tryd.prog 37 #[.string a0] w fun e w' => e = .returned (.int .i64 r) ∧ Below w.heap.size w w' := by
 unfold tokens_ofWord.f at h
 split at h
 ·rename_i hs
  injection h with h
  refine (ofWord_walk a0 w hs).mono ?_
  rintro e w' ⟨rfl, hb⟩
  exact ⟨by rw [← h, pre_word], hb⟩
 ·cases h
def slices_Contains_string_string.f (l0 : List ByteArray) (a1 : ByteArray) : Option (Bool) := if l0.length ≤ 100 then some (Lib.containsS l0 a1) else none
theorem slices_Contains_string_string.calls (A0 : Option Addr) (c0 : Nat) (l0 : List ByteArray) (a1 : ByteArray) (r : Bool) (w : World) (hr0 : Kd.C Kd.string w A0 l0.length l0) (hc0 : l0.length ≤ c0) (h : slices_Contains_string_string.f l0 a1 = some r) :
  Calls Tryd.prog 74 #[.slice A0 l0.length c0, .string a1] w fun e w' => e = .returned (.bool r) ∧ Drawn0 w w' := by
 unfold slices_Contains_string_string.f at h
 split at h
 ·rename_i hl
  injection h with h
  subst h
  cases l0 with
  | nil =>
   refine (Tryd.slices_Contains_string_empty A0 c0 a1 w).mono ?_
   rintro e w' ⟨rfl, rfl⟩
   exact ⟨rfl, Drawn0.refl _⟩
  | cons x l =>
   obtain ⟨ad, c, e, _, hK, hc⟩ := Kd.C_get hr0 ByteArray.empty 0 (by omega) (by simp only [List.length_cons]; omega)
   subst e
   have hce : ∀ j, j < (x :: l).length → w.cell? (ad.add j) = some (.string ((x :: l).getD j ByteArray.empty)) := by
    intro j hj
    obtain ⟨ad', c', e', _, hK', hc'⟩ := Kd.C_get hr0 ByteArray.empty (j : Int) (by omega) (by omega)
    cases e'
    have hK2 : c' = [.string ((x :: l).getD j ByteArray.empty)] := hK'
    have := hc' 0 _ (by rw [hK2]; rfl)
    rw [show (j : Int).toNat * Kd.string.sz + 0 = j from Nat.mul_one j] at this
    rw [this]
   have h0 := hce 0 (by simp)
   obtain ⟨b, off, spot⟩ := ad
   have hsp : spot = none := by simpa [Addr.add] using World.cell?_spot h0
   subst hsp
   refine (Tryd.slices_Contains_string b off (x :: l).length c0 (x :: l) a1 w (Nat.le_refl _) (by omega) (fun j hj => ?_)).mono ?_
   ·have := hce j hj
    by_cases hj0 : j = 0
    ·subst hj0; simpa [Addr.add] using this
    ·simpa [Addr.add, hj0] using this
   ·rintro e w' ⟨rfl, rfl⟩
    exact ⟨by rw [List.take_length], Drawn0.refl _⟩
 ·cases h

/-! ### tokens_words: function 23 -/
def tokens_words.f  : Option (List ByteArray) := some (([(⟨#[115, 116, 97, 116, 105, 111, 110, 115]⟩ : ByteArray), (⟨#[105, 110]⟩ : ByteArray), (⟨#[97, 116]⟩ : ByteArray), (⟨#[102, 108, 111, 119]⟩ : ByteArray), (⟨#[100, 101, 102, 97, 117, 108, 116]⟩ : ByteArray), (⟨#[111, 117, 116]⟩ : ByteArray), (⟨#[105, 102]⟩ : ByteArray), (⟨#[116, 104, 101, 110]⟩ : ByteArray), (⟨#[101, 108, 115, 101]⟩ : ByteArray), (⟨#[112, 114, 101]⟩ : ByteArray), (⟨#[97, 110, 100]⟩ : ByteArray), (⟨#[111, 114]⟩ : ByteArray), (⟨#[110, 111, 116]⟩ : ByteArray), (⟨#[116, 114, 117, 101]⟩ : ByteArray), (⟨#[102, 97, 108, 115, 101]⟩ : ByteArray), (⟨#[105, 110, 116]⟩ : ByteArray), (⟨#[98, 111, 111, 108]⟩ : ByteArray)] : List ByteArray))
set_option maxHeartbeats 8000000 in
set_option maxRecDepth 100000 in
theorem tokens_words.calls  (r : List ByteArray) (w : World) (h : tokens_words.f  = some r) :
  Calls Tryd.prog 75 #[] w fun e w' => ∃ v0_ : Value, e = .returned (v0_) ∧ Kd.R Kd.string 9 w' w.heap.size (fun _ => True) v0_ r ∧ Below w.heap.size w w' := by
 have HB := Aside0.mk (Below.refl w.heap.size w)
 have H : (some (([(⟨#[115, 116, 97, 116, 105, 111, 110, 115]⟩ : ByteArray), (⟨#[105, 110]⟩ : ByteArray), (⟨#[97, 116]⟩ : ByteArray), (⟨#[102, 108, 111, 119]⟩ : ByteArray), (⟨#[100, 101, 102, 97, 117, 108, 116]⟩ : ByteArray), (⟨#[111, 117, 116]⟩ : ByteArray), (⟨#[105, 102]⟩ : ByteArray), (⟨#[116, 104, 101, 110]⟩ : ByteArray), (⟨#[101, 108, 115, 101]⟩ : ByteArray), (⟨#[112, 114, 101]⟩ : ByteArray), (⟨#[97, 110, 100]⟩ : ByteArray), (⟨#[111, 114]⟩ : ByteArray), (⟨#[110, 111, 116]⟩ : ByteArray), (⟨#[116, 114, 117, 101]⟩ : ByteArray), (⟨#[102, 97, 108, 115, 101]⟩ : ByteArray), (⟨#[105, 110, 116]⟩ : ByteArray), (⟨#[98, 111, 111, 108]⟩ : ByteArray)] : List ByteArray))) = some r := h
 clear h
 obtain ⟨y101, hy101⟩ : ∃ y_ : List ByteArray, y_ = (([(⟨#[115, 116, 97, 116, 105, 111, 110, 115]⟩ : ByteArray), (⟨#[105, 110]⟩ : ByteArray), (⟨#[97, 116]⟩ : ByteArray), (⟨#[102, 108, 111, 119]⟩ : ByteArray), (⟨#[100, 101, 102, 97, 117, 108, 116]⟩ : ByteArray), (⟨#[111, 117, 116]⟩ : ByteArray), (⟨#[105, 102]⟩ : ByteArray), (⟨#[116, 104, 101, 110]⟩ : ByteArray), (⟨#[101, 108, 115, 101]⟩ : ByteArray), (⟨#[112, 114, 101]⟩ : ByteArray), (⟨#[97, 110, 100]⟩ : ByteArray), (⟨#[111, 114]⟩ : ByteArray), (⟨#[110, 111, 116]⟩ : ByteArray), (⟨#[116, 114, 117, 101]⟩ : ByteArray), (⟨#[102, 97, 108, 115, 101]⟩ : ByteArray), (⟨#[105, 110, 116]⟩ : ByteArray), (⟨#[98, 111, 111, 108]⟩ : ByteArray)] : List ByteArray)) := ⟨_, rfl⟩
 replace H : (some y101) = some r := by first | (rw [hy101]; with_reducible exact H) | (have H2_ := (Option.bind_some _ _).symm.trans H; rw [hy101]; with_reducible exact H2_) | (have H2_ := (Option.bind_some _ _).symm.trans H; with_reducible exact H2_) | with_reducible exact H | (rw [hy101]; exact H) | exact H
 have Ny101 := Aside0.mk hy101
 clear hy101
 obtain rfl := Option.some.inj H
 go_enter Tryd.func75, Tryd.ntmps75
 go_wp2_with (first | ((with_reducible refine gate_dst (N := 1) rfl ?_); refine Kd.R_lit Kd.string _ 9 ?hg (N := 1) ?hd (xs := ([(⟨#[115, 116, 97, 116, 105, 111, 110, 115]⟩ : ByteArray), (⟨#[105, 110]⟩ : ByteArray), (⟨#[97, 116]⟩ : ByteArray), (⟨#[102, 108, 111, 119]⟩ : ByteArray), (⟨#[100, 101, 102, 97, 117, 108, 116]⟩ : ByteArray), (⟨#[111, 117, 116]⟩ : ByteArray), (⟨#[105, 102]⟩ : ByteArray), (⟨#[116, 104, 101, 110]⟩ : ByteArray), (⟨#[101, 108, 115, 101]⟩ : ByteArray), (⟨#[112, 114, 101]⟩ : ByteArray), (⟨#[97, 110, 100]⟩ : ByteArray), (⟨#[111, 114]⟩ : ByteArray), (⟨#[110, 111, 116]⟩ : ByteArray), (⟨#[116, 114, 117, 101]⟩ : ByteArray), (⟨#[102, 97, 108, 115, 101]⟩ : ByteArray), (⟨#[105, 110, 116]⟩ : ByteArray), (⟨#[98, 111, 111, 108]⟩ : ByteArray)] : List ByteArray)) (inner := [.string (⟨#[115, 116, 97, 116, 105, 111, 110, 115]⟩ : ByteArray), .string (⟨#[105, 110]⟩ : ByteArray), .string (⟨#[97, 116]⟩ : ByteArray), .string (⟨#[102, 108, 111, 119]⟩ : ByteArray), .string (⟨#[100, 101, 102, 97, 117, 108, 116]⟩ : ByteArray), .string (⟨#[111, 117, 116]⟩ : ByteArray), .string (⟨#[105, 102]⟩ : ByteArray), .string (⟨#[116, 104, 101, 110]⟩ : ByteArray), .string (⟨#[101, 108, 115, 101]⟩ : ByteArray), .string (⟨#[112, 114, 101]⟩ : ByteArray), .string (⟨#[97, 110, 100]⟩ : ByteArray), .string (⟨#[111, 114]⟩ : ByteArray), .string (⟨#[110, 111, 116]⟩ : ByteArray), .string (⟨#[116, 114, 117, 101]⟩ : ByteArray), .string (⟨#[102, 97, 108, 115, 101]⟩ : ByteArray), .string (⟨#[105, 110, 116]⟩ : ByteArray), .string (⟨#[98, 111, 111, 108]⟩ : ByteArray)]) (ok := fun _ => True) (okp := fun _ => True) ?hr ?hp (fun _ hk => hk) trivial (Below.refl _ _) (Nat.le_refl _) (by simp) ?_; (case hd => rfl); (case hg => rfl); (case hr => first | (go_simp; done) | (go_simp; rfl)); (case hp => exact (Reps.one (show Kd.M Kd.string _ _ _ (⟨#[115, 116, 97, 116, 105, 111, 110, 115]⟩ : ByteArray) [.string (⟨#[115, 116, 97, 116, 105, 111, 110, 115]⟩ : ByteArray)] from rfl) (Reps.one (show Kd.M Kd.string _ _ _ (⟨#[105, 110]⟩ : ByteArray) [.string (⟨#[105, 110]⟩ : ByteArray)] from rfl) (Reps.one (show Kd.M Kd.string _ _ _ (⟨#[97, 116]⟩ : ByteArray) [.string (⟨#[97, 116]⟩ : ByteArray)] from rfl) (Reps.one (show Kd.M Kd.string _ _ _ (⟨#[102, 108, 111, 119]⟩ : ByteArray) [.string (⟨#[102, 108, 111, 119]⟩ : ByteArray)] from rfl) (Reps.one (show Kd.M Kd.string _ _ _ (⟨#[100, 101, 102, 97, 117, 108, 116]⟩ : ByteArray) [.string (⟨#[100, 101, 102, 97, 117, 108, 116]⟩ : ByteArray)] from rfl) (Reps.one (show Kd.M Kd.string _ _ _ (⟨#[111, 117, 116]⟩ : ByteArray) [.string (⟨#[111, 117, 116]⟩ : ByteArray)] from rfl) (Reps.one (show Kd.M Kd.string _ _ _ (⟨#[105, 102]⟩ : ByteArray) [.string (⟨#[105, 102]⟩ : ByteArray)] from rfl) (Reps.one (show Kd.M Kd.string _ _ _ (⟨#[116, 104, 101, 110]⟩ : ByteArray) [.string (⟨#[116, 104, 101, 110]⟩ : ByteArray)] from rfl) (Reps.one (show Kd.M Kd.string _ _ _ (⟨#[101, 108, 115, 101]⟩ : ByteArray) [.string (⟨#[101, 108, 115, 101]⟩ : ByteArray)] from rfl) (Reps.one (show Kd.M Kd.string _ _ _ (⟨#[112, 114, 101]⟩ : ByteArray) [.string (⟨#[112, 114, 101]⟩ : ByteArray)] from rfl) (Reps.one (show Kd.M Kd.string _ _ _ (⟨#[97, 110, 100]⟩ : ByteArray) [.string (⟨#[97, 110, 100]⟩ : ByteArray)] from rfl) (Reps.one (show Kd.M Kd.string _ _ _ (⟨#[111, 114]⟩ : ByteArray) [.string (⟨#[111, 114]⟩ : ByteArray)] from rfl) (Reps.one (show Kd.M Kd.string _ _ _ (⟨#[110, 111, 116]⟩ : ByteArray) [.string (⟨#[110, 111, 116]⟩ : ByteArray)] from rfl) (Reps.one (show Kd.M Kd.string _ _ _ (⟨#[116, 114, 117, 101]⟩ : ByteArray) [.string (⟨#[116, 114, 117, 101]⟩ : ByteArray)] from rfl) (Reps.one (show Kd.M Kd.string _ _ _ (⟨#[102, 97, 108, 115, 101]⟩ : ByteArray) [.string (⟨#[102, 97, 108, 115, 101]⟩ : ByteArray)] from rfl) (Reps.one (show Kd.M Kd.string _ _ _ (⟨#[105, 110, 116]⟩ : ByteArray) [.string (⟨#[105, 110, 116]⟩ : ByteArray)] from rfl) (Reps.one (show Kd.M Kd.string _ _ _ (⟨#[98, 111, 111, 108]⟩ : ByteArray) [.string (⟨#[98, 111, 111, 108]⟩ : ByteArray)] from rfl) (Reps.none _ _))))))))))))))))))); intro v102 w1 ho2 hb hg_ hnew_; clear hg_ hnew_; (first | rw [← Ny101.out] at ho2 | (simp only [Int.reduceToNat] at ho2; rw [← Ny101.out] at ho2)); have n0_ := Aside0.mk (Kd.R_lower ho2 (below_size (by repeat (first | (with_reducible first | exact HB.out | apply below_alloc | apply pw_below_drewN | apply below_drew1) | exact HB.out)))); have n1_ := Aside0.mk (below_step (by repeat (first | (with_reducible first | exact HB.out | apply below_alloc | apply pw_below_drewN | apply below_drew1) | exact HB.out)) hb); clear HB; have HO103 := n0_; have HB := n1_; clear n0_ n1_; clear hb ho2))
 go_ret
 exact ⟨_, by first | rfl | (simp [errW_none, errW_some] <;> rfl) | (simp [*, errW_none, errW_some] <;> rfl), by (with_reducible repeat (first | apply Kd.R_alloc | apply Kd.R_drewN | apply Kd.R_drew)); exact HO103.out, by repeat (first | (with_reducible first | exact HB.out | apply below_alloc | apply pw_below_drewN | apply below_drew1) | exact HB.out)⟩

/-! ### tokens_Name: function 13 -/
def tokens_Name.f (a0 : ByteArray) : Option (Bool) := if a0.toList = ([] : List UInt8) then (some false) else (if (a0.size : Int) ≤ 40 then ((tokens_ofWord.f a0).bind fun t104 => (if t104 = (a0.size : Int) then ((tokens_words.f).bind fun t105 => ((slices_Contains_string_string.f t105 a0).bind fun t108 => (some (!t108)))) else (some false))) else (some false))
set_option maxHeartbeats 8000000 in
set_option maxRecDepth 100000 in
theorem tokens_Name.calls (a0 : ByteArray) (r : Bool) (w : World) (h : tokens_Name.f a0 = some r) :
  Calls Tryd.prog 57 #[.string a0] w fun e w' => e = .returned (.bool r) ∧ Below w.heap.size w w' := by
 have HB := Aside0.mk (Below.refl w.heap.size w)
 have H : (if a0.toList = ([] : List UInt8) then (some false) else (if (a0.size : Int) ≤ 40 then ((tokens_ofWord.f a0).bind fun t104 => (if t104 = (a0.size : Int) then ((tokens_words.f).bind fun t105 => ((slices_Contains_string_string.f t105 a0).bind fun t108 => (some (!t108)))) else (some false))) else (some false))) = some r := h
 clear h
 by_cases c2 : a0.toList = ([] : List UInt8)
 ·rw [if_pos c2] at H
  have c2b0 : (a0.toList == ([] : List UInt8)) = true := beq_iff_eq.mpr c2
  have c2b1 : (a0.toList != ([] : List UInt8)) = false := bne_eq_false_iff_eq.mpr c2
  clear c2
  obtain rfl := Option.some.inj H
  go_enter Tryd.func57, Tryd.ntmps57
  go_wp2
  go_ret
  exact ⟨by first | rfl | (simp [errW_none, errW_some] <;> rfl) | (simp [*, errW_none, errW_some] <;> rfl), by repeat (first | (with_reducible first | exact HB.out | apply below_alloc | apply pw_below_drewN | apply below_drew1) | exact HB.out)⟩
 ·rw [if_neg c2] at H
  have c2b0 : (a0.toList == ([] : List UInt8)) = false := beq_eq_false_iff_ne.mpr c2
  have c2b1 : (a0.toList != ([] : List UInt8)) = true := bne_iff_ne.mpr c2
  by_cases c3 : (a0.size : Int) ≤ 40
  ·rw [if_pos c3] at H
   have c3b0 : decide ((a0.size : Int) ≤ 40) = true := decide_eq_true c3
   have c3b1 : decide (a0.size ≤ 40) = true := decide_eq_true (by omega)
   clear c3
   replace H := Option.bind_eq_some_iff.mp H
   obtain ⟨t104, A40, H⟩ := H
   replace H : (if t104 = (a0.size : Int) then ((tokens_words.f).bind fun t105 => ((slices_Contains_string_string.f t105 a0).bind fun t108 => (some (!t108)))) else (some false)) = some r := H
   have A4 := Aside0.mk A40
   clear A40
   by_cases c5 : t104 = (a0.size : Int)
   ·rw [if_pos c5] at H
    have c5b0 : (t104 == (a0.size : Int)) = true := beq_iff_eq.mpr c5
    have c5b1 : (t104 != (a0.size : Int)) = false := bne_eq_false_iff_eq.mpr c5
    clear c5
    replace H := Option.bind_eq_some_iff.mp H
    obtain ⟨t105, A60, H⟩ := H
    replace H : ((slices_Contains_string_string.f t105 a0).bind fun t108 => (some (!t108))) = some r := H
    have A6 := Aside0.mk A60
    clear A60
    replace H := Option.bind_eq_some_iff.mp H
    obtain ⟨t108, A70, H⟩ := H
    replace H : (some (!t108)) = some r := H
    have A7 := Aside0.mk A70
    clear A70
    obtain rfl := Option.some.inj H
    go_enter Tryd.func57, Tryd.ntmps57
    go_wp2_with (first | (go_at_call 37; (with_reducible refine (tokens_ofWord.calls a0 t104 _ A4.out).mono ?_); rintro e w8 ⟨rfl, hb⟩; have n0_ := Aside0.mk (below_step (by repeat (first | (with_reducible first | exact HB.out | apply below_alloc | apply pw_below_drewN | apply below_drew1) | exact HB.out)) hb); clear HB; have HB := n0_; clear n0_; (try clear hb); (try clear hb2); (try clear hk); (try clear hi)) | (go_at_call 75; (with_reducible refine (tokens_words.calls  t105 _ A6.out).mono ?_); rintro e w9 ⟨v106, rfl, ho0, hb⟩; have n0_ := Aside0.mk (Kd.R_lower ho0 (below_size (by repeat (first | (with_reducible first | exact HB.out | apply below_alloc | apply pw_below_drewN | apply below_drew1) | exact HB.out)))); have n1_ := Aside0.mk (below_step (by repeat (first | (with_reducible first | exact HB.out | apply below_alloc | apply pw_below_drewN | apply below_drew1) | exact HB.out)) hb); clear HB; have HO107 := n0_; have HB := n1_; clear n0_ n1_; (try clear hb); (try clear hb2); (try clear hk); (try clear hi); (try clear ho0); obtain ⟨Ao10, co10, eo10⟩ := Kd.R_slice HO107.out; subst eo10) | (go_at_call 74; (with_reducible refine (slices_Contains_string_string.calls _ _ t105 a0 t108 _ ?side1 ?side2 A7.out).mono ?_); (case side1 => repeat (first | exact (Kd.R_reads' HO107.out).2.2 | (with_reducible refine Kd.C_alloc ?_ _) | (with_reducible refine Kd.C_drewN ?_ _) | (with_reducible refine Kd.C_drew ?_))); (case side2 => exact (Kd.R_reads' HO107.out).2.1); rintro e w' ⟨rfl, ⟨nd, rfl⟩⟩))
    go_ret
    exact ⟨by first | rfl | (simp [errW_none, errW_some] <;> rfl) | (simp [*, errW_none, errW_some] <;> rfl), by repeat (first | (with_reducible first | exact HB.out | apply below_alloc | apply pw_below_drewN | apply below_drew1) | exact HB.out)⟩
   ·rw [if_neg c5] at H
    have c5b0 : (t104 == (a0.size : Int)) = false := beq_eq_false_iff_ne.mpr c5
    have c5b1 : (t104 != (a0.size : Int)) = true := bne_iff_ne.mpr c5
    obtain rfl := Option.some.inj H
    go_enter Tryd.func57, Tryd.ntmps57
    go_wp2_with (first | (go_at_call 37; (with_reducible refine (tokens_ofWord.calls a0 t104 _ A4.out).mono ?_); rintro e w11 ⟨rfl, hb⟩; have n0_ := Aside0.mk (below_step (by repeat (first | (with_reducible first | exact HB.out | apply below_alloc | apply pw_below_drewN | apply below_drew1) | exact HB.out)) hb); clear HB; have HB := n0_; clear n0_; (try clear hb); (try clear hb2); (try clear hk); (try clear hi)))
    go_ret
    exact ⟨by first | rfl | (simp [errW_none, errW_some] <;> rfl) | (simp [*, errW_none, errW_some] <;> rfl), by repeat (first | (with_reducible first | exact HB.out | apply below_alloc | apply pw_below_drewN | apply below_drew1) | exact HB.out)⟩
  ·rw [if_neg c3] at H
   have c3b0 : decide ((a0.size : Int) ≤ 40) = false := decide_eq_false c3
   have c3b1 : decide (a0.size ≤ 40) = false := decide_eq_false (by omega)
   clear c3
   obtain rfl := Option.some.inj H
   go_enter Tryd.func57, Tryd.ntmps57
   go_wp2
   go_ret
   exact ⟨by first | rfl | (simp [errW_none, errW_some] <;> rfl) | (simp [*, errW_none, errW_some] <;> rfl), by repeat (first | (with_reducible first | exact HB.out | apply below_alloc | apply pw_below_drewN | apply below_drew1) | exact HB.out)⟩


theorem name_eq (s : ByteArray) : tokens_Name.f s = some (V.nameOk s) := by
 unfold tokens_Name.f V.nameOk
 by_cases h0 : s.size = 0
 ·have : s.toList = [] := by rw [ByteArray.toList_eq]; exact List.eq_nil_of_length_eq_zero (by rw [data_length]; exact h0)
  rw [if_pos this]
  simp [h0]
 ·have hne : ¬ s.toList = [] := fun q => h0 (by rw [ByteArray.toList_eq] at q; rw [← data_length, q]; rfl)
  rw [if_neg hne, decide_eq_true (show 0 < s.size by omega), Bool.true_and]
  by_cases h40 : s.size ≤ 40
  ·rw [if_pos (by omega), decide_eq_true h40, Bool.true_and]
   unfold tokens_ofWord.f
   rw [if_pos (by omega), Option.bind_some]
   by_cases hw : Tok.wordLen (bytesOf s) = s.size
   ·rw [if_pos (by rw [hw]), decide_eq_true hw, Bool.true_and]
    unfold tokens_words.f
    rw [Option.bind_some]
    unfold slices_Contains_string_string.f
    rw [if_pos (by simp), Option.bind_some]
    congr 2
    rw [Bool.eq_iff_iff, Lib.containsS_iff, List.any_eq_true]
    show s ∈ V.words ↔ _
    constructor
    ·intro h; exact ⟨s, h, by simp⟩
    ·rintro ⟨x, hx, he⟩
     have : x = s := by
      rw [beq_iff_eq] at he
      cases x; cases s
      congr 1
      exact Array.toList_inj.1 he
     rw [← this]; exact hx
   ·rw [if_neg (by omega), decide_eq_false hw]; rfl
  ·rw [if_neg (by omega), decide_eq_false h40]; rfl
end Go.Proofs.YtbdciibbgiphcaaDoor.M
namespace Go.Proofs.YtbdciibbgiphcaaDoor.V
open Go.RowKit
theorem tokens_Name.calls (a0 : ByteArray) (r : Bool) (w : World) (h : tokens_Name.f a0 = some r) :
  Calls Tryd.prog 57 #[.string a0] w fun e w' => e = .returned (.bool r) ∧ Below w.heap.size w w' :=
 M.tokens_Name.calls a0 r w (by rw [M.name_eq]; exact h)
end Go.Proofs.YtbdciibbgiphcaaDoor.V

/- The contracts of tokens.Read, Name, Number, in the form in which the printed texts take them. -/
namespace Go.Proofs.YtbdciibbgiphcaaDoor.V
set_option linter.unusedVariables false
set_option linter.unusedSimpArgs false
open Go.RowKit Go.Proofs.YtbdciibbgiphcaaDoorW.PrintWords Go.Proofs.YtbdciibbgiphcaaDoorW.PrintLast Go.Proofs.YtbdciibbgiphcaaDoorW.PrintMore
set_option maxHeartbeats 2000000 in
set_option maxRecDepth 100000 in
theorem read_great (s : ByteArray) (w : World) (hs : ¬ s.size ≤ 65536) : Calls Tryd.prog 21 #[.string s] w fun e w' => e = .returned (.tuple #[.slice none 0 0, .int .i64 0, .int .i64 3]) ∧ w' = w := by
 have hd1 : decide (65536 < (s.size : Int)) = true := decide_eq_true (by omega)
 have hd2 : decide (65536 < s.size) = true := decide_eq_true (by omega)
 go_enter Tryd.func21, Tryd.ntmps21
 go_wp2_with fail
 apply wp_scope_straight
 go_wp2_with fail
 rw [Exit.noGoto_ret]
 go_ret3
 exact ⟨rfl, rfl⟩
theorem tokens_Read.calls (a0 : ByteArray) (r1 : List (S45)) (r2 : Int) (r3 : Int) (w : World) (h : tokens_Read.f a0 = some (r1, r2, r3)) :
  Calls Tryd.prog 21 #[.string a0] w fun e w' => ∃ v0_ : Value, e = .returned (.tuple #[v0_, .int .i64 r2, .int .i64 r3]) ∧ Kd.R k45 45 w' w.heap.size (fun _ => True) v0_ r1 ∧ Below w.heap.size w w' := by
 unfold tokens_Read.f at h
 injection h with h
 by_cases hs : a0.size ≤ 65536
 ·rw [if_pos hs] at h
  refine (read_walk a0 w hs).mono ?_
  rintro e w' ⟨v, rfl, hr, hb⟩
  rw [h] at hr ⊢
  exact ⟨v, rfl, hr, hb⟩
 ·rw [if_neg hs] at h
  injection h with h1 h
  injection h with h2 h3
  subst h1; subst h2; subst h3
  refine (read_great a0 w hs).mono ?_
  rintro e w' ⟨rfl, rfl⟩
  exact ⟨_, rfl, Kd.R_nil _ _ _ _ _, Below.refl _ _⟩
end Go.Proofs.YtbdciibbgiphcaaDoor.V
