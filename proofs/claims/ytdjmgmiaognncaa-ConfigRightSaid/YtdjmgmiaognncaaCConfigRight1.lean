/- Part 1 of the texts behind the claim on ConfigRight: contracts of the functions that it reaches, and plain laws about them. No conditions of its own. -/
import Derived.Test.YtdjmgmiaognncaaProg
import Derived.Below
import Derived.Deep.Draws
import Derived.Deep.AppendLies
import Derived.Maps.AppendAt
import Derived.OwnWalk
import Derived.Laws.BytesArg
import Derived.Laws.MakeOwn
import Derived.Laws.OwnMore
import Derived.Deep.OwnRows
import Derived.Tactics
import Derived.Lib.ConvBytes
import Derived.Laws.Slices
import Derived.WalkKit
import Derived.KernelRfl
import Derived.RowKit3
import Derived.Deep.LoopGhost
import Derived.Deep.QuietTactic
import Derived.BigQuiet
import Derived.WideLaws
import Derived.Deep.DeepCutAuto
import Derived.Deep.CutBlock
import Derived.Deep.RegionHeld3
import Derived.Laws.Rows
import Derived.Lib.AppendStr
import Derived.ArgAppend
import Derived.Laws.IdiomCopy
import Derived.OrdersHeld
import Derived.Laws.BitsLemmas
import Derived.RowKit
import Derived.Test.YtdjmgmiaognncaaWWords
import Derived.Test.YtdjmgmiaognncaaWLast
import Derived.Test.YtdjmgmiaognncaaWTab
import Derived.Test.YtdjmgmiaognncaaWFour
import Derived.Test.YtdjmgmiaognncaaWQPut
import Derived.Test.YtdjmgmiaognncaaWApart
import Derived.Test.YtdjmgmiaognncaaWArr
import Derived.Test.YtdjmgmiaognncaaWZeros
import Derived.Test.YtdjmgmiaognncaaWFoot
import Derived.Test.YtdjmgmiaognncaaWKept
import Derived.Test.YtdjmgmiaognncaaWShare
import Derived.Test.YtdjmgmiaognncaaWN
import Derived.Test.YtdjmgmiaognncaaWFootNe
import Derived.Test.YtdjmgmiaognncaaWAt
import Derived.Test.YtdjmgmiaognncaaWEqStruct
import Derived.Test.YtdjmgmiaognncaaWRepsOne
import Derived.Test.YtdjmgmiaognncaaWInv
import Derived.Test.YtdjmgmiaognncaaWInvWords
import Derived.Test.YtdjmgmiaognncaaWGuard
import Derived.Test.YtdjmgmiaognncaaWNEv
import Derived.Test.YtdjmgmiaognncaaWMore
import Derived.Test.YtdjmgmiaognncaaShelf
import Derived.Shelf.GgClosure.StringsIndexFunc
import Derived.Laws.IdiomStrings
import Derived.RangeFuncRecord
import Derived.Lib.Strings
namespace Go.Proofs.Ytdjmgmiaognncaa.X
open Go.RowKit Go.Proofs.YtdjmgmiaognncaaW.PrintWords Go.Proofs.YtdjmgmiaognncaaW.PrintLast Go.Proofs.YtdjmgmiaognncaaW.PrintMore
attribute [local go_sem] max2_int min2_int max_two min_two max_three min_three max_four min_four   -- for this text's walks alone
set_option linter.unusedVariables false
set_option linter.unusedSimpArgs false



def errW : Option Int → Value
  | none => .nilIface
  | some c => .iface 0 (.int .i64 c)
theorem errW_none : errW none = .nilIface := rfl
theorem errW_some (c : Int) : errW (some c) = .iface 0 (.int .i64 c) := rfl

theorem info3 : (Try.prog.info? 3).map (fun i => (i.zero, i.size, i.bytes)) = some (some (.int .i64 0), 1, 8) := by kernel_rfl
theorem info5 : (Try.prog.info? 5).map (fun i => (i.zero, i.size, i.bytes)) = some (some (.int .u8 0), 1, 1) := by kernel_rfl
-- the values' own types
/-! #### struct type 23 -/
structure S23 where
  f0 : Int
  f1 : Int
  f2 : Int
  f3 : Int
  f4 : Int
def z23 : S23 := ⟨(0 : Int), (0 : Int), (0 : Int), (0 : Int), (0 : Int)⟩
def k23 : Kd S23 := Kd.iso (Kd.pair (Kd.int .i64) (Kd.pair (Kd.int .i64) (Kd.pair (Kd.int .i64) (Kd.pair (Kd.int .i64) (Kd.int .i64))))) (fun x : S23 => (x.f0, x.f1, x.f2, x.f3, x.f4))
theorem k23_open {w : World} {x : S23} {cs : List Value} (h : k23.K w x cs) : cs = [.int .i64 x.f0, .int .i64 x.f1, .int .i64 x.f2, .int .i64 x.f3, .int .i64 x.f4] := by
  obtain ⟨_, _, rfl, rfl, ⟨_, _, rfl, rfl, ⟨_, _, rfl, rfl, ⟨_, _, rfl, rfl, rfl⟩⟩⟩⟩ := h
  exact rfl
theorem k23_openM {w : World} {base : Nat} {ok : Nat → Prop} {x : S23} {cs : List Value} (h : k23.M w base ok x cs) : cs = [.int .i64 x.f0, .int .i64 x.f1, .int .i64 x.f2, .int .i64 x.f3, .int .i64 x.f4] := by
  obtain ⟨_, _, rfl, rfl, ⟨_, _, rfl, rfl, ⟨_, _, rfl, rfl, ⟨_, _, rfl, rfl, rfl⟩⟩⟩⟩ := h
  exact rfl
theorem k23_mk (w : World) (x : S23)  : k23.K w x [.int .i64 x.f0, .int .i64 x.f1, .int .i64 x.f2, .int .i64 x.f3, .int .i64 x.f4] := ⟨[.int .i64 x.f0], [.int .i64 x.f1, .int .i64 x.f2, .int .i64 x.f3, .int .i64 x.f4], rfl, rfl, ⟨[.int .i64 x.f1], [.int .i64 x.f2, .int .i64 x.f3, .int .i64 x.f4], rfl, rfl, ⟨[.int .i64 x.f2], [.int .i64 x.f3, .int .i64 x.f4], rfl, rfl, ⟨[.int .i64 x.f3], [.int .i64 x.f4], rfl, rfl, rfl⟩⟩⟩⟩
theorem k23_mkM (w : World) (base : Nat) (ok : Nat → Prop) (x : S23)  : k23.M w base ok x [.int .i64 x.f0, .int .i64 x.f1, .int .i64 x.f2, .int .i64 x.f3, .int .i64 x.f4] := ⟨[.int .i64 x.f0], [.int .i64 x.f1, .int .i64 x.f2, .int .i64 x.f3, .int .i64 x.f4], rfl, rfl, ⟨[.int .i64 x.f1], [.int .i64 x.f2, .int .i64 x.f3, .int .i64 x.f4], rfl, rfl, ⟨[.int .i64 x.f2], [.int .i64 x.f3, .int .i64 x.f4], rfl, rfl, ⟨[.int .i64 x.f3], [.int .i64 x.f4], rfl, rfl, rfl⟩⟩⟩⟩
def rd_T23 (xs : List S23) (i : Int) : S23 := xs.getD i.toNat z23
theorem at_T23 {w : World} {A : Option Addr} {n : Nat} {xs : List S23} (h : Kd.C k23 w A n xs) (i : Int) (h0 : 0 ≤ i) (h1 : i < n) : ∃ ad , A = some ad ∧ w.cell? (ad.add (i.toNat * 5)) = some (.int .i64 (rd_T23 xs i).f0) ∧ w.cell? ⟨(ad.add (i.toNat * 5)).block, (ad.add (i.toNat * 5)).off + 1, none⟩ = some (.int .i64 (rd_T23 xs i).f1) ∧ w.cell? ⟨(ad.add (i.toNat * 5)).block, (ad.add (i.toNat * 5)).off + 2, none⟩ = some (.int .i64 (rd_T23 xs i).f2) ∧ w.cell? ⟨(ad.add (i.toNat * 5)).block, (ad.add (i.toNat * 5)).off + 3, none⟩ = some (.int .i64 (rd_T23 xs i).f3) ∧ w.cell? ⟨(ad.add (i.toNat * 5)).block, (ad.add (i.toNat * 5)).off + 4, none⟩ = some (.int .i64 (rd_T23 xs i).f4) := by
  obtain ⟨ad, c, e, _, hK, hc0⟩ := Kd.C_get h z23 i h0 h1
  have hc : ∀ j u, c[j]? = some u → w.cell? (ad.add (i.toNat * 5 + j)) = some u := hc0
  obtain rfl := k23_open hK
  exact ⟨ad, e, hc 0 _ rfl, by rw [← add_field _ _ 1 (by omega)]; exact hc 1 _ rfl, by rw [← add_field _ _ 2 (by omega)]; exact hc 2 _ rfl, by rw [← add_field _ _ 3 (by omega)]; exact hc 3 _ rfl, by rw [← add_field _ _ 4 (by omega)]; exact hc 4 _ rfl⟩

/-! #### struct type 25 -/
structure S25 where
  f0 : ByteArray
  f1 : ByteArray
  f2 : Int
  f3 : Int
  f4 : Int
  f5 : Int
  f6 : Int
  f7 : Int
  f8 : Int
  f9 : Int
  f10 : Int
  f11 : Int
  f12 : Int
  f13 : S23
def z25 : S25 := ⟨(⟨#[]⟩ : ByteArray), (⟨#[]⟩ : ByteArray), (0 : Int), (0 : Int), (0 : Int), (0 : Int), (0 : Int), (0 : Int), (0 : Int), (0 : Int), (0 : Int), (0 : Int), (0 : Int), z23⟩
def k25 : Kd S25 := Kd.iso (Kd.pair Kd.string (Kd.pair Kd.string (Kd.pair (Kd.int .i64) (Kd.pair (Kd.int .i64) (Kd.pair (Kd.int .i64) (Kd.pair (Kd.int .i64) (Kd.pair (Kd.int .i64) (Kd.pair (Kd.int .i64) (Kd.pair (Kd.int .i64) (Kd.pair (Kd.int .i64) (Kd.pair (Kd.int .i64) (Kd.pair (Kd.int .i64) (Kd.pair (Kd.int .i64) k23))))))))))))) (fun x : S25 => (x.f0, x.f1, x.f2, x.f3, x.f4, x.f5, x.f6, x.f7, x.f8, x.f9, x.f10, x.f11, x.f12, x.f13))
theorem k25_open {w : World} {x : S25} {cs : List Value} (h : k25.K w x cs) : cs = [.string x.f0, .string x.f1, .int .i64 x.f2, .int .i64 x.f3, .int .i64 x.f4, .int .i64 x.f5, .int .i64 x.f6, .int .i64 x.f7, .int .i64 x.f8, .int .i64 x.f9, .int .i64 x.f10, .int .i64 x.f11, .int .i64 x.f12, .int .i64 x.f13.f0, .int .i64 x.f13.f1, .int .i64 x.f13.f2, .int .i64 x.f13.f3, .int .i64 x.f13.f4] := by
  obtain ⟨_, _, rfl, rfl, ⟨_, _, rfl, rfl, ⟨_, _, rfl, rfl, ⟨_, _, rfl, rfl, ⟨_, _, rfl, rfl, ⟨_, _, rfl, rfl, ⟨_, _, rfl, rfl, ⟨_, _, rfl, rfl, ⟨_, _, rfl, rfl, ⟨_, _, rfl, rfl, ⟨_, _, rfl, rfl, ⟨_, _, rfl, rfl, ⟨_, _, rfl, rfl, s13⟩⟩⟩⟩⟩⟩⟩⟩⟩⟩⟩⟩⟩ := h
  obtain rfl := k23_open s13
  exact rfl
theorem k25_openM {w : World} {base : Nat} {ok : Nat → Prop} {x : S25} {cs : List Value} (h : k25.M w base ok x cs) : cs = [.string x.f0, .string x.f1, .int .i64 x.f2, .int .i64 x.f3, .int .i64 x.f4, .int .i64 x.f5, .int .i64 x.f6, .int .i64 x.f7, .int .i64 x.f8, .int .i64 x.f9, .int .i64 x.f10, .int .i64 x.f11, .int .i64 x.f12, .int .i64 x.f13.f0, .int .i64 x.f13.f1, .int .i64 x.f13.f2, .int .i64 x.f13.f3, .int .i64 x.f13.f4] := by
  obtain ⟨_, _, rfl, rfl, ⟨_, _, rfl, rfl, ⟨_, _, rfl, rfl, ⟨_, _, rfl, rfl, ⟨_, _, rfl, rfl, ⟨_, _, rfl, rfl, ⟨_, _, rfl, rfl, ⟨_, _, rfl, rfl, ⟨_, _, rfl, rfl, ⟨_, _, rfl, rfl, ⟨_, _, rfl, rfl, ⟨_, _, rfl, rfl, ⟨_, _, rfl, rfl, s13⟩⟩⟩⟩⟩⟩⟩⟩⟩⟩⟩⟩⟩ := h
  obtain rfl := k23_openM s13
  exact rfl
theorem k25_mk (w : World) (x : S25)  : k25.K w x [.string x.f0, .string x.f1, .int .i64 x.f2, .int .i64 x.f3, .int .i64 x.f4, .int .i64 x.f5, .int .i64 x.f6, .int .i64 x.f7, .int .i64 x.f8, .int .i64 x.f9, .int .i64 x.f10, .int .i64 x.f11, .int .i64 x.f12, .int .i64 x.f13.f0, .int .i64 x.f13.f1, .int .i64 x.f13.f2, .int .i64 x.f13.f3, .int .i64 x.f13.f4] := ⟨[.string x.f0], [.string x.f1, .int .i64 x.f2, .int .i64 x.f3, .int .i64 x.f4, .int .i64 x.f5, .int .i64 x.f6, .int .i64 x.f7, .int .i64 x.f8, .int .i64 x.f9, .int .i64 x.f10, .int .i64 x.f11, .int .i64 x.f12, .int .i64 x.f13.f0, .int .i64 x.f13.f1, .int .i64 x.f13.f2, .int .i64 x.f13.f3, .int .i64 x.f13.f4], rfl, rfl, ⟨[.string x.f1], [.int .i64 x.f2, .int .i64 x.f3, .int .i64 x.f4, .int .i64 x.f5, .int .i64 x.f6, .int .i64 x.f7, .int .i64 x.f8, .int .i64 x.f9, .int .i64 x.f10, .int .i64 x.f11, .int .i64 x.f12, .int .i64 x.f13.f0, .int .i64 x.f13.f1, .int .i64 x.f13.f2, .int .i64 x.f13.f3, .int .i64 x.f13.f4], rfl, rfl, ⟨[.int .i64 x.f2], [.int .i64 x.f3, .int .i64 x.f4, .int .i64 x.f5, .int .i64 x.f6, .int .i64 x.f7, .int .i64 x.f8, .int .i64 x.f9, .int .i64 x.f10, .int .i64 x.f11, .int .i64 x.f12, .int .i64 x.f13.f0, .int .i64 x.f13.f1, .int .i64 x.f13.f2, .int .i64 x.f13.f3, .int .i64 x.f13.f4], rfl, rfl, ⟨[.int .i64 x.f3], [.int .i64 x.f4, .int .i64 x.f5, .int .i64 x.f6, .int .i64 x.f7, .int .i64 x.f8, .int .i64 x.f9, .int .i64 x.f10, .int .i64 x.f11, .int .i64 x.f12, .int .i64 x.f13.f0, .int .i64 x.f13.f1, .int .i64 x.f13.f2, .int .i64 x.f13.f3, .int .i64 x.f13.f4], rfl, rfl, ⟨[.int .i64 x.f4], [.int .i64 x.f5, .int .i64 x.f6, .int .i64 x.f7, .int .i64 x.f8, .int .i64 x.f9, .int .i64 x.f10, .int .i64 x.f11, .int .i64 x.f12, .int .i64 x.f13.f0, .int .i64 x.f13.f1, .int .i64 x.f13.f2, .int .i64 x.f13.f3, .int .i64 x.f13.f4], rfl, rfl, ⟨[.int .i64 x.f5], [.int .i64 x.f6, .int .i64 x.f7, .int .i64 x.f8, .int .i64 x.f9, .int .i64 x.f10, .int .i64 x.f11, .int .i64 x.f12, .int .i64 x.f13.f0, .int .i64 x.f13.f1, .int .i64 x.f13.f2, .int .i64 x.f13.f3, .int .i64 x.f13.f4], rfl, rfl, ⟨[.int .i64 x.f6], [.int .i64 x.f7, .int .i64 x.f8, .int .i64 x.f9, .int .i64 x.f10, .int .i64 x.f11, .int .i64 x.f12, .int .i64 x.f13.f0, .int .i64 x.f13.f1, .int .i64 x.f13.f2, .int .i64 x.f13.f3, .int .i64 x.f13.f4], rfl, rfl, ⟨[.int .i64 x.f7], [.int .i64 x.f8, .int .i64 x.f9, .int .i64 x.f10, .int .i64 x.f11, .int .i64 x.f12, .int .i64 x.f13.f0, .int .i64 x.f13.f1, .int .i64 x.f13.f2, .int .i64 x.f13.f3, .int .i64 x.f13.f4], rfl, rfl, ⟨[.int .i64 x.f8], [.int .i64 x.f9, .int .i64 x.f10, .int .i64 x.f11, .int .i64 x.f12, .int .i64 x.f13.f0, .int .i64 x.f13.f1, .int .i64 x.f13.f2, .int .i64 x.f13.f3, .int .i64 x.f13.f4], rfl, rfl, ⟨[.int .i64 x.f9], [.int .i64 x.f10, .int .i64 x.f11, .int .i64 x.f12, .int .i64 x.f13.f0, .int .i64 x.f13.f1, .int .i64 x.f13.f2, .int .i64 x.f13.f3, .int .i64 x.f13.f4], rfl, rfl, ⟨[.int .i64 x.f10], [.int .i64 x.f11, .int .i64 x.f12, .int .i64 x.f13.f0, .int .i64 x.f13.f1, .int .i64 x.f13.f2, .int .i64 x.f13.f3, .int .i64 x.f13.f4], rfl, rfl, ⟨[.int .i64 x.f11], [.int .i64 x.f12, .int .i64 x.f13.f0, .int .i64 x.f13.f1, .int .i64 x.f13.f2, .int .i64 x.f13.f3, .int .i64 x.f13.f4], rfl, rfl, ⟨[.int .i64 x.f12], [.int .i64 x.f13.f0, .int .i64 x.f13.f1, .int .i64 x.f13.f2, .int .i64 x.f13.f3, .int .i64 x.f13.f4], rfl, rfl, (k23_mk w x.f13 )⟩⟩⟩⟩⟩⟩⟩⟩⟩⟩⟩⟩⟩
theorem k25_mkM (w : World) (base : Nat) (ok : Nat → Prop) (x : S25)  : k25.M w base ok x [.string x.f0, .string x.f1, .int .i64 x.f2, .int .i64 x.f3, .int .i64 x.f4, .int .i64 x.f5, .int .i64 x.f6, .int .i64 x.f7, .int .i64 x.f8, .int .i64 x.f9, .int .i64 x.f10, .int .i64 x.f11, .int .i64 x.f12, .int .i64 x.f13.f0, .int .i64 x.f13.f1, .int .i64 x.f13.f2, .int .i64 x.f13.f3, .int .i64 x.f13.f4] := ⟨[.string x.f0], [.string x.f1, .int .i64 x.f2, .int .i64 x.f3, .int .i64 x.f4, .int .i64 x.f5, .int .i64 x.f6, .int .i64 x.f7, .int .i64 x.f8, .int .i64 x.f9, .int .i64 x.f10, .int .i64 x.f11, .int .i64 x.f12, .int .i64 x.f13.f0, .int .i64 x.f13.f1, .int .i64 x.f13.f2, .int .i64 x.f13.f3, .int .i64 x.f13.f4], rfl, rfl, ⟨[.string x.f1], [.int .i64 x.f2, .int .i64 x.f3, .int .i64 x.f4, .int .i64 x.f5, .int .i64 x.f6, .int .i64 x.f7, .int .i64 x.f8, .int .i64 x.f9, .int .i64 x.f10, .int .i64 x.f11, .int .i64 x.f12, .int .i64 x.f13.f0, .int .i64 x.f13.f1, .int .i64 x.f13.f2, .int .i64 x.f13.f3, .int .i64 x.f13.f4], rfl, rfl, ⟨[.int .i64 x.f2], [.int .i64 x.f3, .int .i64 x.f4, .int .i64 x.f5, .int .i64 x.f6, .int .i64 x.f7, .int .i64 x.f8, .int .i64 x.f9, .int .i64 x.f10, .int .i64 x.f11, .int .i64 x.f12, .int .i64 x.f13.f0, .int .i64 x.f13.f1, .int .i64 x.f13.f2, .int .i64 x.f13.f3, .int .i64 x.f13.f4], rfl, rfl, ⟨[.int .i64 x.f3], [.int .i64 x.f4, .int .i64 x.f5, .int .i64 x.f6, .int .i64 x.f7, .int .i64 x.f8, .int .i64 x.f9, .int .i64 x.f10, .int .i64 x.f11, .int .i64 x.f12, .int .i64 x.f13.f0, .int .i64 x.f13.f1, .int .i64 x.f13.f2, .int .i64 x.f13.f3, .int .i64 x.f13.f4], rfl, rfl, ⟨[.int .i64 x.f4], [.int .i64 x.f5, .int .i64 x.f6, .int .i64 x.f7, .int .i64 x.f8, .int .i64 x.f9, .int .i64 x.f10, .int .i64 x.f11, .int .i64 x.f12, .int .i64 x.f13.f0, .int .i64 x.f13.f1, .int .i64 x.f13.f2, .int .i64 x.f13.f3, .int .i64 x.f13.f4], rfl, rfl, ⟨[.int .i64 x.f5], [.int .i64 x.f6, .int .i64 x.f7, .int .i64 x.f8, .int .i64 x.f9, .int .i64 x.f10, .int .i64 x.f11, .int .i64 x.f12, .int .i64 x.f13.f0, .int .i64 x.f13.f1, .int .i64 x.f13.f2, .int .i64 x.f13.f3, .int .i64 x.f13.f4], rfl, rfl, ⟨[.int .i64 x.f6], [.int .i64 x.f7, .int .i64 x.f8, .int .i64 x.f9, .int .i64 x.f10, .int .i64 x.f11, .int .i64 x.f12, .int .i64 x.f13.f0, .int .i64 x.f13.f1, .int .i64 x.f13.f2, .int .i64 x.f13.f3, .int .i64 x.f13.f4], rfl, rfl, ⟨[.int .i64 x.f7], [.int .i64 x.f8, .int .i64 x.f9, .int .i64 x.f10, .int .i64 x.f11, .int .i64 x.f12, .int .i64 x.f13.f0, .int .i64 x.f13.f1, .int .i64 x.f13.f2, .int .i64 x.f13.f3, .int .i64 x.f13.f4], rfl, rfl, ⟨[.int .i64 x.f8], [.int .i64 x.f9, .int .i64 x.f10, .int .i64 x.f11, .int .i64 x.f12, .int .i64 x.f13.f0, .int .i64 x.f13.f1, .int .i64 x.f13.f2, .int .i64 x.f13.f3, .int .i64 x.f13.f4], rfl, rfl, ⟨[.int .i64 x.f9], [.int .i64 x.f10, .int .i64 x.f11, .int .i64 x.f12, .int .i64 x.f13.f0, .int .i64 x.f13.f1, .int .i64 x.f13.f2, .int .i64 x.f13.f3, .int .i64 x.f13.f4], rfl, rfl, ⟨[.int .i64 x.f10], [.int .i64 x.f11, .int .i64 x.f12, .int .i64 x.f13.f0, .int .i64 x.f13.f1, .int .i64 x.f13.f2, .int .i64 x.f13.f3, .int .i64 x.f13.f4], rfl, rfl, ⟨[.int .i64 x.f11], [.int .i64 x.f12, .int .i64 x.f13.f0, .int .i64 x.f13.f1, .int .i64 x.f13.f2, .int .i64 x.f13.f3, .int .i64 x.f13.f4], rfl, rfl, ⟨[.int .i64 x.f12], [.int .i64 x.f13.f0, .int .i64 x.f13.f1, .int .i64 x.f13.f2, .int .i64 x.f13.f3, .int .i64 x.f13.f4], rfl, rfl, (k23_mkM w base ok x.f13 )⟩⟩⟩⟩⟩⟩⟩⟩⟩⟩⟩⟩⟩
def rd_T25 (xs : List S25) (i : Int) : S25 := xs.getD i.toNat z25
theorem at_T25 {w : World} {A : Option Addr} {n : Nat} {xs : List S25} (h : Kd.C k25 w A n xs) (i : Int) (h0 : 0 ≤ i) (h1 : i < n) : ∃ ad , A = some ad ∧ w.cell? (ad.add (i.toNat * 18)) = some (.string (rd_T25 xs i).f0) ∧ w.cell? ⟨(ad.add (i.toNat * 18)).block, (ad.add (i.toNat * 18)).off + 1, none⟩ = some (.string (rd_T25 xs i).f1) ∧ w.cell? ⟨(ad.add (i.toNat * 18)).block, (ad.add (i.toNat * 18)).off + 2, none⟩ = some (.int .i64 (rd_T25 xs i).f2) ∧ w.cell? ⟨(ad.add (i.toNat * 18)).block, (ad.add (i.toNat * 18)).off + 3, none⟩ = some (.int .i64 (rd_T25 xs i).f3) ∧ w.cell? ⟨(ad.add (i.toNat * 18)).block, (ad.add (i.toNat * 18)).off + 4, none⟩ = some (.int .i64 (rd_T25 xs i).f4) ∧ w.cell? ⟨(ad.add (i.toNat * 18)).block, (ad.add (i.toNat * 18)).off + 5, none⟩ = some (.int .i64 (rd_T25 xs i).f5) ∧ w.cell? ⟨(ad.add (i.toNat * 18)).block, (ad.add (i.toNat * 18)).off + 6, none⟩ = some (.int .i64 (rd_T25 xs i).f6) ∧ w.cell? ⟨(ad.add (i.toNat * 18)).block, (ad.add (i.toNat * 18)).off + 7, none⟩ = some (.int .i64 (rd_T25 xs i).f7) ∧ w.cell? ⟨(ad.add (i.toNat * 18)).block, (ad.add (i.toNat * 18)).off + 8, none⟩ = some (.int .i64 (rd_T25 xs i).f8) ∧ w.cell? ⟨(ad.add (i.toNat * 18)).block, (ad.add (i.toNat * 18)).off + 9, none⟩ = some (.int .i64 (rd_T25 xs i).f9) ∧ w.cell? ⟨(ad.add (i.toNat * 18)).block, (ad.add (i.toNat * 18)).off + 10, none⟩ = some (.int .i64 (rd_T25 xs i).f10) ∧ w.cell? ⟨(ad.add (i.toNat * 18)).block, (ad.add (i.toNat * 18)).off + 11, none⟩ = some (.int .i64 (rd_T25 xs i).f11) ∧ w.cell? ⟨(ad.add (i.toNat * 18)).block, (ad.add (i.toNat * 18)).off + 12, none⟩ = some (.int .i64 (rd_T25 xs i).f12) ∧ w.cell? ⟨(ad.add (i.toNat * 18)).block, (ad.add (i.toNat * 18)).off + 13, none⟩ = some (.int .i64 (rd_T25 xs i).f13.f0) ∧ w.cell? ⟨(ad.add (i.toNat * 18)).block, (ad.add (i.toNat * 18)).off + 14, none⟩ = some (.int .i64 (rd_T25 xs i).f13.f1) ∧ w.cell? ⟨(ad.add (i.toNat * 18)).block, (ad.add (i.toNat * 18)).off + 15, none⟩ = some (.int .i64 (rd_T25 xs i).f13.f2) ∧ w.cell? ⟨(ad.add (i.toNat * 18)).block, (ad.add (i.toNat * 18)).off + 16, none⟩ = some (.int .i64 (rd_T25 xs i).f13.f3) ∧ w.cell? ⟨(ad.add (i.toNat * 18)).block, (ad.add (i.toNat * 18)).off + 17, none⟩ = some (.int .i64 (rd_T25 xs i).f13.f4) := by
  obtain ⟨ad, c, e, _, hK, hc0⟩ := Kd.C_get h z25 i h0 h1
  have hc : ∀ j u, c[j]? = some u → w.cell? (ad.add (i.toNat * 18 + j)) = some u := hc0
  obtain rfl := k25_open hK
  exact ⟨ad, e, hc 0 _ rfl, by rw [← add_field _ _ 1 (by omega)]; exact hc 1 _ rfl, by rw [← add_field _ _ 2 (by omega)]; exact hc 2 _ rfl, by rw [← add_field _ _ 3 (by omega)]; exact hc 3 _ rfl, by rw [← add_field _ _ 4 (by omega)]; exact hc 4 _ rfl, by rw [← add_field _ _ 5 (by omega)]; exact hc 5 _ rfl, by rw [← add_field _ _ 6 (by omega)]; exact hc 6 _ rfl, by rw [← add_field _ _ 7 (by omega)]; exact hc 7 _ rfl, by rw [← add_field _ _ 8 (by omega)]; exact hc 8 _ rfl, by rw [← add_field _ _ 9 (by omega)]; exact hc 9 _ rfl, by rw [← add_field _ _ 10 (by omega)]; exact hc 10 _ rfl, by rw [← add_field _ _ 11 (by omega)]; exact hc 11 _ rfl, by rw [← add_field _ _ 12 (by omega)]; exact hc 12 _ rfl, by rw [← add_field _ _ 13 (by omega)]; exact hc 13 _ rfl, by rw [← add_field _ _ 14 (by omega)]; exact hc 14 _ rfl, by rw [← add_field _ _ 15 (by omega)]; exact hc 15 _ rfl, by rw [← add_field _ _ 16 (by omega)]; exact hc 16 _ rfl, by rw [← add_field _ _ 17 (by omega)]; exact hc 17 _ rfl⟩

/-! #### struct type 56 -/
structure S56 where
  f0 : ByteArray
  f1 : ByteArray
def z56 : S56 := ⟨(⟨#[]⟩ : ByteArray), (⟨#[]⟩ : ByteArray)⟩
def k56 : Kd S56 := Kd.iso (Kd.pair Kd.string Kd.string) (fun x : S56 => (x.f0, x.f1))
theorem k56_open {w : World} {x : S56} {cs : List Value} (h : k56.K w x cs) : cs = [.string x.f0, .string x.f1] := by
  obtain ⟨_, _, rfl, rfl, rfl⟩ := h
  exact rfl
theorem k56_openM {w : World} {base : Nat} {ok : Nat → Prop} {x : S56} {cs : List Value} (h : k56.M w base ok x cs) : cs = [.string x.f0, .string x.f1] := by
  obtain ⟨_, _, rfl, rfl, rfl⟩ := h
  exact rfl
theorem k56_mk (w : World) (x : S56)  : k56.K w x [.string x.f0, .string x.f1] := ⟨[.string x.f0], [.string x.f1], rfl, rfl, rfl⟩
theorem k56_mkM (w : World) (base : Nat) (ok : Nat → Prop) (x : S56)  : k56.M w base ok x [.string x.f0, .string x.f1] := ⟨[.string x.f0], [.string x.f1], rfl, rfl, rfl⟩
def rd_T56 (xs : List S56) (i : Int) : S56 := xs.getD i.toNat z56
theorem at_T56 {w : World} {A : Option Addr} {n : Nat} {xs : List S56} (h : Kd.C k56 w A n xs) (i : Int) (h0 : 0 ≤ i) (h1 : i < n) : ∃ ad , A = some ad ∧ w.cell? (ad.add (i.toNat * 2)) = some (.string (rd_T56 xs i).f0) ∧ w.cell? ⟨(ad.add (i.toNat * 2)).block, (ad.add (i.toNat * 2)).off + 1, none⟩ = some (.string (rd_T56 xs i).f1) := by
  obtain ⟨ad, c, e, _, hK, hc0⟩ := Kd.C_get h z56 i h0 h1
  have hc : ∀ j u, c[j]? = some u → w.cell? (ad.add (i.toNat * 2 + j)) = some u := hc0
  obtain rfl := k56_open hK
  exact ⟨ad, e, hc 0 _ rfl, by rw [← add_field _ _ 1 (by omega)]; exact hc 1 _ rfl⟩

/-! #### struct type 32 -/
structure S32 where
  f0 : ByteArray
  f1 : ByteArray
  f2 : ByteArray
def z32 : S32 := ⟨(⟨#[]⟩ : ByteArray), (⟨#[]⟩ : ByteArray), (⟨#[]⟩ : ByteArray)⟩
def k32 : Kd S32 := Kd.iso (Kd.pair Kd.string (Kd.pair Kd.string Kd.string)) (fun x : S32 => (x.f0, x.f1, x.f2))
theorem k32_open {w : World} {x : S32} {cs : List Value} (h : k32.K w x cs) : cs = [.string x.f0, .string x.f1, .string x.f2] := by
  obtain ⟨_, _, rfl, rfl, ⟨_, _, rfl, rfl, rfl⟩⟩ := h
  exact rfl
theorem k32_openM {w : World} {base : Nat} {ok : Nat → Prop} {x : S32} {cs : List Value} (h : k32.M w base ok x cs) : cs = [.string x.f0, .string x.f1, .string x.f2] := by
  obtain ⟨_, _, rfl, rfl, ⟨_, _, rfl, rfl, rfl⟩⟩ := h
  exact rfl
theorem k32_mk (w : World) (x : S32)  : k32.K w x [.string x.f0, .string x.f1, .string x.f2] := ⟨[.string x.f0], [.string x.f1, .string x.f2], rfl, rfl, ⟨[.string x.f1], [.string x.f2], rfl, rfl, rfl⟩⟩
theorem k32_mkM (w : World) (base : Nat) (ok : Nat → Prop) (x : S32)  : k32.M w base ok x [.string x.f0, .string x.f1, .string x.f2] := ⟨[.string x.f0], [.string x.f1, .string x.f2], rfl, rfl, ⟨[.string x.f1], [.string x.f2], rfl, rfl, rfl⟩⟩
def rd_T32 (xs : List S32) (i : Int) : S32 := xs.getD i.toNat z32
theorem at_T32 {w : World} {A : Option Addr} {n : Nat} {xs : List S32} (h : Kd.C k32 w A n xs) (i : Int) (h0 : 0 ≤ i) (h1 : i < n) : ∃ ad , A = some ad ∧ w.cell? (ad.add (i.toNat * 3)) = some (.string (rd_T32 xs i).f0) ∧ w.cell? ⟨(ad.add (i.toNat * 3)).block, (ad.add (i.toNat * 3)).off + 1, none⟩ = some (.string (rd_T32 xs i).f1) ∧ w.cell? ⟨(ad.add (i.toNat * 3)).block, (ad.add (i.toNat * 3)).off + 2, none⟩ = some (.string (rd_T32 xs i).f2) := by
  obtain ⟨ad, c, e, _, hK, hc0⟩ := Kd.C_get h z32 i h0 h1
  have hc : ∀ j u, c[j]? = some u → w.cell? (ad.add (i.toNat * 3 + j)) = some u := hc0
  obtain rfl := k32_open hK
  exact ⟨ad, e, hc 0 _ rfl, by rw [← add_field _ _ 1 (by omega)]; exact hc 1 _ rfl, by rw [← add_field _ _ 2 (by omega)]; exact hc 2 _ rfl⟩

end Go.Proofs.Ytdjmgmiaognncaa.X
namespace Go.Proofs.Ytdjmgmiaognncaa.X
open Go.RowKit Go.Proofs.YtdjmgmiaognncaaW.PrintWords Go.Proofs.YtdjmgmiaognncaaW.PrintLast Go.Proofs.YtdjmgmiaognncaaW.PrintMore
attribute [local go_sem] max2_int min2_int max_two min_two max_three min_three max_four min_four   -- for this text's walks alone
set_option linter.unusedVariables false
set_option linter.unusedSimpArgs false

/-! ### strings_LastIndexByte: function 88 -/
def strings_LastIndexByte.f (a0 : ByteArray) (a1 : Int) : Option (Int) := if a0.size ≤ 140737488351232 then some (Lib.lastIndexByte a0 a1) else none
theorem strings_LastIndexByte.calls (a0 : ByteArray) (a1 : Int) (r : Int) (w : World) (h : strings_LastIndexByte.f a0 a1 = some r) :
    Calls Try.prog 88 #[.string a0, .int .u8 a1] w fun e w' => e = .returned (.int .i64 r) ∧ Drawn0 w w' := by
  by_cases hh : a0.size ≤ 140737488351232
  · rw [strings_LastIndexByte.f, if_pos hh] at h
    obtain rfl := Option.some.inj h
    refine (Try.strings_LastIndexByte a0 a1 (by omega) w).mono ?_
    rintro e w' ⟨rfl, rfl⟩
    exact ⟨rfl, Drawn0.refl _⟩
  · rw [strings_LastIndexByte.f, if_neg hh] at h
    cases h


end Go.Proofs.Ytdjmgmiaognncaa.X
namespace Go.Proofs.Ytdjmgmiaognncaa.X
open Go.RowKit Go.Proofs.YtdjmgmiaognncaaW.PrintWords Go.Proofs.YtdjmgmiaognncaaW.PrintLast Go.Proofs.YtdjmgmiaognncaaW.PrintMore
attribute [local go_sem] max2_int min2_int max_two min_two max_three min_three max_four min_four   -- for this text's walks alone
set_option linter.unusedVariables false
set_option linter.unusedSimpArgs false

/-! ### strings_IndexByte: function 89 -/
def strings_IndexByte.f (a0 : ByteArray) (a1 : Int) : Option (Int) := some (Lib.indexByte a0.data.toList a1.toNat.toUInt8)
theorem strings_IndexByte.calls (a0 : ByteArray) (a1 : Int) (r : Int) (w : World) (h : strings_IndexByte.f a0 a1 = some r) :
    Calls Try.prog 89 #[.string a0, .int .u8 a1] w fun e w' => e = .returned (.int .i64 r) ∧ Drawn0 w w' := by
  obtain rfl := Option.some.inj h
  refine (Try.strings_IndexByte a0 a1 w).mono ?_
  rintro e w' ⟨rfl, rfl⟩
  exact ⟨rfl, Drawn0.refl _⟩


end Go.Proofs.Ytdjmgmiaognncaa.X
namespace Go.Proofs.Ytdjmgmiaognncaa.X
open Go.RowKit Go.Proofs.YtdjmgmiaognncaaW.PrintWords Go.Proofs.YtdjmgmiaognncaaW.PrintLast Go.Proofs.YtdjmgmiaognncaaW.PrintMore
attribute [local go_sem] max2_int min2_int max_two min_two max_three min_three max_four min_four   -- for this text's walks alone
set_option linter.unusedVariables false
set_option linter.unusedSimpArgs false

/-! ### host_cut: function 66 -/
def host_cut.f (a0 : ByteArray) : Option (ByteArray × ByteArray × Bool) := (strings_LastIndexByte.f a0 58).bind fun t101 => ((strings_IndexByte.f a0 93).bind fun t102 => (if t101 < t102 then (some (a0, (⟨#[]⟩ : ByteArray), false)) else (if t101 < 0 then (some (a0, (⟨#[]⟩ : ByteArray), false)) else (if 0 ≤ t101 then (if t101 ≤ (a0.size : Int) then (if 0 ≤ (wrap64 (t101 + 1)) then (if (wrap64 (t101 + 1)) ≤ (a0.size : Int) then (some (a0.extract 0 (t101 : Int).toNat, a0.extract ((wrap64 (t101 + 1)) : Int).toNat a0.size, true)) else (none)) else (none)) else (none)) else (none)))))
set_option maxHeartbeats 8000000 in
set_option maxRecDepth 100000 in
theorem host_cut.calls (a0 : ByteArray) (r1 : ByteArray) (r2 : ByteArray) (r3 : Bool) (w : World) (h : host_cut.f a0 = some (r1, r2, r3)) :
    Calls Try.prog 66 #[.string a0] w fun e w' => e = .returned (.tuple #[.string r1, .string r2, .bool r3]) ∧ Drawn0 w w' := by
  have H : ((strings_LastIndexByte.f a0 58).bind fun t101 => ((strings_IndexByte.f a0 93).bind fun t102 => (if t101 < t102 then (some (a0, (⟨#[]⟩ : ByteArray), false)) else (if t101 < 0 then (some (a0, (⟨#[]⟩ : ByteArray), false)) else (if 0 ≤ t101 then (if t101 ≤ (a0.size : Int) then (if 0 ≤ (wrap64 (t101 + 1)) then (if (wrap64 (t101 + 1)) ≤ (a0.size : Int) then (some (a0.extract 0 (t101 : Int).toNat, a0.extract ((wrap64 (t101 + 1)) : Int).toNat a0.size, true)) else (none)) else (none)) else (none)) else (none)))))) = some (r1, r2, r3) := h
  clear h
  replace H := Option.bind_eq_some_iff.mp H
  obtain ⟨t101, A20, H⟩ := H
  replace H : ((strings_IndexByte.f a0 93).bind fun t102 => (if t101 < t102 then (some (a0, (⟨#[]⟩ : ByteArray), false)) else (if t101 < 0 then (some (a0, (⟨#[]⟩ : ByteArray), false)) else (if 0 ≤ t101 then (if t101 ≤ (a0.size : Int) then (if 0 ≤ (wrap64 (t101 + 1)) then (if (wrap64 (t101 + 1)) ≤ (a0.size : Int) then (some (a0.extract 0 (t101 : Int).toNat, a0.extract ((wrap64 (t101 + 1)) : Int).toNat a0.size, true)) else (none)) else (none)) else (none)) else (none))))) = some (r1, r2, r3) := H
  have A2 := Aside0.mk A20
  clear A20
  replace H := Option.bind_eq_some_iff.mp H
  obtain ⟨t102, A30, H⟩ := H
  replace H : (if t101 < t102 then (some (a0, (⟨#[]⟩ : ByteArray), false)) else (if t101 < 0 then (some (a0, (⟨#[]⟩ : ByteArray), false)) else (if 0 ≤ t101 then (if t101 ≤ (a0.size : Int) then (if 0 ≤ (wrap64 (t101 + 1)) then (if (wrap64 (t101 + 1)) ≤ (a0.size : Int) then (some (a0.extract 0 (t101 : Int).toNat, a0.extract ((wrap64 (t101 + 1)) : Int).toNat a0.size, true)) else (none)) else (none)) else (none)) else (none)))) = some (r1, r2, r3) := H
  have A3 := Aside0.mk A30
  clear A30
  by_cases c4 : t101 < t102
  · rw [if_pos c4] at H
    have c4b0 : decide (t101 < t102) = true := decide_eq_true c4
    clear c4
    simp only [Option.some.injEq, Prod.mk.injEq] at H
    obtain ⟨rfl, rfl, rfl⟩ := H
    go_enter Try.func66, Try.ntmps66
    go_wp2_with (first | (go_at_call 88; (with_reducible refine (strings_LastIndexByte.calls a0 58 t101 _ A2.out).mono ?_); rintro e w' ⟨rfl, ⟨nd, rfl⟩⟩; (try first | exact ⟨rfl, _, World.drewN_drewN _ _ _⟩ | exact ⟨rfl, _, Eq.trans (World.drewN_drewN _ _ _) (congrArg (World.drewN _) (Nat.add_assoc _ _ _))⟩)) | (go_at_call 89; (with_reducible refine (strings_IndexByte.calls a0 93 t102 _ A3.out).mono ?_); rintro e w' ⟨rfl, ⟨nd, rfl⟩⟩; (try first | exact ⟨rfl, _, World.drewN_drewN _ _ _⟩ | exact ⟨rfl, _, Eq.trans (World.drewN_drewN _ _ _) (congrArg (World.drewN _) (Nat.add_assoc _ _ _))⟩)))
    repeat (go_quiet (first | (go_at_call 88; (with_reducible refine (strings_LastIndexByte.calls a0 58 t101 _ A2.out).mono ?_); rintro e w' ⟨rfl, ⟨nd, rfl⟩⟩; (try first | exact ⟨rfl, _, World.drewN_drewN _ _ _⟩ | exact ⟨rfl, _, Eq.trans (World.drewN_drewN _ _ _) (congrArg (World.drewN _) (Nat.add_assoc _ _ _))⟩)) | (go_at_call 89; (with_reducible refine (strings_IndexByte.calls a0 93 t102 _ A3.out).mono ?_); rintro e w' ⟨rfl, ⟨nd, rfl⟩⟩; (try first | exact ⟨rfl, _, World.drewN_drewN _ _ _⟩ | exact ⟨rfl, _, Eq.trans (World.drewN_drewN _ _ _) (congrArg (World.drewN _) (Nat.add_assoc _ _ _))⟩))); try go_wp2_with (first | (go_at_call 88; (with_reducible refine (strings_LastIndexByte.calls a0 58 t101 _ A2.out).mono ?_); rintro e w' ⟨rfl, ⟨nd, rfl⟩⟩; (try first | exact ⟨rfl, _, World.drewN_drewN _ _ _⟩ | exact ⟨rfl, _, Eq.trans (World.drewN_drewN _ _ _) (congrArg (World.drewN _) (Nat.add_assoc _ _ _))⟩)) | (go_at_call 89; (with_reducible refine (strings_IndexByte.calls a0 93 t102 _ A3.out).mono ?_); rintro e w' ⟨rfl, ⟨nd, rfl⟩⟩; (try first | exact ⟨rfl, _, World.drewN_drewN _ _ _⟩ | exact ⟨rfl, _, Eq.trans (World.drewN_drewN _ _ _) (congrArg (World.drewN _) (Nat.add_assoc _ _ _))⟩))))
    go_ret3
    exact ⟨by first | rfl | (simp; done) | (simp [*]; done), by repeat (first | exact Drawn0.refl _ | apply Drawn0.step)⟩
  · rw [if_neg c4] at H
    have c4b0 : decide (t101 < t102) = false := decide_eq_false c4
    clear c4
    by_cases c5 : t101 < 0
    · rw [if_pos c5] at H
      have c5b0 : decide (t101 < 0) = true := decide_eq_true c5
      clear c5
      simp only [Option.some.injEq, Prod.mk.injEq] at H
      obtain ⟨rfl, rfl, rfl⟩ := H
      go_enter Try.func66, Try.ntmps66
      go_wp2_with (first | (go_at_call 88; (with_reducible refine (strings_LastIndexByte.calls a0 58 t101 _ A2.out).mono ?_); rintro e w' ⟨rfl, ⟨nd, rfl⟩⟩; (try first | exact ⟨rfl, _, World.drewN_drewN _ _ _⟩ | exact ⟨rfl, _, Eq.trans (World.drewN_drewN _ _ _) (congrArg (World.drewN _) (Nat.add_assoc _ _ _))⟩)) | (go_at_call 89; (with_reducible refine (strings_IndexByte.calls a0 93 t102 _ A3.out).mono ?_); rintro e w' ⟨rfl, ⟨nd, rfl⟩⟩; (try first | exact ⟨rfl, _, World.drewN_drewN _ _ _⟩ | exact ⟨rfl, _, Eq.trans (World.drewN_drewN _ _ _) (congrArg (World.drewN _) (Nat.add_assoc _ _ _))⟩)))
      repeat (go_quiet (first | (go_at_call 88; (with_reducible refine (strings_LastIndexByte.calls a0 58 t101 _ A2.out).mono ?_); rintro e w' ⟨rfl, ⟨nd, rfl⟩⟩; (try first | exact ⟨rfl, _, World.drewN_drewN _ _ _⟩ | exact ⟨rfl, _, Eq.trans (World.drewN_drewN _ _ _) (congrArg (World.drewN _) (Nat.add_assoc _ _ _))⟩)) | (go_at_call 89; (with_reducible refine (strings_IndexByte.calls a0 93 t102 _ A3.out).mono ?_); rintro e w' ⟨rfl, ⟨nd, rfl⟩⟩; (try first | exact ⟨rfl, _, World.drewN_drewN _ _ _⟩ | exact ⟨rfl, _, Eq.trans (World.drewN_drewN _ _ _) (congrArg (World.drewN _) (Nat.add_assoc _ _ _))⟩))); try go_wp2_with (first | (go_at_call 88; (with_reducible refine (strings_LastIndexByte.calls a0 58 t101 _ A2.out).mono ?_); rintro e w' ⟨rfl, ⟨nd, rfl⟩⟩; (try first | exact ⟨rfl, _, World.drewN_drewN _ _ _⟩ | exact ⟨rfl, _, Eq.trans (World.drewN_drewN _ _ _) (congrArg (World.drewN _) (Nat.add_assoc _ _ _))⟩)) | (go_at_call 89; (with_reducible refine (strings_IndexByte.calls a0 93 t102 _ A3.out).mono ?_); rintro e w' ⟨rfl, ⟨nd, rfl⟩⟩; (try first | exact ⟨rfl, _, World.drewN_drewN _ _ _⟩ | exact ⟨rfl, _, Eq.trans (World.drewN_drewN _ _ _) (congrArg (World.drewN _) (Nat.add_assoc _ _ _))⟩))))
      go_ret3
      exact ⟨by first | rfl | (simp; done) | (simp [*]; done), by repeat (first | exact Drawn0.refl _ | apply Drawn0.step)⟩
    · rw [if_neg c5] at H
      have c5b0 : decide (t101 < 0) = false := decide_eq_false c5
      clear c5
      by_cases c6 : 0 ≤ t101
      · rw [if_pos c6] at H
        have c6b0 := eq_true c6
        have c6b1 : decide (0 ≤ t101) = true := decide_eq_true c6
        clear c6
        by_cases c7 : t101 ≤ (a0.size : Int)
        · rw [if_pos c7] at H
          have c7b0 := eq_true c7
          have c7b1 : decide (t101 ≤ (a0.size : Int)) = true := decide_eq_true c7
          clear c7
          obtain ⟨ji8, hji8⟩ : ∃ j_ : Int, (wrap64 (t101 + 1)) = j_ := ⟨_, rfl⟩
          replace H : (if 0 ≤ (ji8) then (if (ji8) ≤ (a0.size : Int) then (some (a0.extract 0 (t101 : Int).toNat, a0.extract ((ji8) : Int).toNat a0.size, true)) else (none)) else (none)) = some (r1, r2, r3) := by first | (rw [hji8] at H; exact H) | (simp only [hji8] at H ⊢; exact H)
          (try rw [hji8] at A2)
          (try rw [hji8] at A3)
          have hji8w : (IntKind.i64.wrap (t101 + 1)) = ji8 := (i64_w _).trans hji8
          by_cases c9 : 0 ≤ (ji8)
          · rw [if_pos c9] at H
            have c9b0 := eq_true c9
            have c9b1 : decide (0 ≤ (ji8)) = true := decide_eq_true c9
            clear c9
            by_cases c10 : (ji8) ≤ (a0.size : Int)
            · rw [if_pos c10] at H
              have c10b0 := eq_true c10
              have c10b1 : decide ((ji8) ≤ (a0.size : Int)) = true := decide_eq_true c10
              clear c10
              simp only [Option.some.injEq, Prod.mk.injEq] at H
              obtain ⟨rfl, rfl, rfl⟩ := H
              go_enter Try.func66, Try.ntmps66
              go_wp2_with (first | (go_at_call 88; (with_reducible refine (strings_LastIndexByte.calls a0 58 t101 _ A2.out).mono ?_); rintro e w' ⟨rfl, ⟨nd, rfl⟩⟩; (try first | exact ⟨rfl, _, World.drewN_drewN _ _ _⟩ | exact ⟨rfl, _, Eq.trans (World.drewN_drewN _ _ _) (congrArg (World.drewN _) (Nat.add_assoc _ _ _))⟩)) | (go_at_call 89; (with_reducible refine (strings_IndexByte.calls a0 93 t102 _ A3.out).mono ?_); rintro e w' ⟨rfl, ⟨nd, rfl⟩⟩; (try first | exact ⟨rfl, _, World.drewN_drewN _ _ _⟩ | exact ⟨rfl, _, Eq.trans (World.drewN_drewN _ _ _) (congrArg (World.drewN _) (Nat.add_assoc _ _ _))⟩)))
              repeat (go_quiet (first | (go_at_call 88; (with_reducible refine (strings_LastIndexByte.calls a0 58 t101 _ A2.out).mono ?_); rintro e w' ⟨rfl, ⟨nd, rfl⟩⟩; (try first | exact ⟨rfl, _, World.drewN_drewN _ _ _⟩ | exact ⟨rfl, _, Eq.trans (World.drewN_drewN _ _ _) (congrArg (World.drewN _) (Nat.add_assoc _ _ _))⟩)) | (go_at_call 89; (with_reducible refine (strings_IndexByte.calls a0 93 t102 _ A3.out).mono ?_); rintro e w' ⟨rfl, ⟨nd, rfl⟩⟩; (try first | exact ⟨rfl, _, World.drewN_drewN _ _ _⟩ | exact ⟨rfl, _, Eq.trans (World.drewN_drewN _ _ _) (congrArg (World.drewN _) (Nat.add_assoc _ _ _))⟩))); try go_wp2_with (first | (go_at_call 88; (with_reducible refine (strings_LastIndexByte.calls a0 58 t101 _ A2.out).mono ?_); rintro e w' ⟨rfl, ⟨nd, rfl⟩⟩; (try first | exact ⟨rfl, _, World.drewN_drewN _ _ _⟩ | exact ⟨rfl, _, Eq.trans (World.drewN_drewN _ _ _) (congrArg (World.drewN _) (Nat.add_assoc _ _ _))⟩)) | (go_at_call 89; (with_reducible refine (strings_IndexByte.calls a0 93 t102 _ A3.out).mono ?_); rintro e w' ⟨rfl, ⟨nd, rfl⟩⟩; (try first | exact ⟨rfl, _, World.drewN_drewN _ _ _⟩ | exact ⟨rfl, _, Eq.trans (World.drewN_drewN _ _ _) (congrArg (World.drewN _) (Nat.add_assoc _ _ _))⟩))))
              go_ret3
              exact ⟨by first | rfl | (simp; done) | (simp only [← hji8] <;> (first | rfl | simp)) | (simp [*]; done), by repeat (first | exact Drawn0.refl _ | apply Drawn0.step)⟩
            · rw [if_neg c10] at H
              exact absurd H (by simp)
          · rw [if_neg c9] at H
            exact absurd H (by simp)
        · rw [if_neg c7] at H
          exact absurd H (by simp)
      · rw [if_neg c6] at H
        exact absurd H (by simp)

end Go.Proofs.Ytdjmgmiaognncaa.X
namespace Go.Proofs.Ytdjmgmiaognncaa.X
open Go.RowKit Go.Proofs.YtdjmgmiaognncaaW.PrintWords Go.Proofs.YtdjmgmiaognncaaW.PrintLast Go.Proofs.YtdjmgmiaognncaaW.PrintMore
attribute [local go_sem] max2_int min2_int max_two min_two max_three min_three max_four min_four   -- for this text's walks alone
set_option linter.unusedVariables false
set_option linter.unusedSimpArgs false

/-! ### host_hex: function 90 -/
def host_hex.f (a0 : Int) : Option (Bool) := if a0 ≥ 48 then (if a0 ≤ 57 then (some true) else (if a0 ≥ 97 then (if a0 ≤ 102 then (some true) else (if a0 ≥ 65 then (some (decide (a0 ≤ 70))) else (some false))) else (if a0 ≥ 65 then (some (decide (a0 ≤ 70))) else (some false)))) else (if a0 ≥ 97 then (if a0 ≤ 102 then (some true) else (if a0 ≥ 65 then (some (decide (a0 ≤ 70))) else (some false))) else (if a0 ≥ 65 then (some (decide (a0 ≤ 70))) else (some false)))
set_option maxHeartbeats 8000000 in
set_option maxRecDepth 100000 in
theorem host_hex.calls (a0 : Int) (r : Bool) (w : World) (h : host_hex.f a0 = some r) :
    Calls Try.prog 90 #[.int .i32 a0] w fun e w' => e = .returned (.bool r) ∧ Drawn0 w w' := by
  have H : (if a0 ≥ 48 then (if a0 ≤ 57 then (some true) else (if a0 ≥ 97 then (if a0 ≤ 102 then (some true) else (if a0 ≥ 65 then (some (decide (a0 ≤ 70))) else (some false))) else (if a0 ≥ 65 then (some (decide (a0 ≤ 70))) else (some false)))) else (if a0 ≥ 97 then (if a0 ≤ 102 then (some true) else (if a0 ≥ 65 then (some (decide (a0 ≤ 70))) else (some false))) else (if a0 ≥ 65 then (some (decide (a0 ≤ 70))) else (some false)))) = some r := h
  clear h
  by_cases c2 : a0 ≥ 48
  · rw [if_pos c2] at H
    have c2b0 : decide (48 ≤ a0) = true := decide_eq_true c2
    clear c2
    by_cases c3 : a0 ≤ 57
    · rw [if_pos c3] at H
      have c3b0 : decide (a0 ≤ 57) = true := decide_eq_true c3
      clear c3
      obtain rfl := Option.some.inj H
      go_enter Try.func90, Try.ntmps90
      go_wp2
      go_ret
      exact ⟨by first | rfl | (simp; done) | (simp [*]; done), by repeat (first | exact Drawn0.refl _ | apply Drawn0.step)⟩
    · rw [if_neg c3] at H
      have c3b0 : decide (a0 ≤ 57) = false := decide_eq_false c3
      clear c3
      by_cases c4 : a0 ≥ 97
      · rw [if_pos c4] at H
        have c4b0 : decide (97 ≤ a0) = true := decide_eq_true c4
        clear c4
        by_cases c5 : a0 ≤ 102
        · rw [if_pos c5] at H
          have c5b0 : decide (a0 ≤ 102) = true := decide_eq_true c5
          clear c5
          obtain rfl := Option.some.inj H
          go_enter Try.func90, Try.ntmps90
          go_wp2
          go_ret
          exact ⟨by first | rfl | (simp; done) | (simp [*]; done), by repeat (first | exact Drawn0.refl _ | apply Drawn0.step)⟩
        · rw [if_neg c5] at H
          have c5b0 : decide (a0 ≤ 102) = false := decide_eq_false c5
          clear c5
          by_cases c6 : a0 ≥ 65
          · rw [if_pos c6] at H
            have c6b0 : decide (65 ≤ a0) = true := decide_eq_true c6
            clear c6
            obtain rfl := Option.some.inj H
            go_enter Try.func90, Try.ntmps90
            go_wp2
            go_ret
            exact ⟨by first | rfl | (simp; done) | (simp [*]; done), by repeat (first | exact Drawn0.refl _ | apply Drawn0.step)⟩
          · rw [if_neg c6] at H
            have c6b0 : decide (65 ≤ a0) = false := decide_eq_false c6
            clear c6
            obtain rfl := Option.some.inj H
            go_enter Try.func90, Try.ntmps90
            go_wp2
            go_ret
            exact ⟨by first | rfl | (simp; done) | (simp [*]; done), by repeat (first | exact Drawn0.refl _ | apply Drawn0.step)⟩
      · rw [if_neg c4] at H
        have c4b0 : decide (97 ≤ a0) = false := decide_eq_false c4
        clear c4
        by_cases c7 : a0 ≥ 65
        · rw [if_pos c7] at H
          have c7b0 : decide (65 ≤ a0) = true := decide_eq_true c7
          clear c7
          obtain rfl := Option.some.inj H
          go_enter Try.func90, Try.ntmps90
          go_wp2
          go_ret
          exact ⟨by first | rfl | (simp; done) | (simp [*]; done), by repeat (first | exact Drawn0.refl _ | apply Drawn0.step)⟩
        · rw [if_neg c7] at H
          have c7b0 : decide (65 ≤ a0) = false := decide_eq_false c7
          clear c7
          obtain rfl := Option.some.inj H
          go_enter Try.func90, Try.ntmps90
          go_wp2
          go_ret
          exact ⟨by first | rfl | (simp; done) | (simp [*]; done), by repeat (first | exact Drawn0.refl _ | apply Drawn0.step)⟩
  · rw [if_neg c2] at H
    have c2b0 : decide (48 ≤ a0) = false := decide_eq_false c2
    clear c2
    by_cases c8 : a0 ≥ 97
    · rw [if_pos c8] at H
      have c8b0 : decide (97 ≤ a0) = true := decide_eq_true c8
      clear c8
      by_cases c9 : a0 ≤ 102
      · rw [if_pos c9] at H
        have c9b0 : decide (a0 ≤ 102) = true := decide_eq_true c9
        clear c9
        obtain rfl := Option.some.inj H
        go_enter Try.func90, Try.ntmps90
        go_wp2
        go_ret
        exact ⟨by first | rfl | (simp; done) | (simp [*]; done), by repeat (first | exact Drawn0.refl _ | apply Drawn0.step)⟩
      · rw [if_neg c9] at H
        have c9b0 : decide (a0 ≤ 102) = false := decide_eq_false c9
        clear c9
        by_cases c10 : a0 ≥ 65
        · rw [if_pos c10] at H
          have c10b0 : decide (65 ≤ a0) = true := decide_eq_true c10
          clear c10
          obtain rfl := Option.some.inj H
          go_enter Try.func90, Try.ntmps90
          go_wp2
          go_ret
          exact ⟨by first | rfl | (simp; done) | (simp [*]; done), by repeat (first | exact Drawn0.refl _ | apply Drawn0.step)⟩
        · rw [if_neg c10] at H
          have c10b0 : decide (65 ≤ a0) = false := decide_eq_false c10
          clear c10
          obtain rfl := Option.some.inj H
          go_enter Try.func90, Try.ntmps90
          go_wp2
          go_ret
          exact ⟨by first | rfl | (simp; done) | (simp [*]; done), by repeat (first | exact Drawn0.refl _ | apply Drawn0.step)⟩
    · rw [if_neg c8] at H
      have c8b0 : decide (97 ≤ a0) = false := decide_eq_false c8
      clear c8
      by_cases c11 : a0 ≥ 65
      · rw [if_pos c11] at H
        have c11b0 : decide (65 ≤ a0) = true := decide_eq_true c11
        clear c11
        obtain rfl := Option.some.inj H
        go_enter Try.func90, Try.ntmps90
        go_wp2
        go_ret
        exact ⟨by first | rfl | (simp; done) | (simp [*]; done), by repeat (first | exact Drawn0.refl _ | apply Drawn0.step)⟩
      · rw [if_neg c11] at H
        have c11b0 : decide (65 ≤ a0) = false := decide_eq_false c11
        clear c11
        obtain rfl := Option.some.inj H
        go_enter Try.func90, Try.ntmps90
        go_wp2
        go_ret
        exact ⟨by first | rfl | (simp; done) | (simp [*]; done), by repeat (first | exact Drawn0.refl _ | apply Drawn0.step)⟩

end Go.Proofs.Ytdjmgmiaognncaa.X
namespace Go.Proofs.Ytdjmgmiaognncaa.X
open Go.RowKit Go.Proofs.YtdjmgmiaognncaaW.PrintWords Go.Proofs.YtdjmgmiaognncaaW.PrintLast Go.Proofs.YtdjmgmiaognncaaW.PrintMore
attribute [local go_sem] max2_int min2_int max_two min_two max_three min_three max_four min_four   -- for this text's walks alone
set_option linter.unusedVariables false
set_option linter.unusedSimpArgs false

/-! ### host_plain: function 91 -/
def host_plain.f (a0 : Int) : Option (Bool) := if a0 ≥ 97 then (if a0 ≤ 122 then (some true) else (if a0 ≥ 65 then (if a0 ≤ 90 then (some true) else (if a0 ≥ 48 then (if a0 ≤ 57 then (some true) else ((strings_IndexByte.f (⟨#[45, 46, 95, 126, 33, 36, 38, 39, 40, 41, 42, 43, 44, 59, 61]⟩ : ByteArray) ((a0) % 256)).bind fun t101 => (if t101 ≥ 0 then (some (decide (a0 < 128))) else (some false)))) else ((strings_IndexByte.f (⟨#[45, 46, 95, 126, 33, 36, 38, 39, 40, 41, 42, 43, 44, 59, 61]⟩ : ByteArray) ((a0) % 256)).bind fun t102 => (if t102 ≥ 0 then (some (decide (a0 < 128))) else (some false))))) else (if a0 ≥ 48 then (if a0 ≤ 57 then (some true) else ((strings_IndexByte.f (⟨#[45, 46, 95, 126, 33, 36, 38, 39, 40, 41, 42, 43, 44, 59, 61]⟩ : ByteArray) ((a0) % 256)).bind fun t103 => (if t103 ≥ 0 then (some (decide (a0 < 128))) else (some false)))) else ((strings_IndexByte.f (⟨#[45, 46, 95, 126, 33, 36, 38, 39, 40, 41, 42, 43, 44, 59, 61]⟩ : ByteArray) ((a0) % 256)).bind fun t104 => (if t104 ≥ 0 then (some (decide (a0 < 128))) else (some false)))))) else (if a0 ≥ 65 then (if a0 ≤ 90 then (some true) else (if a0 ≥ 48 then (if a0 ≤ 57 then (some true) else ((strings_IndexByte.f (⟨#[45, 46, 95, 126, 33, 36, 38, 39, 40, 41, 42, 43, 44, 59, 61]⟩ : ByteArray) ((a0) % 256)).bind fun t105 => (if t105 ≥ 0 then (some (decide (a0 < 128))) else (some false)))) else ((strings_IndexByte.f (⟨#[45, 46, 95, 126, 33, 36, 38, 39, 40, 41, 42, 43, 44, 59, 61]⟩ : ByteArray) ((a0) % 256)).bind fun t106 => (if t106 ≥ 0 then (some (decide (a0 < 128))) else (some false))))) else (if a0 ≥ 48 then (if a0 ≤ 57 then (some true) else ((strings_IndexByte.f (⟨#[45, 46, 95, 126, 33, 36, 38, 39, 40, 41, 42, 43, 44, 59, 61]⟩ : ByteArray) ((a0) % 256)).bind fun t107 => (if t107 ≥ 0 then (some (decide (a0 < 128))) else (some false)))) else ((strings_IndexByte.f (⟨#[45, 46, 95, 126, 33, 36, 38, 39, 40, 41, 42, 43, 44, 59, 61]⟩ : ByteArray) ((a0) % 256)).bind fun t108 => (if t108 ≥ 0 then (some (decide (a0 < 128))) else (some false)))))
set_option maxHeartbeats 8000000 in
set_option maxRecDepth 100000 in
theorem host_plain.calls (a0 : Int) (r : Bool) (w : World) (h : host_plain.f a0 = some r) :
    Calls Try.prog 91 #[.int .i32 a0] w fun e w' => e = .returned (.bool r) ∧ Drawn0 w w' := by
  have H : (if a0 ≥ 97 then (if a0 ≤ 122 then (some true) else (if a0 ≥ 65 then (if a0 ≤ 90 then (some true) else (if a0 ≥ 48 then (if a0 ≤ 57 then (some true) else ((strings_IndexByte.f (⟨#[45, 46, 95, 126, 33, 36, 38, 39, 40, 41, 42, 43, 44, 59, 61]⟩ : ByteArray) ((a0) % 256)).bind fun t101 => (if t101 ≥ 0 then (some (decide (a0 < 128))) else (some false)))) else ((strings_IndexByte.f (⟨#[45, 46, 95, 126, 33, 36, 38, 39, 40, 41, 42, 43, 44, 59, 61]⟩ : ByteArray) ((a0) % 256)).bind fun t102 => (if t102 ≥ 0 then (some (decide (a0 < 128))) else (some false))))) else (if a0 ≥ 48 then (if a0 ≤ 57 then (some true) else ((strings_IndexByte.f (⟨#[45, 46, 95, 126, 33, 36, 38, 39, 40, 41, 42, 43, 44, 59, 61]⟩ : ByteArray) ((a0) % 256)).bind fun t103 => (if t103 ≥ 0 then (some (decide (a0 < 128))) else (some false)))) else ((strings_IndexByte.f (⟨#[45, 46, 95, 126, 33, 36, 38, 39, 40, 41, 42, 43, 44, 59, 61]⟩ : ByteArray) ((a0) % 256)).bind fun t104 => (if t104 ≥ 0 then (some (decide (a0 < 128))) else (some false)))))) else (if a0 ≥ 65 then (if a0 ≤ 90 then (some true) else (if a0 ≥ 48 then (if a0 ≤ 57 then (some true) else ((strings_IndexByte.f (⟨#[45, 46, 95, 126, 33, 36, 38, 39, 40, 41, 42, 43, 44, 59, 61]⟩ : ByteArray) ((a0) % 256)).bind fun t105 => (if t105 ≥ 0 then (some (decide (a0 < 128))) else (some false)))) else ((strings_IndexByte.f (⟨#[45, 46, 95, 126, 33, 36, 38, 39, 40, 41, 42, 43, 44, 59, 61]⟩ : ByteArray) ((a0) % 256)).bind fun t106 => (if t106 ≥ 0 then (some (decide (a0 < 128))) else (some false))))) else (if a0 ≥ 48 then (if a0 ≤ 57 then (some true) else ((strings_IndexByte.f (⟨#[45, 46, 95, 126, 33, 36, 38, 39, 40, 41, 42, 43, 44, 59, 61]⟩ : ByteArray) ((a0) % 256)).bind fun t107 => (if t107 ≥ 0 then (some (decide (a0 < 128))) else (some false)))) else ((strings_IndexByte.f (⟨#[45, 46, 95, 126, 33, 36, 38, 39, 40, 41, 42, 43, 44, 59, 61]⟩ : ByteArray) ((a0) % 256)).bind fun t108 => (if t108 ≥ 0 then (some (decide (a0 < 128))) else (some false)))))) = some r := h
  clear h
  by_cases c2 : a0 ≥ 97
  · rw [if_pos c2] at H
    have c2b0 : decide (97 ≤ a0) = true := decide_eq_true c2
    clear c2
    by_cases c3 : a0 ≤ 122
    · rw [if_pos c3] at H
      have c3b0 : decide (a0 ≤ 122) = true := decide_eq_true c3
      clear c3
      obtain rfl := Option.some.inj H
      go_enter Try.func91, Try.ntmps91
      go_wp2
      go_ret
      exact ⟨by first | rfl | (simp; done) | (simp [*]; done), by repeat (first | exact Drawn0.refl _ | apply Drawn0.step)⟩
    · rw [if_neg c3] at H
      have c3b0 : decide (a0 ≤ 122) = false := decide_eq_false c3
      clear c3
      by_cases c4 : a0 ≥ 65
      · rw [if_pos c4] at H
        have c4b0 : decide (65 ≤ a0) = true := decide_eq_true c4
        clear c4
        by_cases c5 : a0 ≤ 90
        · rw [if_pos c5] at H
          have c5b0 : decide (a0 ≤ 90) = true := decide_eq_true c5
          clear c5
          obtain rfl := Option.some.inj H
          go_enter Try.func91, Try.ntmps91
          go_wp2
          go_ret
          exact ⟨by first | rfl | (simp; done) | (simp [*]; done), by repeat (first | exact Drawn0.refl _ | apply Drawn0.step)⟩
        · rw [if_neg c5] at H
          have c5b0 : decide (a0 ≤ 90) = false := decide_eq_false c5
          clear c5
          by_cases c6 : a0 ≥ 48
          · rw [if_pos c6] at H
            have c6b0 : decide (48 ≤ a0) = true := decide_eq_true c6
            clear c6
            by_cases c7 : a0 ≤ 57
            · rw [if_pos c7] at H
              have c7b0 : decide (a0 ≤ 57) = true := decide_eq_true c7
              clear c7
              obtain rfl := Option.some.inj H
              go_enter Try.func91, Try.ntmps91
              go_wp2
              go_ret
              exact ⟨by first | rfl | (simp; done) | (simp [*]; done), by repeat (first | exact Drawn0.refl _ | apply Drawn0.step)⟩
            · rw [if_neg c7] at H
              have c7b0 : decide (a0 ≤ 57) = false := decide_eq_false c7
              clear c7
              replace H := Option.bind_eq_some_iff.mp H
              obtain ⟨t101, A80, H⟩ := H
              replace H : (if t101 ≥ 0 then (some (decide (a0 < 128))) else (some false)) = some r := H
              have A8 := Aside0.mk A80
              clear A80
              by_cases c9 : t101 ≥ 0
              · rw [if_pos c9] at H
                have c9b0 : decide (0 ≤ t101) = true := decide_eq_true c9
                clear c9
                obtain rfl := Option.some.inj H
                go_enter Try.func91, Try.ntmps91
                go_wp2_with (first | (go_at_call 89; (with_reducible refine (strings_IndexByte.calls (⟨#[45, 46, 95, 126, 33, 36, 38, 39, 40, 41, 42, 43, 44, 59, 61]⟩ : ByteArray) ((a0) % 256) t101 _ A8.out).mono ?_); rintro e w' ⟨rfl, ⟨nd, rfl⟩⟩))
                go_ret
                exact ⟨by first | rfl | (simp; done) | (simp [*]; done), by repeat (first | exact Drawn0.refl _ | apply Drawn0.step)⟩
              · rw [if_neg c9] at H
                have c9b0 : decide (0 ≤ t101) = false := decide_eq_false c9
                clear c9
                obtain rfl := Option.some.inj H
                go_enter Try.func91, Try.ntmps91
                go_wp2_with (first | (go_at_call 89; (with_reducible refine (strings_IndexByte.calls (⟨#[45, 46, 95, 126, 33, 36, 38, 39, 40, 41, 42, 43, 44, 59, 61]⟩ : ByteArray) ((a0) % 256) t101 _ A8.out).mono ?_); rintro e w' ⟨rfl, ⟨nd, rfl⟩⟩))
                go_ret
                exact ⟨by first | rfl | (simp; done) | (simp [*]; done), by repeat (first | exact Drawn0.refl _ | apply Drawn0.step)⟩
          · rw [if_neg c6] at H
            have c6b0 : decide (48 ≤ a0) = false := decide_eq_false c6
            clear c6
            replace H := Option.bind_eq_some_iff.mp H
            obtain ⟨t102, A100, H⟩ := H
            replace H : (if t102 ≥ 0 then (some (decide (a0 < 128))) else (some false)) = some r := H
            have A10 := Aside0.mk A100
            clear A100
            by_cases c11 : t102 ≥ 0
            · rw [if_pos c11] at H
              have c11b0 : decide (0 ≤ t102) = true := decide_eq_true c11
              clear c11
              obtain rfl := Option.some.inj H
              go_enter Try.func91, Try.ntmps91
              go_wp2_with (first | (go_at_call 89; (with_reducible refine (strings_IndexByte.calls (⟨#[45, 46, 95, 126, 33, 36, 38, 39, 40, 41, 42, 43, 44, 59, 61]⟩ : ByteArray) ((a0) % 256) t102 _ A10.out).mono ?_); rintro e w' ⟨rfl, ⟨nd, rfl⟩⟩))
              go_ret
              exact ⟨by first | rfl | (simp; done) | (simp [*]; done), by repeat (first | exact Drawn0.refl _ | apply Drawn0.step)⟩
            · rw [if_neg c11] at H
              have c11b0 : decide (0 ≤ t102) = false := decide_eq_false c11
              clear c11
              obtain rfl := Option.some.inj H
              go_enter Try.func91, Try.ntmps91
              go_wp2_with (first | (go_at_call 89; (with_reducible refine (strings_IndexByte.calls (⟨#[45, 46, 95, 126, 33, 36, 38, 39, 40, 41, 42, 43, 44, 59, 61]⟩ : ByteArray) ((a0) % 256) t102 _ A10.out).mono ?_); rintro e w' ⟨rfl, ⟨nd, rfl⟩⟩))
              go_ret
              exact ⟨by first | rfl | (simp; done) | (simp [*]; done), by repeat (first | exact Drawn0.refl _ | apply Drawn0.step)⟩
      · rw [if_neg c4] at H
        have c4b0 : decide (65 ≤ a0) = false := decide_eq_false c4
        clear c4
        by_cases c12 : a0 ≥ 48
        · rw [if_pos c12] at H
          have c12b0 : decide (48 ≤ a0) = true := decide_eq_true c12
          clear c12
          by_cases c13 : a0 ≤ 57
          · rw [if_pos c13] at H
            have c13b0 : decide (a0 ≤ 57) = true := decide_eq_true c13
            clear c13
            obtain rfl := Option.some.inj H
            go_enter Try.func91, Try.ntmps91
            go_wp2
            go_ret
            exact ⟨by first | rfl | (simp; done) | (simp [*]; done), by repeat (first | exact Drawn0.refl _ | apply Drawn0.step)⟩
          · rw [if_neg c13] at H
            have c13b0 : decide (a0 ≤ 57) = false := decide_eq_false c13
            clear c13
            replace H := Option.bind_eq_some_iff.mp H
            obtain ⟨t103, A140, H⟩ := H
            replace H : (if t103 ≥ 0 then (some (decide (a0 < 128))) else (some false)) = some r := H
            have A14 := Aside0.mk A140
            clear A140
            by_cases c15 : t103 ≥ 0
            · rw [if_pos c15] at H
              have c15b0 : decide (0 ≤ t103) = true := decide_eq_true c15
              clear c15
              obtain rfl := Option.some.inj H
              go_enter Try.func91, Try.ntmps91
              go_wp2_with (first | (go_at_call 89; (with_reducible refine (strings_IndexByte.calls (⟨#[45, 46, 95, 126, 33, 36, 38, 39, 40, 41, 42, 43, 44, 59, 61]⟩ : ByteArray) ((a0) % 256) t103 _ A14.out).mono ?_); rintro e w' ⟨rfl, ⟨nd, rfl⟩⟩))
              go_ret
              exact ⟨by first | rfl | (simp; done) | (simp [*]; done), by repeat (first | exact Drawn0.refl _ | apply Drawn0.step)⟩
            · rw [if_neg c15] at H
              have c15b0 : decide (0 ≤ t103) = false := decide_eq_false c15
              clear c15
              obtain rfl := Option.some.inj H
              go_enter Try.func91, Try.ntmps91
              go_wp2_with (first | (go_at_call 89; (with_reducible refine (strings_IndexByte.calls (⟨#[45, 46, 95, 126, 33, 36, 38, 39, 40, 41, 42, 43, 44, 59, 61]⟩ : ByteArray) ((a0) % 256) t103 _ A14.out).mono ?_); rintro e w' ⟨rfl, ⟨nd, rfl⟩⟩))
              go_ret
              exact ⟨by first | rfl | (simp; done) | (simp [*]; done), by repeat (first | exact Drawn0.refl _ | apply Drawn0.step)⟩
        · rw [if_neg c12] at H
          have c12b0 : decide (48 ≤ a0) = false := decide_eq_false c12
          clear c12
          replace H := Option.bind_eq_some_iff.mp H
          obtain ⟨t104, A160, H⟩ := H
          replace H : (if t104 ≥ 0 then (some (decide (a0 < 128))) else (some false)) = some r := H
          have A16 := Aside0.mk A160
          clear A160
          by_cases c17 : t104 ≥ 0
          · rw [if_pos c17] at H
            have c17b0 : decide (0 ≤ t104) = true := decide_eq_true c17
            clear c17
            obtain rfl := Option.some.inj H
            go_enter Try.func91, Try.ntmps91
            go_wp2_with (first | (go_at_call 89; (with_reducible refine (strings_IndexByte.calls (⟨#[45, 46, 95, 126, 33, 36, 38, 39, 40, 41, 42, 43, 44, 59, 61]⟩ : ByteArray) ((a0) % 256) t104 _ A16.out).mono ?_); rintro e w' ⟨rfl, ⟨nd, rfl⟩⟩))
            go_ret
            exact ⟨by first | rfl | (simp; done) | (simp [*]; done), by repeat (first | exact Drawn0.refl _ | apply Drawn0.step)⟩
          · rw [if_neg c17] at H
            have c17b0 : decide (0 ≤ t104) = false := decide_eq_false c17
            clear c17
            obtain rfl := Option.some.inj H
            go_enter Try.func91, Try.ntmps91
            go_wp2_with (first | (go_at_call 89; (with_reducible refine (strings_IndexByte.calls (⟨#[45, 46, 95, 126, 33, 36, 38, 39, 40, 41, 42, 43, 44, 59, 61]⟩ : ByteArray) ((a0) % 256) t104 _ A16.out).mono ?_); rintro e w' ⟨rfl, ⟨nd, rfl⟩⟩))
            go_ret
            exact ⟨by first | rfl | (simp; done) | (simp [*]; done), by repeat (first | exact Drawn0.refl _ | apply Drawn0.step)⟩
  · rw [if_neg c2] at H
    have c2b0 : decide (97 ≤ a0) = false := decide_eq_false c2
    clear c2
    by_cases c18 : a0 ≥ 65
    · rw [if_pos c18] at H
      have c18b0 : decide (65 ≤ a0) = true := decide_eq_true c18
      clear c18
      by_cases c19 : a0 ≤ 90
      · rw [if_pos c19] at H
        have c19b0 : decide (a0 ≤ 90) = true := decide_eq_true c19
        clear c19
        obtain rfl := Option.some.inj H
        go_enter Try.func91, Try.ntmps91
        go_wp2
        go_ret
        exact ⟨by first | rfl | (simp; done) | (simp [*]; done), by repeat (first | exact Drawn0.refl _ | apply Drawn0.step)⟩
      · rw [if_neg c19] at H
        have c19b0 : decide (a0 ≤ 90) = false := decide_eq_false c19
        clear c19
        by_cases c20 : a0 ≥ 48
        · rw [if_pos c20] at H
          have c20b0 : decide (48 ≤ a0) = true := decide_eq_true c20
          clear c20
          by_cases c21 : a0 ≤ 57
          · rw [if_pos c21] at H
            have c21b0 : decide (a0 ≤ 57) = true := decide_eq_true c21
            clear c21
            obtain rfl := Option.some.inj H
            go_enter Try.func91, Try.ntmps91
            go_wp2
            go_ret
            exact ⟨by first | rfl | (simp; done) | (simp [*]; done), by repeat (first | exact Drawn0.refl _ | apply Drawn0.step)⟩
          · rw [if_neg c21] at H
            have c21b0 : decide (a0 ≤ 57) = false := decide_eq_false c21
            clear c21
            replace H := Option.bind_eq_some_iff.mp H
            obtain ⟨t105, A220, H⟩ := H
            replace H : (if t105 ≥ 0 then (some (decide (a0 < 128))) else (some false)) = some r := H
            have A22 := Aside0.mk A220
            clear A220
            by_cases c23 : t105 ≥ 0
            · rw [if_pos c23] at H
              have c23b0 : decide (0 ≤ t105) = true := decide_eq_true c23
              clear c23
              obtain rfl := Option.some.inj H
              go_enter Try.func91, Try.ntmps91
              go_wp2_with (first | (go_at_call 89; (with_reducible refine (strings_IndexByte.calls (⟨#[45, 46, 95, 126, 33, 36, 38, 39, 40, 41, 42, 43, 44, 59, 61]⟩ : ByteArray) ((a0) % 256) t105 _ A22.out).mono ?_); rintro e w' ⟨rfl, ⟨nd, rfl⟩⟩))
              go_ret
              exact ⟨by first | rfl | (simp; done) | (simp [*]; done), by repeat (first | exact Drawn0.refl _ | apply Drawn0.step)⟩
            · rw [if_neg c23] at H
              have c23b0 : decide (0 ≤ t105) = false := decide_eq_false c23
              clear c23
              obtain rfl := Option.some.inj H
              go_enter Try.func91, Try.ntmps91
              go_wp2_with (first | (go_at_call 89; (with_reducible refine (strings_IndexByte.calls (⟨#[45, 46, 95, 126, 33, 36, 38, 39, 40, 41, 42, 43, 44, 59, 61]⟩ : ByteArray) ((a0) % 256) t105 _ A22.out).mono ?_); rintro e w' ⟨rfl, ⟨nd, rfl⟩⟩))
              go_ret
              exact ⟨by first | rfl | (simp; done) | (simp [*]; done), by repeat (first | exact Drawn0.refl _ | apply Drawn0.step)⟩
        · rw [if_neg c20] at H
          have c20b0 : decide (48 ≤ a0) = false := decide_eq_false c20
          clear c20
          replace H := Option.bind_eq_some_iff.mp H
          obtain ⟨t106, A240, H⟩ := H
          replace H : (if t106 ≥ 0 then (some (decide (a0 < 128))) else (some false)) = some r := H
          have A24 := Aside0.mk A240
          clear A240
          by_cases c25 : t106 ≥ 0
          · rw [if_pos c25] at H
            have c25b0 : decide (0 ≤ t106) = true := decide_eq_true c25
            clear c25
            obtain rfl := Option.some.inj H
            go_enter Try.func91, Try.ntmps91
            go_wp2_with (first | (go_at_call 89; (with_reducible refine (strings_IndexByte.calls (⟨#[45, 46, 95, 126, 33, 36, 38, 39, 40, 41, 42, 43, 44, 59, 61]⟩ : ByteArray) ((a0) % 256) t106 _ A24.out).mono ?_); rintro e w' ⟨rfl, ⟨nd, rfl⟩⟩))
            go_ret
            exact ⟨by first | rfl | (simp; done) | (simp [*]; done), by repeat (first | exact Drawn0.refl _ | apply Drawn0.step)⟩
          · rw [if_neg c25] at H
            have c25b0 : decide (0 ≤ t106) = false := decide_eq_false c25
            clear c25
            obtain rfl := Option.some.inj H
            go_enter Try.func91, Try.ntmps91
            go_wp2_with (first | (go_at_call 89; (with_reducible refine (strings_IndexByte.calls (⟨#[45, 46, 95, 126, 33, 36, 38, 39, 40, 41, 42, 43, 44, 59, 61]⟩ : ByteArray) ((a0) % 256) t106 _ A24.out).mono ?_); rintro e w' ⟨rfl, ⟨nd, rfl⟩⟩))
            go_ret
            exact ⟨by first | rfl | (simp; done) | (simp [*]; done), by repeat (first | exact Drawn0.refl _ | apply Drawn0.step)⟩
    · rw [if_neg c18] at H
      have c18b0 : decide (65 ≤ a0) = false := decide_eq_false c18
      clear c18
      by_cases c26 : a0 ≥ 48
      · rw [if_pos c26] at H
        have c26b0 : decide (48 ≤ a0) = true := decide_eq_true c26
        clear c26
        by_cases c27 : a0 ≤ 57
        · rw [if_pos c27] at H
          have c27b0 : decide (a0 ≤ 57) = true := decide_eq_true c27
          clear c27
          obtain rfl := Option.some.inj H
          go_enter Try.func91, Try.ntmps91
          go_wp2
          go_ret
          exact ⟨by first | rfl | (simp; done) | (simp [*]; done), by repeat (first | exact Drawn0.refl _ | apply Drawn0.step)⟩
        · rw [if_neg c27] at H
          have c27b0 : decide (a0 ≤ 57) = false := decide_eq_false c27
          clear c27
          replace H := Option.bind_eq_some_iff.mp H
          obtain ⟨t107, A280, H⟩ := H
          replace H : (if t107 ≥ 0 then (some (decide (a0 < 128))) else (some false)) = some r := H
          have A28 := Aside0.mk A280
          clear A280
          by_cases c29 : t107 ≥ 0
          · rw [if_pos c29] at H
            have c29b0 : decide (0 ≤ t107) = true := decide_eq_true c29
            clear c29
            obtain rfl := Option.some.inj H
            go_enter Try.func91, Try.ntmps91
            go_wp2_with (first | (go_at_call 89; (with_reducible refine (strings_IndexByte.calls (⟨#[45, 46, 95, 126, 33, 36, 38, 39, 40, 41, 42, 43, 44, 59, 61]⟩ : ByteArray) ((a0) % 256) t107 _ A28.out).mono ?_); rintro e w' ⟨rfl, ⟨nd, rfl⟩⟩))
            go_ret
            exact ⟨by first | rfl | (simp; done) | (simp [*]; done), by repeat (first | exact Drawn0.refl _ | apply Drawn0.step)⟩
          · rw [if_neg c29] at H
            have c29b0 : decide (0 ≤ t107) = false := decide_eq_false c29
            clear c29
            obtain rfl := Option.some.inj H
            go_enter Try.func91, Try.ntmps91
            go_wp2_with (first | (go_at_call 89; (with_reducible refine (strings_IndexByte.calls (⟨#[45, 46, 95, 126, 33, 36, 38, 39, 40, 41, 42, 43, 44, 59, 61]⟩ : ByteArray) ((a0) % 256) t107 _ A28.out).mono ?_); rintro e w' ⟨rfl, ⟨nd, rfl⟩⟩))
            go_ret
            exact ⟨by first | rfl | (simp; done) | (simp [*]; done), by repeat (first | exact Drawn0.refl _ | apply Drawn0.step)⟩
      · rw [if_neg c26] at H
        have c26b0 : decide (48 ≤ a0) = false := decide_eq_false c26
        clear c26
        replace H := Option.bind_eq_some_iff.mp H
        obtain ⟨t108, A300, H⟩ := H
        replace H : (if t108 ≥ 0 then (some (decide (a0 < 128))) else (some false)) = some r := H
        have A30 := Aside0.mk A300
        clear A300
        by_cases c31 : t108 ≥ 0
        · rw [if_pos c31] at H
          have c31b0 : decide (0 ≤ t108) = true := decide_eq_true c31
          clear c31
          obtain rfl := Option.some.inj H
          go_enter Try.func91, Try.ntmps91
          go_wp2_with (first | (go_at_call 89; (with_reducible refine (strings_IndexByte.calls (⟨#[45, 46, 95, 126, 33, 36, 38, 39, 40, 41, 42, 43, 44, 59, 61]⟩ : ByteArray) ((a0) % 256) t108 _ A30.out).mono ?_); rintro e w' ⟨rfl, ⟨nd, rfl⟩⟩))
          go_ret
          exact ⟨by first | rfl | (simp; done) | (simp [*]; done), by repeat (first | exact Drawn0.refl _ | apply Drawn0.step)⟩
        · rw [if_neg c31] at H
          have c31b0 : decide (0 ≤ t108) = false := decide_eq_false c31
          clear c31
          obtain rfl := Option.some.inj H
          go_enter Try.func91, Try.ntmps91
          go_wp2_with (first | (go_at_call 89; (with_reducible refine (strings_IndexByte.calls (⟨#[45, 46, 95, 126, 33, 36, 38, 39, 40, 41, 42, 43, 44, 59, 61]⟩ : ByteArray) ((a0) % 256) t108 _ A30.out).mono ?_); rintro e w' ⟨rfl, ⟨nd, rfl⟩⟩))
          go_ret
          exact ⟨by first | rfl | (simp; done) | (simp [*]; done), by repeat (first | exact Drawn0.refl _ | apply Drawn0.step)⟩

end Go.Proofs.Ytdjmgmiaognncaa.X
namespace Go.Proofs.Ytdjmgmiaognncaa.X
open Go.RowKit Go.Proofs.YtdjmgmiaognncaaW.PrintWords Go.Proofs.YtdjmgmiaognncaaW.PrintLast Go.Proofs.YtdjmgmiaognncaaW.PrintMore
attribute [local go_sem] max2_int min2_int max_two min_two max_three min_three max_four min_four   -- for this text's walks alone
set_option linter.unusedVariables false
set_option linter.unusedSimpArgs false

/-! ### host_registered: function 67 -/
/-- A digit to the base 16. -/
def hexR (r : Nat) : Bool := (48 ≤ r && r ≤ 57) || ((97 ≤ r && r ≤ 102) || (65 ≤ r && r ≤ 70))
theorem hex_f (r : Nat) : host_hex.f (r : Int) = some (hexR r) := by
  unfold host_hex.f hexR
  by_cases a : 48 ≤ r <;> by_cases b : r ≤ 57 <;> by_cases c : 97 ≤ r <;> by_cases d : r ≤ 102 <;> by_cases e : 65 ≤ r <;> by_cases f : r ≤ 70 <;> first | (exfalso; omega) | (repeat (first | rw [if_pos (by omega)] | rw [if_neg (by omega)])); (simp [a, b, c, d, e, f]; try omega)
def signsL : List UInt8 := [45, 46, 95, 126, 33, 36, 38, 39, 40, 41, 42, 43, 44, 59, 61]
def signR (r : Nat) : Bool := decide (r < 128) && signsL.contains r.toUInt8
/-- What may stand in a name beside what a sign of percent begins. -/
def plainR (r : Nat) : Bool := (97 ≤ r && r ≤ 122) || ((65 ≤ r && r ≤ 90) || ((48 ≤ r && r ≤ 57) || signR r))
theorem sign_f (r : Nat) : (strings_IndexByte.f (⟨#[45, 46, 95, 126, 33, 36, 38, 39, 40, 41, 42, 43, 44, 59, 61]⟩ : ByteArray) ((r : Int) % 256)).bind (fun t => if t ≥ 0 then some (decide ((r : Int) < 128)) else some false) = some (signR r) := by
  unfold strings_IndexByte.f
  simp only [Option.bind_some]
  have h : ∀ n : Fin 256, decide (0 ≤ Lib.indexByte signsL (n.val : Int).toNat.toUInt8) = signsL.contains n.val.toUInt8 := by decide +kernel
  have e : (r : Int) % 256 = ((r % 256 : Nat) : Int) := by omega
  have h2 : decide (0 ≤ Lib.indexByte signsL ((r % 256 : Nat) : Int).toNat.toUInt8) = signsL.contains (r % 256).toUInt8 := h ⟨r % 256, by omega⟩
  clear h
  show (if Lib.indexByte signsL ((r : Int) % 256).toNat.toUInt8 ≥ 0 then some (decide ((r : Int) < 128)) else some false) = _
  rw [e]
  unfold signR
  by_cases hr : r < 128
  · rw [Nat.mod_eq_of_lt (by omega)] at h2 ⊢
    rw [decide_eq_true (show (r : Int) < 128 by omega), decide_eq_true hr, ← h2]
    by_cases h3 : 0 ≤ Lib.indexByte signsL (r : Int).toNat.toUInt8
    · rw [if_pos h3, decide_eq_true h3]; rfl
    · rw [if_neg h3, decide_eq_false h3]; rfl
  · rw [decide_eq_false (show ¬ (r : Int) < 128 by omega), decide_eq_false hr]
    split <;> rfl
theorem plain_f (r : Nat) : host_plain.f (r : Int) = some (plainR r) := by
  unfold host_plain.f
  simp only [sign_f]
  unfold plainR
  generalize signR r = x
  by_cases a : 97 ≤ r <;> by_cases b : r ≤ 122 <;> by_cases c : 65 ≤ r <;> by_cases d : r ≤ 90 <;> by_cases e : 48 ≤ r <;> by_cases f : r ≤ 57 <;> first | (exfalso; omega) | (repeat (first | rw [if_pos (by omega)] | rw [if_neg (by omega)])); simp [a, b, c, d, e, f]
/-- Is a text a name, from place pos on, by at most so many runes? -/
def regFrom (s : ByteArray) : Nat → Nat → Nat → Bool
  | 0, _, left => decide (left = 0)
  | f + 1, pos, left => if pos < s.size then (if 0 < left then (if hexR (Utf8.decode s pos).1 = true then regFrom s f (pos + (Utf8.decode s pos).2) (left - 1) else false) else if (Utf8.decode s pos).1 = 37 then regFrom s f (pos + (Utf8.decode s pos).2) 2 else if plainR (Utf8.decode s pos).1 = true then regFrom s f (pos + (Utf8.decode s pos).2) 0 else false) else decide (left = 0)
theorem regFrom_end (s : ByteArray) (f pos left : Nat) (h : ¬ pos < s.size) : regFrom s f pos left = decide (left = 0) := by cases f <;> simp [regFrom, h]
/-- P11.1: is a text a name, but a literal? -/
def registeredB (s : ByteArray) : Bool := !s.toList.isEmpty && regFrom s s.size 0 0
def host_registered.f (a0 : ByteArray) : Option (Bool) := some (registeredB a0)
set_option maxHeartbeats 8000000 in
set_option maxRecDepth 1000000 in
theorem host_registered.calls (a0 : ByteArray) (r : Bool) (w : World) (h : host_registered.f a0 = some r) :
    Calls Try.prog 67 #[.string a0] w fun e w' => e = .returned (.bool r) ∧ Below w.heap.size w w' := by
  have hres := Option.some.inj h
  clear h
  have hbne : a0.toList.isEmpty = true → (a0.toList != ([] : List UInt8)) = false := fun h => by rw [bne_eq_false_iff_eq]; simpa using h
  have hbne2 : a0.toList.isEmpty = false → (a0.toList != ([] : List UInt8)) = true := fun h => by rw [bne_iff_ne]; intro e; rw [e] at h; simp at h
  have HRES := Aside0.mk hres
  have HE1 := Aside0.mk hbne
  have HE2 := Aside0.mk hbne2
  clear hres hbne hbne2
  go_enter Try.func67, Try.ntmps67
  go_wp2
  go_loopg [3] a0.size (fun gf s3 wx => ∃ (pos left : Nat), s3 = .int .i64 left ∧ left ≤ 2 ∧ wx.heap[w.heap.size]? = some (.stringIter a0 pos) ∧ Below w.heap.size w wx ∧ Aside0 ((!a0.toList.isEmpty && regFrom a0 gf pos left) = r) ∧ a0.size ≤ pos + gf)
  case atStart => exact ⟨0, 0, rfl, by omega, World.iter_heap w a0 0, (Below.refl _ w).alloc (Nat.le_refl _) _, HRES, by omega⟩
  case round =>
    obtain ⟨pos, left, rfl, hl2, hit, hbw, HL, hfu⟩ := hrel
    by_cases hps : pos < a0.size
    · obtain ⟨g', rfl⟩ : ∃ g', gk = g' + 1 := ⟨gk - 1, by omega⟩
      have hnx : ∀ ty, (Instr.next (.pointer (some ⟨w.heap.size, 0, none⟩)) true ty).run Try.prog wr = _ := fun ty => Lib.run_next_any_at wr w.heap.size a0 pos ty hit hps
      have hwd := Lib.width_pos a0 pos
      have hleft := HL.out
      obtain ⟨R, hR⟩ : ∃ R, (Utf8.decode a0 pos).1 = R := ⟨_, rfl⟩
      obtain ⟨K, hK⟩ : ∃ K, (Utf8.decode a0 pos).2 = K := ⟨_, rfl⟩
      simp only [regFrom, hps, if_true, hR, hK] at hleft
      rw [hR, hK] at hnx
      rw [hK] at hwd
      have hit2 := Lib.iterAt_heap wr w.heap.size a0 pos (pos + K) hit
      have hbw2 := Lib.below_iterAt hbw (k := w.heap.size) (Nat.le_refl _) a0 (pos + K)
      obtain ⟨W, hWd⟩ : ∃ W, wr.iterAt w.heap.size a0 (pos + K) = W := ⟨_, rfl⟩
      rw [hWd] at hnx hit2 hbw2
      have hRm : R ≤ 2147483647 := by rw [← hR]; exact decode_le a0 pos
      have cH := fun W => host_hex.calls (R : Int) (hexR R) W (hex_f R)
      have cP := fun W => host_plain.calls (R : Int) (plainR R) W (plain_f R)
      have hemp : a0.toList.isEmpty = false := by
        rw [Lib.toList_data]
        cases hh : a0.data.toList with
        | nil => have := Lib.size_eq a0; rw [hh, List.length_nil] at this; omega
        | cons _ _ => rfl
      rw [hemp, Bool.not_false, Bool.true_and] at hleft
      have HEMP := Aside0.mk hemp
      have HIT := Aside0.mk (⟨hit2, hbw2, hwd, hfu, hl2⟩ : _ ∧ _ ∧ _ ∧ _ ∧ _)
      clear HL hemp hR hK hWd hit hbw hit2 hbw2 hfu
      by_cases hl0 : 0 < left
      · have hlb : decide ((0 : Int) < (left : Int)) = true := decide_eq_true (by omega)
        have hlb2 : decide (0 < left) = true := decide_eq_true hl0
        rw [if_pos hl0] at hleft
        cases hh : hexR R with
        | true =>
          rw [hh] at cH hleft
          rw [if_pos rfl] at hleft
          have HLEFT := Aside0.mk hleft
          clear hleft hh
          go_wp2_with (first | (go_at_call 90; (with_reducible refine (cH _).mono ?_); rintro e W' ⟨rfl, hd⟩; obtain ⟨q, rfl⟩ := hd.out))
          go_roundg g'
          case measure => omega
          case rel => exact ⟨pos + K, left - 1, by congr 1; omega, by omega, HIT.out.1, pw_below_drewN HIT.out.2.1 q, ⟨by rw [HEMP.out]; simpa using HLEFT.out⟩, by have := HIT.out; omega⟩
        | false =>
          rw [hh] at cH hleft
          rw [if_neg (by simp)] at hleft
          have HLEFT := Aside0.mk hleft
          clear hleft hh
          go_wp2_with (first | (go_at_call 90; (with_reducible refine (cH _).mono ?_); rintro e W' ⟨rfl, hd⟩; obtain ⟨q, rfl⟩ := hd.out))
          go_ret
          exact ⟨by rw [← HLEFT.out]; rfl, pw_below_drewN HIT.out.2.1 q⟩
      · have hl1 : left = 0 := by omega
        subst hl1
        rw [if_neg hl0] at hleft
        by_cases h37 : R = 37
        · rw [if_pos h37] at hleft
          subst h37
          have HLEFT := Aside0.mk hleft
          clear hleft
          go_wp2
          go_roundg g'
          case measure => omega
          case rel => exact ⟨pos + K, 2, rfl, by omega, HIT.out.1, HIT.out.2.1, ⟨by rw [HEMP.out]; simpa using HLEFT.out⟩, by have := HIT.out; omega⟩
        · rw [if_neg h37] at hleft
          have hne : ((R : Int) == 37) = false := beq_eq_false_iff_ne.2 (by omega)
          cases hh : plainR R with
          | true =>
            rw [hh] at cP hleft
            rw [if_pos rfl] at hleft
            have HLEFT := Aside0.mk hleft
            clear hleft hh
            go_wp2_with (first | (go_at_call 91; (with_reducible refine (cP _).mono ?_); rintro e W' ⟨rfl, hd⟩; obtain ⟨q, rfl⟩ := hd.out))
            go_roundg g'
            case measure => omega
            case rel => exact ⟨pos + K, 0, rfl, by omega, HIT.out.1, pw_below_drewN HIT.out.2.1 q, ⟨by rw [HEMP.out]; simpa using HLEFT.out⟩, by have := HIT.out; omega⟩
          | false =>
            rw [hh] at cP hleft
            rw [if_neg (by simp)] at hleft
            have HLEFT := Aside0.mk hleft
            clear hleft hh
            go_wp2_with (first | (go_at_call 91; (with_reducible refine (cP _).mono ?_); rintro e W' ⟨rfl, hd⟩; obtain ⟨q, rfl⟩ := hd.out))
            go_ret
            exact ⟨by rw [← HLEFT.out]; rfl, pw_below_drewN HIT.out.2.1 q⟩
    · have hnx : ∀ ty, (Instr.next (.pointer (some ⟨w.heap.size, 0, none⟩)) true ty).run Try.prog wr = _ := fun ty => Lib.run_next_end_at wr w.heap.size a0 pos ty hit hps
      have hleft := HL.out
      rw [regFrom_end a0 gk pos left hps] at hleft
      have HBW := Aside0.mk hbw
      clear HL hbw
      cases he : a0.toList.isEmpty with
      | true =>
        rw [he] at hleft
        have hb := HE1.out he
        have hb2 : (!a0.toList.isEmpty) = false := by rw [he]; rfl
        have hr : r = false := by rw [← hleft]; rfl
        subst hr
        clear hleft
        go_wp2
        go_ret
        exact ⟨rfl, HBW.out⟩
      | false =>
        rw [he] at hleft
        have hb := HE2.out he
        have hb2 : (!a0.toList.isEmpty) = true := by rw [he]; rfl
        by_cases hl0 : left = 0
        · subst hl0
          have hr : r = true := by rw [← hleft]; rfl
          subst hr
          clear hleft
          go_wp2
          go_ret
          exact ⟨rfl, HBW.out⟩
        · rw [decide_eq_false hl0] at hleft
          have hlb : ((left : Int) == 0) = false := beq_eq_false_iff_ne.2 (by omega)
          have hr : r = false := by rw [← hleft]; rfl
          subst hr
          clear hleft
          go_wp2
          go_ret
          exact ⟨rfl, HBW.out⟩


end Go.Proofs.Ytdjmgmiaognncaa.X
namespace Go.Proofs.Ytdjmgmiaognncaa.X
open Go.RowKit Go.Proofs.YtdjmgmiaognncaaW.PrintWords Go.Proofs.YtdjmgmiaognncaaW.PrintLast Go.Proofs.YtdjmgmiaognncaaW.PrintMore
attribute [local go_sem] max2_int min2_int max_two min_two max_three min_three max_four min_four   -- for this text's walks alone
set_option linter.unusedVariables false
set_option linter.unusedSimpArgs false

/-! ### strings_CutPrefix: function 92 -/
def strings_CutPrefix.f (a0 : ByteArray) (a1 : ByteArray) : Option (ByteArray × Bool) := if a0.size ≤ 140737488351232 then some (⟨(Lib.trimPrefix a0.data.toList a1.data.toList).toArray⟩, Lib.hasPrefix a0.data.toList a1.data.toList) else none
theorem strings_CutPrefix.calls (a0 : ByteArray) (a1 : ByteArray) (r1 : ByteArray) (r2 : Bool) (w : World) (h : strings_CutPrefix.f a0 a1 = some (r1, r2)) :
    Calls Try.prog 92 #[.string a0, .string a1] w fun e w' => e = .returned (.tuple #[.string r1, .bool r2]) ∧ Drawn0 w w' := by
  by_cases hh : a0.size ≤ 140737488351232
  · rw [strings_CutPrefix.f, if_pos hh] at h
    obtain ⟨rfl, rfl⟩ := Prod.mk.inj (Option.some.inj h)
    refine (Try.strings_CutPrefix a0 a1 w).mono ?_
    rintro e w' ⟨rfl, rfl⟩
    exact ⟨rfl, Drawn0.refl _⟩
  · rw [strings_CutPrefix.f, if_neg hh] at h
    cases h


end Go.Proofs.Ytdjmgmiaognncaa.X
namespace Go.Proofs.Ytdjmgmiaognncaa.X
open Go.RowKit Go.Proofs.YtdjmgmiaognncaaW.PrintWords Go.Proofs.YtdjmgmiaognncaaW.PrintLast Go.Proofs.YtdjmgmiaognncaaW.PrintMore
attribute [local go_sem] max2_int min2_int max_two min_two max_three min_three max_four min_four   -- for this text's walks alone
set_option linter.unusedVariables false
set_option linter.unusedSimpArgs false

/-! ### strings_CutSuffix: function 93 -/
def strings_CutSuffix.f (a0 : ByteArray) (a1 : ByteArray) : Option (ByteArray × Bool) := if a0.size ≤ 140737488351232 then some (⟨(Lib.trimSuffix a0.data.toList a1.data.toList).toArray⟩, Lib.hasSuffix a0.data.toList a1.data.toList) else none
theorem strings_CutSuffix.calls (a0 : ByteArray) (a1 : ByteArray) (r1 : ByteArray) (r2 : Bool) (w : World) (h : strings_CutSuffix.f a0 a1 = some (r1, r2)) :
    Calls Try.prog 93 #[.string a0, .string a1] w fun e w' => e = .returned (.tuple #[.string r1, .bool r2]) ∧ Drawn0 w w' := by
  by_cases hh : a0.size ≤ 140737488351232
  · rw [strings_CutSuffix.f, if_pos hh] at h
    obtain ⟨rfl, rfl⟩ := Prod.mk.inj (Option.some.inj h)
    refine (Try.strings_CutSuffix a0 a1 w (by omega)).mono ?_
    rintro e w' ⟨rfl, rfl⟩
    exact ⟨rfl, Drawn0.refl _⟩
  · rw [strings_CutSuffix.f, if_neg hh] at h
    cases h


end Go.Proofs.Ytdjmgmiaognncaa.X
namespace Go.Proofs.Ytdjmgmiaognncaa.X
open Go.RowKit Go.Proofs.YtdjmgmiaognncaaW.PrintWords Go.Proofs.YtdjmgmiaognncaaW.PrintLast Go.Proofs.YtdjmgmiaognncaaW.PrintMore
attribute [local go_sem] max2_int min2_int max_two min_two max_three min_three max_four min_four   -- for this text's walks alone
set_option linter.unusedVariables false
set_option linter.unusedSimpArgs false

/-! ### host_literal: function 68 -/
/-- What may stand in a literal. -/
def litR (r : Nat) : Bool := hexR r || (r == 58 || r == 46)
def litFrom (s : ByteArray) : Nat → Nat → Bool → Bool
  | 0, _, ok => ok
  | f + 1, pos, ok => if pos < s.size then litFrom s f (pos + (Utf8.decode s pos).2) (ok && litR (Utf8.decode s pos).1) else ok
theorem litFrom_end (s : ByteArray) (f pos : Nat) (ok : Bool) (h : ¬ pos < s.size) : litFrom s f pos ok = ok := by cases f <;> simp [litFrom, h]
def litIn1 (s : ByteArray) : ByteArray := ⟨(Lib.trimPrefix s.data.toList [91]).toArray⟩
def litIn (s : ByteArray) : ByteArray := ⟨(Lib.trimSuffix (litIn1 s).data.toList [93]).toArray⟩
/-- P11.1: is a text a literal? -/
def literalB (s : ByteArray) : Bool := litFrom (litIn s) (litIn s).size 0 (Lib.hasPrefix s.data.toList [91]) && (Lib.hasSuffix (litIn1 s).data.toList [93] && !(litIn s).toList.isEmpty)
def host_literal.f (a0 : ByteArray) : Option (Bool) := if a0.size ≤ 140737488351232 then some (literalB a0) else none
theorem litIn1_size (s : ByteArray) : (litIn1 s).size ≤ s.size := by
  unfold litIn1 Lib.trimPrefix
  rw [Lib.size_eq s]
  simp only [ByteArray.size, List.size_toArray]
  split <;> simp
theorem litIn_size (s : ByteArray) : (litIn s).size ≤ s.size := by
  have h1 := litIn1_size s
  have h2 : (litIn s).size ≤ (litIn1 s).size := by
    unfold litIn Lib.trimSuffix
    rw [Lib.size_eq (litIn1 s)]
    simp only [ByteArray.size, List.size_toArray]
    split <;> simp
  omega
set_option maxHeartbeats 8000000 in
set_option maxRecDepth 1000000 in
theorem host_literal.calls (a0 : ByteArray) (r : Bool) (w : World) (h : host_literal.f a0 = some r) :
    Calls Try.prog 68 #[.string a0] w fun e w' => e = .returned (.bool r) ∧ Below w.heap.size w w' := by
  by_cases hh : a0.size ≤ 140737488351232
  · rw [host_literal.f, if_pos hh] at h
    have hres := Option.some.inj h
    clear h
    have hz1 := litIn1_size a0
    have hz2 := litIn_size a0
    have hC := fun W => strings_CutPrefix.calls a0 ⟨#[91]⟩ (litIn1 a0) (Lib.hasPrefix a0.data.toList [91]) W (by unfold strings_CutPrefix.f; rw [if_pos hh]; rfl)
    have hD := fun W => strings_CutSuffix.calls (litIn1 a0) ⟨#[93]⟩ (litIn a0) (Lib.hasSuffix (litIn1 a0).data.toList [93]) W (by unfold strings_CutSuffix.f; rw [if_pos (by omega)]; rfl)
    unfold literalB at hres
    generalize litIn1 a0 = X1 at hC hD hz1 hres
    generalize litIn a0 = X at hD hz2 hres
    generalize Lib.hasPrefix a0.data.toList [91] = b1 at hC hres
    generalize Lib.hasSuffix X1.data.toList [93] = b2 at hD hres
    have HRES := Aside0.mk hres
    clear hres
    go_enter Try.func68, Try.ntmps68
    go_wp2_with (first | (go_at_call 92; (with_reducible refine (hC _).mono ?_); rintro e W1 ⟨rfl, hd1⟩; obtain ⟨q1, rfl⟩ := hd1.out) | (go_at_call 93; (with_reducible refine (hD _).mono ?_); rintro e W2 ⟨rfl, hd2⟩; obtain ⟨q2, rfl⟩ := hd2.out))
    go_loopg [4] X.size (fun gf s4 wx => ∃ (pos : Nat) (ok : Bool), s4 = .bool ok ∧ wx.heap[w.heap.size]? = some (.stringIter X pos) ∧ Below w.heap.size w wx ∧ Aside0 ((litFrom X gf pos ok && (b2 && !X.toList.isEmpty)) = r) ∧ X.size ≤ pos + gf)
    case atStart => exact ⟨0, b1, rfl, World.iter_heap (w.drewN (q1 + q2)) X 0, (pw_below_drewN (Below.refl _ w) (q1 + q2)).alloc (Nat.le_refl _) _, HRES, by omega⟩
    case round =>
      obtain ⟨pos, ok, rfl, hit, hbw, HL, hfu⟩ := hrel
      by_cases hps : pos < X.size
      · obtain ⟨g', rfl⟩ : ∃ g', gk = g' + 1 := ⟨gk - 1, by omega⟩
        have hnx : ∀ ty, (Instr.next (.pointer (some ⟨w.heap.size, 0, none⟩)) true ty).run Try.prog wr = _ := fun ty => Lib.run_next_any_at wr w.heap.size X pos ty hit hps
        have hwd := Lib.width_pos X pos
        have hleft := HL.out
        obtain ⟨R, hR⟩ : ∃ R, (Utf8.decode X pos).1 = R := ⟨_, rfl⟩
        obtain ⟨K, hK⟩ : ∃ K, (Utf8.decode X pos).2 = K := ⟨_, rfl⟩
        simp only [litFrom, hps, if_true, hR, hK] at hleft
        rw [hR, hK] at hnx
        rw [hK] at hwd
        have hit2 := Lib.iterAt_heap wr w.heap.size X pos (pos + K) hit
        have hbw2 := Lib.below_iterAt hbw (k := w.heap.size) (Nat.le_refl _) X (pos + K)
        obtain ⟨W, hWd⟩ : ∃ W, wr.iterAt w.heap.size X (pos + K) = W := ⟨_, rfl⟩
        rw [hWd] at hnx hit2 hbw2
        have hRm : R ≤ 2147483647 := by rw [← hR]; exact decode_le X pos
        have cH := fun W => host_hex.calls (R : Int) (hexR R) W (hex_f R)
        have HIT := Aside0.mk (⟨hit2, hbw2, hwd, hfu⟩ : _ ∧ _ ∧ _ ∧ _)
        clear HL hR hK hWd hit hbw hit2 hbw2 hfu
        cases ok with
        | false =>
          rw [Bool.false_and] at hleft
          have HLEFT := Aside0.mk hleft
          clear hleft
          go_wp2
          go_roundg g'
          case measure => omega
          case rel => exact ⟨pos + K, false, rfl, HIT.out.1, HIT.out.2.1, HLEFT, by have := HIT.out; omega⟩
        | true =>
          rw [Bool.true_and] at hleft
          cases hh2 : hexR R with
          | true =>
            have hl2 : litR R = true := by unfold litR; rw [hh2]; rfl
            rw [hh2] at cH
            rw [hl2] at hleft
            have HLEFT := Aside0.mk hleft
            clear hleft hh2 hl2
            go_wp2_with (first | (go_at_call 90; (with_reducible refine (cH _).mono ?_); rintro e W' ⟨rfl, hd⟩; obtain ⟨q, rfl⟩ := hd.out))
            go_roundg g'
            case measure => omega
            case rel => exact ⟨pos + K, true, rfl, HIT.out.1, pw_below_drewN HIT.out.2.1 q, HLEFT, by have := HIT.out; omega⟩
          | false =>
            rw [hh2] at cH
            by_cases h58 : R = 58
            · have hl2 : litR R = true := by unfold litR; rw [h58]; decide
              have h58b : ((R : Int) == 58) = true := beq_iff_eq.2 (by omega)
              rw [hl2] at hleft
              have HLEFT := Aside0.mk hleft
              clear hleft hh2 hl2 h58
              go_wp2_with (first | (go_at_call 90; (with_reducible refine (cH _).mono ?_); rintro e W' ⟨rfl, hd⟩; obtain ⟨q, rfl⟩ := hd.out))
              go_roundg g'
              case measure => omega
              case rel => exact ⟨pos + K, true, rfl, HIT.out.1, pw_below_drewN HIT.out.2.1 q, HLEFT, by have := HIT.out; omega⟩
            · have h58b : ((R : Int) == 58) = false := beq_eq_false_iff_ne.2 (by omega)
              have hl2 : litR R = (R == 46) := by unfold litR; rw [hh2, beq_eq_false_iff_ne.2 h58]; rfl
              have h46 : ((R : Int) == 46) = (R == 46) := by rw [Bool.eq_iff_iff, beq_iff_eq, beq_iff_eq]; omega
              rw [hl2] at hleft
              cases hb46 : (R == 46) with
              | true =>
                rw [hb46] at h46 hleft
                have HLEFT := Aside0.mk hleft
                clear hleft hh2 hl2 hb46
                go_wp2_with (first | (go_at_call 90; (with_reducible refine (cH _).mono ?_); rintro e W' ⟨rfl, hd⟩; obtain ⟨q, rfl⟩ := hd.out))
                go_roundg g'
                case measure => omega
                case rel => exact ⟨pos + K, true, rfl, HIT.out.1, pw_below_drewN HIT.out.2.1 q, HLEFT, by have := HIT.out; omega⟩
              | false =>
                rw [hb46] at h46 hleft
                have HLEFT := Aside0.mk hleft
                clear hleft hh2 hl2 hb46
                go_wp2_with (first | (go_at_call 90; (with_reducible refine (cH _).mono ?_); rintro e W' ⟨rfl, hd⟩; obtain ⟨q, rfl⟩ := hd.out))
                go_roundg g'
                case measure => omega
                case rel => exact ⟨pos + K, false, rfl, HIT.out.1, pw_below_drewN HIT.out.2.1 q, HLEFT, by have := HIT.out; omega⟩
      · have hnx : ∀ ty, (Instr.next (.pointer (some ⟨w.heap.size, 0, none⟩)) true ty).run Try.prog wr = _ := fun ty => Lib.run_next_end_at wr w.heap.size X pos ty hit hps
        have hleft := HL.out
        rw [litFrom_end X gk pos ok hps] at hleft
        have HBW := Aside0.mk hbw
        clear HL hbw
        have key : ∀ (o1 o2 o3 : Bool), (o1 && (o2 && !o3)) = r → True := fun _ _ _ _ => trivial
        cases ok with
        | false =>
          have hr : r = false := by rw [← hleft]; rfl
          subst hr
          clear hleft key
          go_wp2
          go_ret
          exact ⟨rfl, HBW.out⟩
        | true =>
          cases b2 with
          | false =>
            have hr : r = false := by rw [← hleft]; rfl
            subst hr
            clear hleft key
            go_wp2
            go_ret
            exact ⟨rfl, HBW.out⟩
          | true =>
            cases he : X.toList.isEmpty with
            | true =>
              rw [he] at hleft
              have hr : r = false := by rw [← hleft]; rfl
              have hb : (X.toList != ([] : List UInt8)) = false := by rw [bne_eq_false_iff_eq]; simpa using he
              have hb2 : (!X.toList.isEmpty) = false := by rw [he]; rfl
              subst hr
              clear hleft key
              go_wp2
              go_ret
              exact ⟨rfl, HBW.out⟩
            | false =>
              rw [he] at hleft
              have hr : r = true := by rw [← hleft]; rfl
              have hb : (X.toList != ([] : List UInt8)) = true := by rw [bne_iff_ne]; intro e; rw [e] at he; simp at he
              have hb2 : (!X.toList.isEmpty) = true := by rw [he]; rfl
              subst hr
              clear hleft key
              go_wp2
              go_ret
              exact ⟨rfl, HBW.out⟩
  · rw [host_literal.f, if_neg hh] at h
    cases h


end Go.Proofs.Ytdjmgmiaognncaa.X
namespace Go.Proofs.Ytdjmgmiaognncaa.X
open Go.RowKit Go.Proofs.YtdjmgmiaognncaaW.PrintWords Go.Proofs.YtdjmgmiaognncaaW.PrintLast Go.Proofs.YtdjmgmiaognncaaW.PrintMore
attribute [local go_sem] max2_int min2_int max_two min_two max_three min_three max_four min_four   -- for this text's walks alone
set_option linter.unusedVariables false
set_option linter.unusedSimpArgs false

/-! ### digits_digit: function 111 -/
mutual
def digits_digit.j0 : Nat → Int → Bool → Option (Int)
  | 0, _, _ => none
  | k + 1, x0, x3 => if x3 = true then (some (wrap64 (wrap32 (x0 - 48)))) else (if x0 ≥ 97 then (digits_digit.j1 k x0 (decide (x0 ≤ 102))) else (digits_digit.j1 k x0 false))
def digits_digit.j1 : Nat → Int → Bool → Option (Int)
  | 0, _, _ => none
  | k + 1, x0, x13 => if x13 = true then (some (wrap64 ((wrap64 (wrap32 (x0 - 97))) + 10))) else (if x0 ≥ 65 then (if x0 ≤ 70 then (some (wrap64 ((wrap64 (wrap32 (x0 - 65))) + 10))) else (some (-1))) else (some (-1)))
end
def digits_digit.f (k : Nat) (a0 : Int) : Option (Int) := if a0 ≥ 48 then (digits_digit.j0 k a0 (decide (a0 ≤ 57))) else (digits_digit.j0 k a0 false)
theorem digits_digit.mono_l : ∀ k, (∀ y0 y1, LeO (digits_digit.j0 k y0 y1) (digits_digit.j0 (k + 1) y0 y1)) ∧ (∀ y0 y1, LeO (digits_digit.j1 k y0 y1) (digits_digit.j1 (k + 1) y0 y1))
  | 0 => ⟨fun _ _ r h => by simp [digits_digit.j0] at h, fun _ _ r h => by simp [digits_digit.j1] at h⟩
  | k + 1 => by
    obtain ⟨ih0, ih1⟩ := digits_digit.mono_l k
    refine ⟨?_, ?_⟩
    · intro y0 y1
      unfold digits_digit.j0
      repeat' first
      | (with_reducible exact ih0 _ _)
      | (with_reducible exact ih1 _ _)
      | (with_reducible exact LeO.refl _)
      | (with_reducible exact LeO.none _)
      | (with_reducible refine LeO.ite ?_ ?_)
      | (with_reducible refine LeO.bind ?_ (fun _ => ?_))
      | exact ih0 _ _
      | exact ih1 _ _
      | exact LeO.none _
      | refine LeO.ite ?_ ?_
      | refine LeO.bind ?_ (fun _ => ?_)
    · intro y0 y1
      unfold digits_digit.j1
      repeat' first
      | (with_reducible exact ih0 _ _)
      | (with_reducible exact ih1 _ _)
      | (with_reducible exact LeO.refl _)
      | (with_reducible exact LeO.none _)
      | (with_reducible refine LeO.ite ?_ ?_)
      | (with_reducible refine LeO.bind ?_ (fun _ => ?_))
      | exact ih0 _ _
      | exact ih1 _ _
      | exact LeO.none _
      | refine LeO.ite ?_ ?_
      | refine LeO.bind ?_ (fun _ => ?_)
theorem digits_digit.mono : ∀ a0 k, LeO (digits_digit.f k a0) (digits_digit.f (k + 1) a0) := by
  intro a0 k
  obtain ⟨ih0, ih1⟩ := digits_digit.mono_l k
  unfold digits_digit.f
  repeat' first
      | (with_reducible exact ih0 _ _)
      | (with_reducible exact ih1 _ _)
      | (with_reducible exact LeO.refl _)
      | (with_reducible exact LeO.none _)
      | (with_reducible refine LeO.ite ?_ ?_)
      | (with_reducible refine LeO.bind ?_ (fun _ => ?_))
      | exact ih0 _ _
      | exact ih1 _ _
      | exact LeO.none _
      | refine LeO.ite ?_ ?_
      | refine LeO.bind ?_ (fun _ => ?_)
set_option maxHeartbeats 8000000 in
set_option maxRecDepth 100000 in
theorem digits_digit.calls (k : Nat) (a0 : Int) (r : Int) (w : World) (h : digits_digit.f k a0 = some r) :
    Calls Try.prog 111 #[.int .i32 a0] w fun e w' => e = .returned (.int .i64 r) ∧ Drawn0 w w' := by
  have H : (if a0 ≥ 48 then (digits_digit.j0 k a0 (decide (a0 ≤ 57))) else (digits_digit.j0 k a0 false)) = some r := h
  clear h
  have HC2 := Aside0.mk H
  clear H
  go_enter Try.func111, Try.ntmps111
  go_upto_region 1 with (fail)
  go_cut [3] (fun v3 wc => ∃ (kq : Nat) (x3_1 : Bool), v3 = .bool x3_1 ∧ Aside0 (digits_digit.j0 kq a0 x3_1 = some r) ∧ Aside0 (kq ≤ k) ∧ Drawn0 w wc)
  case first =>
    have H := HC2.out
    clear HC2
    by_cases c3 : a0 ≥ 48
    · rw [if_pos c3] at H
      have c3b0 : decide (48 ≤ a0) = true := decide_eq_true c3
      clear c3
      (first | rw [c3b0] | (simp only [i64_w, i32_w]; rw [c3b0]) | skip)
      have H' := Aside0.mk H
      clear H
      go_wp2
      go_meet
      case rel => exact ⟨_, (decide (a0 ≤ 57)), (by first | rfl | (simp; done) | (simp [*]; done)), H', ⟨by first | omega | exact Nat.le_refl _⟩, by repeat (first | exact Drawn0.refl _ | apply Drawn0.step)⟩
    · rw [if_neg c3] at H
      have c3b0 : decide (48 ≤ a0) = false := decide_eq_false c3
      clear c3
      (first | rw [c3b0] | (simp only [i64_w, i32_w]; rw [c3b0]) | skip)
      have H' := Aside0.mk H
      clear H
      go_wp2
      go_meet
      case rel => exact ⟨_, (false), (by first | rfl | (simp; done) | (simp [*]; done)), H', ⟨by first | omega | exact Nat.le_refl _⟩, by repeat (first | exact Drawn0.refl _ | apply Drawn0.step)⟩
  case rest =>
    clear HC2
    try clear c1
    try clear p2
    try clear c3
    try clear c3b0
    obtain ⟨kq, x3_1, rfl, HA, HJ1, ⟨mc1, rfl⟩⟩ := hcut
    cases kq with
    | zero => exact absurd HA.out (by simp [digits_digit.j0])
    | succ kj1 =>
      have H := HA.out
      clear HA
      simp only [digits_digit.j0] at H
      by_cases c4 : x3_1 = true
      · subst c4
        have H1 : (some (wrap64 (wrap32 (a0 - 48)))) = some r := by rw [if_pos rfl] at H; exact H
        clear H
        have H := H1
        clear H1
        obtain rfl := Option.some.inj H
        go_wp2
        go_ret
        exact ⟨by first | rfl | (simp; done) | (simp [*]; done), by repeat (first | exact Drawn0.refl _ | apply Drawn0.step)⟩
      · replace c4 := Bool.eq_false_iff.mpr c4
        subst c4
        have H1 : (if a0 ≥ 97 then (digits_digit.j1 kj1 a0 (decide (a0 ≤ 102))) else (digits_digit.j1 kj1 a0 false)) = some r := by rw [if_neg (show ¬ (false = true) by decide)] at H; exact H
        clear H
        have H := H1
        clear H1
        have HC5 := Aside0.mk H
        clear H
        go_upto_region 3 with (fail)
        go_cut [13] (fun v13 wc => ∃ (kq : Nat) (x13_4 : Bool), v13 = .bool x13_4 ∧ Aside0 (digits_digit.j1 kq a0 x13_4 = some r) ∧ Aside0 (kq ≤ kj1) ∧ Drawn0 w wc)
        case first =>
          have H := HC5.out
          clear HC5
          by_cases c6 : a0 ≥ 97
          · rw [if_pos c6] at H
            have c6b0 : decide (97 ≤ a0) = true := decide_eq_true c6
            clear c6
            (first | rw [c6b0] | (simp only [i64_w, i32_w]; rw [c6b0]) | skip)
            have H' := Aside0.mk H
            clear H
            go_wp2
            go_meet
            case rel => exact ⟨_, (decide (a0 ≤ 102)), (by first | rfl | (simp; done) | (simp [*]; done)), H', ⟨by have := HJ1.out; first | omega | exact Nat.le_refl _⟩, by repeat (first | exact Drawn0.refl _ | apply Drawn0.step)⟩
          · rw [if_neg c6] at H
            have c6b0 : decide (97 ≤ a0) = false := decide_eq_false c6
            clear c6
            (first | rw [c6b0] | (simp only [i64_w, i32_w]; rw [c6b0]) | skip)
            have H' := Aside0.mk H
            clear H
            go_wp2
            go_meet
            case rel => exact ⟨_, (false), (by first | rfl | (simp; done) | (simp [*]; done)), H', ⟨by have := HJ1.out; first | omega | exact Nat.le_refl _⟩, by repeat (first | exact Drawn0.refl _ | apply Drawn0.step)⟩
        case rest =>
          clear HC5
          try clear c1
          try clear p2
          try clear c3
          try clear c3b0
          try clear p3
          try clear c4
          try clear c6
          try clear c6b0
          try clear p6
          try clear p2
          obtain ⟨kq, x13_4, rfl, HA, HJ4, ⟨mc4, rfl⟩⟩ := hcut
          cases kq with
          | zero => exact absurd HA.out (by simp [digits_digit.j1])
          | succ kj4 =>
            have H := HA.out
            clear HA
            simp only [digits_digit.j1] at H
            by_cases c7 : x13_4 = true
            · subst c7
              have H1 : (some (wrap64 ((wrap64 (wrap32 (a0 - 97))) + 10))) = some r := by rw [if_pos rfl] at H; exact H
              clear H
              have H := H1
              clear H1
              obtain rfl := Option.some.inj H
              go_wp2
              go_ret
              exact ⟨by first | rfl | (simp; done) | (simp [*]; done), by repeat (first | exact Drawn0.refl _ | apply Drawn0.step)⟩
            · replace c7 := Bool.eq_false_iff.mpr c7
              subst c7
              have H1 : (if a0 ≥ 65 then (if a0 ≤ 70 then (some (wrap64 ((wrap64 (wrap32 (a0 - 65))) + 10))) else (some (-1))) else (some (-1))) = some r := by rw [if_neg (show ¬ (false = true) by decide)] at H; exact H
              clear H
              have H := H1
              clear H1
              by_cases c8 : a0 ≥ 65
              · rw [if_pos c8] at H
                have c8b0 : decide (65 ≤ a0) = true := decide_eq_true c8
                clear c8
                by_cases c9 : a0 ≤ 70
                · rw [if_pos c9] at H
                  have c9b0 : decide (a0 ≤ 70) = true := decide_eq_true c9
                  clear c9
                  obtain rfl := Option.some.inj H
                  go_wp2
                  go_ret
                  exact ⟨by first | rfl | (simp; done) | (simp [*]; done), by repeat (first | exact Drawn0.refl _ | apply Drawn0.step)⟩
                · rw [if_neg c9] at H
                  have c9b0 : decide (a0 ≤ 70) = false := decide_eq_false c9
                  clear c9
                  obtain rfl := Option.some.inj H
                  go_wp2
                  go_ret
                  exact ⟨by first | rfl | (simp; done) | (simp [*]; done), by repeat (first | exact Drawn0.refl _ | apply Drawn0.step)⟩
              · rw [if_neg c8] at H
                have c8b0 : decide (65 ≤ a0) = false := decide_eq_false c8
                clear c8
                obtain rfl := Option.some.inj H
                go_wp2
                go_ret
                exact ⟨by first | rfl | (simp; done) | (simp [*]; done), by repeat (first | exact Drawn0.refl _ | apply Drawn0.step)⟩

end Go.Proofs.Ytdjmgmiaognncaa.X
namespace Go.Proofs.Ytdjmgmiaognncaa.X
open Go.RowKit Go.Proofs.YtdjmgmiaognncaaW.PrintWords Go.Proofs.YtdjmgmiaognncaaW.PrintLast Go.Proofs.YtdjmgmiaognncaaW.PrintMore
attribute [local go_sem] max2_int min2_int max_two min_two max_three min_three max_four min_four   -- for this text's walks alone
set_option linter.unusedVariables false
set_option linter.unusedSimpArgs false

/-! ### digits_number: function 94 -/
/-- P2.1: a digit's value, or -1. -/
def digR (r : Nat) : Int := if 48 ≤ r ∧ r ≤ 57 then (r : Int) - 48 else if 97 ≤ r ∧ r ≤ 102 then (r : Int) - 87 else if 65 ≤ r ∧ r ≤ 70 then (r : Int) - 55 else -1
theorem digR_bounds (r : Nat) : -1 ≤ digR r ∧ digR r ≤ 15 := by unfold digR; split <;> (try split) <;> (try split) <;> omega
theorem digit_f (r : Nat) (hr : r ≤ 2147483647) (k : Nat) (hk : 2 < k) : digits_digit.f k (r : Int) = some (digR r) := by
  obtain ⟨k, rfl⟩ : ∃ m, k = m + 2 := ⟨k - 2, by omega⟩
  unfold digits_digit.f digR
  by_cases h1 : 48 ≤ r ∧ r ≤ 57
  · rw [if_pos (by omega), if_pos h1, decide_eq_true (by omega)]
    simp only [digits_digit.j0, if_true]
    congr 1
    unfold wrap64 wrap32; omega
  · rw [if_neg h1]
    have e0 : (if (r : Int) ≥ 48 then digits_digit.j0 (k + 2) (r : Int) (decide ((r : Int) ≤ 57)) else digits_digit.j0 (k + 2) (r : Int) false) = digits_digit.j0 (k + 2) (r : Int) false := by
      by_cases h : (r : Int) ≥ 48
      · rw [if_pos h, decide_eq_false (by omega)]
      · rw [if_neg h]
    rw [e0]
    simp only [digits_digit.j0]
    rw [if_neg (by simp)]
    by_cases h2 : 97 ≤ r ∧ r ≤ 102
    · rw [if_pos h2, if_pos (by omega), decide_eq_true (by omega)]
      simp only [digits_digit.j1, if_true]
      congr 1
      unfold wrap64 wrap32; omega
    · rw [if_neg h2]
      have e1 : (if (r : Int) ≥ 97 then digits_digit.j1 (k + 1) (r : Int) (decide ((r : Int) ≤ 102)) else digits_digit.j1 (k + 1) (r : Int) false) = digits_digit.j1 (k + 1) (r : Int) false := by
        by_cases h : (r : Int) ≥ 97
        · rw [if_pos h, decide_eq_false (by omega)]
        · rw [if_neg h]
      rw [e1]
      simp only [digits_digit.j1]
      rw [if_neg (by simp)]
      by_cases h3 : 65 ≤ r ∧ r ≤ 70
      · rw [if_pos h3, if_pos (by omega), if_pos (by omega)]
        congr 1
        unfold wrap64 wrap32; omega
      · rw [if_neg h3]
        by_cases h4 : 65 ≤ r
        · rw [if_pos (by omega), if_neg (by omega)]
        · rw [if_neg (by omega)]
def stepO (base most n : Int) (ov : Bool) (d : Int) : Bool := ov || (decide (most < d) || decide ((most - d) / base < n))
/-- digits.number from place pos on, by at most so many runes. -/
def numFrom (base most : Int) (s : ByteArray) : Nat → Nat → Int → Bool → Int × Int
  | 0, _, n, ov => if ov = true then (0, 5) else (n, 0)
  | f + 1, pos, n, ov => if pos < s.size then (if digR (Utf8.decode s pos).1 < 0 ∨ base ≤ digR (Utf8.decode s pos).1 then (0, 3) else numFrom base most s f (pos + (Utf8.decode s pos).2) (if stepO base most n ov (digR (Utf8.decode s pos).1) = true then n else n * base + digR (Utf8.decode s pos).1) (stepO base most n ov (digR (Utf8.decode s pos).1))) else (if ov = true then (0, 5) else (n, 0))
theorem numFrom_end (base most : Int) (s : ByteArray) (f pos : Nat) (n : Int) (ov : Bool) (h : ¬ pos < s.size) : numFrom base most s f pos n ov = if ov = true then (0, 5) else (n, 0) := by cases f <;> simp [numFrom, h]
/-- P2.1. -/
def numberB (s : ByteArray) (base most : Int) : Int × Int := if s.toList = [] then (0, 2) else numFrom base most s s.size 0 0 false
def digits_number.f (a0 : ByteArray) (a1 : Int) (a2 : Int) : Option (Int × Int) := if 2 ≤ a1 ∧ a1 ≤ 16 ∧ 0 ≤ a2 ∧ a2 ≤ 4611686018427387904 then some (numberB a0 a1 a2) else none
theorem mul_le_of (n q base : Int) (hb : 0 < base) (m : Int) (h : n ≤ m / base) : n * base ≤ m := Int.le_trans (Int.mul_le_mul_of_nonneg_right h (by omega)) (Int.ediv_mul_le m (by omega))
set_option maxHeartbeats 8000000 in
set_option maxRecDepth 1000000 in
theorem digits_number.calls (a0 : ByteArray) (a1 : Int) (a2 : Int) (r1 : Int) (r2 : Int) (w : World) (h : digits_number.f a0 a1 a2 = some (r1, r2)) :
    Calls Try.prog 94 #[.string a0, .int .i64 a1, .int .i64 a2] w fun e w' => e = .returned (.tuple #[.int .i64 r1, .int .i64 r2]) ∧ Below w.heap.size w w' := by
  by_cases hh : 2 ≤ a1 ∧ a1 ≤ 16 ∧ 0 ≤ a2 ∧ a2 ≤ 4611686018427387904
  · rw [digits_number.f, if_pos hh] at h
    have hres := Option.some.inj h
    clear h
    obtain ⟨hb1, hb2, hm1, hm2⟩ := hh
    unfold numberB at hres
    by_cases he : a0.toList = []
    · rw [if_pos he] at hres
      obtain ⟨rfl, rfl⟩ := Prod.mk.inj hres
      have he2 : (a0.toList == ([] : List UInt8)) = true := beq_iff_eq.mpr he
      clear hres he
      go_enter Try.func94, Try.ntmps94
      go_wp2
      go_ret2
      exact ⟨rfl, Below.refl _ _⟩
    · rw [if_neg he] at hres
      have he2 : (a0.toList == ([] : List UInt8)) = false := beq_eq_false_iff_ne.mpr he
      have HRES := Aside0.mk hres
      clear hres he
      have hbne : (a1 == 0) = false := beq_eq_false_iff_ne.2 (by omega)
      go_enter Try.func94, Try.ntmps94
      go_wp2
      go_loopg [8, 9] a0.size (fun gf s8 s9 wx => ∃ (pos : Nat) (n : Int) (ov : Bool), s8 = .int .i64 n ∧ s9 = .bool ov ∧ wx.heap[w.heap.size]? = some (.stringIter a0 pos) ∧ Below w.heap.size w wx ∧ Aside0 (numFrom a1 a2 a0 gf pos n ov = (r1, r2)) ∧ a0.size ≤ pos + gf ∧ 0 ≤ n ∧ n ≤ a2)
      case atStart => exact ⟨0, 0, false, rfl, rfl, World.iter_heap w a0 0, (Below.refl _ w).alloc (Nat.le_refl _) _, HRES, by omega, by omega, by omega⟩
      case round =>
        obtain ⟨pos, n, ov, rfl, rfl, hit, hbw, HL, hfu, hn0, hnm⟩ := hrel
        by_cases hps : pos < a0.size
        · obtain ⟨g', rfl⟩ : ∃ g', gk = g' + 1 := ⟨gk - 1, by omega⟩
          have hnx : ∀ ty, (Instr.next (.pointer (some ⟨w.heap.size, 0, none⟩)) true ty).run Try.prog wr = _ := fun ty => Lib.run_next_any_at wr w.heap.size a0 pos ty hit hps
          have hwd := Lib.width_pos a0 pos
          have hleft := HL.out
          obtain ⟨R, hR⟩ : ∃ R, (Utf8.decode a0 pos).1 = R := ⟨_, rfl⟩
          obtain ⟨K, hK⟩ : ∃ K, (Utf8.decode a0 pos).2 = K := ⟨_, rfl⟩
          simp only [numFrom, hps, if_true, hR, hK] at hleft
          rw [hR, hK] at hnx
          rw [hK] at hwd
          have hit2 := Lib.iterAt_heap wr w.heap.size a0 pos (pos + K) hit
          have hbw2 := Lib.below_iterAt hbw (k := w.heap.size) (Nat.le_refl _) a0 (pos + K)
          obtain ⟨W, hWd⟩ : ∃ W, wr.iterAt w.heap.size a0 (pos + K) = W := ⟨_, rfl⟩
          rw [hWd] at hnx hit2 hbw2
          have hRm : R ≤ 2147483647 := by rw [← hR]; exact decode_le a0 pos
          have hdb := digR_bounds R
          have cS := digits_digit.calls 3 (R : Int) (digR R) W (digit_f R hRm 3 (by omega))
          obtain ⟨D, hD⟩ : ∃ D, digR R = D := ⟨_, rfl⟩
          rw [hD] at hleft hdb cS
          clear HL hD hR hK
          have hlt2 : w.heap.size < W.heap.size := (Array.getElem?_eq_some_iff.1 hit2).1
          by_cases hd1 : D < 0
          · rw [if_pos (Or.inl hd1)] at hleft
            obtain ⟨rfl, rfl⟩ := Prod.mk.inj hleft
            have hd1b : decide (D < 0) = true := decide_eq_true hd1
            clear hleft hd1
            go_wp2_with (go_at_call 111; refine cS.mono ?_; rintro e W' ⟨rfl, hd⟩; obtain ⟨q, rfl⟩ := hd.out)
            go_ret2
            exact ⟨rfl, pw_below_drewN hbw2 q⟩
          · have hd1b : decide (D < 0) = false := decide_eq_false hd1
            by_cases hd2 : a1 ≤ D
            · rw [if_pos (Or.inr hd2)] at hleft
              obtain ⟨rfl, rfl⟩ := Prod.mk.inj hleft
              have hd2b : decide (a1 ≤ D) = true := decide_eq_true hd2
              clear hleft hd1 hd2
              go_wp2_with (go_at_call 111; refine cS.mono ?_; rintro e W' ⟨rfl, hd⟩; obtain ⟨q, rfl⟩ := hd.out)
              go_ret2
              exact ⟨rfl, pw_below_drewN hbw2 q⟩
            · rw [if_neg (by omega)] at hleft
              have hd2b : decide (a1 ≤ D) = false := decide_eq_false hd2
              have HB := Aside0.mk (⟨hd1, hd2, hn0, hnm, hb1, hb2, hm1, hm2⟩ : _ ∧ _ ∧ _ ∧ _ ∧ _ ∧ _ ∧ _ ∧ _)
              have HF := Aside0.mk hfu
              have HLT := Aside0.mk (⟨hwd, hlt2⟩ : _ ∧ _)
              cases ov with
              | true =>
                have hs : stepO a1 a2 n true D = true := rfl
                rw [hs, if_pos rfl] at hleft
                have HL := Aside0.mk hleft
                clear hleft hs hd1 hd2 hdb
                go_wp2_with (go_at_call 111; refine cS.mono ?_; rintro e W' ⟨rfl, hd⟩; obtain ⟨q, rfl⟩ := hd.out)
                go_roundg g'
                case measure => omega
                case rel => exact ⟨pos + K, n, true, rfl, rfl, hit2, pw_below_drewN hbw2 q, HL, by have := HF.out; have := HLT.out; omega, HB.out.2.2.1, HB.out.2.2.2.1⟩
              | false =>
                by_cases hm : a2 < D
                · have hs : stepO a1 a2 n false D = true := by unfold stepO; rw [decide_eq_true hm]; simp
                  rw [hs, if_pos rfl] at hleft
                  have hmb : decide (a2 < D) = true := decide_eq_true hm
                  have HL := Aside0.mk hleft
                  clear hleft hs hd1 hd2 hdb hm
                  go_wp2_with (go_at_call 111; refine cS.mono ?_; rintro e W' ⟨rfl, hd⟩; obtain ⟨q, rfl⟩ := hd.out)
                  go_roundg g'
                  case measure => omega
                  case rel => exact ⟨pos + K, n, true, rfl, rfl, hit2, pw_below_drewN hbw2 q, HL, by have := HF.out; have := HLT.out; omega, HB.out.2.2.1, HB.out.2.2.2.1⟩
                · have hmb : decide (a2 < D) = false := decide_eq_false hm
                  have hs : stepO a1 a2 n false D = decide ((a2 - D) / a1 < n) := by unfold stepO; rw [hmb]; simp
                  have hq0 : 0 ≤ (a2 - D) / a1 := Int.ediv_nonneg (by omega) (by omega)
                  have hq1 : (a2 - D) / a1 ≤ a2 - D := Int.ediv_le_self _ (by omega)
                  have hq2 : (a2 - D).tdiv a1 = (a2 - D) / a1 := Int.tdiv_eq_ediv_of_nonneg (by omega)
                  have hml : n ≤ (a2 - D) / a1 → n * a1 ≤ a2 - D := fun h => mul_le_of n 0 a1 (by omega) (a2 - D) h
                  have hmn : 0 ≤ n * a1 := Int.mul_nonneg hn0 (by omega)
                  obtain ⟨Q, hQ⟩ : ∃ Q, (a2 - D) / a1 = Q := ⟨_, rfl⟩
                  obtain ⟨M, hM⟩ : ∃ M, n * a1 = M := ⟨_, rfl⟩
                  rw [hQ] at hs hq0 hq1 hq2 hml
                  rw [hM] at hml hmn hleft
                  clear hQ
                  by_cases hn : Q < n
                  · have hnb : decide (Q < n) = true := decide_eq_true hn
                    rw [hs, hnb, if_pos rfl] at hleft
                    have HL := Aside0.mk hleft
                    clear hleft hs hm hn hml
                    go_wp2_with (go_at_call 111; refine cS.mono ?_; rintro e W' ⟨rfl, hd⟩; obtain ⟨q, rfl⟩ := hd.out)
                    go_roundg g'
                    case measure => omega
                    case rel => exact ⟨pos + K, n, true, rfl, rfl, hit2, pw_below_drewN hbw2 q, HL, by have := HF.out; have := HLT.out; omega, HB.out.2.2.1, HB.out.2.2.2.1⟩
                  · have hnb : decide (Q < n) = false := decide_eq_false hn
                    rw [hs, hnb, if_neg (by simp)] at hleft
                    have HL := Aside0.mk hleft
                    have hmd := hml (by omega)
                    clear hleft hs hm hn hml
                    go_wp2_with (go_at_call 111; refine cS.mono ?_; rintro e W' ⟨rfl, hd⟩; obtain ⟨q, rfl⟩ := hd.out)
                    go_roundg g'
                    case measure => omega
                    case rel => exact ⟨pos + K, M + D, false, by go_num, rfl, hit2, pw_below_drewN hbw2 q, HL, by have := HF.out; have := HLT.out; omega, by have := HB.out; omega, by omega⟩
        · have hnx : ∀ ty, (Instr.next (.pointer (some ⟨w.heap.size, 0, none⟩)) true ty).run Try.prog wr = _ := fun ty => Lib.run_next_end_at wr w.heap.size a0 pos ty hit hps
          have hleft := HL.out
          rw [numFrom_end _ _ a0 gk pos n ov hps] at hleft
          clear HL
          cases ov with
          | true =>
            rw [if_pos rfl] at hleft
            obtain ⟨rfl, rfl⟩ := Prod.mk.inj hleft
            clear hleft
            go_wp2
            go_ret2
            exact ⟨rfl, hbw⟩
          | false =>
            rw [if_neg (by simp)] at hleft
            obtain ⟨rfl, rfl⟩ := Prod.mk.inj hleft
            clear hleft
            go_wp2
            go_ret2
            exact ⟨rfl, hbw⟩
  · rw [digits_number.f, if_neg hh] at h
    cases h


end Go.Proofs.Ytdjmgmiaognncaa.X
namespace Go.Proofs.Ytdjmgmiaognncaa.X
open Go.RowKit Go.Proofs.YtdjmgmiaognncaaW.PrintWords Go.Proofs.YtdjmgmiaognncaaW.PrintLast Go.Proofs.YtdjmgmiaognncaaW.PrintMore
attribute [local go_sem] max2_int min2_int max_two min_two max_three min_three max_four min_four   -- for this text's walks alone
set_option linter.unusedVariables false
set_option linter.unusedSimpArgs false

/-! ### digits_Dec: function 69 -/
def digits_Dec.f (a0 : ByteArray) (a1 : Int) : Option (Int × Int) := (digits_number.f a0 10 a1).bind fun bt101 => (some (bt101.1, bt101.2))
set_option maxHeartbeats 8000000 in
set_option maxRecDepth 100000 in
theorem digits_Dec.calls (a0 : ByteArray) (a1 : Int) (r1 : Int) (r2 : Int) (w : World) (h : digits_Dec.f a0 a1 = some (r1, r2)) :
    Calls Try.prog 69 #[.string a0, .int .i64 a1] w fun e w' => e = .returned (.tuple #[.int .i64 r1, .int .i64 r2]) ∧ Below w.heap.size w w' := by
  have HB := Aside0.mk (Below.refl w.heap.size w)
  have H : ((digits_number.f a0 10 a1).bind fun bt101 => (some (bt101.1, bt101.2))) = some (r1, r2) := h
  clear h
  replace H := Option.bind_eq_some_iff.mp H
  obtain ⟨⟨t101, t102⟩, A30, H⟩ := H
  replace H : (some (t101, t102)) = some (r1, r2) := H
  have A3 := Aside0.mk A30
  clear A30
  simp only [Option.some.injEq, Prod.mk.injEq] at H
  obtain ⟨rfl, rfl⟩ := H
  go_enter Try.func69, Try.ntmps69
  go_wp2_with (first | ((with_reducible refine gate_callee (f := 94) rfl ?_); refine goesL_ (some 8) rfl rfl Try.func94 (by kernel_rfl) rfl #[.string a0, .int .i64 10, .int .i64 a1] rfl (by (try simp only [List.map_toArray, List.map_cons, List.map_nil]); first | done | rfl | (simp only [List.length_drop, List.length_take]; rfl)) ?_; (with_reducible refine (digits_number.calls a0 10 a1 t101 t102 _ A3.out).mono ?_); rintro e w4 ⟨rfl, hb⟩; refine ⟨_, rfl, ?_⟩; have n0_ := Aside0.mk (below_step (by repeat (first | (with_reducible first | exact HB.out | apply below_alloc | apply pw_below_drewN | apply below_drew1) | exact HB.out)) hb); clear HB; have HB := n0_; clear n0_; (try clear hb); (try clear hb2); (try clear hk); (try clear hi)))
  go_ret2
  exact ⟨by first | rfl | (simp [errW_none, errW_some] <;> rfl) | (simp [*, errW_none, errW_some] <;> rfl), by repeat (first | (with_reducible first | exact HB.out | apply below_alloc | apply pw_below_drewN | apply below_drew1) | exact HB.out)⟩

end Go.Proofs.Ytdjmgmiaognncaa.X
namespace Go.Proofs.Ytdjmgmiaognncaa.X
open Go.RowKit Go.Proofs.YtdjmgmiaognncaaW.PrintWords Go.Proofs.YtdjmgmiaognncaaW.PrintLast Go.Proofs.YtdjmgmiaognncaaW.PrintMore
attribute [local go_sem] max2_int min2_int max_two min_two max_three min_three max_four min_four   -- for this text's walks alone
set_option linter.unusedVariables false
set_option linter.unusedSimpArgs false

/-! ### host_Parse: function 42 -/
def host_Parse.j0 : Nat → ByteArray → ByteArray → Bool → Bool → Option (ByteArray × Int × Int)
  | 0, _, _, _, _ => none
  | k + 1, x2, x5, x6, x22 => if x22 = true then (some ((⟨#[]⟩ : ByteArray), 0, 3)) else (if x6 = true then ((digits_Dec.f x5 65535).bind fun bt106 => (if bt106.2 = 0 then (some (x2, bt106.1, bt106.2)) else (if bt106.2 = 5 then (some ((⟨#[]⟩ : ByteArray), 0, bt106.2)) else (some ((⟨#[]⟩ : ByteArray), 0, 3))))) else (some (x2, 80, 0)))
def host_Parse.f (k : Nat) (a0 : ByteArray) : Option (ByteArray × Int × Int) := if a0.toList = ([] : List UInt8) then (some ((⟨#[]⟩ : ByteArray), 0, 2)) else ((host_cut.f a0).bind fun bt101 => ((host_registered.f bt101.1).bind fun t104 => (if t104 = true then (host_Parse.j0 k bt101.1 bt101.2.1 bt101.2.2 false) else ((host_literal.f bt101.1).bind fun t105 => (host_Parse.j0 k bt101.1 bt101.2.1 bt101.2.2 (!t105))))))
theorem host_Parse.mono_l : ∀ k, (∀ y0 y1 y2 y3, LeO (host_Parse.j0 k y0 y1 y2 y3) (host_Parse.j0 (k + 1) y0 y1 y2 y3))
  | 0 => fun _ _ _ _ r h => by simp [host_Parse.j0] at h
  | k + 1 => by
    have ih0 := host_Parse.mono_l k
    · intro y0 y1 y2 y3
      unfold host_Parse.j0
      repeat' first
      | (with_reducible exact ih0 _ _ _ _)
      | (with_reducible exact LeO.refl _)
      | (with_reducible exact LeO.none _)
      | (with_reducible refine LeO.ite ?_ ?_)
      | (with_reducible refine LeO.bind ?_ (fun _ => ?_))
      | exact ih0 _ _ _ _
      | exact LeO.none _
      | refine LeO.ite ?_ ?_
      | refine LeO.bind ?_ (fun _ => ?_)
theorem host_Parse.mono : ∀ a0 k, LeO (host_Parse.f k a0) (host_Parse.f (k + 1) a0) := by
  intro a0 k
  have ih0 := host_Parse.mono_l k
  unfold host_Parse.f
  repeat' first
      | (with_reducible exact ih0 _ _ _ _)
      | (with_reducible exact LeO.refl _)
      | (with_reducible exact LeO.none _)
      | (with_reducible refine LeO.ite ?_ ?_)
      | (with_reducible refine LeO.bind ?_ (fun _ => ?_))
      | exact ih0 _ _ _ _
      | exact LeO.none _
      | refine LeO.ite ?_ ?_
      | refine LeO.bind ?_ (fun _ => ?_)
set_option maxHeartbeats 8000000 in
set_option maxRecDepth 100000 in
theorem host_Parse.calls (k : Nat) (a0 : ByteArray) (r1 : ByteArray) (r2 : Int) (r3 : Int) (w : World) (h : host_Parse.f k a0 = some (r1, r2, r3)) :
    Calls Try.prog 42 #[.string a0] w fun e w' => e = .returned (.tuple #[.string r1, .int .i64 r2, .int .i64 r3]) ∧ Below w.heap.size w w' := by
  have HB := Aside0.mk (Below.refl w.heap.size w)
  have H : (if a0.toList = ([] : List UInt8) then (some ((⟨#[]⟩ : ByteArray), 0, 2)) else ((host_cut.f a0).bind fun bt101 => ((host_registered.f bt101.1).bind fun t104 => (if t104 = true then (host_Parse.j0 k bt101.1 bt101.2.1 bt101.2.2 false) else ((host_literal.f bt101.1).bind fun t105 => (host_Parse.j0 k bt101.1 bt101.2.1 bt101.2.2 (!t105))))))) = some (r1, r2, r3) := h
  clear h
  by_cases c2 : a0.toList = ([] : List UInt8)
  · rw [if_pos c2] at H
    have c2b0 : (a0.toList == ([] : List UInt8)) = true := beq_iff_eq.mpr c2
    have c2b1 : (a0.toList != ([] : List UInt8)) = false := bne_eq_false_iff_eq.mpr c2
    clear c2
    simp only [Option.some.injEq, Prod.mk.injEq] at H
    obtain ⟨rfl, rfl, rfl⟩ := H
    go_enter Try.func42, Try.ntmps42
    go_wp2
    go_ret3
    exact ⟨by first | rfl | (simp [errW_none, errW_some] <;> rfl) | (simp [*, errW_none, errW_some] <;> rfl), by repeat (first | (with_reducible first | exact HB.out | apply below_alloc | apply pw_below_drewN | apply below_drew1) | exact HB.out)⟩
  · rw [if_neg c2] at H
    have c2b0 : (a0.toList == ([] : List UInt8)) = false := beq_eq_false_iff_ne.mpr c2
    have c2b1 : (a0.toList != ([] : List UInt8)) = true := bne_iff_ne.mpr c2
    replace H := Option.bind_eq_some_iff.mp H
    obtain ⟨⟨t101, t102, t103⟩, A30, H⟩ := H
    replace H : ((host_registered.f t101).bind fun t104 => (if t104 = true then (host_Parse.j0 k t101 t102 t103 false) else ((host_literal.f t101).bind fun t105 => (host_Parse.j0 k t101 t102 t103 (!t105))))) = some (r1, r2, r3) := H
    have A3 := Aside0.mk A30
    clear A30
    have HC4 := Aside0.mk H
    clear H
    go_enter Try.func42, Try.ntmps42
    go_upto_region 4 with (first | ((with_reducible refine gate_callee (f := 66) rfl ?_); refine goesL_ (some 11) rfl rfl Try.func66 (by kernel_rfl) rfl #[.string a0] rfl (by (try simp only [List.map_toArray, List.map_cons, List.map_nil]); first | done | rfl | (simp only [List.length_drop, List.length_take]; rfl)) ?_; (with_reducible refine (host_cut.calls a0 t101 t102 t103 _ A3.out).mono ?_); rintro e w' ⟨rfl, ⟨nd, rfl⟩⟩; refine ⟨_, rfl, ?_⟩))
    (try simp only [Act.put, List.setIfInBounds_toArray, List.set_cons_zero, List.set_cons_succ])
    go_cut [22] (fun v22 wc => ∃ (kq : Nat) (x22_3 : Bool), v22 = .bool x22_3 ∧ Aside0 (host_Parse.j0 kq t101 t102 t103 x22_3 = some (r1, r2, r3)) ∧ Aside0 (kq ≤ k) ∧ Aside0 (Below w.heap.size w wc))
    case first =>
      have H := HC4.out
      clear HC4
      replace H := Option.bind_eq_some_iff.mp H
      obtain ⟨t104, A50, H⟩ := H
      replace H : (if t104 = true then (host_Parse.j0 k t101 t102 t103 false) else ((host_literal.f t101).bind fun t105 => (host_Parse.j0 k t101 t102 t103 (!t105)))) = some (r1, r2, r3) := H
      have A5 := Aside0.mk A50
      clear A50
      by_cases c6 : t104 = true
      · subst c6
        have H1 : (host_Parse.j0 k t101 t102 t103 false) = some (r1, r2, r3) := by rw [if_pos rfl] at H; exact H
        clear H
        have H := H1
        clear H1
        have H' := Aside0.mk H
        clear H
        go_wp2_with (first | ((with_reducible refine gate_callee (f := 67) rfl ?_); refine goesL_ (some 16) rfl rfl Try.func67 (by kernel_rfl) rfl #[.string t101] rfl (by (try simp only [List.map_toArray, List.map_cons, List.map_nil]); first | done | rfl | (simp only [List.length_drop, List.length_take]; rfl)) ?_; (with_reducible refine (host_registered.calls t101 true _ A5.out).mono ?_); rintro e w7 ⟨rfl, hb⟩; refine ⟨_, rfl, ?_⟩; have n0_ := Aside0.mk (below_step (by repeat (first | (with_reducible first | exact HB.out | apply below_alloc | apply pw_below_drewN | apply below_drew1) | exact HB.out)) hb); clear HB; have HB := n0_; clear n0_; (try clear hb); (try clear hb2); (try clear hk); (try clear hi)))
        go_meet
        case rel => exact ⟨_, (false), (by first | rfl | (simp; done) | (simp [*]; done)), H', ⟨by first | omega | exact Nat.le_refl _⟩, ⟨by repeat (first | (with_reducible first | exact HB.out | apply below_alloc | apply pw_below_drewN | apply below_drew1) | exact HB.out)⟩⟩
      · replace c6 := Bool.eq_false_iff.mpr c6
        subst c6
        have H1 : ((host_literal.f t101).bind fun t105 => (host_Parse.j0 k t101 t102 t103 (!t105))) = some (r1, r2, r3) := by rw [if_neg (show ¬ (false = true) by decide)] at H; exact H
        clear H
        have H := H1
        clear H1
        replace H := Option.bind_eq_some_iff.mp H
        obtain ⟨t105, A80, H⟩ := H
        replace H : (host_Parse.j0 k t101 t102 t103 (!t105)) = some (r1, r2, r3) := H
        have A8 := Aside0.mk A80
        clear A80
        have H' := Aside0.mk H
        clear H
        go_wp2_with (first | ((with_reducible refine gate_callee (f := 67) rfl ?_); refine goesL_ (some 16) rfl rfl Try.func67 (by kernel_rfl) rfl #[.string t101] rfl (by (try simp only [List.map_toArray, List.map_cons, List.map_nil]); first | done | rfl | (simp only [List.length_drop, List.length_take]; rfl)) ?_; (with_reducible refine (host_registered.calls t101 false _ A5.out).mono ?_); rintro e w9 ⟨rfl, hb⟩; refine ⟨_, rfl, ?_⟩; have n0_ := Aside0.mk (below_step (by repeat (first | (with_reducible first | exact HB.out | apply below_alloc | apply pw_below_drewN | apply below_drew1) | exact HB.out)) hb); clear HB; have HB := n0_; clear n0_; (try clear hb); (try clear hb2); (try clear hk); (try clear hi)) | (go_at_call 68; (with_reducible refine (host_literal.calls t101 t105 _ A8.out).mono ?_); rintro e w10 ⟨rfl, hb⟩; have n0_ := Aside0.mk (below_step (by repeat (first | (with_reducible first | exact HB.out | apply below_alloc | apply pw_below_drewN | apply below_drew1) | exact HB.out)) hb); clear HB; have HB := n0_; clear n0_; (try clear hb); (try clear hb2); (try clear hk); (try clear hi)))
        go_meet
        case rel => exact ⟨_, (!t105), (by first | rfl | (simp; done) | (simp [*]; done)), H', ⟨by first | omega | exact Nat.le_refl _⟩, ⟨by repeat (first | (with_reducible first | exact HB.out | apply below_alloc | apply pw_below_drewN | apply below_drew1) | exact HB.out)⟩⟩
    case rest =>
      clear HC4
      try clear c2
      try clear c2b0
      try clear c2b1
      try clear p2
      try clear c4
      try clear c6
      obtain ⟨kq, x22_3, rfl, HA, HJ3, HB⟩ := hcut
      cases kq with
      | zero => exact absurd HA.out (by simp [host_Parse.j0])
      | succ kj3 =>
        have H := HA.out
        clear HA
        simp only [host_Parse.j0] at H
        by_cases c11 : x22_3 = true
        · subst c11
          have H1 : (some ((⟨#[]⟩ : ByteArray), 0, 3)) = some (r1, r2, r3) := by rw [if_pos rfl] at H; exact H
          clear H
          have H := H1
          clear H1
          simp only [Option.some.injEq, Prod.mk.injEq] at H
          obtain ⟨rfl, rfl, rfl⟩ := H
          go_wp2
          go_ret3
          exact ⟨by first | rfl | (simp [errW_none, errW_some] <;> rfl) | (simp [*, errW_none, errW_some] <;> rfl), by repeat (first | (with_reducible first | exact HB.out | apply below_alloc | apply pw_below_drewN | apply below_drew1) | exact HB.out)⟩
        · replace c11 := Bool.eq_false_iff.mpr c11
          subst c11
          have H1 : (if t103 = true then ((digits_Dec.f t102 65535).bind fun bt106 => (if bt106.2 = 0 then (some (t101, bt106.1, bt106.2)) else (if bt106.2 = 5 then (some ((⟨#[]⟩ : ByteArray), 0, bt106.2)) else (some ((⟨#[]⟩ : ByteArray), 0, 3))))) else (some (t101, 80, 0))) = some (r1, r2, r3) := by rw [if_neg (show ¬ (false = true) by decide)] at H; exact H
          clear H
          have H := H1
          clear H1
          by_cases c12 : t103 = true
          · subst c12
            have H1 : ((digits_Dec.f t102 65535).bind fun bt106 => (if bt106.2 = 0 then (some (t101, bt106.1, bt106.2)) else (if bt106.2 = 5 then (some ((⟨#[]⟩ : ByteArray), 0, bt106.2)) else (some ((⟨#[]⟩ : ByteArray), 0, 3))))) = some (r1, r2, r3) := by rw [if_pos rfl] at H; exact H
            clear H
            have H := H1
            clear H1
            replace H := Option.bind_eq_some_iff.mp H
            obtain ⟨⟨t106, t107⟩, A130, H⟩ := H
            replace H : (if t107 = 0 then (some (t101, t106, t107)) else (if t107 = 5 then (some ((⟨#[]⟩ : ByteArray), 0, t107)) else (some ((⟨#[]⟩ : ByteArray), 0, 3)))) = some (r1, r2, r3) := H
            have A13 := Aside0.mk A130
            clear A130
            by_cases c14 : t107 = 0
            · rw [if_pos c14] at H
              have c14b0 : (t107 == 0) = true := beq_iff_eq.mpr c14
              have c14b1 : (t107 != 0) = false := bne_eq_false_iff_eq.mpr c14
              clear c14
              simp only [Option.some.injEq, Prod.mk.injEq] at H
              obtain ⟨rfl, rfl, rfl⟩ := H
              go_wp2_with (first | ((with_reducible refine gate_callee (f := 69) rfl ?_); refine goesL_ (some 28) rfl rfl Try.func69 (by kernel_rfl) rfl #[.string t102, .int .i64 65535] rfl (by (try simp only [List.map_toArray, List.map_cons, List.map_nil]); first | done | rfl | (simp only [List.length_drop, List.length_take]; rfl)) ?_; (with_reducible refine (digits_Dec.calls t102 65535 t106 t107 _ A13.out).mono ?_); rintro e w15 ⟨rfl, hb⟩; refine ⟨_, rfl, ?_⟩; have n0_ := Aside0.mk (below_step (by repeat (first | (with_reducible first | exact HB.out | apply below_alloc | apply pw_below_drewN | apply below_drew1) | exact HB.out)) hb); clear HB; have HB := n0_; clear n0_; (try clear hb); (try clear hb2); (try clear hk); (try clear hi)))
              go_ret3
              exact ⟨by first | rfl | (simp [errW_none, errW_some] <;> rfl) | (simp [*, errW_none, errW_some] <;> rfl), by repeat (first | (with_reducible first | exact HB.out | apply below_alloc | apply pw_below_drewN | apply below_drew1) | exact HB.out)⟩
            · rw [if_neg c14] at H
              have c14b0 : (t107 == 0) = false := beq_eq_false_iff_ne.mpr c14
              have c14b1 : (t107 != 0) = true := bne_iff_ne.mpr c14
              by_cases c16 : t107 = 5
              · rw [if_pos c16] at H
                have c16b0 : (t107 == 5) = true := beq_iff_eq.mpr c16
                have c16b1 : (t107 != 5) = false := bne_eq_false_iff_eq.mpr c16
                clear c16
                simp only [Option.some.injEq, Prod.mk.injEq] at H
                obtain ⟨rfl, rfl, rfl⟩ := H
                go_wp2_with (first | ((with_reducible refine gate_callee (f := 69) rfl ?_); refine goesL_ (some 28) rfl rfl Try.func69 (by kernel_rfl) rfl #[.string t102, .int .i64 65535] rfl (by (try simp only [List.map_toArray, List.map_cons, List.map_nil]); first | done | rfl | (simp only [List.length_drop, List.length_take]; rfl)) ?_; (with_reducible refine (digits_Dec.calls t102 65535 t106 t107 _ A13.out).mono ?_); rintro e w17 ⟨rfl, hb⟩; refine ⟨_, rfl, ?_⟩; have n0_ := Aside0.mk (below_step (by repeat (first | (with_reducible first | exact HB.out | apply below_alloc | apply pw_below_drewN | apply below_drew1) | exact HB.out)) hb); clear HB; have HB := n0_; clear n0_; (try clear hb); (try clear hb2); (try clear hk); (try clear hi)))
                go_ret3
                exact ⟨by first | rfl | (simp [errW_none, errW_some] <;> rfl) | (simp [*, errW_none, errW_some] <;> rfl), by repeat (first | (with_reducible first | exact HB.out | apply below_alloc | apply pw_below_drewN | apply below_drew1) | exact HB.out)⟩
              · rw [if_neg c16] at H
                have c16b0 : (t107 == 5) = false := beq_eq_false_iff_ne.mpr c16
                have c16b1 : (t107 != 5) = true := bne_iff_ne.mpr c16
                simp only [Option.some.injEq, Prod.mk.injEq] at H
                obtain ⟨rfl, rfl, rfl⟩ := H
                go_wp2_with (first | ((with_reducible refine gate_callee (f := 69) rfl ?_); refine goesL_ (some 28) rfl rfl Try.func69 (by kernel_rfl) rfl #[.string t102, .int .i64 65535] rfl (by (try simp only [List.map_toArray, List.map_cons, List.map_nil]); first | done | rfl | (simp only [List.length_drop, List.length_take]; rfl)) ?_; (with_reducible refine (digits_Dec.calls t102 65535 t106 t107 _ A13.out).mono ?_); rintro e w18 ⟨rfl, hb⟩; refine ⟨_, rfl, ?_⟩; have n0_ := Aside0.mk (below_step (by repeat (first | (with_reducible first | exact HB.out | apply below_alloc | apply pw_below_drewN | apply below_drew1) | exact HB.out)) hb); clear HB; have HB := n0_; clear n0_; (try clear hb); (try clear hb2); (try clear hk); (try clear hi)))
                go_ret3
                exact ⟨by first | rfl | (simp [errW_none, errW_some] <;> rfl) | (simp [*, errW_none, errW_some] <;> rfl), by repeat (first | (with_reducible first | exact HB.out | apply below_alloc | apply pw_below_drewN | apply below_drew1) | exact HB.out)⟩
          · replace c12 := Bool.eq_false_iff.mpr c12
            subst c12
            have H1 : (some (t101, 80, 0)) = some (r1, r2, r3) := by rw [if_neg (show ¬ (false = true) by decide)] at H; exact H
            clear H
            have H := H1
            clear H1
            simp only [Option.some.injEq, Prod.mk.injEq] at H
            obtain ⟨rfl, rfl, rfl⟩ := H
            go_wp2
            go_ret3
            exact ⟨by first | rfl | (simp [errW_none, errW_some] <;> rfl) | (simp [*, errW_none, errW_some] <;> rfl), by repeat (first | (with_reducible first | exact HB.out | apply below_alloc | apply pw_below_drewN | apply below_drew1) | exact HB.out)⟩

end Go.Proofs.Ytdjmgmiaognncaa.X
namespace Go.Proofs.Ytdjmgmiaognncaa.X
open Go.RowKit Go.Proofs.YtdjmgmiaognncaaW.PrintWords Go.Proofs.YtdjmgmiaognncaaW.PrintLast Go.Proofs.YtdjmgmiaognncaaW.PrintMore
attribute [local go_sem] max2_int min2_int max_two min_two max_three min_three max_four min_four   -- for this text's walks alone
set_option linter.unusedVariables false
set_option linter.unusedSimpArgs false

/-! ### digits_figures: function 48 -/
/-- The sign of a digit. -/
def digB (d : Nat) : UInt8 := if d < 10 then (48 + d).toUInt8 else (87 + d).toUInt8
/-- The digits of a number to a base, ahead of those that there are. -/
def figL (b : Nat) : Nat → Nat → List UInt8 → List UInt8
  | 0, _, acc => acc
  | f + 1, n, acc => if acc = [] ∨ n ≠ 0 then figL b f (n / b) (digB (n % b) :: acc) else acc
def figB (n b : Nat) : ByteArray := ⟨(figL b 64 n []).toArray⟩
def digits_figures.f (a0 : Int) (a1 : Int) : Option (ByteArray) := if 0 ≤ a0 ∧ a0 ≤ 4611686018427387904 ∧ 2 ≤ a1 ∧ a1 ≤ 16 then some (figB a0.toNat a1.toNat) else none
theorem sign_get (d : Nat) (hd : d < 16) : (⟨#[48, 49, 50, 51, 52, 53, 54, 55, 56, 57, 97, 98, 99, 100, 101, 102]⟩ : ByteArray)[d]'hd = digB d := by
  have h : ∀ k : Fin 16, (⟨#[48, 49, 50, 51, 52, 53, 54, 55, 56, 57, 97, 98, 99, 100, 101, 102]⟩ : ByteArray)[k.val]'k.isLt = digB k.val := by decide +kernel
  exact h ⟨d, hd⟩
/-- The array's cells, from a place on. -/
def Tail (W : World) (g t p : Nat) (acc : List UInt8) : Prop := ∃ C : Array Value, W.heap[g]? = some (.cells C t (0, 0)) ∧ C.size = 64 ∧ ∀ (j : Nat) c, acc[j]? = some c → C[p + 1 + j]? = some (.int .u8 (c.toNat : Int))
theorem Tail.some {W : World} {g t p : Nat} {acc : List UInt8} (h : Tail W g t p acc) (j : Nat) (hj : j < 64) : ∃ v, W.cell? ⟨g, j, none⟩ = .some v := by
  obtain ⟨C, hh, hs, _⟩ := h
  refine ⟨C[j]'(by omega), ?_⟩
  simp only [World.cell?, hh]
  exact Array.getElem?_eq_getElem (by omega)
theorem Tail.frozen {W : World} {g t p : Nat} {acc : List UInt8} (h : Tail W g t p acc) (j : Nat) : W.frozen? ⟨g, j, none⟩ = false := by
  obtain ⟨C, hh, _⟩ := h
  simp [World.frozen?, hh]
theorem Tail.put {W : World} {g t p : Nat} {acc : List UInt8} (h : Tail W g t (p + 1) acc) (c : UInt8) (hp : p + 1 < 64) : Tail (W.setCell ⟨g, p + 1, none⟩ (.int .u8 (c.toNat : Int))) g t p (c :: acc) := by
  obtain ⟨C, hh, hs, hc⟩ := h
  refine ⟨C.setIfInBounds (p + 1) (.int .u8 (c.toNat : Int)), ?_, by simpa using hs, fun j d hj => ?_⟩
  · simp only [World.setCell, Array.getElem?_modify, hh]
    simp
  · rw [Array.getElem?_setIfInBounds]
    cases j with
    | zero =>
      simp at hj
      subst hj
      rw [if_pos rfl, if_pos (by omega)]
    | succ j =>
      rw [if_neg (by omega)]
      have := hc j d (by simpa using hj)
      rw [show p + 1 + 1 + j = p + 1 + (j + 1) from by omega] at this
      exact this
set_option maxHeartbeats 8000000 in
set_option maxRecDepth 100000 in
theorem digits_figures.calls (a0 : Int) (a1 : Int) (r : ByteArray) (w : World) (h : digits_figures.f a0 a1 = some r) :
    Calls Try.prog 48 #[.int .i64 a0, .int .i64 a1] w fun e w' => e = .returned (.string r) ∧ Below w.heap.size w w' := by
  by_cases hh : 0 ≤ a0 ∧ a0 ≤ 4611686018427387904 ∧ 2 ≤ a1 ∧ a1 ≤ 16
  · rw [digits_figures.f, if_pos hh] at h
    have hres := Option.some.inj h
    clear h
    obtain ⟨h0, h1, h2, h3⟩ := hh
    obtain ⟨N, rfl⟩ := Int.eq_ofNat_of_zero_le h0
    obtain ⟨b, rfl⟩ := Int.eq_ofNat_of_zero_le (show 0 ≤ a1 by omega)
    rw [Int.toNat_natCast, Int.toNat_natCast] at hres
    have HRES := Aside0.mk hres
    have HN := Aside0.mk (show N < 2 ^ 63 by omega)
    clear hres
    have hb0 : ¬ ((b : Int) = 0) := by omega
    go_enter Try.func48, Try.ntmps48
    go_wp2
    go_loopg [0, 6] 64 (fun gg s0 s6 wr => ∃ (n p : Nat) (acc : List UInt8), s0 = .int .i64 n ∧ s6 = .int .i64 ((p : Int) + 1) ∧ p + acc.length = 63 ∧ Aside0 (n < 2 ^ p) ∧ n ≤ 4611686018427387904 ∧ Aside0 (Tail wr w.heap.size 102 p acc) ∧ Aside0 (Below w.heap.size w wr) ∧ Aside0 ((⟨(figL b gg n acc).toArray⟩ : ByteArray) = r) ∧ p < gg)
    case atStart =>
      refine ⟨N, 63, [], rfl, rfl, rfl, HN, by omega, ⟨?_⟩, ⟨(Below.refl _ w).alloc (Nat.le_refl _) _⟩, HRES, by omega⟩
      exact ⟨_, World.alloc_heap_new _ _, rfl, by simp⟩
    case round =>
      obtain ⟨n, p, acc, rfl, rfl, hpl, HP, hn, HT, BW, HL, hgz⟩ := hrel
      have hleft := HL.out
      cases gk with
      | zero => exact absurd hgz (by omega)
      | succ g' =>
        simp only [figL] at hleft
        by_cases hgo : acc = [] ∨ n ≠ 0
        · rw [if_pos hgo] at hleft
          have hp1 : 0 < p := by
            rcases hgo with h | h
            · subst h; simp at hpl; omega
            · rcases Nat.eq_zero_or_pos p with h0 | h0
              · have := HP.out; rw [h0] at this; simp at this; omega
              · exact h0
          obtain ⟨p, rfl⟩ : ∃ m, p = m + 1 := ⟨p - 1, by omega⟩
          have hpow : n / b < 2 ^ p := by
            have := HP.out
            rw [Nat.pow_succ] at this
            exact Nat.div_lt_of_lt_mul (Nat.lt_of_lt_of_le this (by rw [Nat.mul_comm]; exact Nat.mul_le_mul_right _ (by omega)))
          have hnb : n / b ≤ 4611686018427387904 := Nat.le_trans (Nat.div_le_self _ _) hn
          have hmod : n % b < 16 := Nat.lt_of_lt_of_le (Nat.mod_lt _ (by omega)) (by omega)
          have htest : (acc = [] ∧ p = 62) ∨ (acc ≠ [] ∧ p ≠ 62 ∧ n ≠ 0) := by
            by_cases h : acc = []
            · left; subst h; simp at hpl; exact ⟨rfl, by omega⟩
            · right
              have := List.length_pos_iff.2 h
              refine ⟨h, by omega, ?_⟩
              rcases hgo with h2 | h2
              · exact absurd h2 h
              · exact h2
          have d0 : (0 : Int) ≤ (n : Int) / (b : Int) := Int.ediv_nonneg (by omega) (by omega)
          have d1 : (n : Int) / (b : Int) ≤ 4611686018427387904 := by have : ((n / b : Nat) : Int) ≤ 4611686018427387904 := by omega
                                                                      exact this
          have HLEFT := Aside0.mk hleft
          have HPW := Aside0.mk hpow
          obtain ⟨v, hv⟩ := HT.out.some (p + 1) (by omega)
          have hfz := HT.out.frozen (p + 1)
          have HSG := Aside0.mk (sign_get (n % b) hmod)
          have HTT := Aside0.mk HT.out
          have HBB := Aside0.mk BW.out
          rcases htest with ⟨rfl, rfl⟩ | ⟨hacc, hp2, hn2⟩
          · clear hleft hpow hgo HL HP HT BW
            go_wp2
            go_roundg g'
            case measure => omega
            case rel =>
              refine ⟨n / b, 62, [digB (n % b)], by first | rfl | go_num, rfl, rfl, HPW, hnb, ⟨?_⟩, ⟨HBB.out.setCell (Nat.le_refl _) _⟩, HLEFT, by omega⟩
              have h3 := HTT.out.put (digB (n % b)) (by omega)
              rw [HSG.out]
              exact h3
          · have ht1 : ((p : Int) + 1 + 1 == 64) = false := beq_eq_false_iff_ne.2 (by omega)
            have ht2 : ((n : Int) != 0) = true := by rw [bne_iff_ne]; omega
            have ht3 : ((n : Int) == 0) = false := beq_eq_false_iff_ne.2 (by omega)
            clear hleft hpow hgo HL HP HT BW
            go_wp2
            go_roundg g'
            case measure => omega
            case rel =>
              refine ⟨n / b, p, digB (n % b) :: acc, by first | rfl | go_num, rfl, by simp; omega, HPW, hnb, ⟨?_⟩, ⟨HBB.out.setCell (Nat.le_refl _) _⟩, HLEFT, by omega⟩
              have h3 := HTT.out.put (digB (n % b)) (by omega)
              rw [HSG.out]
              exact h3
        · rw [if_neg hgo] at hleft
          have hn0 : n = 0 := Classical.byContradiction fun h => hgo (.inr h)
          have hacc : acc ≠ [] := fun h => hgo (.inl h)
          have hlen : 0 < acc.length := List.length_pos_iff.2 hacc
          subst hn0
          have h64 : (((p : Int) + 1) == 64) = false := beq_eq_false_iff_ne.2 (by omega)
          have hp0 : (0 : Int) ≤ (p : Int) + 1 := by omega
          have hp1 : (p : Int) + 1 ≤ 64 := by omega
          have hlen2 : acc.length = 63 - p := by omega
          have hback : ∀ W, W = wr → (convert 76 9 (.slice (some ⟨w.heap.size, p + 1, none⟩) (63 - p) (63 - p))).run Try.prog W = .ok (.string ⟨acc.toArray⟩) W := by
            rintro W rfl
            rw [← hlen2]
            exact run_convert_bytes_back (P := Try.prog) W 76 9 5 ⟨w.heap.size, p + 1, none⟩ acc.length acc Try.underlying76 Try.underlying5 Try.underlying9 (fun j hj => by
              obtain ⟨C, hh, hs, hc⟩ := HT.out
              rw [Addr.add_lit]
              simp only [World.cell?, hh]
              exact hc j _ (List.getElem?_eq_getElem hj))
          have hbk := hback wr rfl
          have HLEFT := Aside0.mk hleft
          clear hback hleft
          go_wp2
          go_ret
          exact ⟨by rw [← HLEFT.out]; rfl, BW.out⟩
  · rw [digits_figures.f, if_neg hh] at h
    cases h


end Go.Proofs.Ytdjmgmiaognncaa.X
namespace Go.Proofs.Ytdjmgmiaognncaa.X
open Go.RowKit Go.Proofs.YtdjmgmiaognncaaW.PrintWords Go.Proofs.YtdjmgmiaognncaaW.PrintLast Go.Proofs.YtdjmgmiaognncaaW.PrintMore
attribute [local go_sem] max2_int min2_int max_two min_two max_three min_three max_four min_four   -- for this text's walks alone
set_option linter.unusedVariables false
set_option linter.unusedSimpArgs false

/-! ### digits_Text: function 24 -/
def digits_Text.f (a0 : Int) : Option (ByteArray) := if a0 < 0 then ((digits_figures.f a0 10).bind fun t101 => (if 1 + t101.size ≤ 9223372036854775807 then (some ((⟨#[45]⟩ : ByteArray) ++ t101)) else (none))) else ((digits_figures.f a0 10).bind fun t102 => (some t102))
set_option maxHeartbeats 8000000 in
set_option maxRecDepth 100000 in
theorem digits_Text.calls (a0 : Int) (r : ByteArray) (w : World) (h : digits_Text.f a0 = some r) :
    Calls Try.prog 24 #[.int .i64 a0] w fun e w' => e = .returned (.string r) ∧ Below w.heap.size w w' := by
  have HB := Aside0.mk (Below.refl w.heap.size w)
  have H : (if a0 < 0 then ((digits_figures.f a0 10).bind fun t101 => (if 1 + t101.size ≤ 9223372036854775807 then (some ((⟨#[45]⟩ : ByteArray) ++ t101)) else (none))) else ((digits_figures.f a0 10).bind fun t102 => (some t102))) = some r := h
  clear h
  by_cases c2 : a0 < 0
  · rw [if_pos c2] at H
    have c2b0 : decide (a0 < 0) = true := decide_eq_true c2
    clear c2
    replace H := Option.bind_eq_some_iff.mp H
    obtain ⟨t101, A30, H⟩ := H
    replace H : (if 1 + t101.size ≤ 9223372036854775807 then (some ((⟨#[45]⟩ : ByteArray) ++ t101)) else (none)) = some r := H
    have A3 := Aside0.mk A30
    clear A30
    by_cases c4 : 1 + t101.size ≤ 9223372036854775807
    · rw [if_pos c4] at H
      have c4b0 := eq_true c4
      have c4b1 : decide (1 + t101.size ≤ 9223372036854775807) = true := decide_eq_true c4
      try have c4b2 : (9223372036854775807 < 1 + t101.size) = False := eq_false (Nat.not_lt.2 c4)
      obtain rfl := Option.some.inj H
      go_enter Try.func24, Try.ntmps24
      go_wp2_with (first | ((with_reducible refine gate_callee (f := 48) rfl ?_); refine goesL_ (some 6) rfl rfl Try.func48 (by kernel_rfl) rfl #[.int .i64 a0, .int .i64 10] rfl (by (try simp only [List.map_toArray, List.map_cons, List.map_nil]); first | done | rfl | (simp only [List.length_drop, List.length_take]; rfl)) ?_; (with_reducible refine (digits_figures.calls a0 10 t101 _ A3.out).mono ?_); rintro e w5 ⟨rfl, hb⟩; refine ⟨_, rfl, ?_⟩; have n0_ := Aside0.mk (below_step (by repeat (first | (with_reducible first | exact HB.out | apply below_alloc | apply pw_below_drewN | apply below_drew1) | exact HB.out)) hb); clear HB; have HB := n0_; clear n0_; (try clear hb); (try clear hb2); (try clear hk); (try clear hi)))
      go_ret
      exact ⟨by first | rfl | (simp [errW_none, errW_some] <;> rfl) | (simp [*, errW_none, errW_some] <;> rfl), by repeat (first | (with_reducible first | exact HB.out | apply below_alloc | apply pw_below_drewN | apply below_drew1) | exact HB.out)⟩
    · rw [if_neg c4] at H
      exact absurd H (by simp)
  · rw [if_neg c2] at H
    have c2b0 : decide (a0 < 0) = false := decide_eq_false c2
    clear c2
    replace H := Option.bind_eq_some_iff.mp H
    obtain ⟨t102, A60, H⟩ := H
    replace H : (some t102) = some r := H
    have A6 := Aside0.mk A60
    clear A60
    obtain rfl := Option.some.inj H
    go_enter Try.func24, Try.ntmps24
    go_wp2_with (first | ((with_reducible refine gate_callee (f := 48) rfl ?_); refine goesL_ (some 9) rfl rfl Try.func48 (by kernel_rfl) rfl #[.int .i64 a0, .int .i64 10] rfl (by (try simp only [List.map_toArray, List.map_cons, List.map_nil]); first | done | rfl | (simp only [List.length_drop, List.length_take]; rfl)) ?_; (with_reducible refine (digits_figures.calls a0 10 t102 _ A6.out).mono ?_); rintro e w7 ⟨rfl, hb⟩; refine ⟨_, rfl, ?_⟩; have n0_ := Aside0.mk (below_step (by repeat (first | (with_reducible first | exact HB.out | apply below_alloc | apply pw_below_drewN | apply below_drew1) | exact HB.out)) hb); clear HB; have HB := n0_; clear n0_; (try clear hb); (try clear hb2); (try clear hk); (try clear hi)))
    go_ret
    exact ⟨by first | rfl | (simp [errW_none, errW_some] <;> rfl) | (simp [*, errW_none, errW_some] <;> rfl), by repeat (first | (with_reducible first | exact HB.out | apply below_alloc | apply pw_below_drewN | apply below_drew1) | exact HB.out)⟩

end Go.Proofs.Ytdjmgmiaognncaa.X
namespace Go.Proofs.Ytdjmgmiaognncaa.X
open Go.RowKit Go.Proofs.YtdjmgmiaognncaaW.PrintWords Go.Proofs.YtdjmgmiaognncaaW.PrintLast Go.Proofs.YtdjmgmiaognncaaW.PrintMore
attribute [local go_sem] max2_int min2_int max_two min_two max_three min_three max_four min_four   -- for this text's walks alone
set_option linter.unusedVariables false
set_option linter.unusedSimpArgs false

/-! ### octet_lower: function 95 -/
def octet_lower.f (a0 : Int) : Option (Int) := if a0 ≥ 65 then (if a0 ≤ 90 then (some ((((a0 + 97) % 256) - 65) % 256)) else (some a0)) else (some a0)
set_option maxHeartbeats 8000000 in
set_option maxRecDepth 100000 in
theorem octet_lower.calls (a0 : Int) (r : Int) (w : World) (h : octet_lower.f a0 = some r) :
    Calls Try.prog 95 #[.int .u8 a0] w fun e w' => e = .returned (.int .u8 r) ∧ Drawn0 w w' := by
  have H : (if a0 ≥ 65 then (if a0 ≤ 90 then (some ((((a0 + 97) % 256) - 65) % 256)) else (some a0)) else (some a0)) = some r := h
  clear h
  by_cases c2 : a0 ≥ 65
  · rw [if_pos c2] at H
    have c2b0 : decide (65 ≤ a0) = true := decide_eq_true c2
    clear c2
    by_cases c3 : a0 ≤ 90
    · rw [if_pos c3] at H
      have c3b0 : decide (a0 ≤ 90) = true := decide_eq_true c3
      clear c3
      obtain rfl := Option.some.inj H
      go_enter Try.func95, Try.ntmps95
      go_wp2
      go_ret
      exact ⟨by first | rfl | (simp; done) | (simp [*]; done), by repeat (first | exact Drawn0.refl _ | apply Drawn0.step)⟩
    · rw [if_neg c3] at H
      have c3b0 : decide (a0 ≤ 90) = false := decide_eq_false c3
      clear c3
      obtain rfl := Option.some.inj H
      go_enter Try.func95, Try.ntmps95
      go_wp2
      go_ret
      exact ⟨by first | rfl | (simp; done) | (simp [*]; done), by repeat (first | exact Drawn0.refl _ | apply Drawn0.step)⟩
  · rw [if_neg c2] at H
    have c2b0 : decide (65 ≤ a0) = false := decide_eq_false c2
    clear c2
    obtain rfl := Option.some.inj H
    go_enter Try.func95, Try.ntmps95
    go_wp2
    go_ret
    exact ⟨by first | rfl | (simp; done) | (simp [*]; done), by repeat (first | exact Drawn0.refl _ | apply Drawn0.step)⟩

end Go.Proofs.Ytdjmgmiaognncaa.X
namespace Go.Proofs.Ytdjmgmiaognncaa.X
open Go.RowKit Go.Proofs.YtdjmgmiaognncaaW.PrintWords Go.Proofs.YtdjmgmiaognncaaW.PrintLast Go.Proofs.YtdjmgmiaognncaaW.PrintMore
attribute [local go_sem] max2_int min2_int max_two min_two max_three min_three max_four min_four   -- for this text's walks alone
set_option linter.unusedVariables false
set_option linter.unusedSimpArgs false

/-! ### octet_blank: function 102 -/
def octet_blank.f (a0 : Int) : Option (Bool) := if a0 = 32 then (some true) else (some (a0 == 9))
set_option maxHeartbeats 8000000 in
set_option maxRecDepth 100000 in
theorem octet_blank.calls (a0 : Int) (r : Bool) (w : World) (h : octet_blank.f a0 = some r) :
    Calls Try.prog 102 #[.int .u8 a0] w fun e w' => e = .returned (.bool r) ∧ Drawn0 w w' := by
  have H : (if a0 = 32 then (some true) else (some (a0 == 9))) = some r := h
  clear h
  by_cases c2 : a0 = 32
  · rw [if_pos c2] at H
    have c2b0 : (a0 == 32) = true := beq_iff_eq.mpr c2
    have c2b1 : (a0 != 32) = false := bne_eq_false_iff_eq.mpr c2
    clear c2
    obtain rfl := Option.some.inj H
    go_enter Try.func102, Try.ntmps102
    go_wp2
    go_ret
    exact ⟨by first | rfl | (simp; done) | (simp [*]; done), by repeat (first | exact Drawn0.refl _ | apply Drawn0.step)⟩
  · rw [if_neg c2] at H
    have c2b0 : (a0 == 32) = false := beq_eq_false_iff_ne.mpr c2
    have c2b1 : (a0 != 32) = true := bne_iff_ne.mpr c2
    obtain rfl := Option.some.inj H
    go_enter Try.func102, Try.ntmps102
    go_wp2
    go_ret
    exact ⟨by first | rfl | (simp; done) | (simp [*]; done), by repeat (first | exact Drawn0.refl _ | apply Drawn0.step)⟩

end Go.Proofs.Ytdjmgmiaognncaa.X
namespace Go.Proofs.Ytdjmgmiaognncaa.X
open Go.RowKit Go.Proofs.YtdjmgmiaognncaaW.PrintWords Go.Proofs.YtdjmgmiaognncaaW.PrintLast Go.Proofs.YtdjmgmiaognncaaW.PrintMore
attribute [local go_sem] max2_int min2_int max_two min_two max_three min_three max_four min_four   -- for this text's walks alone
set_option linter.unusedVariables false
set_option linter.unusedSimpArgs false

/-! ### octet_Trim: function 78 -/
mutual
def octet_Trim.j1 : Nat → ByteArray → Int → Int → Option (ByteArray)
  | 0, _, _, _ => none
  | k + 1, x0, x3, x4 => octet_Trim.l1 k x0 x3 x4
def octet_Trim.l1 : Nat → ByteArray → Int → Int → Option (ByteArray)
  | 0, _, _, _ => none
  | k + 1, x0, x3, x4 => if x3 < x4 then (if 0 ≤ (wrap64 (x4 - 1)) then (if (wrap64 (x4 - 1)) < (x0.size : Int) then ((octet_blank.f (bt x0 (wrap64 (x4 - 1)))).bind fun t102 => (if t102 = true then (octet_Trim.l1 k x0 x3 (wrap64 (x4 - 1))) else (if 0 ≤ x3 then (if x3 ≤ x4 then (if x4 ≤ (x0.size : Int) then (some (x0.extract (x3 : Int).toNat (x4 : Int).toNat)) else (none)) else (none)) else (none)))) else (none)) else (none)) else (if 0 ≤ x3 then (if x3 ≤ x4 then (if x4 ≤ (x0.size : Int) then (some (x0.extract (x3 : Int).toNat (x4 : Int).toNat)) else (none)) else (none)) else (none))
def octet_Trim.l0 : Nat → ByteArray → Int → Int → Option (ByteArray)
  | 0, _, _, _ => none
  | k + 1, x0, x3, x4 => if x3 < x4 then (if 0 ≤ x3 then (if x3 < (x0.size : Int) then ((octet_blank.f (bt x0 x3)).bind fun t101 => (if t101 = true then (octet_Trim.l0 k x0 (wrap64 (x3 + 1)) x4) else (octet_Trim.j1 k x0 x3 x4))) else (none)) else (none)) else (octet_Trim.j1 k x0 x3 x4)
end
def octet_Trim.f (k : Nat) (a0 : ByteArray) : Option (ByteArray) := octet_Trim.l0 k a0 0 (a0.size : Int)
theorem octet_Trim.mono_l : ∀ k, (∀ y0 y1 y2, LeO (octet_Trim.j1 k y0 y1 y2) (octet_Trim.j1 (k + 1) y0 y1 y2)) ∧ (∀ y0 y1 y2, LeO (octet_Trim.l1 k y0 y1 y2) (octet_Trim.l1 (k + 1) y0 y1 y2)) ∧ (∀ y0 y1 y2, LeO (octet_Trim.l0 k y0 y1 y2) (octet_Trim.l0 (k + 1) y0 y1 y2))
  | 0 => ⟨fun _ _ _ r h => by simp [octet_Trim.j1] at h, fun _ _ _ r h => by simp [octet_Trim.l1] at h, fun _ _ _ r h => by simp [octet_Trim.l0] at h⟩
  | k + 1 => by
    obtain ⟨ih0, ih1, ih2⟩ := octet_Trim.mono_l k
    refine ⟨?_, ?_, ?_⟩
    · intro y0 y1 y2
      unfold octet_Trim.j1
      repeat' first
      | (with_reducible exact ih0 _ _ _)
      | (with_reducible exact ih1 _ _ _)
      | (with_reducible exact ih2 _ _ _)
      | (with_reducible exact LeO.refl _)
      | (with_reducible exact LeO.none _)
      | (with_reducible refine LeO.ite ?_ ?_)
      | (with_reducible refine LeO.bind ?_ (fun _ => ?_))
      | exact ih0 _ _ _
      | exact ih1 _ _ _
      | exact ih2 _ _ _
      | exact LeO.none _
      | refine LeO.ite ?_ ?_
      | refine LeO.bind ?_ (fun _ => ?_)
    · intro y0 y1 y2
      unfold octet_Trim.l1
      repeat' first
      | (with_reducible exact ih0 _ _ _)
      | (with_reducible exact ih1 _ _ _)
      | (with_reducible exact ih2 _ _ _)
      | (with_reducible exact LeO.refl _)
      | (with_reducible exact LeO.none _)
      | (with_reducible refine LeO.ite ?_ ?_)
      | (with_reducible refine LeO.bind ?_ (fun _ => ?_))
      | exact ih0 _ _ _
      | exact ih1 _ _ _
      | exact ih2 _ _ _
      | exact LeO.none _
      | refine LeO.ite ?_ ?_
      | refine LeO.bind ?_ (fun _ => ?_)
    · intro y0 y1 y2
      unfold octet_Trim.l0
      repeat' first
      | (with_reducible exact ih0 _ _ _)
      | (with_reducible exact ih1 _ _ _)
      | (with_reducible exact ih2 _ _ _)
      | (with_reducible exact LeO.refl _)
      | (with_reducible exact LeO.none _)
      | (with_reducible refine LeO.ite ?_ ?_)
      | (with_reducible refine LeO.bind ?_ (fun _ => ?_))
      | exact ih0 _ _ _
      | exact ih1 _ _ _
      | exact ih2 _ _ _
      | exact LeO.none _
      | refine LeO.ite ?_ ?_
      | refine LeO.bind ?_ (fun _ => ?_)
theorem octet_Trim.mono : ∀ a0 k, LeO (octet_Trim.f k a0) (octet_Trim.f (k + 1) a0) := by
  intro a0 k
  obtain ⟨ih0, ih1, ih2⟩ := octet_Trim.mono_l k
  unfold octet_Trim.f
  repeat' first
      | (with_reducible exact ih0 _ _ _)
      | (with_reducible exact ih1 _ _ _)
      | (with_reducible exact ih2 _ _ _)
      | (with_reducible exact LeO.refl _)
      | (with_reducible exact LeO.none _)
      | (with_reducible refine LeO.ite ?_ ?_)
      | (with_reducible refine LeO.bind ?_ (fun _ => ?_))
      | exact ih0 _ _ _
      | exact ih1 _ _ _
      | exact ih2 _ _ _
      | exact LeO.none _
      | refine LeO.ite ?_ ?_
      | refine LeO.bind ?_ (fun _ => ?_)
set_option maxHeartbeats 8000000 in
set_option maxRecDepth 100000 in
theorem octet_Trim.calls (k : Nat) (a0 : ByteArray) (r : ByteArray) (w : World) (h : octet_Trim.f k a0 = some r) :
    Calls Try.prog 78 #[.string a0] w fun e w' => e = .returned (.string r) ∧ Drawn0 w w' := by
  have H : (octet_Trim.l0 k a0 0 (a0.size : Int)) = some r := h
  clear h
  have HC2 := Aside0.mk H
  clear H
  go_enter Try.func78, Try.ntmps78
  go_upto_block 0 with (fail)
  go_cut [3] (fun v3 wc => ∃ (kq : Nat) (x3_1 : Int), v3 = .int .i64 x3_1 ∧ Aside0 (octet_Trim.j1 kq a0 x3_1 (a0.size : Int) = some r) ∧ Aside0 (kq ≤ k) ∧ Drawn0 w wc)
  case first =>
    have H := HC2.out
    clear HC2
    have H' := Aside0.mk H
    clear H
    go_wp2
    go_loopg [3] k (fun kq v3 w' => ∃ (x3_1 : Int), v3 = .int .i64 x3_1 ∧ Aside0 (octet_Trim.l0 kq a0 x3_1 (a0.size : Int) = some r) ∧ Aside0 (kq ≤ k) ∧ Drawn0 w w')
    case atStart => exact ⟨(0), (by first | rfl | (simp; done) | (simp [*]; done)), H', ⟨Nat.le_refl _⟩, by repeat (first | exact Drawn0.refl _ | apply Drawn0.step)⟩
    case round =>
      clear H'
      try clear p2
      obtain ⟨x3_1, rfl, HA, HK1, ⟨m1, rfl⟩⟩ := hrel
      cases gk with
      | zero => exact absurd HA.out (by simp [octet_Trim.l0])
      | succ k1 =>
        have H := HA.out
        clear HA
        simp only [octet_Trim.l0] at H
        by_cases c3 : x3_1 < (a0.size : Int)
        · rw [if_pos c3] at H
          have c3b0 : decide (x3_1 < (a0.size : Int)) = true := decide_eq_true c3
          clear c3
          (first | rw [c3b0] | (simp only [i64_w, i32_w]; rw [c3b0]) | skip)
          by_cases c4 : 0 ≤ x3_1
          · rw [if_pos c4] at H
            have c4b0 : decide (0 ≤ x3_1) = true := decide_eq_true c4
            clear c4
            by_cases c5 : x3_1 < (a0.size : Int)
            · rw [if_pos c5] at H
              have c5b0 : decide (x3_1 < (a0.size : Int)) = true := decide_eq_true c5
              clear c5
              replace H := Option.bind_eq_some_iff.mp H
              obtain ⟨t101, A70, H⟩ := H
              replace H : (if t101 = true then (octet_Trim.l0 k1 a0 (wrap64 (x3_1 + 1)) (a0.size : Int)) else (octet_Trim.j1 k1 a0 x3_1 (a0.size : Int))) = some r := H
              have A7 := Aside0.mk A70
              clear A70
              by_cases c8 : t101 = true
              · subst c8
                have H1 : (octet_Trim.l0 k1 a0 (wrap64 (x3_1 + 1)) (a0.size : Int)) = some r := by rw [if_pos rfl] at H; exact H
                clear H
                have H := H1
                clear H1
                have H' := Aside0.mk H
                clear H
                have p6 : 0 ≤ (x3_1 : Int) := of_decide_eq_true (by first | (with_reducible assumption) | assumption)
                have q6 : x3_1 < (a0.size : Int) := of_decide_eq_true (by first | (with_reducible assumption) | assumption)
                have hx6 := bt_at a0 x3_1
                replace p6 := eq_true p6
                replace q6 := eq_true q6
                go_wp2_with (first | (go_at_call 102; (with_reducible refine (octet_blank.calls (bt a0 x3_1) true _ A7.out).mono ?_); rintro e w' ⟨rfl, ⟨nd, rfl⟩⟩))
                go_roundg k1
                case measure => have := HK1.out; omega
                case rel => exact ⟨(wrap64 (x3_1 + 1)), (by first | rfl | (simp; done) | (simp [*]; done)), H', ⟨by have := HK1.out; omega⟩, by repeat (first | exact Drawn0.refl _ | apply Drawn0.step)⟩
              · replace c8 := Bool.eq_false_iff.mpr c8
                subst c8
                have H1 : (octet_Trim.j1 k1 a0 x3_1 (a0.size : Int)) = some r := by rw [if_neg (show ¬ (false = true) by decide)] at H; exact H
                clear H
                have H := H1
                clear H1
                have H' := Aside0.mk H
                clear H
                have p6 : 0 ≤ (x3_1 : Int) := of_decide_eq_true (by first | (with_reducible assumption) | assumption)
                have q6 : x3_1 < (a0.size : Int) := of_decide_eq_true (by first | (with_reducible assumption) | assumption)
                have hx6 := bt_at a0 x3_1
                replace p6 := eq_true p6
                replace q6 := eq_true q6
                go_wp2_with (first | (go_at_call 102; (with_reducible refine (octet_blank.calls (bt a0 x3_1) false _ A7.out).mono ?_); rintro e w' ⟨rfl, ⟨nd, rfl⟩⟩))
                go_meet
                case rel => exact ⟨_, (x3_1), (by first | rfl | (simp; done) | (simp [*]; done)), H', ⟨by have := HK1.out; first | omega | exact Nat.le_refl _⟩, by repeat (first | exact Drawn0.refl _ | apply Drawn0.step)⟩
            · rw [if_neg c5] at H
              exact absurd H (by simp)
          · rw [if_neg c4] at H
            exact absurd H (by simp)
        · rw [if_neg c3] at H
          have c3b0 : decide (x3_1 < (a0.size : Int)) = false := decide_eq_false c3
          clear c3
          (first | rw [c3b0] | (simp only [i64_w, i32_w]; rw [c3b0]) | skip)
          have H' := Aside0.mk H
          clear H
          go_wp2
          go_meet
          case rel => exact ⟨_, (x3_1), (by first | rfl | (simp; done) | (simp [*]; done)), H', ⟨by have := HK1.out; first | omega | exact Nat.le_refl _⟩, by repeat (first | exact Drawn0.refl _ | apply Drawn0.step)⟩
  case rest =>
    clear HC2
    try clear p2
    try clear c3
    try clear c3b0
    try clear c4
    try clear c4b0
    try clear c5
    try clear c5b0
    try clear p6
    try clear q6
    try clear hx6
    try clear c7
    try clear c8
    try clear p2
    try clear p6
    try clear q6
    obtain ⟨kq, x3_1, rfl, HA, HJ1, ⟨mc1, rfl⟩⟩ := hcut
    cases kq with
    | zero => exact absurd HA.out (by simp [octet_Trim.j1])
    | succ kj1 =>
      have H := HA.out
      clear HA
      simp only [octet_Trim.j1] at H
      have H' := Aside0.mk H
      clear H
      go_wp2
      go_loopg [4] kj1 (fun kq v4 w' => ∃ (x4_2 : Int), v4 = .int .i64 x4_2 ∧ Aside0 (octet_Trim.l1 kq a0 x3_1 x4_2 = some r) ∧ Aside0 (kq ≤ kj1) ∧ Drawn0 w w')
      case atStart => exact ⟨((a0.size : Int)), (by first | rfl | (simp; done) | (simp [*]; done)), H', ⟨Nat.le_refl _⟩, by repeat (first | exact Drawn0.refl _ | apply Drawn0.step)⟩
      case round =>
        clear H'
        try clear c1
        try clear p2
        try clear c3
        try clear c3b0
        try clear c4
        try clear c4b0
        try clear c5
        try clear c5b0
        try clear p6
        try clear q6
        try clear hx6
        try clear c7
        try clear c8
        try clear p2
        try clear p6
        try clear q6
        obtain ⟨x4_2, rfl, HA, HK2, ⟨m2, rfl⟩⟩ := hrel
        cases gk with
        | zero => exact absurd HA.out (by simp [octet_Trim.l1])
        | succ k2 =>
          have H := HA.out
          clear HA
          simp only [octet_Trim.l1] at H
          by_cases c9 : x3_1 < x4_2
          · rw [if_pos c9] at H
            have c9b0 : decide (x3_1 < x4_2) = true := decide_eq_true c9
            clear c9
            obtain ⟨ji10, hji10⟩ : ∃ j_ : Int, (wrap64 (x4_2 - 1)) = j_ := ⟨_, rfl⟩
            replace H : (if 0 ≤ (ji10) then (if (ji10) < (a0.size : Int) then ((octet_blank.f (bt a0 (ji10))).bind fun t102 => (if t102 = true then (octet_Trim.l1 k2 a0 x3_1 ji10) else (if 0 ≤ x3_1 then (if x3_1 ≤ x4_2 then (if x4_2 ≤ (a0.size : Int) then (some (a0.extract (x3_1 : Int).toNat (x4_2 : Int).toNat)) else (none)) else (none)) else (none)))) else (none)) else (none)) = some r := by first | (rw [hji10] at H; exact H) | (simp only [hji10] at H ⊢; exact H)
            have hji10w : (IntKind.i64.wrap (x4_2 - 1)) = ji10 := (i64_w _).trans hji10
            by_cases c11 : 0 ≤ (ji10)
            · rw [if_pos c11] at H
              have c11b0 : decide (0 ≤ (ji10)) = true := decide_eq_true c11
              clear c11
              by_cases c12 : (ji10) < (a0.size : Int)
              · rw [if_pos c12] at H
                have c12b0 : decide ((ji10) < (a0.size : Int)) = true := decide_eq_true c12
                clear c12
                replace H := Option.bind_eq_some_iff.mp H
                obtain ⟨t102, A140, H⟩ := H
                replace H : (if t102 = true then (octet_Trim.l1 k2 a0 x3_1 ji10) else (if 0 ≤ x3_1 then (if x3_1 ≤ x4_2 then (if x4_2 ≤ (a0.size : Int) then (some (a0.extract (x3_1 : Int).toNat (x4_2 : Int).toNat)) else (none)) else (none)) else (none))) = some r := H
                have A14 := Aside0.mk A140
                clear A140
                by_cases c15 : t102 = true
                · subst c15
                  have H1 : (octet_Trim.l1 k2 a0 x3_1 ji10) = some r := by rw [if_pos rfl] at H; exact H
                  clear H
                  have H := H1
                  clear H1
                  have H' := Aside0.mk H
                  clear H
                  have p13 : 0 ≤ ((ji10) : Int) := of_decide_eq_true (by first | (with_reducible assumption) | assumption)
                  have q13 : (ji10) < (a0.size : Int) := of_decide_eq_true (by first | (with_reducible assumption) | assumption)
                  have hx13 := bt_at a0 (ji10)
                  replace p13 := eq_true p13
                  replace q13 := eq_true q13
                  go_wp2_with (first | (go_at_call 102; (with_reducible refine (octet_blank.calls (bt a0 (ji10)) true _ A14.out).mono ?_); rintro e w' ⟨rfl, ⟨nd, rfl⟩⟩))
                  go_roundg k2
                  case measure => have := HJ1.out; have := HK2.out; omega
                  case rel => exact ⟨(ji10), (by first | rfl | (simp; done) | (simp only [← hji10] <;> (first | rfl | simp)) | (simp [*]; done)), H', ⟨by have := HJ1.out; have := HK2.out; omega⟩, by repeat (first | exact Drawn0.refl _ | apply Drawn0.step)⟩
                · replace c15 := Bool.eq_false_iff.mpr c15
                  subst c15
                  have H1 : (if 0 ≤ x3_1 then (if x3_1 ≤ x4_2 then (if x4_2 ≤ (a0.size : Int) then (some (a0.extract (x3_1 : Int).toNat (x4_2 : Int).toNat)) else (none)) else (none)) else (none)) = some r := by rw [if_neg (show ¬ (false = true) by decide)] at H; exact H
                  clear H
                  have H := H1
                  clear H1
                  by_cases c16 : 0 ≤ x3_1
                  · rw [if_pos c16] at H
                    have c16b0 := eq_true c16
                    have c16b1 : decide (0 ≤ x3_1) = true := decide_eq_true c16
                    clear c16
                    by_cases c17 : x3_1 ≤ x4_2
                    · rw [if_pos c17] at H
                      have c17b0 := eq_true c17
                      have c17b1 : decide (x3_1 ≤ x4_2) = true := decide_eq_true c17
                      clear c17
                      by_cases c18 : x4_2 ≤ (a0.size : Int)
                      · rw [if_pos c18] at H
                        have c18b0 := eq_true c18
                        have c18b1 : decide (x4_2 ≤ (a0.size : Int)) = true := decide_eq_true c18
                        clear c18
                        obtain rfl := Option.some.inj H
                        have p13 : 0 ≤ ((ji10) : Int) := of_decide_eq_true (by first | (with_reducible assumption) | assumption)
                        have q13 : (ji10) < (a0.size : Int) := of_decide_eq_true (by first | (with_reducible assumption) | assumption)
                        have hx13 := bt_at a0 (ji10)
                        replace p13 := eq_true p13
                        replace q13 := eq_true q13
                        go_wp2_with (first | (go_at_call 102; (with_reducible refine (octet_blank.calls (bt a0 (ji10)) false _ A14.out).mono ?_); rintro e w' ⟨rfl, ⟨nd, rfl⟩⟩))
                        go_ret
                        exact ⟨by first | rfl | (simp; done) | (simp only [← hji10] <;> (first | rfl | simp)) | (simp [*]; done), by repeat (first | exact Drawn0.refl _ | apply Drawn0.step)⟩
                      · rw [if_neg c18] at H
                        exact absurd H (by simp)
                    · rw [if_neg c17] at H
                      exact absurd H (by simp)
                  · rw [if_neg c16] at H
                    exact absurd H (by simp)
              · rw [if_neg c12] at H
                exact absurd H (by simp)
            · rw [if_neg c11] at H
              exact absurd H (by simp)
          · rw [if_neg c9] at H
            have c9b0 : decide (x3_1 < x4_2) = false := decide_eq_false c9
            clear c9
            by_cases c19 : 0 ≤ x3_1
            · rw [if_pos c19] at H
              have c19b0 := eq_true c19
              have c19b1 : decide (0 ≤ x3_1) = true := decide_eq_true c19
              clear c19
              by_cases c20 : x3_1 ≤ x4_2
              · rw [if_pos c20] at H
                have c20b0 := eq_true c20
                have c20b1 : decide (x3_1 ≤ x4_2) = true := decide_eq_true c20
                clear c20
                by_cases c21 : x4_2 ≤ (a0.size : Int)
                · rw [if_pos c21] at H
                  have c21b0 := eq_true c21
                  have c21b1 : decide (x4_2 ≤ (a0.size : Int)) = true := decide_eq_true c21
                  clear c21
                  obtain rfl := Option.some.inj H
                  go_wp2
                  go_ret
                  exact ⟨by first | rfl | (simp; done) | (simp [*]; done), by repeat (first | exact Drawn0.refl _ | apply Drawn0.step)⟩
                · rw [if_neg c21] at H
                  exact absurd H (by simp)
              · rw [if_neg c20] at H
                exact absurd H (by simp)
            · rw [if_neg c19] at H
              exact absurd H (by simp)

end Go.Proofs.Ytdjmgmiaognncaa.X
namespace Go.Proofs.Ytdjmgmiaognncaa.X
open Go.RowKit Go.Proofs.YtdjmgmiaognncaaW.PrintWords Go.Proofs.YtdjmgmiaognncaaW.PrintLast Go.Proofs.YtdjmgmiaognncaaW.PrintMore
attribute [local go_sem] max2_int min2_int max_two min_two max_three min_three max_four min_four   -- for this text's walks alone
set_option linter.unusedVariables false
set_option linter.unusedSimpArgs false

/-! ### pure text 1: trim -/
theorem snoc_cases {α : Type} (l : List α) : l = [] ∨ ∃ l' c, l = l' ++ [c] := by
  rcases List.eq_nil_or_concat l with h | ⟨l', c, h⟩
  · exact .inl h
  · exact .inr ⟨l', c, by simpa using h⟩
theorem wrap_id (x : Int) (h1 : -9223372036854775808 ≤ x) (h2 : x ≤ 9223372036854775807) : wrap64 x = x := by unfold wrap64; omega
/-- A blank, or a tab. -/
def bl (c : UInt8) : Bool := c == 32 || c == 9
def dropE {α : Type} (p : α → Bool) (l : List α) : List α := (l.reverse.dropWhile p).reverse
theorem dropE_nil {α : Type} (p : α → Bool) : dropE p [] = [] := rfl
theorem dropE_snoc {α : Type} (p : α → Bool) (l : List α) (c : α) : dropE p (l ++ [c]) = if p c = true then dropE p l else l ++ [c] := by
  unfold dropE
  rw [List.reverse_append]
  simp only [List.reverse_cons, List.reverse_nil, List.nil_append, List.singleton_append, List.dropWhile_cons]
  split <;> simp
def trimL (l : List UInt8) : List UInt8 := dropE bl (l.dropWhile bl)
def trimB (s : ByteArray) : ByteArray := ⟨(trimL s.data.toList).toArray⟩
theorem size_list (s : ByteArray) : s.size = s.data.toList.length := Lib.size_eq s
theorem bt_list (s : ByteArray) (i : Nat) (h : i < s.data.toList.length) : bt s (i : Int) = ((s.data.toList[i]'h).toNat : Int) := by
  have h2 : i < s.size := by rw [size_list]; exact h
  have := bt_at s (i : Int) (by simpa using h2)
  rw [← this]
  rfl
theorem u8_eq (c d : UInt8) : ((c.toNat : Int) = (d.toNat : Int)) ↔ c = d := ⟨fun h => UInt8.toNat_inj.1 (by omega), fun h => by rw [h]⟩
theorem bl_int (c : UInt8) : (if (c.toNat : Int) = 32 then some true else some (((c.toNat : Int)) == 9)) = some (bl c) := by
  have h32 : ((c.toNat : Int) = 32) ↔ c = 32 := u8_eq c 32
  have h9 : ((c.toNat : Int) = 9) ↔ c = 9 := u8_eq c 9
  unfold bl
  by_cases e : c = 32
  · rw [if_pos (h32.2 e)]; simp [e]
  · rw [if_neg (fun h => e (h32.1 h))]
    by_cases e2 : c = 9
    · rw [h9.2 e2]; simp [e2]
    · have e3 : ((c.toNat : Int) == 9) = false := beq_eq_false_iff_ne.2 (fun h => e2 (h9.1 h))
      simp [e, e2, e3]
theorem ext_list (s : ByteArray) (a b : Nat) : s.extract a b = ⟨((s.data.toList.drop a).take (b - a)).toArray⟩ := Lib.extract_eq s a b
theorem take_snoc' {α : Type} (l : List α) (i : Nat) (h : i < l.length) : l.take (i + 1) = l.take i ++ [l[i]] := by
  rw [List.take_succ_eq_append_getElem h]
theorem octet_blank_f (s : ByteArray) (i : Nat) (h : i < s.data.toList.length) : octet_blank.f (bt s (i : Int)) = some (bl (s.data.toList[i]'h)) := by
  unfold octet_blank.f
  rw [bt_list s i h]
  exact bl_int _
theorem octet_trim_l1 (s : ByteArray) (hs : s.size ≤ 140737488351232) : ∀ (d a b k : Nat), b - a = d → a ≤ b → b ≤ s.size → d < k →
    octet_Trim.l1 k s (a : Int) (b : Int) = some ⟨(dropE bl ((s.data.toList.drop a).take (b - a))).toArray⟩ := by
  intro d
  induction d with
  | zero =>
    intro a b k hd hab hb hk
    obtain ⟨k, rfl⟩ : ∃ m, k = m + 1 := ⟨k - 1, by omega⟩
    obtain rfl : a = b := by omega
    simp only [octet_Trim.l1]
    rw [if_neg (by omega), if_pos (by omega), if_pos (by omega), if_pos (by omega), ext_list]
    simp [dropE]
  | succ d ih =>
    intro a b k hd hab hb hk
    obtain ⟨k, rfl⟩ : ∃ m, k = m + 1 := ⟨k - 1, by omega⟩
    obtain ⟨c, rfl⟩ : ∃ c, b = c + 1 := ⟨b - 1, by omega⟩
    have hw : wrap64 (((c + 1 : Nat) : Int) - 1) = (c : Int) := by rw [wrap_id _ (by omega) (by omega)]; omega
    have hlen : c < s.data.toList.length := by rw [← size_list]; omega
    have hsn : (s.data.toList.drop a).take (c + 1 - a) = (s.data.toList.drop a).take (c - a) ++ [s.data.toList[c]'hlen] := by
      have h1 : c - a < (s.data.toList.drop a).length := by rw [List.length_drop]; omega
      rw [show c + 1 - a = (c - a) + 1 by omega, take_snoc' _ _ h1]
      congr 2
      rw [List.getElem_drop]
      congr 1
      omega
    simp only [octet_Trim.l1]
    rw [if_pos (by omega), hw, if_pos (by omega), if_pos (by omega), octet_blank_f s c hlen]
    simp only [Option.bind_some]
    rw [hsn, dropE_snoc]
    cases hbl : bl (s.data.toList[c]'hlen)
    · simp only [Bool.false_eq_true, if_false]
      rw [if_pos (by omega), if_pos (by omega), if_pos (by omega), ext_list, ← hsn]
      simp
    · simp only [if_true]
      exact ih a c k (by omega) (by omega) (by omega) (by omega)
theorem octet_trim_l0 (s : ByteArray) (hs : s.size ≤ 140737488351232) : ∀ (d i k : Nat), s.size - i = d → i ≤ s.size → d + s.size + 2 < k →
    octet_Trim.l0 k s (i : Int) (s.size : Int) = some ⟨(dropE bl ((s.data.toList.drop i).dropWhile bl)).toArray⟩ := by
  intro d
  induction d with
  | zero =>
    intro i k hd hi hk
    obtain ⟨k, rfl⟩ : ∃ m, k = m + 1 := ⟨k - 1, by omega⟩
    obtain rfl : i = s.size := by omega
    simp only [octet_Trim.l0]
    rw [if_neg (by omega)]
    obtain ⟨k, rfl⟩ : ∃ m, k = m + 1 := ⟨k - 1, by omega⟩
    simp only [octet_Trim.j1]
    rw [octet_trim_l1 s hs 0 s.size s.size k (by omega) (by omega) (by omega) (by omega)]
    have : s.data.toList.drop s.size = [] := by rw [List.drop_eq_nil_iff, ← size_list]; omega
    simp [this, dropE]
  | succ d ih =>
    intro i k hd hi hk
    obtain ⟨k, rfl⟩ : ∃ m, k = m + 1 := ⟨k - 1, by omega⟩
    have hlen : i < s.data.toList.length := by rw [← size_list]; omega
    have hdr : s.data.toList.drop i = s.data.toList[i]'hlen :: s.data.toList.drop (i + 1) := List.drop_eq_getElem_cons hlen
    simp only [octet_Trim.l0]
    rw [if_pos (by omega), if_pos (by omega), if_pos (by omega), octet_blank_f s i hlen]
    simp only [Option.bind_some]
    rw [hdr, List.dropWhile_cons]
    cases hbl : bl (s.data.toList[i]'hlen)
    · simp only [Bool.false_eq_true, if_false]
      obtain ⟨k, rfl⟩ : ∃ m, k = m + 1 := ⟨k - 1, by omega⟩
      simp only [octet_Trim.j1]
      rw [octet_trim_l1 s hs (s.size - i) i s.size k rfl (by omega) (by omega) (by omega), ← hdr, List.take_of_length_le (by rw [List.length_drop, ← size_list]; omega)]
    · simp only [if_true]
      have hw : wrap64 ((i : Int) + 1) = ((i + 1 : Nat) : Int) := by rw [wrap_id _ (by omega) (by omega)]; omega
      rw [hw]
      exact ih (i + 1) k (by omega) (by omega) (by omega)
theorem octet_trim (s : ByteArray) (hs : s.size ≤ 140737488351232) (k : Nat) (hk : 2 * s.size + 2 < k) : octet_Trim.f k s = some (trimB s) := by
  have := octet_trim_l0 s hs s.size 0 k (by omega) (by omega) (by omega)
  unfold octet_Trim.f trimB trimL
  simpa using this


end Go.Proofs.Ytdjmgmiaognncaa.X
namespace Go.Proofs.Ytdjmgmiaognncaa.X
open Go.RowKit Go.Proofs.YtdjmgmiaognncaaW.PrintWords Go.Proofs.YtdjmgmiaognncaaW.PrintLast Go.Proofs.YtdjmgmiaognncaaW.PrintMore
attribute [local go_sem] max2_int min2_int max_two min_two max_three min_three max_four min_four   -- for this text's walks alone
set_option linter.unusedVariables false
set_option linter.unusedSimpArgs false

/-! ### octet_Fold: function 115 -/
def octet_Fold.l0 : Nat → ByteArray → ByteArray → Int → Int → Option (Bool)
  | 0, _, _, _, _ => none
  | k + 1, x0, x1, x12, x13 => if x13 < x12 then (if 0 ≤ x13 then (if x13 < (x0.size : Int) then ((octet_lower.f (bt x0 x13)).bind fun t101 => (if x13 < (x1.size : Int) then ((octet_lower.f (bt x1 x13)).bind fun t102 => (if t101 = t102 then (octet_Fold.l0 k x0 x1 x12 (wrap64 (x13 + 1))) else (some false))) else (none))) else (none)) else (none)) else (some true)
def octet_Fold.f (k : Nat) (a0 : ByteArray) (a1 : ByteArray) : Option (Bool) := if (a0.size : Int) = (a1.size : Int) then (octet_Fold.l0 k a0 a1 (a0.size : Int) 0) else (some false)
theorem octet_Fold.mono_l : ∀ k, (∀ y0 y1 y2 y3, LeO (octet_Fold.l0 k y0 y1 y2 y3) (octet_Fold.l0 (k + 1) y0 y1 y2 y3))
  | 0 => fun _ _ _ _ r h => by simp [octet_Fold.l0] at h
  | k + 1 => by
    have ih0 := octet_Fold.mono_l k
    · intro y0 y1 y2 y3
      unfold octet_Fold.l0
      repeat' first
      | (with_reducible exact ih0 _ _ _ _)
      | (with_reducible exact LeO.refl _)
      | (with_reducible exact LeO.none _)
      | (with_reducible refine LeO.ite ?_ ?_)
      | (with_reducible refine LeO.bind ?_ (fun _ => ?_))
      | exact ih0 _ _ _ _
      | exact LeO.none _
      | refine LeO.ite ?_ ?_
      | refine LeO.bind ?_ (fun _ => ?_)
theorem octet_Fold.mono : ∀ a0 a1 k, LeO (octet_Fold.f k a0 a1) (octet_Fold.f (k + 1) a0 a1) := by
  intro a0 a1 k
  have ih0 := octet_Fold.mono_l k
  unfold octet_Fold.f
  repeat' first
      | (with_reducible exact ih0 _ _ _ _)
      | (with_reducible exact LeO.refl _)
      | (with_reducible exact LeO.none _)
      | (with_reducible refine LeO.ite ?_ ?_)
      | (with_reducible refine LeO.bind ?_ (fun _ => ?_))
      | exact ih0 _ _ _ _
      | exact LeO.none _
      | refine LeO.ite ?_ ?_
      | refine LeO.bind ?_ (fun _ => ?_)
set_option maxHeartbeats 8000000 in
set_option maxRecDepth 100000 in
theorem octet_Fold.calls (k : Nat) (a0 : ByteArray) (a1 : ByteArray) (r : Bool) (w : World) (h : octet_Fold.f k a0 a1 = some r) :
    Calls Try.prog 115 #[.string a0, .string a1] w fun e w' => e = .returned (.bool r) ∧ Drawn0 w w' := by
  have H : (if (a0.size : Int) = (a1.size : Int) then (octet_Fold.l0 k a0 a1 (a0.size : Int) 0) else (some false)) = some r := h
  clear h
  by_cases c3 : (a0.size : Int) = (a1.size : Int)
  · rw [if_pos c3] at H
    have c3b0 : ((a0.size : Int) == (a1.size : Int)) = true := beq_iff_eq.mpr c3
    have c3b1 : ((a0.size : Int) != (a1.size : Int)) = false := bne_eq_false_iff_eq.mpr c3
    have c3b2 : (a0.size == a1.size) = true := by first | simpa using c3 | (simp at c3 ⊢; omega)
    clear c3
    have H' := Aside0.mk H
    clear H
    go_enter Try.func115, Try.ntmps115
    go_wp2
    repeat (go_quiet (fail); try go_wp2)
    go_loopg [13] k (fun kq v13 w' => ∃ (x13_1 : Int), v13 = .int .i64 x13_1 ∧ Aside0 (octet_Fold.l0 kq a0 a1 (a0.size : Int) x13_1 = some r) ∧ Aside0 (kq ≤ k) ∧ Drawn0 w w')
    case atStart => exact ⟨(0), (by first | rfl | (simp; done) | (simp [*]; done)), H', ⟨Nat.le_refl _⟩, by repeat (first | exact Drawn0.refl _ | apply Drawn0.step)⟩
    case round =>
      clear H'
      try clear c1
      try clear p2
      try clear c3
      try clear c3b0
      try clear c3b1
      try clear c3b2
      obtain ⟨x13_1, rfl, HA, HK1, ⟨m1, rfl⟩⟩ := hrel
      cases gk with
      | zero => exact absurd HA.out (by simp [octet_Fold.l0])
      | succ k1 =>
        have H := HA.out
        clear HA
        simp only [octet_Fold.l0] at H
        by_cases c4 : x13_1 < (a0.size : Int)
        · rw [if_pos c4] at H
          have c4b0 : decide (x13_1 < (a0.size : Int)) = true := decide_eq_true c4
          clear c4
          by_cases c5 : 0 ≤ x13_1
          · rw [if_pos c5] at H
            have c5b0 : decide (0 ≤ x13_1) = true := decide_eq_true c5
            clear c5
            by_cases c6 : x13_1 < (a0.size : Int)
            · rw [if_pos c6] at H
              have c6b0 : decide (x13_1 < (a0.size : Int)) = true := decide_eq_true c6
              clear c6
              replace H := Option.bind_eq_some_iff.mp H
              obtain ⟨t101, A80, H⟩ := H
              replace H : (if x13_1 < (a1.size : Int) then ((octet_lower.f (bt a1 x13_1)).bind fun t102 => (if t101 = t102 then (octet_Fold.l0 k1 a0 a1 (a0.size : Int) (wrap64 (x13_1 + 1))) else (some false))) else (none)) = some r := H
              have A8 := Aside0.mk A80
              clear A80
              by_cases c9 : x13_1 < (a1.size : Int)
              · rw [if_pos c9] at H
                have c9b0 : decide (x13_1 < (a1.size : Int)) = true := decide_eq_true c9
                clear c9
                replace H := Option.bind_eq_some_iff.mp H
                obtain ⟨t102, A110, H⟩ := H
                replace H : (if t101 = t102 then (octet_Fold.l0 k1 a0 a1 (a0.size : Int) (wrap64 (x13_1 + 1))) else (some false)) = some r := H
                have A11 := Aside0.mk A110
                clear A110
                by_cases c12 : t101 = t102
                · rw [if_pos c12] at H
                  have c12b0 : (t101 == t102) = true := beq_iff_eq.mpr c12
                  have c12b1 : (t101 != t102) = false := bne_eq_false_iff_eq.mpr c12
                  clear c12
                  have H' := Aside0.mk H
                  clear H
                  have p7 : 0 ≤ (x13_1 : Int) := of_decide_eq_true (by first | (with_reducible assumption) | assumption)
                  have q7 : x13_1 < (a0.size : Int) := of_decide_eq_true (by first | (with_reducible assumption) | assumption)
                  have hx7 := bt_at a0 x13_1
                  replace p7 := eq_true p7
                  replace q7 := eq_true q7
                  go_wp2_with (first | (go_at_call 95; (with_reducible refine (octet_lower.calls (bt a0 x13_1) t101 _ A8.out).mono ?_); rintro e w' ⟨rfl, ⟨nd, rfl⟩⟩; (try first | exact ⟨rfl, _, World.drewN_drewN _ _ _⟩ | exact ⟨rfl, _, Eq.trans (World.drewN_drewN _ _ _) (congrArg (World.drewN _) (Nat.add_assoc _ _ _))⟩); have p10 : 0 ≤ (x13_1 : Int) := of_decide_eq_true (by first | (with_reducible assumption) | assumption); have q10 : x13_1 < (a1.size : Int) := of_decide_eq_true (by first | (with_reducible assumption) | assumption); have hx10 := bt_at a1 x13_1; replace p10 := eq_true p10; replace q10 := eq_true q10) | (go_at_call 95; (with_reducible refine (octet_lower.calls (bt a1 x13_1) t102 _ A11.out).mono ?_); rintro e w' ⟨rfl, ⟨nd, rfl⟩⟩; (try first | exact ⟨rfl, _, World.drewN_drewN _ _ _⟩ | exact ⟨rfl, _, Eq.trans (World.drewN_drewN _ _ _) (congrArg (World.drewN _) (Nat.add_assoc _ _ _))⟩)))
                  repeat (go_quiet (first | (go_at_call 95; (with_reducible refine (octet_lower.calls (bt a0 x13_1) t101 _ A8.out).mono ?_); rintro e w' ⟨rfl, ⟨nd, rfl⟩⟩; (try first | exact ⟨rfl, _, World.drewN_drewN _ _ _⟩ | exact ⟨rfl, _, Eq.trans (World.drewN_drewN _ _ _) (congrArg (World.drewN _) (Nat.add_assoc _ _ _))⟩); have p10 : 0 ≤ (x13_1 : Int) := of_decide_eq_true (by first | (with_reducible assumption) | assumption); have q10 : x13_1 < (a1.size : Int) := of_decide_eq_true (by first | (with_reducible assumption) | assumption); have hx10 := bt_at a1 x13_1; replace p10 := eq_true p10; replace q10 := eq_true q10) | (go_at_call 95; (with_reducible refine (octet_lower.calls (bt a1 x13_1) t102 _ A11.out).mono ?_); rintro e w' ⟨rfl, ⟨nd, rfl⟩⟩; (try first | exact ⟨rfl, _, World.drewN_drewN _ _ _⟩ | exact ⟨rfl, _, Eq.trans (World.drewN_drewN _ _ _) (congrArg (World.drewN _) (Nat.add_assoc _ _ _))⟩))); try go_wp2_with (first | (go_at_call 95; (with_reducible refine (octet_lower.calls (bt a0 x13_1) t101 _ A8.out).mono ?_); rintro e w' ⟨rfl, ⟨nd, rfl⟩⟩; (try first | exact ⟨rfl, _, World.drewN_drewN _ _ _⟩ | exact ⟨rfl, _, Eq.trans (World.drewN_drewN _ _ _) (congrArg (World.drewN _) (Nat.add_assoc _ _ _))⟩); have p10 : 0 ≤ (x13_1 : Int) := of_decide_eq_true (by first | (with_reducible assumption) | assumption); have q10 : x13_1 < (a1.size : Int) := of_decide_eq_true (by first | (with_reducible assumption) | assumption); have hx10 := bt_at a1 x13_1; replace p10 := eq_true p10; replace q10 := eq_true q10) | (go_at_call 95; (with_reducible refine (octet_lower.calls (bt a1 x13_1) t102 _ A11.out).mono ?_); rintro e w' ⟨rfl, ⟨nd, rfl⟩⟩; (try first | exact ⟨rfl, _, World.drewN_drewN _ _ _⟩ | exact ⟨rfl, _, Eq.trans (World.drewN_drewN _ _ _) (congrArg (World.drewN _) (Nat.add_assoc _ _ _))⟩))))
                  go_roundg k1
                  case measure => have := HK1.out; omega
                  case rel => exact ⟨(wrap64 (x13_1 + 1)), (by first | rfl | (simp; done) | (simp [*]; done)), H', ⟨by have := HK1.out; omega⟩, by repeat (first | exact Drawn0.refl _ | apply Drawn0.step)⟩
                · rw [if_neg c12] at H
                  have c12b0 : (t101 == t102) = false := beq_eq_false_iff_ne.mpr c12
                  have c12b1 : (t101 != t102) = true := bne_iff_ne.mpr c12
                  obtain rfl := Option.some.inj H
                  have p7 : 0 ≤ (x13_1 : Int) := of_decide_eq_true (by first | (with_reducible assumption) | assumption)
                  have q7 : x13_1 < (a0.size : Int) := of_decide_eq_true (by first | (with_reducible assumption) | assumption)
                  have hx7 := bt_at a0 x13_1
                  replace p7 := eq_true p7
                  replace q7 := eq_true q7
                  go_wp2_with (first | (go_at_call 95; (with_reducible refine (octet_lower.calls (bt a0 x13_1) t101 _ A8.out).mono ?_); rintro e w' ⟨rfl, ⟨nd, rfl⟩⟩; (try first | exact ⟨rfl, _, World.drewN_drewN _ _ _⟩ | exact ⟨rfl, _, Eq.trans (World.drewN_drewN _ _ _) (congrArg (World.drewN _) (Nat.add_assoc _ _ _))⟩); have p10 : 0 ≤ (x13_1 : Int) := of_decide_eq_true (by first | (with_reducible assumption) | assumption); have q10 : x13_1 < (a1.size : Int) := of_decide_eq_true (by first | (with_reducible assumption) | assumption); have hx10 := bt_at a1 x13_1; replace p10 := eq_true p10; replace q10 := eq_true q10) | (go_at_call 95; (with_reducible refine (octet_lower.calls (bt a1 x13_1) t102 _ A11.out).mono ?_); rintro e w' ⟨rfl, ⟨nd, rfl⟩⟩; (try first | exact ⟨rfl, _, World.drewN_drewN _ _ _⟩ | exact ⟨rfl, _, Eq.trans (World.drewN_drewN _ _ _) (congrArg (World.drewN _) (Nat.add_assoc _ _ _))⟩)))
                  repeat (go_quiet (first | (go_at_call 95; (with_reducible refine (octet_lower.calls (bt a0 x13_1) t101 _ A8.out).mono ?_); rintro e w' ⟨rfl, ⟨nd, rfl⟩⟩; (try first | exact ⟨rfl, _, World.drewN_drewN _ _ _⟩ | exact ⟨rfl, _, Eq.trans (World.drewN_drewN _ _ _) (congrArg (World.drewN _) (Nat.add_assoc _ _ _))⟩); have p10 : 0 ≤ (x13_1 : Int) := of_decide_eq_true (by first | (with_reducible assumption) | assumption); have q10 : x13_1 < (a1.size : Int) := of_decide_eq_true (by first | (with_reducible assumption) | assumption); have hx10 := bt_at a1 x13_1; replace p10 := eq_true p10; replace q10 := eq_true q10) | (go_at_call 95; (with_reducible refine (octet_lower.calls (bt a1 x13_1) t102 _ A11.out).mono ?_); rintro e w' ⟨rfl, ⟨nd, rfl⟩⟩; (try first | exact ⟨rfl, _, World.drewN_drewN _ _ _⟩ | exact ⟨rfl, _, Eq.trans (World.drewN_drewN _ _ _) (congrArg (World.drewN _) (Nat.add_assoc _ _ _))⟩))); try go_wp2_with (first | (go_at_call 95; (with_reducible refine (octet_lower.calls (bt a0 x13_1) t101 _ A8.out).mono ?_); rintro e w' ⟨rfl, ⟨nd, rfl⟩⟩; (try first | exact ⟨rfl, _, World.drewN_drewN _ _ _⟩ | exact ⟨rfl, _, Eq.trans (World.drewN_drewN _ _ _) (congrArg (World.drewN _) (Nat.add_assoc _ _ _))⟩); have p10 : 0 ≤ (x13_1 : Int) := of_decide_eq_true (by first | (with_reducible assumption) | assumption); have q10 : x13_1 < (a1.size : Int) := of_decide_eq_true (by first | (with_reducible assumption) | assumption); have hx10 := bt_at a1 x13_1; replace p10 := eq_true p10; replace q10 := eq_true q10) | (go_at_call 95; (with_reducible refine (octet_lower.calls (bt a1 x13_1) t102 _ A11.out).mono ?_); rintro e w' ⟨rfl, ⟨nd, rfl⟩⟩; (try first | exact ⟨rfl, _, World.drewN_drewN _ _ _⟩ | exact ⟨rfl, _, Eq.trans (World.drewN_drewN _ _ _) (congrArg (World.drewN _) (Nat.add_assoc _ _ _))⟩))))
                  go_ret
                  exact ⟨by first | rfl | (simp; done) | (simp [*]; done), by repeat (first | exact Drawn0.refl _ | apply Drawn0.step)⟩
              · rw [if_neg c9] at H
                exact absurd H (by simp)
            · rw [if_neg c6] at H
              exact absurd H (by simp)
          · rw [if_neg c5] at H
            exact absurd H (by simp)
        · rw [if_neg c4] at H
          have c4b0 : decide (x13_1 < (a0.size : Int)) = false := decide_eq_false c4
          clear c4
          obtain rfl := Option.some.inj H
          go_wp2
          repeat (go_quiet (fail); try go_wp2)
          go_ret
          exact ⟨by first | rfl | (simp; done) | (simp [*]; done), by repeat (first | exact Drawn0.refl _ | apply Drawn0.step)⟩
  · rw [if_neg c3] at H
    have c3b0 : ((a0.size : Int) == (a1.size : Int)) = false := beq_eq_false_iff_ne.mpr c3
    have c3b1 : ((a0.size : Int) != (a1.size : Int)) = true := bne_iff_ne.mpr c3
    have c3b2 : (a0.size == a1.size) = false := by first | simpa using c3 | (simp at c3 ⊢; omega)
    obtain rfl := Option.some.inj H
    go_enter Try.func115, Try.ntmps115
    go_wp2
    repeat (go_quiet (fail); try go_wp2)
    go_ret
    exact ⟨by first | rfl | (simp; done) | (simp [*]; done), by repeat (first | exact Drawn0.refl _ | apply Drawn0.step)⟩

end Go.Proofs.Ytdjmgmiaognncaa.X
namespace Go.Proofs.Ytdjmgmiaognncaa.X
open Go.RowKit Go.Proofs.YtdjmgmiaognncaaW.PrintWords Go.Proofs.YtdjmgmiaognncaaW.PrintLast Go.Proofs.YtdjmgmiaognncaaW.PrintMore
attribute [local go_sem] max2_int min2_int max_two min_two max_three min_three max_four min_four   -- for this text's walks alone
set_option linter.unusedVariables false
set_option linter.unusedSimpArgs false

/-! ### pure text 2: fold -/
/-- A letter A to Z as a to z. -/
def lowU (c : UInt8) : UInt8 := if 65 ≤ c.toNat ∧ c.toNat ≤ 90 then c + 32 else c
def lowL (l : List UInt8) : List UInt8 := l.map lowU
def lowB (s : ByteArray) : ByteArray := ⟨(lowL s.data.toList).toArray⟩
def foldB (a b : ByteArray) : Bool := lowL a.data.toList == lowL b.data.toList
theorem lowU_int (c : UInt8) : ((lowU c).toNat : Int) = if 65 ≤ (c.toNat : Int) ∧ (c.toNat : Int) ≤ 90 then (c.toNat : Int) + 32 else (c.toNat : Int) := by
  unfold lowU
  by_cases h : 65 ≤ c.toNat ∧ c.toNat ≤ 90
  · rw [if_pos h, if_pos (by omega), UInt8.toNat_add]
    have : (32 : UInt8).toNat = 32 := rfl
    omega
  · rw [if_neg h, if_neg (by omega)]
theorem octet_lower_f (c : UInt8) : octet_lower.f (c.toNat : Int) = some ((lowU c).toNat : Int) := by
  have h := lowU_int c
  have hlt := c.toNat_lt
  unfold octet_lower.f
  rw [h]
  by_cases h1 : 65 ≤ (c.toNat : Int)
  · rw [if_pos (show (c.toNat : Int) ≥ 65 from h1)]
    by_cases h2 : (c.toNat : Int) ≤ 90
    · rw [if_pos h2, if_pos ⟨h1, h2⟩]
      congr 1
      omega
    · rw [if_neg h2, if_neg (fun h => h2 h.2)]
  · rw [if_neg (show ¬ (c.toNat : Int) ≥ 65 from h1), if_neg (fun h => h1 h.1)]
theorem octet_fold_l0 (a b : ByteArray) (hs : a.size ≤ 140737488351232) (hab : b.size = a.size) : ∀ (d i k : Nat), a.size - i = d → i ≤ a.size → d < k →
    octet_Fold.l0 k a b (a.size : Int) (i : Int) = some (lowL (a.data.toList.drop i) == lowL (b.data.toList.drop i)) := by
  intro d
  induction d with
  | zero =>
    intro i k hd hi hk
    obtain ⟨k, rfl⟩ : ∃ m, k = m + 1 := ⟨k - 1, by omega⟩
    obtain rfl : i = a.size := by omega
    simp only [octet_Fold.l0]
    have e1 : a.data.toList.drop a.size = [] := by rw [List.drop_eq_nil_iff, ← size_list]; omega
    have e2 : b.data.toList.drop a.size = [] := by rw [List.drop_eq_nil_iff, ← size_list]; omega
    rw [if_neg (by omega), e1, e2]
    rfl
  | succ d ih =>
    intro i k hd hi hk
    obtain ⟨k, rfl⟩ : ∃ m, k = m + 1 := ⟨k - 1, by omega⟩
    have hla : i < a.data.toList.length := by rw [← size_list]; omega
    have hlb : i < b.data.toList.length := by rw [← size_list]; omega
    have hw : wrap64 ((i : Int) + 1) = ((i + 1 : Nat) : Int) := by rw [wrap_id _ (by omega) (by omega)]; omega
    simp only [octet_Fold.l0]
    rw [if_pos (by omega), if_pos (by omega), if_pos (by omega), bt_list a i hla, octet_lower_f]
    simp only [Option.bind_some]
    rw [if_pos (by omega), bt_list b i hlb, octet_lower_f]
    simp only [Option.bind_some]
    rw [List.drop_eq_getElem_cons hla, List.drop_eq_getElem_cons hlb, hw, ih (i + 1) k (by omega) (by omega) (by omega)]
    unfold lowL
    simp only [List.map_cons]
    by_cases he : lowU (a.data.toList[i]'hla) = lowU (b.data.toList[i]'hlb)
    · rw [if_pos (by rw [he]), he]
      simp
    · rw [if_neg (fun h => he ((u8_eq _ _).1 h))]
      congr 1
      symm
      rw [beq_eq_false_iff_ne]
      intro h
      exact he (List.cons.inj h).1
theorem octet_fold (a b : ByteArray) (hs : a.size ≤ 140737488351232) (k : Nat) (hk : a.size < k) : octet_Fold.f k a b = some (foldB a b) := by
  unfold octet_Fold.f foldB
  by_cases h : (a.size : Int) = (b.size : Int)
  · rw [if_pos h]
    have := octet_fold_l0 a b hs (by omega) a.size 0 k (by omega) (by omega) hk
    simpa using this
  · rw [if_neg h]
    have : ¬ lowL a.data.toList = lowL b.data.toList := by
      intro e
      have := congrArg List.length e
      simp [lowL] at this
      rw [size_list, size_list] at h
      simp at h
      omega
    simp [this]
theorem dropWhile_len {α : Type} (p : α → Bool) (l : List α) : (l.dropWhile p).length ≤ l.length := (List.dropWhile_suffix p).length_le
theorem dropE_len {α : Type} (p : α → Bool) (l : List α) : (dropE p l).length ≤ l.length := by
  unfold dropE
  have := dropWhile_len p l.reverse
  simpa using this
theorem trimB_size (s : ByteArray) : (trimB s).size ≤ s.size := by
  rw [size_list, size_list]
  unfold trimB trimL
  exact Nat.le_trans (dropE_len _ _) (dropWhile_len _ _)


end Go.Proofs.Ytdjmgmiaognncaa.X
namespace Go.Proofs.Ytdjmgmiaognncaa.X
open Go.RowKit Go.Proofs.YtdjmgmiaognncaaW.PrintWords Go.Proofs.YtdjmgmiaognncaaW.PrintLast Go.Proofs.YtdjmgmiaognncaaW.PrintMore
attribute [local go_sem] max2_int min2_int max_two min_two max_three min_three max_four min_four   -- for this text's walks alone
set_option linter.unusedVariables false
set_option linter.unusedSimpArgs false

/-! ### octet_Lower: function 70 -/
/-- A row of octets, with the mark of a conversion's row. -/
def OctRow (W : World) (g e : Nat) (l : List UInt8) : Prop := ∃ cur : Array Value, ∃ m, W.heap[g]? = some (.cells cur e (m, m + 1)) ∧ l.length ≤ m ∧ ∀ (j : Nat) (c : UInt8), l[j]? = some c → cur[j]? = some (.int .u8 (c.toNat : Int))
theorem OctRow.new (W : World) (e : Nat) (s : ByteArray) : OctRow (Lib.bytesWorld W e s) W.heap.size e s.data.toList := by
  refine ⟨Lib.bytesCells W e s, _, Lib.bytesWorld_at_new W e s, by simp [Lib.bytesCells], fun j c hj => ?_⟩
  obtain ⟨hl, rfl⟩ := List.getElem?_eq_some_iff.1 hj
  have hl' : j < s.data.size := by simpa using hl
  unfold Lib.bytesCells
  rw [Array.getElem?_append_left (by simpa using hl'), Array.getElem?_map, Array.getElem?_eq_getElem hl']
  simp
theorem OctRow.cell {W : World} {g e : Nat} {l : List UInt8} (h : OctRow W g e l) (j : Nat) (c : UInt8) (hj : l[j]? = some c) : W.cell? ⟨g, j, none⟩ = some (.int .u8 (c.toNat : Int)) := by
  obtain ⟨cur, m, hh, _, hc⟩ := h
  simp only [World.cell?, hh]
  exact hc j c hj
theorem OctRow.frozen {W : World} {g e : Nat} {l : List UInt8} (h : OctRow W g e l) (j : Nat) (hj : j < l.length) : W.frozen? ⟨g, j, none⟩ = false := by
  obtain ⟨cur, m, hh, hm, hc⟩ := h
  simp only [World.frozen?, hh]
  simp
  omega
theorem OctRow.put {W : World} {g e : Nat} {l : List UInt8} (h : OctRow W g e l) (j : Nat) (c : UInt8) : OctRow (W.setCell ⟨g, j, none⟩ (.int .u8 (c.toNat : Int))) g e (l.set j c) := by
  obtain ⟨cur, m, hh, hm, hc⟩ := h
  refine ⟨cur.setIfInBounds j (.int .u8 (c.toNat : Int)), m, ?_, by simpa using hm, fun i d hi => ?_⟩
  · simp only [World.setCell, Array.getElem?_modify, hh]
    simp
  · rw [List.getElem?_set] at hi
    rw [Array.getElem?_setIfInBounds]
    by_cases e : j = i
    · subst e
      rw [if_pos rfl] at hi
      by_cases hlt : j < l.length
      · rw [if_pos hlt] at hi
        injection hi with hi
        subst hi
        obtain ⟨hlt2, _⟩ := Array.getElem?_eq_some_iff.1 (hc j _ (List.getElem?_eq_getElem hlt))
        rw [if_pos rfl, if_pos hlt2]
      · rw [if_neg hlt] at hi
        cases hi
    · rw [if_neg e] at hi
      rw [if_neg e]
      exact hc i d hi
theorem OctRow.drewN {W : World} {g e : Nat} {l : List UInt8} (h : OctRow W g e l) (q : Nat) : OctRow (W.drewN q) g e l := h
theorem OctRow.back {W : World} {g e : Nat} {l : List UInt8} (h : OctRow W g e l) {P : Program} (src dst : Nat) (c n : Nat) (hn : n = l.length) (hs : P.underlying src = some (.slice e)) (he : P.underlying e = some (.int .u8)) (hd : P.underlying dst = some .string) :
    (convert src dst (.slice (some ⟨g, 0, none⟩) n c)).run P W = .ok (.string ⟨l.toArray⟩) W := by
  subst hn
  have := run_convert_bytes_back (P := P) W src dst e ⟨g, 0, none⟩ c l hs he hd (fun j hj => by
    have e1 : (⟨g, 0, none⟩ : Addr).add j = ⟨g, j, none⟩ := by rw [add_plain]; try rw [Nat.zero_add]
    rw [e1, h.cell j _ (List.getElem?_eq_getElem hj)])
  exact this
/-- The first i of a text's octets as small letters, the others as they are. -/
def lowTo (s : List UInt8) (i : Nat) : List UInt8 := lowL (s.take i) ++ s.drop i
theorem lowTo_len (s : List UInt8) (i : Nat) : (lowTo s i).length = s.length := by
  unfold lowTo lowL; simp; omega
theorem lowTo_at (s : List UInt8) (i : Nat) (h : i < s.length) : (lowTo s i)[i]? = some (s[i]'h) := by
  unfold lowTo lowL
  rw [List.getElem?_append_right (by simp; omega)]
  simp
  rw [show i - min i s.length = 0 from by omega]
  simp [h]
theorem lowTo_set (s : List UInt8) (i : Nat) (h : i < s.length) : (lowTo s i).set i (lowU (s[i]'h)) = lowTo s (i + 1) := by
  unfold lowTo lowL
  rw [List.set_append_right _ _ (by simp; omega)]
  simp only [List.length_map, List.length_take]
  rw [show i - min i s.length = 0 from by omega, List.drop_eq_getElem_cons h, List.set_cons_zero, ← List.take_append_getElem h, List.map_append]
  simp
def octet_Lower.f (a0 : ByteArray) : Option (ByteArray) := if a0.size ≤ 1000000000 then some (lowB a0) else none
set_option maxHeartbeats 4000000 in
set_option maxRecDepth 100000 in
theorem octet_Lower.calls (a0 : ByteArray) (r : ByteArray) (w : World) (h : octet_Lower.f a0 = some r) :
    Calls Try.prog 70 #[.string a0] w fun e w' => e = .returned (.string r) ∧ Below w.heap.size w w' := by
  by_cases hs : a0.size ≤ 1000000000
  · rw [octet_Lower.f, if_pos hs] at h
    obtain rfl := Option.some.inj h
    clear h
    have kb := fun W => print_bytes (P := Try.prog) 9 76 5 Try.underlying9 Try.underlying76 Try.underlying5 a0 W
    have hO := OctRow.new w 5 a0
    have hB : Below w.heap.size w (Lib.bytesWorld w 5 a0) := bytes_below (Below.refl _ _) (Nat.le_refl _) _ _
    have HO := Aside0.mk hO
    have HB := Aside0.mk hB
    clear hO hB
    have HZ := Aside0.mk (size_list a0)
    go_enter Try.func70, Try.ntmps70
    go_wp2
    go_loopg [4, 5, 10] a0.size (fun gg _ _ s10 wr => ∃ i : Nat, i ≤ a0.size ∧ a0.size - i ≤ gg ∧ s10 = .int .i64 i ∧ Aside0 (Below w.heap.size w wr) ∧ Aside0 (OctRow wr w.heap.size 5 (lowTo a0.data.toList i)))
    case atStart => exact ⟨0, Nat.zero_le _, by omega, rfl, HB, HO⟩
    case round =>
      obtain ⟨i, hi, hg, rfl, HB1, HO1⟩ := hrel
      clear HO HB
      by_cases hlt : i < a0.size
      · have hltz : decide ((i : Int) < (a0.size : Int)) = true := decide_eq_true (by omega)
        have hll : i < a0.data.toList.length := by have := HZ.out; omega
        obtain ⟨c, hc⟩ : ∃ c, a0.data.toList[i]'hll = c := ⟨_, rfl⟩
        have hcell := HO1.out.cell i c (by rw [lowTo_at _ _ hll, hc])
        have hfz := HO1.out.frozen i (by rw [lowTo_len]; exact hll)
        have hL := fun W => octet_lower.calls (c.toNat : Int) _ W (octet_lower_f c)
        have HC := Aside0.mk hc
        clear hc
        go_wp2_with (go_at_call 95; refine (hL _).mono ?_; rintro e w' ⟨rfl, hdr⟩; obtain ⟨q, rfl⟩ := hdr.out)
        go_roundg (a0.size - (i + 1))
        case measure => omega
        case rel =>
          refine ⟨i + 1, by omega, by omega, by go_num, ⟨(pw_below_drewN HB1.out q).setCell (Nat.le_refl _) _⟩, ⟨?_⟩⟩
          have h2 := (HO1.out.drewN q).put i (lowU c)
          rw [← HC.out, lowTo_set _ _ hll, HC.out] at h2
          exact h2
      · have hltz : decide ((i : Int) < (a0.size : Int)) = false := decide_eq_false (by omega)
        have hie : i = a0.size := by omega
        have HIE := Aside0.mk hie
        clear hie
        have hback := fun cp => HO1.out.back (P := Try.prog) 76 9 cp a0.size (by rw [lowTo_len]; exact HZ.out) Try.underlying76 Try.underlying5 Try.underlying9
        have HR : Aside0 ((⟨(lowTo a0.data.toList i).toArray⟩ : ByteArray) = lowB a0) := ⟨by
          unfold lowTo lowB
          rw [List.take_of_length_le (by have := HZ.out; have := HIE.out; omega), List.drop_eq_nil_of_le (by have := HZ.out; have := HIE.out; omega), List.append_nil]⟩
        go_wp2
        go_ret
        exact ⟨by rw [HR.out]; rfl, HB1.out⟩
  · rw [octet_Lower.f, if_neg hs] at h
    cases h


end Go.Proofs.Ytdjmgmiaognncaa.X
namespace Go.Proofs.Ytdjmgmiaognncaa.X
open Go.RowKit Go.Proofs.YtdjmgmiaognncaaW.PrintWords Go.Proofs.YtdjmgmiaognncaaW.PrintLast Go.Proofs.YtdjmgmiaognncaaW.PrintMore
attribute [local go_sem] max2_int min2_int max_two min_two max_three min_three max_four min_four   -- for this text's walks alone
set_option linter.unusedVariables false
set_option linter.unusedSimpArgs false

/-! ### host_Text: function 43 -/
def host_Text.f (a0 : ByteArray) (a1 : Int) : Option (ByteArray) := (octet_Lower.f a0).bind fun t101 => (if a1 = 80 then (some t101) else (if t101.size + 1 ≤ 9223372036854775807 then ((digits_Text.f a1).bind fun t102 => (if (t101 ++ (⟨#[58]⟩ : ByteArray)).size + t102.size ≤ 9223372036854775807 then (some ((t101 ++ (⟨#[58]⟩ : ByteArray)) ++ t102)) else (none))) else (none)))
set_option maxHeartbeats 8000000 in
set_option maxRecDepth 100000 in
theorem host_Text.calls (a0 : ByteArray) (a1 : Int) (r : ByteArray) (w : World) (h : host_Text.f a0 a1 = some r) :
    Calls Try.prog 43 #[.string a0, .int .i64 a1] w fun e w' => e = .returned (.string r) ∧ Below w.heap.size w w' := by
  have HB := Aside0.mk (Below.refl w.heap.size w)
  have H : ((octet_Lower.f a0).bind fun t101 => (if a1 = 80 then (some t101) else (if t101.size + 1 ≤ 9223372036854775807 then ((digits_Text.f a1).bind fun t102 => (if (t101 ++ (⟨#[58]⟩ : ByteArray)).size + t102.size ≤ 9223372036854775807 then (some ((t101 ++ (⟨#[58]⟩ : ByteArray)) ++ t102)) else (none))) else (none)))) = some r := h
  clear h
  replace H := Option.bind_eq_some_iff.mp H
  obtain ⟨t101, A30, H⟩ := H
  replace H : (if a1 = 80 then (some t101) else (if t101.size + 1 ≤ 9223372036854775807 then ((digits_Text.f a1).bind fun t102 => (if (t101 ++ (⟨#[58]⟩ : ByteArray)).size + t102.size ≤ 9223372036854775807 then (some ((t101 ++ (⟨#[58]⟩ : ByteArray)) ++ t102)) else (none))) else (none))) = some r := H
  have A3 := Aside0.mk A30
  clear A30
  by_cases c4 : a1 = 80
  · rw [if_pos c4] at H
    have c4b0 : (a1 == 80) = true := beq_iff_eq.mpr c4
    have c4b1 : (a1 != 80) = false := bne_eq_false_iff_eq.mpr c4
    clear c4
    obtain rfl := Option.some.inj H
    go_enter Try.func43, Try.ntmps43
    go_wp2_with (first | ((with_reducible refine gate_callee (f := 70) rfl ?_); refine goesL_ (some 6) rfl rfl Try.func70 (by kernel_rfl) rfl #[.string a0] rfl (by (try simp only [List.map_toArray, List.map_cons, List.map_nil]); first | done | rfl | (simp only [List.length_drop, List.length_take]; rfl)) ?_; (with_reducible refine (octet_Lower.calls a0 t101 _ A3.out).mono ?_); rintro e w5 ⟨rfl, hb⟩; refine ⟨_, rfl, ?_⟩; have n0_ := Aside0.mk (below_step (by repeat (first | (with_reducible first | exact HB.out | apply below_alloc | apply pw_below_drewN | apply below_drew1) | exact HB.out)) hb); clear HB; have HB := n0_; clear n0_; (try clear hb); (try clear hb2); (try clear hk); (try clear hi)))
    go_ret
    exact ⟨by first | rfl | (simp [errW_none, errW_some] <;> rfl) | (simp [*, errW_none, errW_some] <;> rfl), by repeat (first | (with_reducible first | exact HB.out | apply below_alloc | apply pw_below_drewN | apply below_drew1) | exact HB.out)⟩
  · rw [if_neg c4] at H
    have c4b0 : (a1 == 80) = false := beq_eq_false_iff_ne.mpr c4
    have c4b1 : (a1 != 80) = true := bne_iff_ne.mpr c4
    by_cases c6 : t101.size + 1 ≤ 9223372036854775807
    · rw [if_pos c6] at H
      have c6b0 := eq_true c6
      have c6b1 : decide (t101.size + 1 ≤ 9223372036854775807) = true := decide_eq_true c6
      try have c6b2 : (9223372036854775807 < t101.size + 1) = False := eq_false (Nat.not_lt.2 c6)
      replace H := Option.bind_eq_some_iff.mp H
      obtain ⟨t102, A70, H⟩ := H
      replace H : (if (t101 ++ (⟨#[58]⟩ : ByteArray)).size + t102.size ≤ 9223372036854775807 then (some ((t101 ++ (⟨#[58]⟩ : ByteArray)) ++ t102)) else (none)) = some r := H
      have A7 := Aside0.mk A70
      clear A70
      by_cases c8 : (t101 ++ (⟨#[58]⟩ : ByteArray)).size + t102.size ≤ 9223372036854775807
      · rw [if_pos c8] at H
        have c8b0 := eq_true c8
        have c8b1 : decide ((t101 ++ (⟨#[58]⟩ : ByteArray)).size + t102.size ≤ 9223372036854775807) = true := decide_eq_true c8
        try have c8b2 : (9223372036854775807 < (t101 ++ (⟨#[58]⟩ : ByteArray)).size + t102.size) = False := eq_false (Nat.not_lt.2 c8)
        try have c8b3 : (9223372036854775807 < t101.size + 1 + t102.size) = False := eq_false (Nat.not_lt.2 (by have z_ := c8; rw [ByteArray.size_append] at z_; exact z_))
        obtain rfl := Option.some.inj H
        go_enter Try.func43, Try.ntmps43
        go_wp2_with (first | ((with_reducible refine gate_callee (f := 70) rfl ?_); refine goesL_ (some 6) rfl rfl Try.func70 (by kernel_rfl) rfl #[.string a0] rfl (by (try simp only [List.map_toArray, List.map_cons, List.map_nil]); first | done | rfl | (simp only [List.length_drop, List.length_take]; rfl)) ?_; (with_reducible refine (octet_Lower.calls a0 t101 _ A3.out).mono ?_); rintro e w9 ⟨rfl, hb⟩; refine ⟨_, rfl, ?_⟩; have n0_ := Aside0.mk (below_step (by repeat (first | (with_reducible first | exact HB.out | apply below_alloc | apply pw_below_drewN | apply below_drew1) | exact HB.out)) hb); clear HB; have HB := n0_; clear n0_; (try clear hb); (try clear hb2); (try clear hk); (try clear hi)) | ((with_reducible refine gate_callee (f := 24) rfl ?_); refine goesL_ (some 13) rfl rfl Try.func24 (by kernel_rfl) rfl #[.int .i64 a1] rfl (by (try simp only [List.map_toArray, List.map_cons, List.map_nil]); first | done | rfl | (simp only [List.length_drop, List.length_take]; rfl)) ?_; (with_reducible refine (digits_Text.calls a1 t102 _ A7.out).mono ?_); rintro e w10 ⟨rfl, hb⟩; refine ⟨_, rfl, ?_⟩; have n0_ := Aside0.mk (below_step (by repeat (first | (with_reducible first | exact HB.out | apply below_alloc | apply pw_below_drewN | apply below_drew1) | exact HB.out)) hb); clear HB; have HB := n0_; clear n0_; (try clear hb); (try clear hb2); (try clear hk); (try clear hi)))
        go_ret
        exact ⟨by first | rfl | (simp [errW_none, errW_some] <;> rfl) | (simp [*, errW_none, errW_some] <;> rfl), by repeat (first | (with_reducible first | exact HB.out | apply below_alloc | apply pw_below_drewN | apply below_drew1) | exact HB.out)⟩
      · rw [if_neg c8] at H
        exact absurd H (by simp)
    · rw [if_neg c6] at H
      exact absurd H (by simp)

end Go.Proofs.Ytdjmgmiaognncaa.X
namespace Go.Proofs.Ytdjmgmiaognncaa.X
open Go.RowKit Go.Proofs.YtdjmgmiaognncaaW.PrintWords Go.Proofs.YtdjmgmiaognncaaW.PrintLast Go.Proofs.YtdjmgmiaognncaaW.PrintMore
attribute [local go_sem] max2_int min2_int max_two min_two max_three min_three max_four min_four   -- for this text's walks alone
set_option linter.unusedVariables false
set_option linter.unusedSimpArgs false

/-! ### host_Key: function 16 -/
def host_Key.f (k : Nat) (a0 : ByteArray) : Option (ByteArray × Bool) := (host_Parse.f k a0).bind fun bt101 => (if bt101.2.2 = 0 then ((host_Text.f bt101.1 bt101.2.1).bind fun t104 => (some (t104, true))) else (some ((⟨#[]⟩ : ByteArray), false)))
theorem host_Key.mono : ∀ a0 k, LeO (host_Key.f k a0) (host_Key.f (k + 1) a0) := by
  intro a0 k
  unfold host_Key.f
  repeat' first
      | (with_reducible exact host_Parse.mono _ _)
      | (with_reducible exact LeO.refl _)
      | (with_reducible exact LeO.none _)
      | (with_reducible refine LeO.ite ?_ ?_)
      | (with_reducible refine LeO.bind ?_ (fun _ => ?_))
      | exact host_Parse.mono _ _
      | exact LeO.none _
      | refine LeO.ite ?_ ?_
      | refine LeO.bind ?_ (fun _ => ?_)
set_option maxHeartbeats 8000000 in
set_option maxRecDepth 100000 in
theorem host_Key.calls (k : Nat) (a0 : ByteArray) (r1 : ByteArray) (r2 : Bool) (w : World) (h : host_Key.f k a0 = some (r1, r2)) :
    Calls Try.prog 16 #[.string a0] w fun e w' => e = .returned (.tuple #[.string r1, .bool r2]) ∧ Below w.heap.size w w' := by
  have HB := Aside0.mk (Below.refl w.heap.size w)
  have H : ((host_Parse.f k a0).bind fun bt101 => (if bt101.2.2 = 0 then ((host_Text.f bt101.1 bt101.2.1).bind fun t104 => (some (t104, true))) else (some ((⟨#[]⟩ : ByteArray), false)))) = some (r1, r2) := h
  clear h
  replace H := Option.bind_eq_some_iff.mp H
  obtain ⟨⟨t101, t102, t103⟩, A20, H⟩ := H
  replace H : (if t103 = 0 then ((host_Text.f t101 t102).bind fun t104 => (some (t104, true))) else (some ((⟨#[]⟩ : ByteArray), false))) = some (r1, r2) := H
  have A2 := Aside0.mk A20
  clear A20
  by_cases c3 : t103 = 0
  · rw [if_pos c3] at H
    have c3b0 : (t103 == 0) = true := beq_iff_eq.mpr c3
    have c3b1 : (t103 != 0) = false := bne_eq_false_iff_eq.mpr c3
    clear c3
    replace H := Option.bind_eq_some_iff.mp H
    obtain ⟨t104, A40, H⟩ := H
    replace H : (some (t104, true)) = some (r1, r2) := H
    have A4 := Aside0.mk A40
    clear A40
    simp only [Option.some.injEq, Prod.mk.injEq] at H
    obtain ⟨rfl, rfl⟩ := H
    go_enter Try.func16, Try.ntmps16
    go_wp2_with (first | ((with_reducible refine gate_callee (f := 42) rfl ?_); refine goesL_ (some 9) rfl rfl Try.func42 (by kernel_rfl) rfl #[.string a0] rfl (by (try simp only [List.map_toArray, List.map_cons, List.map_nil]); first | done | rfl | (simp only [List.length_drop, List.length_take]; rfl)) ?_; (with_reducible refine (host_Parse.calls k a0 t101 t102 t103 _ A2.out).mono ?_); rintro e w5 ⟨rfl, hb⟩; refine ⟨_, rfl, ?_⟩; have n0_ := Aside0.mk (below_step (by repeat (first | (with_reducible first | exact HB.out | apply below_alloc | apply pw_below_drewN | apply below_drew1) | exact HB.out)) hb); clear HB; have HB := n0_; clear n0_; (try clear hb); (try clear hb2); (try clear hk); (try clear hi)) | ((with_reducible refine gate_callee (f := 43) rfl ?_); refine goesL_ (some 17) rfl rfl Try.func43 (by kernel_rfl) rfl #[.string t101, .int .i64 t102] rfl (by (try simp only [List.map_toArray, List.map_cons, List.map_nil]); first | done | rfl | (simp only [List.length_drop, List.length_take]; rfl)) ?_; (with_reducible refine (host_Text.calls t101 t102 t104 _ A4.out).mono ?_); rintro e w6 ⟨rfl, hb⟩; refine ⟨_, rfl, ?_⟩; have n0_ := Aside0.mk (below_step (by repeat (first | (with_reducible first | exact HB.out | apply below_alloc | apply pw_below_drewN | apply below_drew1) | exact HB.out)) hb); clear HB; have HB := n0_; clear n0_; (try clear hb); (try clear hb2); (try clear hk); (try clear hi)))
    go_ret2
    exact ⟨by first | rfl | (simp [errW_none, errW_some] <;> rfl) | (simp [*, errW_none, errW_some] <;> rfl), by repeat (first | (with_reducible first | exact HB.out | apply below_alloc | apply pw_below_drewN | apply below_drew1) | exact HB.out)⟩
  · rw [if_neg c3] at H
    have c3b0 : (t103 == 0) = false := beq_eq_false_iff_ne.mpr c3
    have c3b1 : (t103 != 0) = true := bne_iff_ne.mpr c3
    simp only [Option.some.injEq, Prod.mk.injEq] at H
    obtain ⟨rfl, rfl⟩ := H
    go_enter Try.func16, Try.ntmps16
    go_wp2_with (first | ((with_reducible refine gate_callee (f := 42) rfl ?_); refine goesL_ (some 9) rfl rfl Try.func42 (by kernel_rfl) rfl #[.string a0] rfl (by (try simp only [List.map_toArray, List.map_cons, List.map_nil]); first | done | rfl | (simp only [List.length_drop, List.length_take]; rfl)) ?_; (with_reducible refine (host_Parse.calls k a0 t101 t102 t103 _ A2.out).mono ?_); rintro e w7 ⟨rfl, hb⟩; refine ⟨_, rfl, ?_⟩; have n0_ := Aside0.mk (below_step (by repeat (first | (with_reducible first | exact HB.out | apply below_alloc | apply pw_below_drewN | apply below_drew1) | exact HB.out)) hb); clear HB; have HB := n0_; clear n0_; (try clear hb); (try clear hb2); (try clear hk); (try clear hi)))
    go_ret2
    exact ⟨by first | rfl | (simp [errW_none, errW_some] <;> rfl) | (simp [*, errW_none, errW_some] <;> rfl), by repeat (first | (with_reducible first | exact HB.out | apply below_alloc | apply pw_below_drewN | apply below_drew1) | exact HB.out)⟩

end Go.Proofs.Ytdjmgmiaognncaa.X
namespace Go.Proofs.Ytdjmgmiaognncaa.X
open Go.RowKit Go.Proofs.YtdjmgmiaognncaaW.PrintWords Go.Proofs.YtdjmgmiaognncaaW.PrintLast Go.Proofs.YtdjmgmiaognncaaW.PrintMore
attribute [local go_sem] max2_int min2_int max_two min_two max_three min_three max_four min_four   -- for this text's walks alone
set_option linter.unusedVariables false
set_option linter.unusedSimpArgs false

/-! ### octet_all: function 44 -/
/-- octet.all from place pos on, by at most so many runes. -/
def allRFrom (p : Nat → Bool) (s : ByteArray) : Nat → Nat → Bool
  | 0, _ => true
  | f + 1, pos => if pos < s.size then (if p (Utf8.decode s pos).1 = true then allRFrom p s f (pos + (Utf8.decode s pos).2) else false) else true
def allR (p : Nat → Bool) (s : ByteArray) : Bool := allRFrom p s s.size 0
theorem allRFrom_end (p : Nat → Bool) (s : ByteArray) (f pos : Nat) (h : ¬ pos < s.size) : allRFrom p s f pos = true := by cases f <;> simp [allRFrom, h]
set_option maxHeartbeats 2000000 in
set_option maxRecDepth 1000000 in
theorem octet_all.calls (g : Nat) (eg : ∀ args w, (callFunc g args).run Try.prog w = .ok (.enter g args) w) (p : Nat → Bool) (s : ByteArray) (w : World) (hp : ∀ (W : World) (x : Nat), Below w.heap.size w W → x ≤ 2147483647 → Calls Try.prog g #[.int .i32 (x : Int)] W fun e w' => e = .returned (.bool (p x)) ∧ Below W.heap.size W w') :
    Calls Try.prog 44 #[.string s, .func (.func g) #[] #[]] w fun e w' => e = .returned (.bool (allR p s)) ∧ Below w.heap.size w w' := by
  go_enter Try.func44, Try.ntmps44
  go_wp2
  go_loopg [] s.size (fun gf wx => ∃ pos : Nat, wx.heap[w.heap.size]? = some (.stringIter s pos) ∧ Below w.heap.size w wx ∧ allRFrom p s gf pos = allR p s ∧ s.size ≤ pos + gf)
  case atStart => exact ⟨0, World.iter_heap w s 0, (Below.refl _ w).alloc (Nat.le_refl _) _, rfl, by omega⟩
  case round =>
    obtain ⟨pos, hit, hbw, hleft, hfu⟩ := hrel
    by_cases hps : pos < s.size
    · obtain ⟨g', rfl⟩ : ∃ g', gk = g' + 1 := ⟨gk - 1, by omega⟩
      have hnx : ∀ ty, (Instr.next (.pointer (some ⟨w.heap.size, 0, none⟩)) true ty).run Try.prog wr = _ := fun ty => Lib.run_next_any_at wr w.heap.size s pos ty hit hps
      have hwd := Lib.width_pos s pos
      obtain ⟨R, hR⟩ : ∃ R, (Utf8.decode s pos).1 = R := ⟨_, rfl⟩
      obtain ⟨K, hK⟩ : ∃ K, (Utf8.decode s pos).2 = K := ⟨_, rfl⟩
      simp only [allRFrom, hps, if_true, hR, hK] at hleft
      rw [hR, hK] at hnx
      rw [hK] at hwd
      have hit2 := Lib.iterAt_heap wr w.heap.size s pos (pos + K) hit
      have hbw2 := Lib.below_iterAt hbw (k := w.heap.size) (Nat.le_refl _) s (pos + K)
      obtain ⟨W, hWd⟩ : ∃ W, wr.iterAt w.heap.size s (pos + K) = W := ⟨_, rfl⟩
      rw [hWd] at hnx hit2 hbw2
      have hRm : R ≤ 2147483647 := by rw [← hR]; exact decode_le s pos
      have cS : Calls Try.prog g #[.int .i32 (R : Int)] W _ := hp W R hbw2 hRm
      have hlt2 : w.heap.size < W.heap.size := (Array.getElem?_eq_some_iff.1 hit2).1
      clear hp
      cases hsp : p R <;> rw [hsp] at cS <;> simp only [hsp, if_true, Bool.false_eq_true, if_false] at hleft <;> have HL := Aside0.mk hleft <;> clear hleft hsp
      · go_wp2_with (go_at_fn g; refine cS.mono ?_; rintro e W' ⟨rfl, hb3⟩)
        go_ret
        exact ⟨by rw [← HL.out]; rfl, hbw2.trans (hb3.mono (by omega))⟩
      · go_wp2_with (go_at_fn g; refine cS.mono ?_; rintro e W' ⟨rfl, hb3⟩)
        go_roundg g'
        case measure => omega
        case rel => exact ⟨pos + K, (hb3.block _ hlt2).trans hit2, hbw2.trans (hb3.mono (by omega)), HL.out, by omega⟩
    · have hnx : ∀ ty, (Instr.next (.pointer (some ⟨w.heap.size, 0, none⟩)) true ty).run Try.prog wr = _ := fun ty => Lib.run_next_end_at wr w.heap.size s pos ty hit hps
      rw [allRFrom_end p s gk pos hps] at hleft
      have HL := Aside0.mk hleft
      clear hleft
      go_wp2
      go_ret
      exact ⟨by rw [← HL.out]; rfl, hbw⟩


end Go.Proofs.Ytdjmgmiaognncaa.X
namespace Go.Proofs.Ytdjmgmiaognncaa.X
open Go.RowKit Go.Proofs.YtdjmgmiaognncaaW.PrintWords Go.Proofs.YtdjmgmiaognncaaW.PrintLast Go.Proofs.YtdjmgmiaognncaaW.PrintMore
attribute [local go_sem] max2_int min2_int max_two min_two max_three min_three max_four min_four   -- for this text's walks alone
set_option linter.unusedVariables false
set_option linter.unusedSimpArgs false

/-! ### octet_tchar: function 45 -/
def tMarks : ByteArray := ⟨#[33, 35, 36, 37, 38, 39, 42, 43, 45, 46, 94, 95, 96, 124, 126]⟩
def tcharL : List Nat := [33, 35, 36, 37, 38, 39, 42, 43, 45, 46, 94, 95, 96, 124, 126]
/-- P1.1: letters, digits, marks. -/
def tcharR (r : Nat) : Bool := (97 ≤ r && r ≤ 122) || (65 ≤ r && r ≤ 90) || (48 ≤ r && r ≤ 57) || tcharL.contains r
theorem tMarks_at (pos : Nat) (h : pos < 15) : Utf8.decode tMarks pos = (tcharL.getD pos 0, 1) := by
  have h1 : pos < tMarks.size := h
  have h2 : ∀ p : Fin 15, (tMarks.data.getD p.val 0).toNat < 128 ∧ (tMarks.data.getD p.val 0).toNat = tcharL.getD p.val 0 := by decide
  have h3 := h2 ⟨pos, h⟩
  have h4 : tMarks.data.getD pos 0 = tMarks[pos]'h1 := by
    simp only [Array.getD_eq_getD_getElem?]
    rw [Array.getElem?_eq_getElem (by exact h1)]
    rfl
  simp only [h4] at h3
  rw [decode_ascii tMarks pos h1 h3.1, h3.2]
theorem tcharL_drop (pos : Nat) (h : pos < 15) : tcharL.drop pos = tcharL.getD pos 0 :: tcharL.drop (pos + 1) := by
  have h2 : ∀ p : Fin 15, tcharL.drop p.val = tcharL.getD p.val 0 :: tcharL.drop (p.val + 1) := by decide
  exact h2 ⟨pos, h⟩
set_option maxHeartbeats 2000000 in
set_option maxRecDepth 1000000 in
theorem octet_tchar.calls (r : Nat) (w : World) (hr : r ≤ 2147483647) :
    Calls Try.prog 45 #[.int .i32 (r : Int)] w fun e w' => e = .returned (.bool (tcharR r)) ∧ Below w.heap.size w w' := by
  by_cases ha : (97 ≤ r ∧ r ≤ 122) ∨ (65 ≤ r ∧ r ≤ 90) ∨ (48 ≤ r ∧ r ≤ 57)
  · have hR : tcharR r = true := by
      unfold tcharR
      rcases ha with h | h | h <;> simp [h.1, h.2]
    have HR := Aside0.mk hR
    clear hR
    rcases ha with ⟨h1, h2⟩ | ⟨h1, h2⟩ | ⟨h1, h2⟩
    all_goals
      go_enter Try.func45, Try.ntmps45
      go_wp2
      go_ret
      exact ⟨by rw [HR.out]; rfl, Below.refl _ _⟩
  · have hR : tcharR r = (tcharL.drop 0).contains r := by
      unfold tcharR
      have e1 : (decide (97 ≤ r) && decide (r ≤ 122)) = false := by
        rw [Bool.eq_false_iff]; simp; omega
      have e2 : (decide (65 ≤ r) && decide (r ≤ 90)) = false := by
        rw [Bool.eq_false_iff]; simp; omega
      have e3 : (decide (48 ≤ r) && decide (r ≤ 57)) = false := by
        rw [Bool.eq_false_iff]; simp; omega
      rw [e1, e2, e3]; rfl
    have HR := Aside0.mk hR
    clear hR
    have hc : r < 48 ∨ (57 < r ∧ r < 65) ∨ (90 < r ∧ r < 97) ∨ 122 < r := by omega
    clear ha
    rcases hc with h1 | ⟨h1, h2⟩ | ⟨h1, h2⟩ | h1
    all_goals
      go_enter Try.func45, Try.ntmps45
      go_wp2
      rw [show (⟨#[33, 35, 36, 37, 38, 39, 42, 43, 45, 46, 94, 95, 96, 124, 126]⟩ : ByteArray) = tMarks from rfl]
      go_loopg [] 15 (fun gf wx => ∃ pos : Nat, wx.heap[w.heap.size]? = some (.stringIter tMarks pos) ∧ Below w.heap.size w wx ∧ Aside0 ((tcharL.drop pos).contains r = tcharR r) ∧ pos + gf = 15)
      case atStart => exact ⟨0, World.iter_heap w tMarks 0, (Below.refl _ w).alloc (Nat.le_refl _) _, ⟨HR.out.symm⟩, by omega⟩
      case round =>
        obtain ⟨pos, hit, hbw, HL, hfu⟩ := hrel
        by_cases hps : pos < 15
        · obtain ⟨g', rfl⟩ : ∃ g', gk = g' + 1 := ⟨gk - 1, by omega⟩
          have hnx : ∀ ty, (Instr.next (.pointer (some ⟨w.heap.size, 0, none⟩)) true ty).run Try.prog wr = _ := fun ty => Lib.run_next_any_at wr w.heap.size tMarks pos ty hit hps
          rw [tMarks_at pos hps] at hnx
          dsimp only at hnx
          have HL' : Aside0 ((tcharL.getD pos 0 :: tcharL.drop (pos + 1)).contains r = tcharR r) := ⟨by rw [← tcharL_drop pos hps]; exact HL.out⟩
          clear HL
          obtain ⟨R, hRe⟩ : ∃ R, tcharL.getD pos 0 = R := ⟨_, rfl⟩
          rw [hRe] at hnx HL'
          clear hRe
          have hit2 := Lib.iterAt_heap wr w.heap.size tMarks pos (pos + 1) hit
          have hbw2 := Lib.below_iterAt hbw (k := w.heap.size) (Nat.le_refl _) tMarks (pos + 1)
          obtain ⟨W, hWd⟩ : ∃ W, wr.iterAt w.heap.size tMarks (pos + 1) = W := ⟨_, rfl⟩
          rw [hWd] at hnx hit2 hbw2
          clear hWd
          by_cases he : R = r
          · have hb : ((R : Int) == (r : Int)) = true := by rw [he]; exact beq_self_eq_true _
            have hfin : tcharR r = true := by rw [← HL'.out, he]; simp
            have HF := Aside0.mk hfin
            clear hfin he HL'
            go_wp2
            go_ret
            exact ⟨by rw [HF.out]; rfl, hbw2⟩
          · have hb : ((R : Int) == (r : Int)) = false := beq_eq_false_iff_ne.2 (by omega)
            have hfin : (tcharL.drop (pos + 1)).contains r = tcharR r := by
              rw [← HL'.out, List.contains_cons]
              have : (r == R) = false := beq_eq_false_iff_ne.2 (fun h => he h.symm)
              rw [this, Bool.false_or]
            have HF := Aside0.mk hfin
            clear hfin he HL'
            go_wp2
            go_roundg g'
            case measure => omega
            case rel => exact ⟨pos + 1, hit2, hbw2, HF, by omega⟩
        · have hnx : ∀ ty, (Instr.next (.pointer (some ⟨w.heap.size, 0, none⟩)) true ty).run Try.prog wr = _ := fun ty => Lib.run_next_end_at wr w.heap.size tMarks pos ty hit hps
          obtain rfl : pos = 15 := by omega
          have hfin : tcharR r = false := by rw [← HL.out]; rfl
          have HF := Aside0.mk hfin
          clear hfin HL
          go_wp2
          go_ret
          exact ⟨by rw [HF.out]; rfl, hbw⟩


end Go.Proofs.Ytdjmgmiaognncaa.X
namespace Go.Proofs.Ytdjmgmiaognncaa.X
open Go.RowKit Go.Proofs.YtdjmgmiaognncaaW.PrintWords Go.Proofs.YtdjmgmiaognncaaW.PrintLast Go.Proofs.YtdjmgmiaognncaaW.PrintMore
attribute [local go_sem] max2_int min2_int max_two min_two max_three min_three max_four min_four   -- for this text's walks alone
set_option linter.unusedVariables false
set_option linter.unusedSimpArgs false

/-! ### octet_Token: function 17 -/
def octetToken (a0 : ByteArray) : Bool := !a0.toList.isEmpty && allR tcharR a0
def octet_Token.f (a0 : ByteArray) : Option (Bool) := some (octetToken a0)
set_option maxHeartbeats 2000000 in
theorem octet_Token.calls (a0 : ByteArray) (r : Bool) (w : World) (h : octet_Token.f a0 = some r) :
    Calls Try.prog 17 #[.string a0] w fun e w' => e = .returned (.bool r) ∧ Below w.heap.size w w' := by
  obtain rfl := Option.some.inj h
  clear h
  by_cases he : a0.toList = []
  · have he2 : (a0.toList == ([] : List UInt8)) = true := beq_iff_eq.mpr he
    have he3 : (a0.toList != ([] : List UInt8)) = false := bne_eq_false_iff_eq.mpr he
    have HR : Aside0 (octetToken a0 = false) := ⟨by unfold octetToken; rw [he]; rfl⟩
    clear he
    go_enter Try.func17, Try.ntmps17
    go_wp2
    go_ret
    exact ⟨by rw [HR.out]; rfl, Below.refl _ _⟩
  · have he2 : (a0.toList == ([] : List UInt8)) = false := beq_eq_false_iff_ne.mpr he
    have he3 : (a0.toList != ([] : List UInt8)) = true := bne_iff_ne.mpr he
    have he4 : a0.toList.isEmpty = false := by simpa using he
    have HR : Aside0 (octetToken a0 = allR tcharR a0) := ⟨by unfold octetToken; rw [he4]; rfl⟩
    have hC := fun W => octet_all.calls 45 (enters_of Try.func45 (by kernel_rfl) rfl) tcharR a0 W (fun W2 x _ hx => octet_tchar.calls x W2 hx)
    clear he
    go_enter Try.func17, Try.ntmps17
    go_wp2_with (go_at_call 44; refine (hC _).mono ?_; rintro e w' ⟨rfl, hb⟩)
    go_ret
    exact ⟨by rw [HR.out]; rfl, hb⟩


end Go.Proofs.Ytdjmgmiaognncaa.X
