/- math/bits.Add64, Sub64. -/
import Derived.Test.YtpliondhiahhnaaS4
namespace Go.Proofs.Ytpliondhiahhnaa.K
open Sx Fl Go Go.RowKit
set_option maxRecDepth 100000
theorem add_pv (x y : Nat) : pv Try.prog (callFunc 129 #[.int .u64 x, .int .u64 y, .int .u64 0]) = some (.value (.tuple #[.int .u64 ((x+y+0) % Extern.MathBitsCarry.m64 : Nat), .int .u64 ((x+y+0) / Extern.MathBitsCarry.m64 : Nat)])) := by kernel_rfl
theorem sub_pv (x y : Nat) : pv Try.prog (callFunc 130 #[.int .u64 x, .int .u64 y, .int .u64 0]) = some (.value (.tuple #[.int .u64 ((x + Extern.MathBitsCarry.m64 - y - 0) % Extern.MathBitsCarry.m64 : Nat), .int .u64 (Int.ofNat (if x < y + 0 then 1 else 0))])) := by kernel_rfl
theorem Xn.of {N : Option Nat → World → List Int → Value → Prop} {P : Program} {f : FuncId} {args : List LV} {r : LV} {vs : List Value} {v : Value} (ha : concLs args = some vs) (hr : concL r = some v) (h : pv P (callFunc f vs.toArray) = some (.value v)) : Xn N P f args r := by
  intro w us hp
  have hus := (pw_iff (R := Rl N pl0 w) (f := concL) (fs := concLs) rfl (fun _ _ => rfl) (fun x v h u => concL_iff h u) args vs ha _).1 hp
  have : us = vs.toArray := by rw [← Array.toList_inj, hus]
  subst this
  exact ⟨v, pv_run h w, (concL_iff hr v).2 rfl⟩
abbrev Xp (f : FuncId) (args : List LV) (r : LV) : Prop := Xn (RdAt 3) Try.prog f args r
theorem add_xn (x y : Nat) : Xp 129 [LU x, LU y, LU 0] (.tup [au ((x+y) % 2^64 : Nat), au ((x+y) / 2^64 : Nat)]) := Xn.of rfl rfl (add_pv x y)
theorem sub_xn (x y : Nat) : Xp 130 [LU x, LU y, LU 0] (.tup [au ((x + 2^64 - y) % 2^64 : Nat), au (if x < y then 1 else 0 : Nat)]) := Xn.of rfl rfl (sub_pv x y)
def cAdd64 : Ent := (129, fun l => match l with | [.a (.s (.v (.int _ x))), .a (.s (.v (.int _ y))), _] => some (.tup [au ((x.toNat+y.toNat) % 2^64 : Nat), au ((x.toNat+y.toNat) / 2^64 : Nat)]) | _ => none)
def cSub64 : Ent := (130, fun l => match l with | [.a (.s (.v (.int _ x))), .a (.s (.v (.int _ y))), _] => some (.tup [au ((x.toNat+2^64-y.toNat) % 2^64 : Nat), au (if x.toNat < y.toNat then 1 else 0 : Nat)]) | _ => none)
end Go.Proofs.Ytpliondhiahhnaa.K
