/- soft.Sub, whole, step, Ceil, Floor, place, Cmp, Whole, Convert: contracts. -/
import Derived.Test.YtpliondhiahhnaaC2
set_option linter.unusedVariables false
namespace Go.Proofs.Ytpliondhiahhnaa.K
open Sx Fl Go Go.RowKit
set_option maxRecDepth 100000
variable {M X : Nat}
theorem t40 (M X a b : Nat) (kb eb mb S E : Int) (nb : Bool) : tree Try.prog 3 [cOpen (PA kb nb eb mb) 0, cZero M X, (27, fun _ => some (.tup [au S, ai E]))] 40 [FM M X, LU a, LU b] =
    Tr.call 93 [LV.agg [si (M : Int), si (X : Int)], LU (b : Int)] (LV.tup [AV.agg [si kb, sb nb, si eb, su mb], ai 0]) (Tr.call 67 [LV.agg [si (M : Int), si (X : Int)], LB true] (LU
    (((Fl.sgn M X true : Nat) : Int))) (Tr.call 27 [LV.agg [si (M : Int), si (X : Int)], LU (a : Int), LU (bits BinOp.xor IntKind.u64 (b : Int) ((Fl.sgn M X true : Nat) : Int))]
    (LV.tup [au S, ai E]) (Tr.ret (LV.tup [au S, ai E])))) := by kernel_rfl

theorem t40b (m x : Int) (a b : Nat) : tree Try.prog 3 [cOpen (PA 0 false 0 0) 1] 40 [FM m x, LU a, LU b] =
    Tr.call 93 [LV.agg [si m, si x], LU (b : Int)] (LV.tup [AV.agg [si 0, sb false, si 0, su 0], ai 1]) (Tr.ret (LV.tup [au 0, ai 1])) := by kernel_rfl

theorem t40c (M X a b : Nat) (kb eb mb : Int) (nb : Bool) : tree Try.prog 3 [cOpen (PA kb nb eb mb) 0, cZero M X, (27, fun _ => some (.tup [au 0, ai 1]))] 40 [FM M X, LU a, LU b] =
    Tr.call 93 [LV.agg [si (M : Int), si (X : Int)], LU (b : Int)] (LV.tup [AV.agg [si kb, sb nb, si eb, su mb], ai 0]) (Tr.call 67 [LV.agg [si (M : Int), si (X : Int)], LB true] (LU
    (((Fl.sgn M X true : Nat) : Int))) (Tr.call 27 [LV.agg [si (M : Int), si (X : Int)], LU (a : Int), LU (bits BinOp.xor IntKind.u64 (b : Int) ((Fl.sgn M X true : Nat) : Int))]
    (LV.tup [au 0, ai 1]) (Tr.ret (LV.tup [au 0, ai 1])))) := by kernel_rfl

theorem t94 (ka ea : Int) (ma : Nat) (na : Bool) : tree Try.prog 3 [] 94 [PL ka na ea ma] =
    br (decide (IntKind.i64.wrap (0 - ea) > 63)) (Tr.ret (LV.tup [au 0, ai 1])) (br (decide (IntKind.i64.wrap (0 - ea) < 0)) Tr.bad (br (decide (IntKind.i64.wrap (0 - ea) < 0)) Tr.bad
    (br (bits BinOp.and IntKind.u64 ((ma : Int)) (IntKind.u64.wrap (shl IntKind.u64 1 (IntKind.i64.wrap (0 - ea)) - 1)) == 0) (br (decide (IntKind.i64.wrap (0 - ea) < 0)) Tr.bad
    (Tr.ret (LV.tup [au (shr IntKind.u64 ((ma : Int)) (IntKind.i64.wrap (0 - ea))), ai 0]))) (br (decide (bits BinOp.and IntKind.u64 ((ma : Int)) (IntKind.u64.wrap (shl IntKind.u64
    1 (IntKind.i64.wrap (0 - ea)) - 1)) < shr IntKind.u64 (shl IntKind.u64 1 (IntKind.i64.wrap (0 - ea))) 1)) (br (decide (IntKind.i64.wrap (0 - ea) < 0)) Tr.bad (Tr.ret (LV.tup
    [au (shr IntKind.u64 ((ma : Int)) (IntKind.i64.wrap (0 - ea))), ai 1]))) (br (bits BinOp.and IntKind.u64 ((ma : Int)) (IntKind.u64.wrap (shl IntKind.u64 1 (IntKind.i64.wrap (0
    - ea)) - 1)) == shr IntKind.u64 (shl IntKind.u64 1 (IntKind.i64.wrap (0 - ea))) 1) (br (decide (IntKind.i64.wrap (0 - ea) < 0)) Tr.bad (Tr.ret (LV.tup [au (shr IntKind.u64 ((ma
    : Int)) (IntKind.i64.wrap (0 - ea))), ai 2]))) (br (decide (IntKind.i64.wrap (0 - ea) < 0)) Tr.bad (Tr.ret (LV.tup [au (shr IntKind.u64 ((ma : Int)) (IntKind.i64.wrap (0 -
    ea))), ai 3])))))))) := by kernel_rfl

theorem t89 (M X a : Nat) (ka ea n bh : Int) (ma : Nat) (na up : Bool) : tree Try.prog 3 [cOpen (PA ka na ea ma) 0, cNaN M X, (94, fun _ => some (.tup [au n, ai bh])), cPack M X] 89 [FM M X, LU a, LB up] =
    Tr.call 93 [LV.agg [si (M : Int), si (X : Int)], LU (a : Int)] (LV.tup [AV.agg [si ka, sb na, si ea, su (ma : Int)], ai 0]) (br (ka == 4) (Tr.call 65 [LV.agg [si (M : Int), si (X :
    Int)]] (LU (((Fl.nanc M X : Nat) : Int))) (Tr.ret (LV.tup [au (((Fl.nanc M X : Nat) : Int)), ai 0]))) (br (ka != 2) (Tr.ret (LV.tup [au (a : Int), ai 0])) (br (decide (ea ≥ 0))
    (Tr.ret (LV.tup [au (a : Int), ai 0])) (Tr.call 94 [LV.agg [si ka, sb na, si ea, su (ma : Int)]] (LV.tup [au n, ai bh]) (br (decide (bh > 0)) (br (!na == up) (Tr.call 69
    [LV.agg [si (M : Int), si (X : Int)], LB na, LU 0, LU (IntKind.u64.wrap (n + 1)), LI 0, LB false] (LV.tup [au (((packN M X na (Int.toNat 0 * 2 ^ 64 + (IntKind.u64.wrap (n +
    1)).toNat) 0 false : Nat) : Int)), ai 0]) (Tr.ret (LV.tup [au (((packN M X na (Int.toNat 0 * 2 ^ 64 + (IntKind.u64.wrap (n + 1)).toNat) 0 false : Nat) : Int)), ai 0])))
    (Tr.call 69 [LV.agg [si (M : Int), si (X : Int)], LB na, LU 0, LU n, LI 0, LB false] (LV.tup [au (((packN M X na (Int.toNat 0 * 2 ^ 64 + n.toNat) 0 false : Nat) : Int)), ai 0])
    (Tr.ret (LV.tup [au (((packN M X na (Int.toNat 0 * 2 ^ 64 + n.toNat) 0 false : Nat) : Int)), ai 0])))) (Tr.call 69 [LV.agg [si (M : Int), si (X : Int)], LB na, LU 0, LU n, LI
    0, LB false] (LV.tup [au (((packN M X na (Int.toNat 0 * 2 ^ 64 + n.toNat) 0 false : Nat) : Int)), ai 0]) (Tr.ret (LV.tup [au (((packN M X na (Int.toNat 0 * 2 ^ 64 + n.toNat) 0
    false : Nat) : Int)), ai 0])))))))) := by kernel_rfl

theorem t89b (m x : Int) (a : Nat) (up : Bool) : tree Try.prog 3 [cOpen (PA 0 false 0 0) 1] 89 [FM m x, LU a, LB up] =
    Tr.call 93 [LV.agg [si m, si x], LU (a : Int)] (LV.tup [AV.agg [si 0, sb false, si 0, su 0], ai 1]) (Tr.ret (LV.tup [au 0, ai 1])) := by kernel_rfl

theorem t33 (M X a : Nat) (R E : Int) : tree Try.prog 3 [(89, fun _ => some (.tup [au R, ai E]))] 33 [FM M X, LU a] =
    Tr.call 89 [LV.agg [si (M : Int), si (X : Int)], LU (a : Int), LB true] (LV.tup [au R, ai E]) (Tr.ret (LV.tup [au R, ai E])) := by kernel_rfl

theorem t33b (m x : Int) (a : Nat) (R E : Int) : tree Try.prog 3 [(89, fun _ => some (.tup [au R, ai E]))] 33 [FM m x, LU a] =
    Tr.call 89 [LV.agg [si m, si x], LU (a : Int), LB true] (LV.tup [au R, ai E]) (Tr.ret (LV.tup [au R, ai E])) := by kernel_rfl

theorem t32 (M X a : Nat) (R E : Int) : tree Try.prog 3 [(89, fun _ => some (.tup [au R, ai E]))] 32 [FM M X, LU a] =
    Tr.call 89 [LV.agg [si (M : Int), si (X : Int)], LU (a : Int), LB false] (LV.tup [au R, ai E]) (Tr.ret (LV.tup [au R, ai E])) := by kernel_rfl

theorem t32b (m x : Int) (a : Nat) (R E : Int) : tree Try.prog 3 [(89, fun _ => some (.tup [au R, ai E]))] 32 [FM m x, LU a] =
    Tr.call 89 [LV.agg [si m, si x], LU (a : Int), LB false] (LV.tup [au R, ai E]) (Tr.ret (LV.tup [au R, ai E])) := by kernel_rfl

theorem t80 (M X a : Nat) : tree Try.prog 3 [cZero M X] 80 [FM M X, LU a] =
    Tr.call 67 [LV.agg [si (M : Int), si (X : Int)], LB true] (LU (((Fl.sgn M X true : Nat) : Int))) (br (bits BinOp.and IntKind.u64 (a : Int) ((Fl.sgn M X true : Nat) : Int) != 0)
    (Tr.ret (LI (IntKind.i64.wrap (0 - IntKind.i64.wrap (bits BinOp.xor IntKind.u64 (a : Int) ((Fl.sgn M X true : Nat) : Int)))))) (Tr.ret (LI (IntKind.i64.wrap (a : Int))))) := by kernel_rfl

theorem t25b (m x : Int) (a b : Nat) : tree Try.prog 3 [cTwo (PA 0 false 0 0) (PA 0 false 0 0) 1] 25 [FM m x, LU a, LU b] =
    Tr.call 63 [LV.agg [si m, si x], LU (a : Int), LU (b : Int)] (LV.tup [AV.agg [si 0, sb false, si 0, su 0], AV.agg [si 0, sb false, si 0, su 0], ai 1]) (Tr.ret (LV.tup [ai 0, ab
    false, ai 1])) := by kernel_rfl

theorem t37 (M X a : Nat) (ka ea n bh : Int) (ma : Nat) (na near : Bool) : tree Try.prog 3 [cOpen (PA ka na ea ma) 0, cMul, (94, fun _ => some (.tup [au n, ai bh]))] 37 [FM M X, LU a, LB near] =
    Tr.call 93 [LV.agg [si (M : Int), si (X : Int)], LU (a : Int)] (LV.tup [AV.agg [si ka, sb na, si ea, su (ma : Int)], ai 0]) (br (ka == 1) (Tr.ret (LV.tup [au 0, ab na, ai 0])) (br
    (ka != 2) (Tr.ret (LV.tup [au 1099511627776, ab na, ai 0])) (br (decide (ea > 40)) (Tr.ret (LV.tup [au 1099511627776, ab na, ai 0])) (br (decide (ea ≥ 0)) (br (decide (ea < 0))
    Tr.bad (Tr.call 68 [LU (ma : Int), LU (shl IntKind.u64 1 ea)] (LV.tup [au (((((ma : Int)).toNat * (shl IntKind.u64 1 ea).toNat / 2 ^ 64 : Nat) : Int)), au (((((ma : Int)).toNat
    * (shl IntKind.u64 1 ea).toNat % 2 ^ 64 : Nat) : Int))]) (br (decide (((((ma : Int)).toNat * (shl IntKind.u64 1 ea).toNat / 2 ^ 64 : Nat) : Int) > 0)) (Tr.ret (LV.tup [au (if
    1099511627776 < 1099511627776 then 1099511627776 else 1099511627776), ab na, ai 0])) (Tr.ret (LV.tup [au (if 1099511627776 < ((((ma : Int)).toNat * (shl IntKind.u64 1 ea).toNat
    % 2 ^ 64 : Nat) : Int) then 1099511627776 else ((((ma : Int)).toNat * (shl IntKind.u64 1 ea).toNat % 2 ^ 64 : Nat) : Int)), ab na, ai 0]))))) (Tr.call 94 [LV.agg [si ka, sb na,
    si ea, su (ma : Int)]] (LV.tup [au n, ai bh]) (br near (br (decide (bh ≥ 2)) (Tr.ret (LV.tup [au (if 1099511627776 < IntKind.u64.wrap (n + 1) then 1099511627776 else
    IntKind.u64.wrap (n + 1)), ab na, ai 0])) (Tr.ret (LV.tup [au (if 1099511627776 < n then 1099511627776 else n), ab na, ai 0]))) (Tr.ret (LV.tup [au (if 1099511627776 < n then
    1099511627776 else n), ab na, ai 0])))))))) := by kernel_rfl

theorem t37b (m x : Int) (a : Nat) (near : Bool) : tree Try.prog 3 [cOpen (PA 0 false 0 0) 1] 37 [FM m x, LU a, LB near] =
    Tr.call 93 [LV.agg [si m, si x], LU (a : Int)] (LV.tup [AV.agg [si 0, sb false, si 0, su 0], ai 1]) (Tr.ret (LV.tup [au 0, ab false, ai 1])) := by kernel_rfl

theorem t39 (M X M2 X2 a : Nat) (ka ea c : Int) (ma : Nat) (na : Bool) : tree Try.prog 3 [cOpen (PA ka na ea ma) 0, (98, fun _ => some (LI c)), cNaN M2 X2, cInf M2 X2, cPack M2 X2] 39 [FM M X, FM M2 X2, LU a] =
    Tr.call 93 [LV.agg [si (M : Int), si (X : Int)], LU (a : Int)] (LV.tup [AV.agg [si ka, sb na, si ea, su (ma : Int)], ai 0]) (Tr.call 98 [LV.agg [si (M2 : Int), si (X2 : Int)]] (LI
    c) (br (c != 0) (Tr.ret (LV.tup [au 0, ai 1])) (br (ka == 4) (Tr.call 65 [LV.agg [si (M2 : Int), si (X2 : Int)]] (LU (((Fl.nanc M2 X2 : Nat) : Int))) (Tr.ret (LV.tup [au
    (((Fl.nanc M2 X2 : Nat) : Int)), ai 0]))) (br (ka == 3) (Tr.call 66 [LV.agg [si (M2 : Int), si (X2 : Int)], LB na] (LU (((Fl.infc M2 X2 + Fl.sgn M2 X2 na : Nat) : Int)))
    (Tr.ret (LV.tup [au (((Fl.infc M2 X2 + Fl.sgn M2 X2 na : Nat) : Int)), ai 0]))) (Tr.call 69 [LV.agg [si (M2 : Int), si (X2 : Int)], LB na, LU 0, LU (ma : Int), LI ea, LB false]
    (LV.tup [au (((packN M2 X2 na (Int.toNat 0 * 2 ^ 64 + ((ma : Int)).toNat) ea false : Nat) : Int)), ai 0]) (Tr.ret (LV.tup [au (((packN M2 X2 na (Int.toNat 0 * 2 ^ 64 + ((ma :
    Int)).toNat) ea false : Nat) : Int)), ai 0]))))))) := by kernel_rfl

theorem t39b (m x m2 x2 : Int) (a : Nat) : tree Try.prog 3 [cOpen (PA 0 false 0 0) 1] 39 [FM m x, FM m2 x2, LU a] =
    Tr.call 93 [LV.agg [si m, si x], LU (a : Int)] (LV.tup [AV.agg [si 0, sb false, si 0, su 0], ai 1]) (Tr.ret (LV.tup [au 0, ai 1])) := by kernel_rfl

theorem t39c (m x m2 x2 : Int) (a : Nat) (k e mm : Int) (s : Bool) : tree Try.prog 3 [cOpen (PA k s e mm) 0, (98, fun _ => some (LI 1))] 39 [FM m x, FM m2 x2, LU a] =
    Tr.call 93 [LV.agg [si m, si x], LU (a : Int)] (LV.tup [AV.agg [si k, sb s, si e, su mm], ai 0]) (Tr.call 98 [LV.agg [si m2, si x2]] (LI 1) (Tr.ret (LV.tup [au 0, ai 1]))) := by kernel_rfl
/-! ### Sub -/
def turnN (M X b : Nat) : Nat := if 2^(X+M) ≤ b then b - 2^(X+M) else b + 2^(X+M)
theorem turn_lt {b : Nat} (hb : b < 2^(1+X+M)) : turnN M X b < 2^(1+X+M) := by
  have : 2^(1+X+M) = 2 * 2^(X+M) := by rw [show 1+X+M = X+M+1 by omega, Nat.pow_succ']
  unfold turnN; split <;> omega
theorem turn_xor {b : Nat} (hb : b < 2^(1+X+M)) : b ^^^ 2^(X+M) = turnN M X b := by
  have h2 : 2^(1+X+M) = 2^(X+M) + 2^(X+M) := by rw [show 1+X+M = X+M+1 by omega, Nat.pow_succ']; omega
  unfold turnN
  split
  · rename_i h
    obtain ⟨c, rfl⟩ : ∃ c, b = 2^(X+M) + c := ⟨b - 2^(X+M), by omega⟩
    have hc : c < 2^(X+M) := by omega
    rw [Nat.add_sub_cancel_left]
    apply Nat.eq_of_testBit_eq
    intro i
    rw [Nat.testBit_xor, Nat.testBit_two_pow]
    by_cases e : X + M = i
    · subst e
      rw [Nat.testBit_two_pow_add_eq, Nat.testBit_lt_two_pow hc]; simp
    · rcases Nat.lt_or_gt_of_ne e with l | l
      · have h1 : (2^(X+M) + c).testBit i = false := Nat.testBit_lt_two_pow (Nat.lt_of_lt_of_le hb (pow_le (by omega)))
        have h2 : c.testBit i = false := Nat.testBit_lt_two_pow (Nat.lt_of_lt_of_le hc (pow_le (by omega)))
        rw [h1, h2]; simp [e]
      · rw [Nat.testBit_two_pow_add_gt l]; simp [e]
  · rename_i h
    have hc : b < 2^(X+M) := by omega
    apply Nat.eq_of_testBit_eq
    intro i
    rw [Nat.add_comm b, Nat.testBit_xor, Nat.testBit_two_pow]
    by_cases e : X + M = i
    · subst e
      rw [Nat.testBit_two_pow_add_eq, Nat.testBit_lt_two_pow hc]; simp
    · rcases Nat.lt_or_gt_of_ne e with l | l
      · have h1 : (2^(X+M) + b).testBit i = false := Nat.testBit_lt_two_pow (Nat.lt_of_lt_of_le (show _ < 2^(1+X+M) by omega) (pow_le (by omega)))
        have h2 : b.testBit i = false := Nat.testBit_lt_two_pow (Nat.lt_of_lt_of_le hc (pow_le (by omega)))
        rw [h1, h2]; simp [e]
      · rw [Nat.testBit_two_pow_add_gt l]; simp [e]
theorem sgn_true (M X : Nat) : sgn M X true = 2^(X+M) := by unfold sgn; rw [if_pos rfl]
theorem sgn_false (M X : Nat) : sgn M X false = 0 := by unfold sgn; rw [if_neg (by decide)]
theorem sgn64 (hf : Okf M X) : 2^(X+M) < 2^64 := pow_lt (by have := hf.m2; have := hf.x2; omega)
theorem bits_turn (hf : Okf M X) {b : Nat} (hb : b < 2^(1+X+M)) : bits .xor .u64 (b : Int) (sgn M X true : Nat) = (turnN M X b : Nat) := by
  rw [sgn_true, xor64 (Fl.a64 hf.ok hb) (sgn64 hf), turn_xor hb]
def subN (M X a b : Nat) : Nat := addN M X a (turnN M X b)
theorem sub_cn (hf : Okf M X) {a b : Nat} (ha : a < 2^(1+X+M)) (hb : b < 2^(1+X+M)) : Cp 40 [FM M X, LU a, LU b] (.tup [au (subN M X a b : Nat), ai 0]) := by
  refine cp_of (t40 M X a b _ _ _ (subN M X a b : Nat) 0 _) ⟨open_cn hf b hb, zero_cn hf true, ?_, rfl⟩
  rw [bits_turn hf hb]
  exact add_cn hf ha (turn_lt hb)
theorem sub_bad {m x : Int} {a b : Nat} (ha : a < 2^64) (hb : b < 2^64) (h : Bad m x a ∨ Bad m x b) : Cp 40 [FM m x, LU a, LU b] (.tup [au 0, ai 1]) := by
  by_cases hbad : Bad m x b
  · exact cp_of (t40b m x a b) ⟨openbad_cn m x b hb hbad, rfl⟩
  · obtain ⟨M, X, rfl, rfl, hf, hlt⟩ : ∃ M X : Nat, m = M ∧ x = X ∧ Okf M X ∧ b < 2^(1+X+M) := by
      unfold Bad at hbad
      refine Classical.byContradiction fun hn => hbad fun M X h1 h2 hf => ?_
      rcases Nat.lt_or_ge b (2^(1+X+M)) with l | l
      · exact absurd ⟨M, X, h1, h2, hf, l⟩ hn
      · exact l
    refine cp_of (t40c M X a b _ _ _ _) ⟨open_cn hf b hlt, zero_cn hf true, ?_, rfl⟩
    rw [bits_turn hf hlt]
    exact add_bad ha (Fl.a64 hf.ok (turn_lt hlt)) (.inl (h.resolve_right hbad))
/-! ### whole, step, Ceil, Floor -/
def bhd (m k : Nat) : Nat := if m % 2^k = 0 then 0 else if 2*(m % 2^k) < 2^k then 1 else if 2*(m % 2^k) = 2^k then 2 else 3
theorem whole_cn (ka : Int) (na : Bool) {ea : Int} {ma k : Nat} (hk : 0 < k) (hk2 : k ≤ 2000) (e : ea = -(k : Int)) (h0 : 0 < ma) (hm : ma < 2^53) : Cp 94 [PL ka na ea ma] (.tup [au (ma / 2^k : Nat), ai (bhd ma k : Nat)]) := by
  subst e
  refine cp_of (t94 ka (-(k : Int)) ma na) ?_
  rw [show (0 : Int) - -(k : Int) = k by omega, i64_in (n := (k : Int)) (by omega) (by omega)]
  refine WT.br (fun h => ?_) (fun h => ?_)
  · have h : 63 < k := by have := of_decide_eq_true h; omega
    have h1 : ma < 2^k := Nat.lt_of_lt_of_le hm (pow_le (by omega))
    have h2 : 2 * ma < 2^k := by
      have : 2 * ma < 2^54 := by omega
      exact Nat.lt_of_lt_of_le this (pow_le (by omega))
    rw [Nat.div_eq_of_lt h1]
    unfold bhd
    rw [Nat.mod_eq_of_lt h1, if_neg (by omega), if_pos h2]; rfl
  · have h : k ≤ 63 := by have := of_decide_eq_false h; omega
    have hn : ∀ {x y : Tr} {r : LV}, Wt r y → Wt r (br (decide ((k : Int) < 0)) x y) := fun h => WT.br (fun h2 => absurd (of_decide_eq_true h2) (by omega)) (fun _ => h)
    have e1 : shl .u64 1 k = (2^k : Nat) := by
      have := shl_u64 1 k
      rw [Nat.one_mul, Nat.mod_eq_of_lt (pow_lt (by omega))] at this
      exact this
    have hp := two_pow_pos k
    have hk64 : 2^k < 2^64 := pow_lt (by omega)
    have e2 : bits .and .u64 (ma : Int) (IntKind.u64.wrap (shl .u64 1 k - 1)) = (ma % 2^k : Nat) := by
      rw [e1, show ((2^k : Nat) : Int) - 1 = ((2^k - 1 : Nat) : Int) from sub_cast hp, u64_nat (by omega), and64 (by omega) (by omega), and_mask]
    have e3 : shr .u64 (shl .u64 1 k) 1 = (2^(k-1) : Nat) := by
      have h := shr_u64 (2^k) 1 (by decide)
      rw [e1]
      refine Eq.trans h ?_
      obtain ⟨j, rfl⟩ : ∃ j, k = j + 1 := ⟨k - 1, by omega⟩
      rw [Nat.add_sub_cancel, Nat.pow_succ, Nat.pow_one, Nat.mul_div_cancel _ (by decide)]
    have e4 : 2^k = 2 * 2^(k-1) := by
      obtain ⟨j, rfl⟩ : ∃ j, k = j + 1 := ⟨k - 1, by omega⟩
      rw [Nat.add_sub_cancel, Nat.pow_succ']
    rw [e2, e3, shr_u64 ma k (by omega)]
    unfold bhd
    generalize ma / 2^k = q
    generalize ma % 2^k = r
    refine hn (hn (WT.br (fun h => hn ?_) (fun h => WT.br (fun h2 => hn ?_) (fun h2 => WT.br (fun h3 => hn ?_) (fun h3 => hn ?_)))))
    · rw [if_pos (by simpa using h)]; rfl
    · have h2 := of_decide_eq_true h2
      rw [if_neg (by simpa using h), if_pos (by omega)]; rfl
    · have h3 : r = 2^(k-1) := by
        have : (r : Int) = (2^(k-1) : Nat) := by simpa using h3
        omega
      rw [if_neg (by simpa using h), if_neg (by omega), if_pos (by omega)]; rfl
    · have h2 := of_decide_eq_false h2
      have h3 : r ≠ 2^(k-1) := by intro e; subst e; simp at h3
      rw [if_neg (by simpa using h), if_neg (by omega), if_neg (by omega)]; rfl
def stepN (M X a : Nat) (up : Bool) : Nat :=
  if kd M X a = 4 then nanc M X else if kd M X a ≠ 2 ∨ 0 ≤ ex M X a then a else
    sgn M X (ng M X a) + near M X (mn M X a / 2^(-ex M X a).toNat + if mn M X a % 2^(-ex M X a).toNat ≠ 0 ∧ ng M X a ≠ up then 1 else 0) 1 0
theorem bhd_pos (m k : Nat) : 0 < bhd m k ↔ m % 2^k ≠ 0 := by
  unfold bhd; split
  · simp_all
  · split
    · simp_all
    · split <;> simp_all
theorem step_cn (hf : Okf M X) {a : Nat} (ha : a < 2^(1+X+M)) (up : Bool) : Cp 89 [FM M X, LU a, LB up] (.tup [au (stepN M X a up : Nat), ai 0]) := by
  refine cp_of (t89 M X a (kd M X a : Nat) (ex M X a) (mn M X a / 2^(-ex M X a).toNat : Nat) (bhd (mn M X a) (-ex M X a).toNat : Nat) (mn M X a) (ng M X a) up) ⟨open_cn hf a ha, ?_⟩
  obtain ⟨b1, b2⟩ := ex_bounds hf.ok a
  unfold stepN
  refine WT.br (fun h => ?_) (fun h => ?_)
  · rw [if_pos (by have : (kd M X a : Int) = 4 := by simpa using h
                   omega)]
    exact ⟨nan_cn hf, rfl⟩
  · rw [if_neg (by intro e; rw [e] at h; cases h)]
    refine WT.br (fun h2 => ?_) (fun h2 => ?_)
    · rw [if_pos (.inl (by intro e; rw [e] at h2; cases h2))]; rfl
    · have h2 : kd M X a = 2 := by
        have : (kd M X a : Int) = 2 := by simpa using h2
        omega
      refine WT.br (fun h3 => ?_) (fun h3 => ?_)
      · rw [if_pos (.inr (of_decide_eq_true h3))]; rfl
      · have h3 : ¬ 0 ≤ ex M X a := of_decide_eq_false h3
        rw [if_neg (by simp [h2]; omega)]
        have hm := mn_lt53 (a := a) hf.ok
        have hp := mn_pos h2
        refine ⟨whole_cn _ _ (by omega) (by omega) (by omega) hp hm, ?_⟩
        have hb := bhd_pos (mn M X a) (-ex M X a).toNat
        have hq : mn M X a / 2^(-ex M X a).toNat < 2^53 := Nat.lt_of_le_of_lt (Nat.div_le_self _ _) hm
        generalize mn M X a / 2^(-ex M X a).toNat = q at *
        generalize mn M X a % 2^(-ex M X a).toNat = r at *
        generalize bhd (mn M X a) (-ex M X a).toNat = bh at *
        have key : ∀ (n : Nat) (z : Int), z = n → n < 2^64 → Wt (.tup [au (sgn M X (ng M X a) + near M X n 1 0 : Nat), ai 0]) (pk M X (ng M X a) 0 z 0 false) := fun n z hz hn =>
          pk_wt hf 0 n rfl hz (by decide) hn (by decide) (by decide) (fun h => by cases h) (by rw [packN_f, Nat.zero_mul, Nat.zero_add])
        refine WT.br (fun h4 => WT.br (fun h5 => ?_) (fun h5 => ?_)) (fun h4 => ?_)
        · have h4 := of_decide_eq_true h4
          have h5 : ng M X a ≠ up := by intro e; rw [e] at h5; simp at h5
          rw [if_pos ⟨hb.1 (by omega), h5⟩]
          exact key (q+1) _ (by rw [show (q : Int) + 1 = ((q+1 : Nat) : Int) from rfl]; exact u64_nat (by omega)) (by omega)
        · have h5 : ng M X a = up := by
            revert h5; cases ng M X a <;> cases up <;> simp
          rw [if_neg (fun h => h.2 h5)]
          exact key q _ rfl (by omega)
        · have h4 := of_decide_eq_false h4
          rw [if_neg (fun h => by have := hb.2 h.1; omega)]
          exact key q _ rfl (by omega)
theorem step_bad {m x : Int} {a : Nat} (ha : a < 2^64) (h : Bad m x a) (up : Bool) : Cp 89 [FM m x, LU a, LB up] (.tup [au 0, ai 1]) := cp_of (t89b m x a up) ⟨openbad_cn m x a ha h, rfl⟩
theorem ceil_cn (hf : Okf M X) {a : Nat} (ha : a < 2^(1+X+M)) : Cp 33 [FM M X, LU a] (.tup [au (stepN M X a true : Nat), ai 0]) := cp_of (t33 M X a _ 0) ⟨step_cn hf ha true, rfl⟩
theorem floor_cn (hf : Okf M X) {a : Nat} (ha : a < 2^(1+X+M)) : Cp 32 [FM M X, LU a] (.tup [au (stepN M X a false : Nat), ai 0]) := cp_of (t32 M X a _ 0) ⟨step_cn hf ha false, rfl⟩
theorem ceil_bad {m x : Int} {a : Nat} (ha : a < 2^64) (h : Bad m x a) : Cp 33 [FM m x, LU a] (.tup [au 0, ai 1]) := cp_of (t33b m x a _ 1) ⟨step_bad ha h true, rfl⟩
theorem floor_bad {m x : Int} {a : Nat} (ha : a < 2^64) (h : Bad m x a) : Cp 32 [FM m x, LU a] (.tup [au 0, ai 1]) := cp_of (t32b m x a _ 1) ⟨step_bad ha h false, rfl⟩
/-! ### place, Cmp -/
/-- A pattern's place in the order of all. -/
def plc (M X a : Nat) : Int := if 2^(X+M) ≤ a then -((a - 2^(X+M) : Nat) : Int) else a
theorem ge_of_and {a n : Nat} : a &&& 2^n ≠ 0 ↔ a / 2^n % 2 = 1 := and_bit a n
theorem place_cn (hf : Okf M X) {a : Nat} (ha : a < 2^(1+X+M)) : Cp 80 [FM M X, LU a] (LI (plc M X a)) := by
  refine cp_of (t80 M X a) ⟨zero_cn hf true, ?_⟩
  have ha64 := Fl.a64 hf.ok ha
  have hs := sgn64 hf
  have h2 : 2^(1+X+M) = 2 * 2^(X+M) := by rw [show 1+X+M = X+M+1 by omega, Nat.pow_succ']
  have h63 : 2^(X+M) ≤ 2^63 := pow_le (by have := hf.m2; have := hf.x2; omega)
  have hp := two_pow_pos (X+M)
  rw [sgn_true, and64 ha64 hs, xor64 ha64 hs, turn_xor ha]
  have hb : a &&& 2^(X+M) ≠ 0 ↔ 2^(X+M) ≤ a := by
    rw [and_bit]
    constructor
    · intro h
      refine Classical.byContradiction fun hn => ?_
      rw [Nat.div_eq_of_lt (by omega)] at h; cases h
    · intro h
      have : a / 2^(X+M) = 1 := by
        have h1 : 1 ≤ a / 2^(X+M) := (Nat.le_div_iff_mul_le hp).2 (by omega)
        have h3 : a / 2^(X+M) < 2 := by rw [Nat.div_lt_iff_lt_mul hp]; omega
        omega
      rw [this]
  unfold plc turnN
  refine WT.br (fun h => ?_) (fun h => ?_)
  · have h : 2^(X+M) ≤ a := hb.1 (by intro e; rw [e] at h; cases h)
    rw [if_pos h, if_pos h]
    have hlt : a - 2^(X+M) < 2^63 := by omega
    have hlt' : ((a - 2^(X+M) : Nat) : Int) < 9223372036854775808 := by omega
    generalize a - 2^(X+M) = c at *
    rw [i64_in (n := (c : Int)) (by omega) (by omega), i64_in (n := 0 - (c : Int)) (by omega) (by omega), Int.zero_sub]; rfl
  · have h : ¬ 2^(X+M) ≤ a := fun hh => by
      have := hb.2 hh
      have e : ((a &&& 2^(X+M) : Nat) : Int) = 0 := by simpa using h
      omega
    rw [if_neg h]
    have hlt : a < 2^63 := by omega
    rw [i64_in (n := (a : Int)) (by omega) (by omega)]; rfl
def cmpI (x y : Int) : Int := if x < y then -1 else if y < x then 1 else 0
def oddN (M X a b : Nat) : Bool := oddB (kd M X a : Nat) (kd M X b : Nat)
def cmpN (M X a b : Nat) : Int := if oddN M X a b = true then 0 else cmpI (plc M X a) (plc M X b)
theorem t25 (M X a b : Nat) (ka kb ea eb ma mb : Int) (na nb : Bool) : tree Try.prog 3 [cTwo (PA ka na ea ma) (PA kb nb eb mb) 0, cOdd, (80, fun l => match l with | [_, .a (.s (.v (.int _ z)))] => some (LI (plc M X z.toNat)) | _ => none)] 25 [FM M X, LU a, LU b] =
    .call 63 [FM M X, LU a, LU b] (.tup [PA ka na ea ma, PA kb nb eb mb, ai 0]) (.call 64 [PL ka na ea ma, PL kb nb eb mb] (LB (oddB ka kb))
      (br (oddB ka kb) (.ret (.tup [ai 0, ab false, ai 0])) (.call 80 [FM M X, LU a] (LI (plc M X a)) (.call 80 [FM M X, LU b] (LI (plc M X b))
        (br (decide (plc M X a < plc M X b)) (.ret (.tup [ai (-1), ab true, ai 0])) (br (decide (plc M X a > plc M X b)) (.ret (.tup [ai 1, ab true, ai 0])) (.ret (.tup [ai 0, ab true, ai 0])))))))) := by kernel_rfl
theorem cmp_cn (hf : Okf M X) {a b : Nat} (ha : a < 2^(1+X+M)) (hb : b < 2^(1+X+M)) : Cp 25 [FM M X, LU a, LU b] (.tup [ai (cmpN M X a b), ab (!oddN M X a b), ai 0]) := by
  refine cp_of (t25 M X a b _ _ _ _ _ _ _ _) ⟨two_cn hf a b ha hb, odd_cn _ _ _ _ _ _ _ _, ?_⟩
  unfold cmpN oddN
  generalize oddB (kd M X a : Nat) (kd M X b : Nat) = od
  refine WT.br (fun h => ?_) (fun h => ?_)
  · subst h; rfl
  · subst h
    refine ⟨place_cn hf ha, place_cn hf hb, ?_⟩
    rw [if_neg (by decide)]
    unfold cmpI
    refine WT.br (fun h => ?_) (fun h => WT.br (fun h2 => ?_) (fun h2 => ?_))
    · rw [if_pos (of_decide_eq_true h)]; rfl
    · rw [if_neg (of_decide_eq_false h), if_pos (of_decide_eq_true h2)]; rfl
    · rw [if_neg (of_decide_eq_false h), if_neg (of_decide_eq_false h2)]; rfl
theorem cmp_bad {m x : Int} {a b : Nat} (ha : a < 2^64) (hb : b < 2^64) (h : Bad m x a ∨ Bad m x b) : Cp 25 [FM m x, LU a, LU b] (.tup [ai 0, ab false, ai 1]) := by
  refine cp_of (t25b m x a b) ⟨twobad_cn m x a b ha hb ?_, rfl⟩
  rintro M X rfl rfl hf ⟨h1, h2⟩
  rcases h with h | h
  · have := h M X rfl rfl hf; omega
  · have := h M X rfl rfl hf; omega
/-! ### Whole, Convert -/
def mx40 : Nat := 1099511627776
def wholeN (M X a : Nat) (near : Bool) : Nat :=
  if kd M X a = 1 then 0 else if kd M X a ≠ 2 ∨ 40 < ex M X a then mx40 else if 0 ≤ ex M X a then min (mn M X a * 2^(ex M X a).toNat) mx40 else
    min (mn M X a / 2^(-ex M X a).toNat + if near = true ∧ 2^(-ex M X a).toNat ≤ 2*(mn M X a % 2^(-ex M X a).toNat) then 1 else 0) mx40
theorem min40 (n : Nat) : (if (1099511627776 : Int) < n then (1099511627776 : Int) else n) = ((min n mx40 : Nat) : Int) := by
  unfold mx40; split <;> omega
theorem bhd_two (m k : Nat) : 2 ≤ bhd m k ↔ 2^k ≤ 2*(m % 2^k) := by
  have hp := two_pow_pos k
  unfold bhd; split
  · simp_all
  · split
    · omega
    · split <;> omega
theorem Whole_cn (hf : Okf M X) {a : Nat} (ha : a < 2^(1+X+M)) (near : Bool) : Cp 37 [FM M X, LU a, LB near] (.tup [au (wholeN M X a near : Nat), ab (ng M X a), ai 0]) := by
  refine cp_of (t37 M X a (kd M X a : Nat) (ex M X a) (mn M X a / 2^(-ex M X a).toNat : Nat) (bhd (mn M X a) (-ex M X a).toNat : Nat) (mn M X a) (ng M X a) near) ⟨open_cn hf a ha, ?_⟩
  obtain ⟨b1, b2⟩ := ex_bounds hf.ok a
  unfold wholeN
  refine WT.br (fun h => ?_) (fun h => ?_)
  · rw [if_pos (by have : (kd M X a : Int) = 1 := by simpa using h
                   omega)]; rfl
  · rw [if_neg (by intro e; rw [e] at h; cases h)]
    refine WT.br (fun h2 => ?_) (fun h2 => ?_)
    · rw [if_pos (.inl (by intro e; rw [e] at h2; cases h2))]; rfl
    · have h2 : kd M X a = 2 := by
        have : (kd M X a : Int) = 2 := by simpa using h2
        omega
      have hm := mn_lt53 (a := a) hf.ok
      have hp := mn_pos h2
      refine WT.br (fun h3 => ?_) (fun h3 => ?_)
      · rw [if_pos (.inr (of_decide_eq_true h3))]; rfl
      · have h3 : ¬ 40 < ex M X a := of_decide_eq_false h3
        rw [if_neg (by simp [h2]; omega)]
        refine WT.br (fun h4 => WT.br (fun h5 => absurd (of_decide_eq_true h5) (by have := of_decide_eq_true h4; omega)) (fun _ => ?_)) (fun h4 => ?_)
        · have h4 : 0 ≤ ex M X a := of_decide_eq_true h4
          rw [if_pos h4]
          obtain ⟨k, hk⟩ : ∃ k : Nat, ex M X a = k := ⟨(ex M X a).toNat, by omega⟩
          rw [hk] at h3 ⊢
          have e1 : shl .u64 1 (k : Int) = (2^k : Nat) := by
            have := shl_u64 1 k
            rw [Nat.one_mul, Nat.mod_eq_of_lt (pow_lt (by omega))] at this
            exact this
          rw [e1, show ((k : Int)).toNat = k from rfl]
          generalize mn M X a = m at *
          have hz : 2^k < 2^64 := pow_lt (by omega)
          refine ⟨mul_cn m (2^k) (by omega) hz, ?_⟩
          rw [show ((m : Int)).toNat = m from rfl, show (((2^k : Nat) : Int)).toNat = 2^k from rfl]
          generalize m * 2^k = q at *
          refine WT.br (fun h5 => ?_) (fun h5 => ?_)
          · have h5 := of_decide_eq_true h5
            have h6 : 2^64 ≤ q := by
              refine Classical.byContradiction fun hn => ?_
              rw [Nat.div_eq_of_lt (by omega)] at h5; exact absurd h5 (by decide)
            have : min q mx40 = mx40 := by unfold mx40; omega
            rw [this]; rfl
          · have h5 := of_decide_eq_false h5
            have h6 : q < 2^64 := by
              refine Classical.byContradiction fun hn => ?_
              have : 1 ≤ q / 2^64 := (Nat.le_div_iff_mul_le (by decide)).2 (by omega)
              omega
            rw [Nat.mod_eq_of_lt h6, min40]; rfl
        · have h4 : ¬ 0 ≤ ex M X a := of_decide_eq_false h4
          rw [if_neg h4]
          refine ⟨whole_cn _ _ (by omega) (by omega) (by omega) hp hm, ?_⟩
          have hb := bhd_two (mn M X a) (-ex M X a).toNat
          have hq : mn M X a / 2^(-ex M X a).toNat < 2^53 := Nat.lt_of_le_of_lt (Nat.div_le_self _ _) hm
          generalize mn M X a / 2^(-ex M X a).toNat = q at *
          generalize 2*(mn M X a % 2^(-ex M X a).toNat) = r at *
          generalize bhd (mn M X a) (-ex M X a).toNat = bh at *
          have e0 : ∀ n : Nat, n < 2^64 → IntKind.u64.wrap ((n : Int)) = n := fun n hn => u64_nat hn
          refine WT.br (fun h5 => WT.br (fun h6 => ?_) (fun h6 => ?_)) (fun h5 => ?_)
          · have h6 := of_decide_eq_true h6
            rw [if_pos ⟨h5, hb.1 (by omega)⟩, show (q : Int) + 1 = ((q+1 : Nat) : Int) from rfl, e0 _ (by omega), min40]; rfl
          · have h6 := of_decide_eq_false h6
            rw [if_neg (fun h => by have := hb.2 h.2; omega), min40]; rfl
          · rw [if_neg (fun h => by rw [h5] at h; exact absurd h.1 (by decide)), min40]; rfl
theorem Whole_bad {m x : Int} {a : Nat} (ha : a < 2^64) (h : Bad m x a) (near : Bool) : Cp 37 [FM m x, LU a, LB near] (.tup [au 0, ab false, ai 1]) := cp_of (t37b m x a near) ⟨openbad_cn m x a ha h, rfl⟩
def convN (M X M2 X2 a : Nat) : Nat :=
  if kd M X a = 4 then nanc M2 X2 else if kd M X a = 3 then infc M2 X2 + sgn M2 X2 (ng M X a) else sgn M2 X2 (ng M X a) + near M2 X2 (mn M X a) 1 (ex M X a)
theorem conv_cn {M2 X2 : Nat} (hf : Okf M X) (hg : Okf M2 X2) {a : Nat} (ha : a < 2^(1+X+M)) : Cp 39 [FM M X, FM M2 X2, LU a] (.tup [au (convN M X M2 X2 a : Nat), ai 0]) := by
  refine cp_of (t39 M X M2 X2 a (kd M X a : Nat) (ex M X a) 0 (mn M X a) (ng M X a)) ⟨open_cn hf a ha, check_cn hg, ?_⟩
  obtain ⟨b1, b2⟩ := ex_bounds hf.ok a
  have hm := mn_lt53 (a := a) hf.ok
  unfold convN
  refine WT.br (fun h => absurd h (by decide)) (fun _ => WT.br (fun h => ?_) (fun h => ?_))
  · rw [if_pos (by have : (kd M X a : Int) = 4 := by simpa using h
                   omega)]
    exact ⟨nan_cn hg, rfl⟩
  · rw [if_neg (by intro e; rw [e] at h; cases h)]
    refine WT.br (fun h2 => ?_) (fun h2 => ?_)
    · rw [if_pos (by have : (kd M X a : Int) = 3 := by simpa using h2
                     omega)]
      exact ⟨inf_cn hg _, rfl⟩
    · rw [if_neg (by intro e; rw [e] at h2; cases h2)]
      exact pk_wt hg 0 (mn M X a) rfl rfl (by decide) (by omega) (by omega) (by omega) (fun h => by cases h) (by rw [packN_f, Nat.zero_mul, Nat.zero_add])
theorem conv_bad {m x m2 x2 : Int} {a : Nat} (ha : a < 2^64) (h : Bad m x a) : Cp 39 [FM m x, FM m2 x2, LU a] (.tup [au 0, ai 1]) := cp_of (t39b m x m2 x2 a) ⟨openbad_cn m x a ha h, rfl⟩
theorem checkbad_cn (m x : Int) (hn : ¬ (2 ≤ m ∧ m ≤ 52 ∧ 2 ≤ x ∧ x ≤ 11)) : Cp 98 [FM m x] (LI 1) := Cn.of rfl rfl (check_err m x hn)
theorem conv_badg {m2 x2 : Int} {a : Nat} (hf : Okf M X) (ha : a < 2^(1+X+M)) (hn : ¬ (2 ≤ m2 ∧ m2 ≤ 52 ∧ 2 ≤ x2 ∧ x2 ≤ 11)) : Cp 39 [FM M X, FM m2 x2, LU a] (.tup [au 0, ai 1]) :=
  cp_of (t39c M X m2 x2 a _ _ _ _) ⟨open_cn hf a ha, checkbad_cn m2 x2 hn, rfl⟩
end Go.Proofs.Ytpliondhiahhnaa.K
