/- soft.root, Sqrt, divided, Mod: contracts. -/
import Derived.Test.YtpliondhiahhnaaC3
set_option linter.unusedVariables false
namespace Go.Proofs.Ytpliondhiahhnaa.K
open Sx Fl Go Go.RowKit
set_option maxRecDepth 100000
variable {M X : Nat}
def lsRoot (hi lo : Nat) : LS := ⟨[5, 6, 0, 1], fun x => [LU (x 0), LI (x 1), LU hi, LU lo],
  fun x => ∃ r j : Nat, x 0 = r ∧ x 1 = (j : Int) - 1 ∧ j ≤ 64 ∧ r % 2^j = 0 ∧ r < 2^64 ∧ r*r ≤ hi*2^64+lo ∧ hi*2^64+lo < (r+2^j)*(r+2^j), fun x => (x 1 + 1).toNat, fun _ => none, false, fun _ => []⟩
def lsDiv (m n D : Nat) : LS := ⟨[6, 7, 8, 9, 2, 1], fun x => [LU (x 0), LI (x 1), LB (x 2 == 1), LU (x 3), LI (x 4), LU n],
  fun x => ∃ q b c j : Nat, x 0 = q ∧ x 1 = b ∧ x 4 = (D : Int) - j ∧ j ≤ D ∧ x 3 = (m*2^j % n : Nat) ∧ m*2^j/n = q*2^b + c ∧ c < 2^b ∧ x 2 = (if c ≠ 0 then 1 else 0) ∧ q < 2^63 ∧ (b = 0 ∨ 2^62 ≤ q) ∧ b ≤ j, fun x => (x 4).toNat, fun _ => none, false, fun _ => []⟩
theorem t99 (hi lo : Nat) : treeL Try.prog 3 [cMul] [lsRoot hi lo] 99 [LU hi, LU lo] =
    Tr.loop (lsRoot hi lo) [LU 0, LI 63, LU (hi : Int), LU (lo : Int)] none fun (x : Nat → Int) (rest : List (Nat × LV)) => br (decide (x 1 ≥ 0)) (br (decide (x 1 < 0)) Tr.bad (Tr.call 68
    [LU (bits BinOp.or IntKind.u64 (x 0) (shl IntKind.u64 1 (x 1))), LU (bits BinOp.or IntKind.u64 (x 0) (shl IntKind.u64 1 (x 1)))] (LV.tup [au ((((bits BinOp.or IntKind.u64 (x 0)
    (shl IntKind.u64 1 (x 1))).toNat * (bits BinOp.or IntKind.u64 (x 0) (shl IntKind.u64 1 (x 1))).toNat / 2 ^ 64 : Nat) : Int)), au ((((bits BinOp.or IntKind.u64 (x 0) (shl
    IntKind.u64 1 (x 1))).toNat * (bits BinOp.or IntKind.u64 (x 0) (shl IntKind.u64 1 (x 1))).toNat % 2 ^ 64 : Nat) : Int))]) (br (decide ((((bits BinOp.or IntKind.u64 (x 0) (shl
    IntKind.u64 1 (x 1))).toNat * (bits BinOp.or IntKind.u64 (x 0) (shl IntKind.u64 1 (x 1))).toNat / 2 ^ 64 : Nat) : Int) < (hi : Int))) (Tr.again (lsRoot hi lo) [LU (bits
    BinOp.or IntKind.u64 (x 0) (shl IntKind.u64 1 (x 1))), LI (IntKind.i64.wrap (x 1 - 1)), LU (hi : Int), LU (lo : Int)] none x [] [] 39 39) (br ((((bits BinOp.or IntKind.u64 (x 0)
    (shl IntKind.u64 1 (x 1))).toNat * (bits BinOp.or IntKind.u64 (x 0) (shl IntKind.u64 1 (x 1))).toNat / 2 ^ 64 : Nat) : Int) == (hi : Int)) (br (decide ((((bits BinOp.or
    IntKind.u64 (x 0) (shl IntKind.u64 1 (x 1))).toNat * (bits BinOp.or IntKind.u64 (x 0) (shl IntKind.u64 1 (x 1))).toNat % 2 ^ 64 : Nat) : Int) ≤ (lo : Int))) (Tr.again (lsRoot
    hi lo) [LU (bits BinOp.or IntKind.u64 (x 0) (shl IntKind.u64 1 (x 1))), LI (IntKind.i64.wrap (x 1 - 1)), LU (hi : Int), LU (lo : Int)] none x [] [] 39 39) (Tr.again (lsRoot hi lo)
    [LU (x 0), LI (IntKind.i64.wrap (x 1 - 1)), LU (hi : Int), LU (lo : Int)] none x [] [] 39 39)) (Tr.again (lsRoot hi lo) [LU (x 0), LI (IntKind.i64.wrap (x 1 - 1)), LU (hi : Int), LU
    (lo : Int)] none x [] [] 39 39))))) (Tr.ret (LU (x 0))) := by kernel_rfl

theorem t126 (m n D : Nat) (d : Int) : treeL Try.prog 3 [] [lsDiv m n D] 126 [LU m, LU n, LI d] =
    br (decide ((n : Int) = 0)) Tr.bad (br (decide ((n : Int) = 0)) Tr.bad (Tr.loop (lsDiv m n D) [LU (IntKind.u64.wrap (((m : Int)).tdiv (n : Int))), LI 0, LB false, LU (((m : Int)).tmod
    (n : Int)), LI d, LU (n : Int)] none fun (x : Nat → Int) (rest : List (Nat × LV)) => br (decide (x 4 > 0)) (br (decide (shl IntKind.u64 (x 3) 1 ≥ (n : Int))) (br (shr IntKind.u64 (x
    0) 62 == 0) (Tr.again (lsDiv m n D) [LU (bits BinOp.or IntKind.u64 (shl IntKind.u64 (x 0) 1) 1), LI (x 1), LB (x 2 == 1), LU (IntKind.u64.wrap (shl IntKind.u64 (x 3) 1 - (n :
    Int))), LI (IntKind.i64.wrap (x 4 - 1)), LU (n : Int)] none x [] [] 47 47) (br (x 2 == 1) (Tr.again (lsDiv m n D) [LU (x 0), LI (IntKind.i64.wrap (x 1 + 1)), LB true, LU
    (IntKind.u64.wrap (shl IntKind.u64 (x 3) 1 - (n : Int))), LI (IntKind.i64.wrap (x 4 - 1)), LU (n : Int)] none x [] [] 47 47) (Tr.again (lsDiv m n D) [LU (x 0), LI (IntKind.i64.wrap (x 1
    + 1)), LB true, LU (IntKind.u64.wrap (shl IntKind.u64 (x 3) 1 - (n : Int))), LI (IntKind.i64.wrap (x 4 - 1)), LU (n : Int)] none x [] [] 47 47))) (br (shr IntKind.u64 (x 0) 62 == 0)
    (Tr.again (lsDiv m n D) [LU (bits BinOp.or IntKind.u64 (shl IntKind.u64 (x 0) 1) 0), LI (x 1), LB (x 2 == 1), LU (shl IntKind.u64 (x 3) 1), LI (IntKind.i64.wrap (x 4 - 1)), LU (n :
    Int)] none x [] [] 47 47) (br (x 2 == 1) (Tr.again (lsDiv m n D) [LU (x 0), LI (IntKind.i64.wrap (x 1 + 1)), LB true, LU (shl IntKind.u64 (x 3) 1), LI (IntKind.i64.wrap (x 4 - 1)), LU
    (n : Int)] none x [] [] 47 47) (Tr.again (lsDiv m n D) [LU (x 0), LI (IntKind.i64.wrap (x 1 + 1)), LB false, LU (shl IntKind.u64 (x 3) 1), LI (IntKind.i64.wrap (x 4 - 1)), LU (n : Int)] none
    x [] [] 47 47)))) (Tr.ret (LV.tup [au (x 0), ai (x 1), ab (x 2 == 1), au (x 3)])))) := by kernel_rfl

theorem t41b (m x : Int) (a : Nat) : tree Try.prog 3 [cOpen (PA 0 false 0 0) 1] 41 [FM m x, LU a] =
    Tr.call 93 [LV.agg [si m, si x], LU (a : Int)] (LV.tup [AV.agg [si 0, sb false, si 0, su 0], ai 1]) (Tr.ret (LV.tup [au 0, ai 1])) := by kernel_rfl

theorem t79 (M X a b : Nat) (ka kb ea eb : Int) (ma mb : Nat) (na nb od : Bool) (q1 q2 q4 : Int) (q3 : Bool) : tree Try.prog 3 [cTwo (PA ka na ea ma) (PA kb nb eb mb) 0, cOdd, cNaN M X, cZero M X, cPack M X, (126, fun _ => some (.tup [au q1, ai q2, ab q3, au q4]))] 79 [FM M X, LU a, LU b] =
    Tr.call 63 [LV.agg [si (M : Int), si (X : Int)], LU (a : Int), LU (b : Int)] (LV.tup [AV.agg [si ka, sb na, si ea, su (ma : Int)], AV.agg [si kb, sb nb, si eb, su (mb : Int)], ai
    0]) (Tr.call 64 [LV.agg [si ka, sb na, si ea, su (ma : Int)], LV.agg [si kb, sb nb, si eb, su (mb : Int)]] (LB (oddB ka kb)) (br (oddB ka kb) (Tr.call 65 [LV.agg [si (M : Int),
    si (X : Int)]] (LU (((Fl.nanc M X : Nat) : Int))) (Tr.call 65 [LV.agg [si (M : Int), si (X : Int)]] (LU (((Fl.nanc M X : Nat) : Int))) (Tr.ret (LV.tup [au (((Fl.nanc M X : Nat)
    : Int)), au (((Fl.nanc M X : Nat) : Int)), ai 0])))) (br (ka == 3) (Tr.call 65 [LV.agg [si (M : Int), si (X : Int)]] (LU (((Fl.nanc M X : Nat) : Int))) (Tr.call 65 [LV.agg [si
    (M : Int), si (X : Int)]] (LU (((Fl.nanc M X : Nat) : Int))) (Tr.ret (LV.tup [au (((Fl.nanc M X : Nat) : Int)), au (((Fl.nanc M X : Nat) : Int)), ai 0])))) (br (kb == 1)
    (Tr.call 65 [LV.agg [si (M : Int), si (X : Int)]] (LU (((Fl.nanc M X : Nat) : Int))) (Tr.call 65 [LV.agg [si (M : Int), si (X : Int)]] (LU (((Fl.nanc M X : Nat) : Int)))
    (Tr.ret (LV.tup [au (((Fl.nanc M X : Nat) : Int)), au (((Fl.nanc M X : Nat) : Int)), ai 0])))) (br (ka == 1) (Tr.call 67 [LV.agg [si (M : Int), si (X : Int)], LB (!na == nb)]
    (LU (((Fl.sgn M X !na == nb : Nat) : Int))) (Tr.ret (LV.tup [au (a : Int), au (((Fl.sgn M X !na == nb : Nat) : Int)), ai 0]))) (br (kb == 3) (Tr.call 67 [LV.agg [si (M : Int),
    si (X : Int)], LB (!na == nb)] (LU (((Fl.sgn M X !na == nb : Nat) : Int))) (Tr.ret (LV.tup [au (a : Int), au (((Fl.sgn M X !na == nb : Nat) : Int)), ai 0]))) (br (decide (ea <
    eb)) (br (decide (IntKind.i64.wrap (eb - ea) > 63)) (Tr.call 67 [LV.agg [si (M : Int), si (X : Int)], LB (!na == nb)] (LU (((Fl.sgn M X !na == nb : Nat) : Int))) (Tr.ret
    (LV.tup [au (a : Int), au (((Fl.sgn M X !na == nb : Nat) : Int)), ai 0]))) (br (decide (IntKind.i64.wrap (eb - ea) < 0)) Tr.bad (br (decide (shr IntKind.u64 ((ma : Int))
    (IntKind.i64.wrap (eb - ea)) < (mb : Int))) (Tr.call 67 [LV.agg [si (M : Int), si (X : Int)], LB (!na == nb)] (LU (((Fl.sgn M X !na == nb : Nat) : Int))) (Tr.ret (LV.tup [au (a
    : Int), au (((Fl.sgn M X !na == nb : Nat) : Int)), ai 0]))) (br (decide (IntKind.i64.wrap (eb - ea) < 0)) Tr.bad (br (decide (shl IntKind.u64 ((mb : Int)) (IntKind.i64.wrap (eb
    - ea)) = 0)) Tr.bad (Tr.call 69 [LV.agg [si (M : Int), si (X : Int)], LB (!na == nb), LU 0, LU (IntKind.u64.wrap (((ma : Int)).tdiv (shl IntKind.u64 ((mb : Int))
    (IntKind.i64.wrap (eb - ea))))), LI 0, LB false] (LV.tup [au (((packN M X (!na == nb) (Int.toNat 0 * 2 ^ 64 + (IntKind.u64.wrap (((ma : Int)).tdiv (shl IntKind.u64 ((mb : Int))
    (IntKind.i64.wrap (eb - ea))))).toNat) 0 false : Nat) : Int)), ai 0]) (br (decide (shl IntKind.u64 ((mb : Int)) (IntKind.i64.wrap (eb - ea)) = 0)) Tr.bad (Tr.call 69 [LV.agg
    [si (M : Int), si (X : Int)], LB na, LU 0, LU (((ma : Int)).tmod (shl IntKind.u64 ((mb : Int)) (IntKind.i64.wrap (eb - ea)))), LI ea, LB false] (LV.tup [au (((packN M X na
    (Int.toNat 0 * 2 ^ 64 + (((ma : Int)).tmod (shl IntKind.u64 ((mb : Int)) (IntKind.i64.wrap (eb - ea)))).toNat) ea false : Nat) : Int)), ai 0]) (Tr.ret (LV.tup [au (((packN M X
    na (Int.toNat 0 * 2 ^ 64 + (((ma : Int)).tmod (shl IntKind.u64 ((mb : Int)) (IntKind.i64.wrap (eb - ea)))).toNat) ea false : Nat) : Int)), au (((packN M X (!na == nb)
    (Int.toNat 0 * 2 ^ 64 + (IntKind.u64.wrap (((ma : Int)).tdiv (shl IntKind.u64 ((mb : Int)) (IntKind.i64.wrap (eb - ea))))).toNat) 0 false : Nat) : Int)), ai 0]))))))))))
    (Tr.call 126 [LU (ma : Int), LU (mb : Int), LI (IntKind.i64.wrap (ea - eb))] (LV.tup [au q1, ai q2, ab q3, au q4]) (Tr.call 69 [LV.agg [si (M : Int), si (X : Int)], LB (!na ==
    nb), LU 0, LU q1, LI q2, LB q3] (LV.tup [au (((packN M X (!na == nb) (Int.toNat 0 * 2 ^ 64 + q1.toNat) q2 q3 : Nat) : Int)), ai 0]) (Tr.call 69 [LV.agg [si (M : Int), si (X :
    Int)], LB na, LU 0, LU q4, LI eb, LB false] (LV.tup [au (((packN M X na (Int.toNat 0 * 2 ^ 64 + q4.toNat) eb false : Nat) : Int)), ai 0]) (Tr.ret (LV.tup [au (((packN M X na
    (Int.toNat 0 * 2 ^ 64 + q4.toNat) eb false : Nat) : Int)), au (((packN M X (!na == nb) (Int.toNat 0 * 2 ^ 64 + q1.toNat) q2 q3 : Nat) : Int)), ai 0])))))))))))) := by kernel_rfl

theorem t79b (m x : Int) (a b : Nat) : tree Try.prog 3 [cTwo (PA 0 false 0 0) (PA 0 false 0 0) 1] 79 [FM m x, LU a, LU b] =
    Tr.call 63 [LV.agg [si m, si x], LU (a : Int), LU (b : Int)] (LV.tup [AV.agg [si 0, sb false, si 0, su 0], AV.agg [si 0, sb false, si 0, su 0], ai 1]) (Tr.ret (LV.tup [au 0, au 0,
    ai 1])) := by kernel_rfl
/-! ### root -/
theorem sq_lt_sq {a b : Nat} (h : a * a < b * b) : a < b := by
  rcases Nat.lt_or_ge a b with l | l
  · exact l
  · exact absurd (Nat.mul_le_mul l l) (by omega)
theorem sq_uniq {r R N : Nat} (h1 : r*r ≤ N) (h2 : N < (r+1)*(r+1)) (h3 : R*R ≤ N) (h4 : N < (R+1)*(R+1)) : r = R := by
  have a := sq_lt_sq (Nat.lt_of_le_of_lt h1 h4)
  have b := sq_lt_sq (Nat.lt_of_le_of_lt h3 h2)
  omega
theorem mul_test {q hi lo : Nat} (hlo : lo < 2^64) : q ≤ hi*2^64+lo ↔ q / 2^64 < hi ∨ (q / 2^64 = hi ∧ q % 2^64 ≤ lo) := by
  have h := Nat.div_add_mod q (2^64)
  have h2 := Nat.mod_lt q (show 0 < 2^64 by decide)
  generalize q / 2^64 = a at *
  generalize q % 2^64 = b at *
  subst h
  constructor
  · intro h
    rcases Nat.lt_trichotomy a hi with l | l | l
    · exact .inl l
    · subst l; exact .inr ⟨rfl, by omega⟩
    · omega
  · rintro (h | ⟨rfl, h⟩) <;> omega
theorem root_cn {hi lo R : Nat} (h1 : hi < 2^64) (h2 : lo < 2^64) (r1 : R*R ≤ hi*2^64+lo) (r2 : hi*2^64+lo < (R+1)*(R+1)) : Cp 99 [LU hi, LU lo] (LU R) := by
  refine cpL_of (t99 hi lo) ⟨⟨fun i => if i = 0 then 0 else 63, rfl, ⟨0, 64, rfl, rfl, by decide, rfl, by decide, by omega, ?_⟩, rfl⟩, ?_⟩
  · have e : (0 + 2^64) * (0 + 2^64) = 2^64 * 2^64 := by rw [Nat.zero_add]
    rw [e]; omega
  rintro x rest ⟨r, j, hr, hj, hj64, hmod, hr64, hle, hlt⟩
  dsimp only
  rw [hr, hj]
  have e0 : ∀ {t : Tr} {u : Tr}, (j = 0 → Wt (LU R) u) → (0 < j → Wt (LU R) t) → Wt (LU R) (br (decide ((j : Int) - 1 ≥ 0)) t u) := fun a b =>
    WT.br (fun h => b (by have := of_decide_eq_true h; omega)) (fun h => a (by have := of_decide_eq_false h; omega))
  refine e0 (fun h => ?_) (fun h => ?_)
  · subst h
    have := sq_uniq hle hlt r1 r2
    subst this; rfl
  · obtain ⟨k, rfl⟩ : ∃ k, j = k + 1 := ⟨j - 1, by omega⟩
    have ek : ((k + 1 : Nat) : Int) - 1 = k := by omega
    rw [ek]
    refine WT.br (fun h => absurd (of_decide_eq_true h) (by omega)) (fun _ => ?_)
    have hp : 2^(k+1) = 2 * 2^k := Nat.pow_succ'
    have hpk := two_pow_pos k
    have hk64 : 2^k < 2^64 := pow_lt (by omega)
    have e1 : shl .u64 1 (k : Int) = (2^k : Nat) := by
      have := shl_u64 1 k
      rw [Nat.one_mul, Nat.mod_eq_of_lt hk64] at this
      exact this
    have e2 : bits .or .u64 (r : Int) (2^k : Nat) = (r + 2^k : Nat) := by
      rw [or64 hr64 hk64, or_add hmod (by omega)]
    have hfit : r + 2^(k+1) ≤ 2^64 := by
      have e64 : 2^64 = 2^(k+1) * 2^(63-k) := by rw [← Nat.pow_add]; congr 1; omega
      have er : r = 2^(k+1) * (r / 2^(k+1)) := by have := Nat.div_add_mod r (2^(k+1)); omega
      rw [e64, er, ← Nat.mul_succ]
      refine Nat.mul_le_mul_left _ ?_
      rw [e64, er] at hr64
      exact Nat.lt_of_mul_lt_mul_left hr64
    rw [e1, e2, show (((r + 2^k : Nat) : Int)).toNat = r + 2^k from rfl]
    have ht : r + 2^k < 2^64 := by omega
    refine ⟨mul_cn (r + 2^k) (r + 2^k) ht ht, ?_⟩
    have hT := mul_test (q := (r+2^k)*(r+2^k)) (hi := hi) h2
    have hm1 : (r + 2^k) % 2^k = 0 := by
      rw [Nat.add_mod_right]
      have er : r = 2^(k+1) * (r / 2^(k+1)) := by have := Nat.div_add_mod r (2^(k+1)); omega
      rw [er, Nat.pow_succ, Nat.mul_assoc, Nat.mul_mod_right]
    have hm2 : r % 2^k = 0 := by rw [← Nat.add_mod_right]; exact hm1
    have ew : IntKind.i64.wrap ((k : Int) - 1) = (k : Int) - 1 := i64_in (by omega) (by omega)
    have yes : (r+2^k)*(r+2^k) ≤ hi*2^64+lo → Wt (LU R) (Tr.again (lsRoot hi lo) [LU (r + 2^k : Nat), LI (IntKind.i64.wrap ((k : Int) - 1)), LU hi, LU lo] none x [] [] 39 39) := fun h => by
      rw [ew]
      refine ⟨⟨fun i => if i = 0 then (r + 2^k : Nat) else (k : Int) - 1, rfl, ⟨r + 2^k, k, rfl, rfl, by omega, hm1, ht, h, ?_⟩, ?_, rfl⟩, rfl, rfl⟩
      · rw [show r + 2^k + 2^k = r + 2^(k+1) by omega]; exact hlt
      · show ((k : Int) - 1 + 1).toNat < (x 1 + 1).toNat
        rw [hj]; omega
    have no : ¬ (r+2^k)*(r+2^k) ≤ hi*2^64+lo → Wt (LU R) (Tr.again (lsRoot hi lo) [LU r, LI (IntKind.i64.wrap ((k : Int) - 1)), LU hi, LU lo] none x [] [] 39 39) := fun h => by
      rw [ew]
      refine ⟨⟨fun i => if i = 0 then (r : Nat) else (k : Int) - 1, rfl, ⟨r, k, rfl, rfl, by omega, hm2, hr64, hle, by omega⟩, ?_, rfl⟩, rfl, rfl⟩
      show ((k : Int) - 1 + 1).toNat < (x 1 + 1).toNat
      rw [hj]; omega
    generalize (r+2^k)*(r+2^k) / 2^64 = a at *
    generalize (r+2^k)*(r+2^k) % 2^64 = b at *
    refine WT.br (fun h3 => yes (hT.2 (.inl (by have := of_decide_eq_true h3; omega)))) (fun h3 => WT.br (fun h4 => WT.br (fun h5 => ?_) (fun h5 => ?_)) (fun h4 => ?_))
    · have h4 : (a : Int) = hi := by simpa using h4
      exact yes (hT.2 (.inr ⟨by omega, by have := of_decide_eq_true h5; omega⟩))
    · have h3 := of_decide_eq_false h3
      have h5 := of_decide_eq_false h5
      exact no (fun h => by rcases hT.1 h with h | h <;> omega)
    · have h3 := of_decide_eq_false h3
      have h4 : (a : Int) ≠ hi := by intro e; rw [e] at h4; simp at h4
      exact no (fun h => by rcases hT.1 h with h | h <;> omega)
/-! ### divided -/
theorem dbl_div (A n : Nat) (hn : 0 < n) : (n ≤ 2*(A%n) → 2*A/n = 2*(A/n)+1 ∧ 2*A%n = 2*(A%n)-n) ∧ (2*(A%n) < n → 2*A/n = 2*(A/n) ∧ 2*A%n = 2*(A%n)) := by
  have h := Nat.div_add_mod A n
  have hr := Nat.mod_lt A hn
  generalize A/n = q at *
  generalize A%n = r at *
  have e1 : 2*A = n*(2*q) + 2*r := by rw [← h, Nat.mul_add]; ac_rfl
  constructor
  · intro c
    have e2 : 2*A = n*(2*q+1) + (2*r-n) := by rw [e1, Nat.mul_add, Nat.mul_one]; omega
    rw [e2, Nat.mul_add_div hn, Nat.mul_add_mod, Nat.div_eq_of_lt (by omega), Nat.mod_eq_of_lt (by omega)]
    exact ⟨rfl, rfl⟩
  · intro c
    rw [e1, Nat.mul_add_div hn, Nat.mul_add_mod, Nat.div_eq_of_lt c, Nat.mod_eq_of_lt c]
    exact ⟨rfl, rfl⟩
theorem rep_uniq {Q q b c q' b' c' : Nat} (h : Q = q*2^b+c) (hc : c < 2^b) (hq : q < 2^63) (hb : b = 0 ∨ 2^62 ≤ q) (h' : Q = q'*2^b'+c') (hc' : c' < 2^b') (hq' : q' < 2^63) (hb' : b' = 0 ∨ 2^62 ≤ q') : q = q' ∧ b = b' ∧ c = c' := by
  have key : ∀ {q b c q' b' c' : Nat}, Q = q*2^b+c → c < 2^b → q < 2^63 → Q = q'*2^b'+c' → (b' = 0 ∨ 2^62 ≤ q') → ¬ b < b' := by
    intro q b c q' b' c' h hc hq h' hb' hlt
    have h1 : 2^62 ≤ q' := by omega
    have h2 : 2^62 * 2^(b+1) ≤ q' * 2^b' := Nat.mul_le_mul h1 (pow_le hlt)
    have h3 : (q+1) * 2^b ≤ 2^63 * 2^b := Nat.mul_le_mul_right _ hq
    have h4 : 2^62 * 2^(b+1) = 2^63 * 2^b := by rw [← Nat.pow_add, ← Nat.pow_add]; congr 1; omega
    rw [Nat.add_mul] at h3
    omega
  have e : b = b' := by
    have := key h hc hq h' hb'
    have := key h' hc' hq' h hb
    omega
  subst e
  have h1 : q = q' := by
    have a := Nat.mul_add_div (two_pow_pos b) q c
    have b' := Nat.mul_add_div (two_pow_pos b) q' c'
    rw [Nat.div_eq_of_lt hc, Nat.mul_comm, ← h] at a
    rw [Nat.div_eq_of_lt hc', Nat.mul_comm, ← h'] at b'
    omega
  subst h1
  exact ⟨rfl, rfl, by omega⟩
theorem divided_cn {m n D : Nat} {d : Int} (hd : d = D) (hn : 0 < n) (hm : m < 2^53) (hn2 : n < 2^53) (hD : D ≤ 3000) {q b c : Nat} (hQ : m*2^D/n = q*2^b+c) (hc : c < 2^b) (hq : q < 2^63) (hb : b = 0 ∨ 2^62 ≤ q) :
    Cp 126 [LU m, LU n, LI d] (.tup [au q, ai b, ab (decide (c ≠ 0)), au (m*2^D % n : Nat)]) := by
  subst hd
  refine cpL_of (t126 m n D D) ?_
  have hz : ∀ {t u : Tr} {r : LV}, Wt r u → Wt r (br (decide ((n : Int) = 0)) t u) := fun h => WT.br (fun h2 => absurd (of_decide_eq_true h2) (by omega)) (fun _ => h)
  refine hz (hz ?_)
  have hq0 : m / n < 2^63 := Nat.lt_of_le_of_lt (Nat.div_le_self _ _) (by omega)
  have e1 : ((m : Int)).tdiv (n : Int) = (m / n : Nat) := rfl
  have e2 : ((m : Int)).tmod (n : Int) = (m % n : Nat) := rfl
  rw [e1, e2, u64_nat (by omega)]
  refine ⟨⟨fun i => if i = 0 then (m/n : Nat) else if i = 1 then 0 else if i = 2 then 0 else if i = 3 then (m % n : Nat) else D, rfl, ⟨m/n, 0, 0, 0, rfl, rfl, ?_, by omega, ?_, ?_, by decide, rfl, hq0, .inl rfl, by omega⟩, rfl⟩, ?_⟩
  · show (D : Int) = D - ((0 : Nat) : Int); omega
  · show ((m % n : Nat) : Int) = _; rw [Nat.pow_zero, Nat.mul_one]
  · rw [Nat.pow_zero, Nat.mul_one, Nat.mul_one, Nat.add_zero]
  rintro x rest ⟨q', b', c', j, h0, h1, h4, hj, h3, hQ', hc', h2, hq', hb', hbj⟩
  dsimp only
  rw [h0, h1, h4, h3]
  refine WT.br (fun hgo => ?_) (fun hend => ?_)
  · have hgo : j < D := by have := of_decide_eq_true hgo; omega
    have hr := Nat.mod_lt (m*2^j) hn
    have hA : m*2^(j+1) = 2*(m*2^j) := by rw [Nat.pow_succ]; ac_rfl
    obtain ⟨s1, s2⟩ := dbl_div (m*2^j) n hn
    rw [← hA] at s1 s2
    generalize hrr : m*2^j % n = rr at *
    generalize hqq : m*2^j / n = QQ at *
    have es : shl .u64 (rr : Int) 1 = (2*rr : Nat) := by
      have := shl_u64 rr 1
      rw [Nat.pow_one, Nat.mod_eq_of_lt (by omega)] at this
      rw [Nat.mul_comm]; exact this
    have eq62 : shr .u64 (q' : Int) 62 = (q' / 2^62 : Nat) := shr_u64 q' 62 (by decide)
    have eql : q' < 2^62 → shl .u64 (q' : Int) 1 = (2*q' : Nat) := fun h => by
      have := shl_u64 q' 1
      rw [Nat.pow_one, Nat.mod_eq_of_lt (by omega)] at this
      rw [Nat.mul_comm]; exact this
    have ei : IntKind.i64.wrap ((D : Int) - j - 1) = (D : Int) - (j + 1 : Nat) := by rw [i64_in (by omega) (by omega)]; omega
    have eb : IntKind.i64.wrap ((b' : Int) + 1) = (b' + 1 : Nat) := by rw [i64_in (by omega) (by omega)]; rfl
    have hmu : ∀ y : Nat → Int, y 4 = (D : Int) - (j + 1 : Nat) → (lsDiv m n D).mu y < (lsDiv m n D).mu x := fun y hy => by
      show (y 4).toNat < (x 4).toNat
      rw [hy, h4]; omega
    have p2 : 2^(b'+1) = 2 * 2^b' := Nat.pow_succ'
    rw [es, eq62, ei, eb]
    -- one more digit
    have go : ∀ (q2 b2 c2 r2 : Nat) (B : Bool) (u0 u1 u3 : Int), u0 = q2 → u1 = b2 → u3 = r2 → m*2^(j+1) % n = r2 → m*2^(j+1)/n = q2*2^b2+c2 → c2 < 2^b2 → B = decide (c2 ≠ 0) → q2 < 2^63 → (b2 = 0 ∨ 2^62 ≤ q2) → b2 ≤ j + 1 →
        Wt (.tup [au q, ai b, ab (decide (c ≠ 0)), au (m*2^D % n : Nat)]) (Tr.again (lsDiv m n D) [LU u0, LI u1, LB B, LU u3, LI ((D : Int) - (j + 1 : Nat)), LU n] none x [] [] 47 47) := by
      intro q2 b2 c2 r2 B u0 u1 u3 a0 a1 a3 a4 a5 a6 a7 a8 a9 a10
      subst a0 a1 a3 a7
      refine ⟨⟨fun i => if i = 0 then (q2 : Int) else if i = 1 then (b2 : Int) else if i = 2 then (if c2 ≠ 0 then 1 else 0) else if i = 3 then (r2 : Int) else (D : Int) - (j + 1 : Nat), ?_, ⟨q2, b2, c2, j + 1, rfl, rfl, rfl, hgo, ?_, a5, a6, rfl, a8, a9, a10⟩, hmu _ rfl, rfl⟩, rfl, rfl⟩
      · have : decide (c2 ≠ 0) = ((if c2 ≠ 0 then (1 : Int) else 0) == 1) := by by_cases h : c2 = 0 <;> simp [h]
        rw [this]; rfl
      · show (r2 : Int) = _; rw [a4]
    have hx2 : (x 2 == 1) = decide (c' ≠ 0) := by rw [h2]; by_cases h : c' = 0 <;> simp [h]
    rw [hx2]
    have lo62 : (((q' / 2^62 : Nat) : Int) == 0) = true → q' < 2^62 := fun h => by
      have h : ((q' / 2^62 : Nat) : Int) = 0 := by simpa using h
      have h : q' / 2^62 = 0 := by omega
      rcases Nat.lt_or_ge q' (2^62) with l | l
      · exact l
      · have := (Nat.le_div_iff_mul_le (show 0 < 2^62 by decide)).2 (by omega : 1 * 2^62 ≤ q'); omega
    have hi62 : (((q' / 2^62 : Nat) : Int) == 0) = false → 2^62 ≤ q' := fun h => by
      rcases Nat.lt_or_ge q' (2^62) with l | l
      · rw [Nat.div_eq_of_lt l] at h; cases h
      · exact l
    refine WT.br (fun hb1 => ?_) (fun hb0 => ?_)
    · have hb1 : n ≤ 2*rr := by have := of_decide_eq_true hb1; omega
      obtain ⟨s1, s3⟩ := s1 hb1
      have er : IntKind.u64.wrap ((2*rr : Nat) - (n : Int)) = (2*rr - n : Nat) := by rw [sub_cast hb1]; exact u64_nat (by omega)
      rw [er]
      refine WT.br (fun h62 => ?_) (fun h62 => ?_)
      · have hlt := lo62 h62
        have hb0 : b' = 0 := by omega
        subst hb0
        have hc0 : c' = 0 := by simpa using hc'
        subst hc0
        have eo : bits .or .u64 (shl .u64 (q' : Int) 1) 1 = (2*q'+1 : Nat) := by
          rw [eql hlt]
          refine Eq.trans (or64 (a := 2*q') (b := 1) (by omega) (by decide)) ?_
          rw [or_add (i := 1) (by omega) (by decide)]
        refine go (2*q'+1) 0 0 (2*rr-n) _ _ _ _ eo rfl rfl s3 (by rw [s1, hQ']; omega) (by decide) rfl (by omega) (.inl rfl) (by omega)
      · have hge := hi62 h62
        have e5 : m*2^(j+1)/n = q'*2^(b'+1)+(2*c'+1) := by rw [s1, hQ', p2]; rw [Nat.mul_add, Nat.mul_left_comm]; omega
        refine WT.br (fun _ => ?_) (fun _ => ?_)
        all_goals exact go q' (b'+1) (2*c'+1) (2*rr-n) true _ _ _ rfl rfl rfl s3 e5 (by omega) (by simp) hq' (.inr hge) (by omega)
    · have hb0 : 2*rr < n := by have := of_decide_eq_false hb0; omega
      obtain ⟨s1, s3⟩ := s2 hb0
      refine WT.br (fun h62 => ?_) (fun h62 => ?_)
      · have hlt := lo62 h62
        have hb0 : b' = 0 := by omega
        subst hb0
        have hc0 : c' = 0 := by simpa using hc'
        subst hc0
        have eo : bits .or .u64 (shl .u64 (q' : Int) 1) 0 = (2*q' : Nat) := by
          rw [eql hlt]
          refine Eq.trans (or64 (a := 2*q') (b := 0) (by omega) (by decide)) ?_
          rw [Nat.or_zero]
        exact go (2*q') 0 0 (2*rr) _ _ _ _ eo rfl rfl s3 (by rw [s1, hQ']; omega) (by decide) rfl (by omega) (.inl rfl) (by omega)
      · have hge := hi62 h62
        have e5 : m*2^(j+1)/n = q'*2^(b'+1)+(2*c') := by rw [s1, hQ', p2]; rw [Nat.mul_add, Nat.mul_left_comm]
        refine WT.br (fun hx => ?_) (fun hx => ?_)
        · exact go q' (b'+1) (2*c') (2*rr) true _ _ _ rfl rfl rfl s3 e5 (by omega) (by have := of_decide_eq_true hx; simp; omega) hq' (.inr hge) (by omega)
        · exact go q' (b'+1) (2*c') (2*rr) false _ _ _ rfl rfl rfl s3 e5 (by omega) (by have := of_decide_eq_false hx; simp; omega) hq' (.inr hge) (by omega)
  · have hend : j = D := by have := of_decide_eq_false hend; omega
    subst hend
    obtain ⟨rfl, rfl, rfl⟩ := rep_uniq hQ hc hq hb hQ' hc' hq' hb'
    have hx2 : (x 2 == 1) = decide (c ≠ 0) := by rw [h2]; by_cases h : c = 0 <;> simp [h]
    rw [hx2]; rfl
end Go.Proofs.Ytpliondhiahhnaa.K
