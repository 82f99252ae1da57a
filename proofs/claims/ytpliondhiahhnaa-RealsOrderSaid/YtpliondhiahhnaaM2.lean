/- PLAIN: what the machine's words come to, as natural numbers. No program. -/
import Derived.Laws.BitsLemmas
import Derived.IntWalk
import Derived.RowKit
namespace Fl
open Go Go.RowKit

theorem u64_nat {n : Nat} (h : n < 2^64) : IntKind.u64.wrap (n : Int) = n := IntWalk.u64_in _ ⟨by omega, by have : (2:Nat)^64 = 18446744073709551616 := rfl; omega⟩
theorem u64_mod (n : Nat) : IntKind.u64.wrap (n : Int) = ((n % 2^64 : Nat) : Int) := by
  simp [IntKind.wrap, IntKind.bits, IntKind.signed]
theorem pow_cast (k : Nat) : (2 : Int)^k = ((2^k : Nat) : Int) := by simp
theorem pow_lt {a b : Nat} (h : a < b) : 2^a < 2^b := Nat.pow_lt_pow_right (by decide) h
theorem pow_le {a b : Nat} (h : a ≤ b) : 2^a ≤ 2^b := Nat.pow_le_pow_right (by decide) h
theorem pow_pos' (n : Nat) : 0 < 2^n := Nat.pow_pos (by decide)
theorem u64_pow {k : Nat} (h : k < 64) : IntKind.u64.wrap (2^k) = ((2^k : Nat) : Int) := by rw [pow_cast]; exact u64_nat (pow_lt h)
theorem and64 {a b : Nat} (ha : a < 2^64) (hb : b < 2^64) : bits .and .u64 (a : Int) (b : Int) = ((a &&& b : Nat) : Int) :=
  (bits_nat .u64 64 (by decide) (fun n h0 h1 => IntWalk.u64_in _ ⟨h0, by have : (2:Int)^64 = 18446744073709551616 := rfl; omega⟩) a b ha hb).1
theorem or64 {a b : Nat} (ha : a < 2^64) (hb : b < 2^64) : bits .or .u64 (a : Int) (b : Int) = ((a ||| b : Nat) : Int) :=
  (bits_nat .u64 64 (by decide) (fun n h0 h1 => IntWalk.u64_in _ ⟨h0, by have : (2:Int)^64 = 18446744073709551616 := rfl; omega⟩) a b ha hb).2
theorem xor64 {a b : Nat} (ha : a < 2^64) (hb : b < 2^64) : bits .xor .u64 (a : Int) (b : Int) = ((a ^^^ b : Nat) : Int) := by
  have e1 : a % 2^64 = a := Nat.mod_eq_of_lt ha
  have e2 : b % 2^64 = b := Nat.mod_eq_of_lt hb
  have h : (BitVec.ofNat 64 a ^^^ BitVec.ofNat 64 b).toNat = a ^^^ b := by rw [BitVec.toNat_xor, BitVec.toNat_ofNat, BitVec.toNat_ofNat, e1, e2]
  simp only [bits, IntKind.bits, BitVec.ofInt_natCast]
  refine Eq.trans (congrArg (fun n : Nat => IntKind.u64.wrap (n : Int)) h) (u64_nat (Nat.xor_lt_two_pow ha hb))
theorem or_add {a b i : Nat} (ha : a % 2^i = 0) (hb : b < 2^i) : a ||| b = a + b := by
  have hq : a = 2 ^ i * (a / 2 ^ i) := by have := Nat.div_add_mod a (2 ^ i); omega
  rw [hq]; exact (Nat.two_pow_add_eq_or_of_lt hb (a / 2 ^ i)).symm
theorem sub_cast {a b : Nat} (h : b ≤ a) : (a : Int) - b = ((a - b : Nat) : Int) := (Int.ofNat_sub h).symm
/-- 1<<k - 1 as a word, k up to 64. -/
theorem u64_mask {k : Nat} (h : k ≤ 64) : IntKind.u64.wrap (IntKind.u64.wrap (2^k) - 1) = ((2^k - 1 : Nat) : Int) := by
  rcases Nat.lt_or_eq_of_le h with h | rfl
  · rw [u64_pow h, show ((2^k : Nat) : Int) - 1 = ((2^k - 1 : Nat) : Int) from sub_cast (pow_pos' k)]; exact u64_nat (by have := pow_lt h; omega)
  · rfl
theorem bne0 (n : Nat) : ((n : Int) != 0) = decide (n ≠ 0) := by
  by_cases h : n = 0
  · subst h; rfl
  · have : (n : Int) ≠ 0 := by omega
    simp [h]
theorem beq0 (n : Nat) : ((n : Int) == 0) = decide (n = 0) := by
  by_cases h : n = 0
  · subst h; rfl
  · have : (n : Int) ≠ 0 := by omega
    simp [h]
theorem and_mask (a k : Nat) : a &&& (2^k - 1) = a % 2^k := Nat.and_two_pow_sub_one_eq_mod a k
theorem and_bit (a k : Nat) : (a &&& 2^k ≠ 0) ↔ a / 2^k % 2 = 1 := by
  have h : a.testBit k = decide (a / 2^k % 2 = 1) := Nat.testBit_eq_decide_div_mod_eq
  constructor
  · intro hne
    refine Classical.byContradiction fun hb => hne ?_
    apply Nat.eq_of_testBit_eq
    intro i
    rw [Nat.testBit_and, Nat.testBit_two_pow, Nat.zero_testBit]
    by_cases e : k = i
    · subst e; rw [h]; simp [hb]
    · simp [e]
  · intro hb hz
    have h1 : (a &&& 2^k).testBit k = true := by rw [Nat.testBit_and, Nat.testBit_two_pow, h]; simp [hb]
    rw [hz, Nat.zero_testBit] at h1
    cases h1
theorem mod_div_bit (a k : Nat) : a % 2^(k+1) / 2^k % 2 = a / 2^k % 2 := by
  rw [Nat.pow_succ, Nat.mod_mul_right_div_self, Nat.mod_mod]
theorem mod_mod_pow (a k : Nat) : a % 2^(k+1) % 2^k = a % 2^k := by
  rw [Nat.pow_succ, Nat.mod_mul_right_mod]

/-! bits.Len64 -/
def bl (a : Nat) : Nat := if a = 0 then 0 else Nat.log2 a + 1
theorem bl_lt (a : Nat) : a < 2^(bl a) := by
  unfold bl; split
  · subst_vars; decide
  · exact Nat.lt_log2_self
theorem bl_le {a : Nat} (h : a ≠ 0) : 2^(bl a - 1) ≤ a := by
  unfold bl; rw [if_neg h]; exact Nat.log2_self_le h
theorem bl_pos {a : Nat} (h : a ≠ 0) : 1 ≤ bl a := by unfold bl; rw [if_neg h]; omega
theorem bl_uniq {a k : Nat} (h : a ≠ 0) (h1 : 2^k ≤ a) (h2 : a < 2^(k+1)) : bl a = k+1 := by
  unfold bl; rw [if_neg h, (Nat.log2_eq_iff h).2 ⟨h1, h2⟩]
theorem bl_le_iff {a k : Nat} : bl a ≤ k ↔ a < 2^k := by
  constructor
  · intro h; exact Nat.lt_of_lt_of_le (bl_lt a) (pow_le h)
  · intro h
    by_cases e : a = 0
    · subst e; simp [bl]
    · have h1 := bl_le e
      rcases Nat.lt_or_ge k (bl a) with h2 | h2
      · have : 2^k ≤ 2^(bl a - 1) := pow_le (by omega)
        omega
      · exact h2
theorem bl_shift {a k : Nat} (h : a / 2^k ≠ 0) : bl a = bl (a / 2^k) + k := by
  have h1 := bl_le h
  have h2 := bl_lt (a / 2^k)
  have hp := bl_pos h
  have hk := pow_pos' k
  have ha : a ≠ 0 := by intro e; subst e; simp at h
  have g1 : 2^(bl (a/2^k) - 1 + k) ≤ a := by
    rw [Nat.pow_add]; exact (Nat.le_div_iff_mul_le hk).1 h1
  have g2 : a < 2^(bl (a/2^k) - 1 + k + 1) := by
    rw [show bl (a/2^k) - 1 + k + 1 = bl (a/2^k) + k by omega, Nat.pow_add]
    exact (Nat.div_lt_iff_lt_mul hk).1 h2
  rw [bl_uniq ha g1 g2]; omega
end Fl
