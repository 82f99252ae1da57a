/- PLAIN: the long division of two words by one whose highest bit is set, digit by digit (base B = 2^32). -/
namespace Fl
/-- One digit: what is left, u, is below the divisor y = y1·B + y0; the next digit is v. q is not below the true digit; r = u - q·y1. -/
structure Dig (B y1 y0 u v q r : Nat) : Prop where
  ge : (u*B+v) / (y1*B+y0) ≤ q
  eq : q*y1 + r = u
theorem dig_start {B y1 y0 u v : Nat} (h1 : 0 < y1) (hv : v < B) : Dig B y1 y0 u v (u/y1) (u%y1) := by
  refine ⟨?_, by rw [Nat.mul_comm]; exact Nat.div_add_mod u y1⟩
  have hB : 0 < B := by omega
  have hy : 0 < y1*B+y0 := Nat.add_pos_left (Nat.mul_pos h1 hB) _
  refine Nat.le_of_lt_succ ((Nat.div_lt_iff_lt_mul hy).2 ?_)
  have h2 : u < (u/y1+1)*y1 := by
    have := Nat.div_add_mod u y1; have := Nat.mod_lt u h1
    rw [Nat.add_mul, Nat.one_mul, Nat.mul_comm]; omega
  have h3 : u*B + B ≤ (u/y1+1)*y1*B := by
    rw [← Nat.succ_mul]; exact Nat.mul_le_mul_right B h2
  have h4 : (u/y1+1)*y1*B ≤ (u/y1+1)*(y1*B+y0) := by
    rw [Nat.mul_assoc, Nat.mul_add]; omega
  show u*B+v < (u/y1+1) * (y1*B+y0)
  omega
theorem dig_stop {B y1 y0 u v q r : Nat} (hy : 0 < y1*B+y0) (h : Dig B y1 y0 u v q r) (ht : q*y0 ≤ B*r+v) : q = (u*B+v) / (y1*B+y0) := by
  refine Nat.le_antisymm ((Nat.le_div_iff_mul_le hy).2 ?_) h.ge
  rw [Nat.mul_add, ← Nat.mul_assoc, ← h.eq, Nat.add_mul, Nat.mul_comm r B]; omega
theorem dig_next {B y1 y0 u v q r : Nat} (hy : 0 < y1*B+y0) (h : Dig B y1 y0 u v (q+1) r) (ht : B*r+v < (q+1)*y0) : Dig B y1 y0 u v q (r+y1) := by
  refine ⟨Nat.le_of_lt_succ ((Nat.div_lt_iff_lt_mul hy).2 ?_), by have := h.eq; rw [Nat.add_mul, Nat.one_mul] at this; omega⟩
  show u*B+v < (q+1)*(y1*B+y0)
  rw [Nat.mul_add, ← Nat.mul_assoc, ← h.eq, Nat.add_mul ((q+1)*y1), Nat.mul_comm r B]; omega
/-- A digit from B on is too great. -/
theorem dig_big {B y1 y0 u v q r : Nat} (hu : u < y1*B+y0) (hv : v < B) (h : Dig B y1 y0 u v (q+1) r) (hq : B ≤ q+1) : Dig B y1 y0 u v q (r+y1) := by
  have hy : 0 < y1*B+y0 := by omega
  refine ⟨?_, by have := h.eq; rw [Nat.add_mul, Nat.one_mul] at this; omega⟩
  have h1 : (u*B+v) / (y1*B+y0) < B := by
    rw [Nat.div_lt_iff_lt_mul hy]
    have h2 : (u+1)*B ≤ (y1*B+y0)*B := Nat.mul_le_mul_right B hu
    rw [Nat.add_mul, Nat.one_mul] at h2
    rw [Nat.mul_comm B]; omega
  omega
end Fl
