/- PLAIN: the nearest pattern by its unit. -/
import Derived.Test.YtpliondhiahhnaaM1
import Derived.Test.YtpliondhiahhnaaM2
import Derived.Test.YtpliondhiahhnaaM3
namespace Fl
theorem rne_one (N : Nat) : rne N 1 = N := by
  unfold rne; simp [Nat.mod_one]
theorem near_unit {M X N D : Nat} {e U : Int} (hD : 0 < D) (hU : 1 - (bs M X : Int) ≤ U) (h1 : N * 2^(e-U).toNat < D * 2^(U-e).toNat * 2^(M+1)) (h2 : U = 1 - bs M X ∨ D * 2^(U-e).toNat * 2^M ≤ N * 2^(e-U).toNat) :
    near M X N D e = min (infc M X) ((U - (1 - (bs M X : Int))).toNat * 2^M + rne (N * 2^(e-U).toNat) (D * 2^(U-e).toNat)) := by
  unfold near
  generalize (bs M X : Int) = B at *
  obtain ⟨u, v, hu, hv, huv⟩ : ∃ k j : Nat, (e+B).toNat = k ∧ (-(e+B)).toNat = j ∧ (k : Int) - j = e + B := ⟨_, _, rfl, rfl, by omega⟩
  obtain ⟨p, t, hp, ht, hpt⟩ : ∃ k j : Nat, (e-U).toNat = k ∧ (U-e).toNat = j ∧ (k : Int) - j = e - U := ⟨_, _, rfl, rfl, by omega⟩
  obtain ⟨s, hs, hs'⟩ : ∃ s : Nat, (U - (1 - B)).toNat = s ∧ (s : Int) = U - (1 - B) := ⟨_, rfl, by omega⟩
  rw [hp, ht] at h1 h2
  rw [hu, hv, hp, ht, hs]
  have key : u + t = p + v + (s+1) := by omega
  have hE : 0 < D * 2^v * 2^(s+1) := Nat.mul_pos (Nat.mul_pos hD (two_pow_pos _)) (two_pow_pos _)
  have hS : 0 < D * 2^t := Nat.mul_pos hD (two_pow_pos _)
  have cross : N * 2^u * (D * 2^t) = N * 2^p * (D * 2^v * 2^(s+1)) := by
    have a1 : N * 2^u * (D * 2^t) = N * D * 2^(u+t) := by rw [Nat.pow_add]; ac_rfl
    have a2 : N * 2^p * (D * 2^v * 2^(s+1)) = N * D * 2^(p+v+(s+1)) := by rw [Nat.pow_add 2 (p+v) (s+1), Nat.pow_add 2 p v]; ac_rfl
    rw [a1, a2, key]
  have g1 : N * 2^u < D * 2^v * 2^(s+M+2) := by
    refine Nat.lt_of_mul_lt_mul_right (a := D * 2^t) ?_
    rw [cross]
    have a3 := Nat.mul_lt_mul_of_pos_right h1 hE
    have a4 : D * 2^t * 2^(M+1) * (D * 2^v * 2^(s+1)) = D * 2^v * 2^(s+M+2) * (D * 2^t) := by
      rw [show s + M + 2 = (s+1) + (M+1) by omega, Nat.pow_add 2 (s+1)]; ac_rfl
    rw [← a4]; exact a3
  have g2 : s = 0 ∨ D * 2^v * 2^(s+M+1) ≤ N * 2^u := by
    rcases h2 with h2 | h2
    · left; omega
    · right
      refine Nat.le_of_mul_le_mul_right (c := D * 2^t) ?_ hS
      rw [cross]
      have a3 := Nat.mul_le_mul_right (D * 2^v * 2^(s+1)) h2
      have a4 : D * 2^t * 2^M * (D * 2^v * 2^(s+1)) = D * 2^v * 2^(s+M+1) * (D * 2^t) := by
        rw [show s + M + 1 = (s+1) + M by omega, Nat.pow_add 2 (s+1)]; ac_rfl
      rw [← a4]; exact a3
  rw [rnd_eq (Nat.mul_pos hD (two_pow_pos _)) g1 g2]
  rw [rne_ratio hE hS cross]
theorem rne_pow (n k : Nat) : rne n (2^(k+1)) = if n / 2^k % 2 = 1 ∧ (n % 2^k ≠ 0 ∨ n / 2^(k+1) % 2 = 1) then n / 2^(k+1) + 1 else n / 2^(k+1) := by
  have hp := two_pow_pos k
  have e : 2^(k+1) = 2^k * 2 := Nat.pow_succ ..
  have hr : n % 2^(k+1) = n % 2^k + 2^k * (n / 2^k % 2) := by rw [e, Nat.mod_mul]
  have hlt : n % 2^k < 2^k := Nat.mod_lt _ hp
  unfold rne
  rw [hr, e]
  have h2 : n / 2^k % 2 = 0 ∨ n / 2^k % 2 = 1 := by omega
  rcases h2 with h2 | h2
  · rw [h2]
    rw [if_neg (by omega), if_neg (by omega)]
  · rw [h2]
    by_cases c : n % 2^k = 0
    · rw [c]
      by_cases d : n / (2^k*2) % 2 = 1
      · rw [if_pos (by omega), if_pos (by simp [d])]
      · rw [if_neg (by omega), if_neg (by simp [d])]
    · rw [if_pos (by omega), if_pos (by simp [c])]
theorem rne_more (n k : Nat) : rne (2*n+1) (2^(k+2)) = if n / 2^k % 2 = 1 then n / 2^(k+1) + 1 else n / 2^(k+1) := by
  rw [rne_pow]
  have e1 : (2*n+1) / 2^(k+1) = n / 2^k := by
    rw [Nat.pow_succ, Nat.mul_comm (2^k), ← Nat.div_div_eq_div_mul]; congr 1; omega
  have e2 : (2*n+1) / 2^(k+1+1) = n / 2^(k+1) := by
    rw [Nat.pow_succ 2 (k+1), Nat.mul_comm (2^(k+1)), ← Nat.div_div_eq_div_mul]; congr 1; omega
  have e3 : (2*n+1) % 2^(k+1) ≠ 0 := by
    have h : (2*n+1) % 2^(k+1) % 2 = 1 := by rw [Nat.mod_mod_of_dvd _ ⟨2^k, by rw [Nat.pow_succ, Nat.mul_comm]⟩]; omega
    omega
  rw [e1, e2]
  by_cases c : n / 2^k % 2 = 1 <;> simp [c, e3]
end Fl
