/- PLAIN: facts about patterns. No program. -/
import Derived.Test.YtpliondhiahhnaaM3
import Derived.Test.YtpliondhiahhnaaM1
namespace Fl
/-- A format that may be. -/
structure Ok (M X : Nat) : Prop where
  m1 : 2 ≤ M
  m2 : M ≤ 52
  x1 : 2 ≤ X
  x2 : X ≤ 11
variable {M X a : Nat}
theorem fd_lt (M X a : Nat) : fd M X a < 2^X := Nat.mod_lt _ (two_pow_pos X)
theorem fr_lt (M a : Nat) : fr M a < 2^M := Nat.mod_lt _ (two_pow_pos M)
theorem pw_le {a b : Nat} (h : a ≤ b) : 2^a ≤ 2^b := Nat.pow_le_pow_right (by decide) h
theorem bia_le (h : Ok M X) : bia X ≤ 1023 := by
  have : 2^(X-1) ≤ 2^10 := pw_le (by have := h.x2; omega)
  unfold bia; omega
theorem bia_ge (h : Ok M X) : 1 ≤ bia X := by
  have : 2^1 ≤ 2^(X-1) := pw_le (by have := h.x1; omega)
  unfold bia; omega
theorem pow_X (h : Ok M X) : 2^X = 2 * (bia X + 1) := by
  have h1 := h.x1
  have := two_pow_pos (X-1)
  unfold bia
  rw [Nat.sub_add_cancel (by omega), ← Nat.pow_succ']; congr 1; omega
theorem bs_eq (M X : Nat) : bs M X = bia X + M := rfl
theorem split_a (h : a < 2^(1+X+M)) : a = sgn M X (ng M X a) + (fd M X a * 2^M + fr M a) := by
  have h0 : a = a / 2^M * 2^M + a % 2^M := by rw [Nat.mul_comm]; exact (Nat.div_add_mod a (2^M)).symm
  have h1 : a / 2^M = a / 2^M / 2^X * 2^X + a / 2^M % 2^X := by rw [Nat.mul_comm]; exact (Nat.div_add_mod _ _).symm
  have h2 : a / 2^M / 2^X = a / 2^(X+M) := by rw [Nat.div_div_eq_div_mul, ← Nat.pow_add, Nat.add_comm M X]
  have h3 : a / 2^(X+M) < 2 := by rw [Nat.div_lt_iff_lt_mul (two_pow_pos _), ← Nat.pow_succ', show (X + M).succ = 1 + X + M by omega]; exact h
  have h4 : 2^(X+M) = 2^X * 2^M := Nat.pow_add ..
  have hm := Nat.div_add_mod a (2^(X+M))
  have hp := two_pow_pos (X+M)
  unfold sgn ng fd fr
  by_cases c : 2^(X+M) ≤ a
  · have e : a / 2^(X+M) = 1 := by
      have : 1 ≤ a / 2^(X+M) := (Nat.le_div_iff_mul_le hp).2 (by omega)
      omega
    rw [if_pos (decide_eq_true c)]
    rw [h2, e, Nat.one_mul] at h1
    rw [h1, Nat.add_mul, ← h4] at h0
    omega
  · have e : a / 2^(X+M) = 0 := Nat.div_eq_of_lt (by omega)
    rw [if_neg (by simp; omega)]
    rw [h2, e, Nat.zero_mul, Nat.zero_add] at h1
    rw [← h1]
    omega
theorem mn_lt (M X a : Nat) : mn M X a < 2^(M+1) := by
  have := fr_lt M a
  have h2 : 2^(M+1) = 2 * 2^M := by rw [Nat.pow_succ']
  unfold mn
  split
  · split <;> omega
  · exact two_pow_pos _
theorem mn_lt53 (h : Ok M X) : mn M X a < 2^53 := Nat.lt_of_lt_of_le (mn_lt M X a) (pw_le (by have := h.m2; omega))
theorem mn_pos (h : kd M X a = 2) : 0 < mn M X a := by
  unfold mn; rw [if_pos h]
  have h2 := two_pow_pos M
  split
  · rename_i c
    unfold kd at h
    have hx := two_pow_pos X
    by_cases e : fd M X a = 2^X - 1
    · rw [if_pos e] at h; split at h <;> omega
    · rw [if_neg e, if_pos c] at h
      split at h <;> omega
  · omega
theorem fd_fin (h : kd M X a = 2) : fd M X a ≠ 2^X - 1 := by
  intro e; unfold kd at h; rw [if_pos e] at h; split at h <;> omega
theorem ex_lo (h : kd M X a = 2) : 1 - (bia X : Int) - M ≤ ex M X a := by
  unfold ex; rw [if_pos h]; split <;> omega
theorem ex_hi (hf : Ok M X) (h : kd M X a = 2) : ex M X a ≤ bia X - M := by
  have h1 := fd_lt M X a
  have h2 := fd_fin h
  have h3 := pow_X hf
  have h4 := bia_ge hf
  unfold ex; rw [if_pos h]; split <;> omega
theorem ex_bounds (hf : Ok M X) (a : Nat) : -1500 ≤ ex M X a ∧ ex M X a ≤ 1500 := by
  by_cases h : kd M X a = 2
  · have := ex_lo h; have := ex_hi hf h; have := bia_le hf; have := hf.m2; omega
  · unfold ex; rw [if_neg h]; omega
theorem normal (h : kd M X a = 2) (he : 1 - (bia X : Int) - M < ex M X a) : 2^M ≤ mn M X a := by
  unfold ex at he; rw [if_pos h] at he
  unfold mn; rw [if_pos h]
  split at he
  · omega
  · rename_i c; rw [if_neg c]; omega
theorem infc_succ (M X : Nat) : infc M X + 2^M = 2^(X+M) := by
  unfold infc
  have := two_pow_pos X
  have e : (2^X - 1) * 2^M + 2^M = (2^X - 1 + 1) * 2^M := by rw [Nat.add_mul, Nat.one_mul]
  rw [e, Nat.pow_add, show 2^X - 1 + 1 = 2^X by omega]
theorem near_self (hf : Ok M X) (h : kd M X a = 2) : near M X (mn M X a) 1 (ex M X a) = fd M X a * 2^M + fr M a := by
  have hx := fd_lt M X a
  have hfr := fr_lt M a
  have hfin := fd_fin h
  have hm := hf.m1
  have hle : fd M X a * 2^M + fr M a ≤ infc M X := by
    unfold infc
    have : fd M X a + 1 ≤ 2^X - 1 := by omega
    have := Nat.mul_le_mul_right (2^M) this
    rw [Nat.add_mul, Nat.one_mul] at this
    omega
  have key : near M X (mn M X a) 1 (ex M X a) = rnd M (infc M X) (val M (fd M X a * 2^M + fr M a) * 1) 1 := by
    unfold near
    by_cases c : fd M X a = 0
    · have e1 : (ex M X a + (bs M X : Int)) = 1 := by rw [bs_eq]; unfold ex; rw [if_pos h, if_pos c]; omega
      rw [e1]
      have e2 : mn M X a = fr M a := by unfold mn; rw [if_pos h, if_pos c]
      rw [e2, c, Nat.zero_mul, Nat.zero_add]
      have := code_sig (m := M) (s := 0) (q := fr M a) (by rw [Nat.pow_succ]; omega) (Or.inl rfl)
      rw [Nat.zero_mul, Nat.zero_add] at this
      unfold val; rw [this.1, this.2]
      show rnd M (infc M X) (fr M a * 2^1) (1 * 2^0) = _
      rw [show 2 * fr M a * 2^0 * 1 = fr M a * 2^1 by omega]
    · have e1 : (ex M X a + (bs M X : Int)) = fd M X a := by rw [bs_eq]; unfold ex; rw [if_pos h, if_neg c]; omega
      rw [e1]
      have e2 : mn M X a = fr M a + 2^M := by unfold mn; rw [if_pos h, if_neg c]
      have e3 : fd M X a * 2^M + fr M a = (fd M X a - 1) * 2^M + (fr M a + 2^M) := by
        obtain ⟨g, hg⟩ : ∃ g, fd M X a = g + 1 := ⟨fd M X a - 1, by omega⟩
        rw [hg, Nat.add_sub_cancel, Nat.add_mul]; omega
      have := code_sig (m := M) (s := fd M X a - 1) (q := fr M a + 2^M) (by rw [Nat.pow_succ]; omega) (Or.inr (by omega))
      rw [e3]
      unfold val; rw [this.1, this.2, e2]
      rw [show ((fd M X a : Int)).toNat = fd M X a from rfl, show (-(fd M X a : Int)).toNat = 0 by omega]
      have e4 : 2 * (fr M a + 2^M) * 2^(fd M X a - 1) = (fr M a + 2^M) * 2^(fd M X a) := by
        obtain ⟨g, hg⟩ : ∃ g, fd M X a = g + 1 := ⟨fd M X a - 1, by omega⟩
        rw [hg, Nat.add_sub_cancel, Nat.pow_succ]; ac_rfl
      rw [e4, Nat.mul_one, Nat.mul_one]
  rw [key]
  exact rnd_val (by omega) (by decide) hle
theorem self_fin (hf : Ok M X) (ha : a < 2^(1+X+M)) (h : kd M X a = 2) : sgn M X (ng M X a) + near M X (mn M X a) 1 (ex M X a) = a := by
  rw [near_self hf h]; exact (split_a ha).symm
theorem self_zero (ha : a < 2^(1+X+M)) (h : kd M X a = 1) : a = sgn M X (ng M X a) := by
  have hs := split_a ha
  have : fd M X a = 0 ∧ fr M a = 0 := by
    unfold kd at h
    split at h
    · split at h <;> omega
    · split at h
      · split at h
        · exact ⟨by assumption, by assumption⟩
        · omega
      · omega
  rw [this.1, this.2, Nat.zero_mul] at hs; omega
theorem self_inf (ha : a < 2^(1+X+M)) (h : kd M X a = 3) : a = infc M X + sgn M X (ng M X a) := by
  have hs := split_a ha
  have : fd M X a = 2^X - 1 ∧ fr M a = 0 := by
    unfold kd at h
    split at h
    · split at h
      · exact ⟨by assumption, by assumption⟩
      · omega
    · split at h
      · split at h <;> omega
      · omega
  rw [this.1, this.2] at hs; unfold infc; omega
theorem a64 (hf : Ok M X) (ha : a < 2^(1+X+M)) : a < 2^64 := Nat.lt_of_lt_of_le ha (pw_le (by have := hf.m2; have := hf.x2; omega))
end Fl
