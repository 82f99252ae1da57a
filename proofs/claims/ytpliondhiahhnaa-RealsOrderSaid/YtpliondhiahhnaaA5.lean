/- CONTRACT of round.Pack: the nearest pattern. -/
import Derived.Test.YtpliondhiahhnaaA4
import Derived.Test.YtpliondhiahhnaaM4
namespace Go.Proofs.Ytpliondhiahhnaa.K
open Go.RowKit Fl
set_option linter.unusedVariables false
set_option linter.unusedSimpArgs false
set_option maxRecDepth 100000
set_option maxHeartbeats 1000000
theorem bs_eq (M X : Nat) : bs M X = bia X + M := rfl
theorem bl_bounds {N : Nat} (h : N ≠ 0) : 2^(bl N - 1) ≤ N ∧ N < 2^(bl N) ∧ 1 ≤ bl N := ⟨bl_le h, bl_lt N, bl_pos h⟩
/-- The unit of a whole number: its value lies in the binade. -/
theorem unit_bounds {M X N : Nat} {e U : Int} (h0 : N ≠ 0) (hU : U = max ((bl N : Int) + e - M - 1) (1 - (bs M X : Int))) :
    N * 2^(e-U).toNat < 2^(U-e).toNat * 2^(M+1) ∧ (U = 1 - bs M X ∨ 2^(U-e).toNat * 2^M ≤ N * 2^(e-U).toNat) := by
  obtain ⟨h1, h2, h3⟩ := bl_bounds h0
  generalize bl N = L at *
  constructor
  · have hle : L + (e-U).toNat ≤ (U-e).toNat + (M+1) := by omega
    have a1 : N * 2^(e-U).toNat < 2^L * 2^(e-U).toNat := Nat.mul_lt_mul_of_pos_right h2 (two_pow_pos _)
    rw [← Nat.pow_add] at a1 ⊢
    exact Nat.lt_of_lt_of_le a1 (pow_le hle)
  · by_cases c : U = 1 - bs M X
    · exact .inl c
    · right
      have hle : (U-e).toNat + M ≤ L - 1 + (e-U).toNat := by omega
      have a1 : 2^(L-1) * 2^(e-U).toNat ≤ N * 2^(e-U).toNat := Nat.mul_le_mul_right _ h1
      rw [← Nat.pow_add] at a1 ⊢
      exact Nat.le_trans (pow_le hle) a1
def packN (M X : Nat) (neg : Bool) (N : Nat) (e : Int) (more : Bool) : Nat := sgn M X neg + (if more = true then near M X (2*N+1) 1 (e-1) else near M X N 1 e)
theorem rne_le {P S M : Nat} (hS : 0 < S) (h : P < S * 2^(M+1)) : rne P S ≤ 2^(M+1) := by
  have h1 : P / S < 2^(M+1) := by rw [Nat.div_lt_iff_lt_mul hS, Nat.mul_comm]; exact h
  have := rne_or P S; omega
theorem rne_ge {P S M : Nat} (hS : 0 < S) (h : S * 2^M ≤ P) : 2^M ≤ rne P S := by
  have h1 : 2^M ≤ P / S := by rw [Nat.le_div_iff_mul_le hS, Nat.mul_comm]; exact h
  have := rne_or P S; omega
theorem odd_and {q : Nat} (h : q < 2^64) : (bits .and .u64 (q : Int) 1 == 1) = decide (q % 2 = 1) := by
  have := and64 (b := 2^1-1) h (by decide)
  rw [and_mask] at this
  rw [show (1 : Int) = ((2^1-1 : Nat) : Int) from rfl, this, show ((2^1-1 : Nat) : Int) = 1 from rfl, Bool.eq_iff_iff]
  simp only [beq_iff_eq, decide_eq_true_eq]; omega
theorem near_zero (M X : Nat) (e : Int) : near M X 0 1 e = 0 := by
  have hl : Nat.log2 0 = 0 := by decide
  unfold near rnd sOf rne; simp [hl]
theorem pack_calls {M X : Nat} (hf : Okf M X) (neg more : Bool) (hi lo : Nat) (e : Int) (h1 : hi < 2^64) (h2 : lo < 2^64) (he1 : -4096 ≤ e) (he2 : e ≤ 4096) (hm : more = true → 2^(M+2) ≤ hi*2^64+lo) (w : World) :
    Calls Try.prog 69 #[.agg #[.int .i64 M, .int .i64 X], .bool neg, .int .u64 hi, .int .u64 lo, .int .i64 e, .bool more] w (Ret (.tuple #[.int .u64 (packN M X neg (hi*2^64+lo) e more : Nat), .int .i64 0]) w) := by
  by_cases h0 : hi*2^64+lo = 0
  · have h3 : hi = 0 := by omega
    have h4 : lo = 0 := by omega
    have hmf : more = false := by
      cases more
      · rfl
      · have := hm rfl; have := two_pow_pos (M+2); omega
    subst h3 h4 hmf
    have ev : packN M X neg (0*2^64+0) e false = sgn M X neg := by
      unfold packN; rw [if_neg (by simp), Nat.zero_mul, Nat.add_zero, near_zero, Nat.add_zero]
    rw [ev]
    clear h0 ev
    have hl : bl (0*2^64+0) = 0 := by decide
    obtain ⟨g1, g2, g3, g4⟩ := id hf
    have hu23 := Try.underlying23
    go_enter Try.func69, Try.ntmps69
    go_wp2_with (first | (go_at_call 120; refine (length_calls 0 0 (by decide) (by decide) _).mono ?_; rintro e w1 ⟨rfl, hb1⟩; have hB := blS hb1; have f0 := cellk hb1 (show (w.alloc (Obj.cells #[Value.int IntKind.i64 M, Value.int IntKind.i64 X] 23)).cell? ⟨w.heap.size, 0, none⟩ = some (.int .i64 M) from cell_of (hnew _ _) 0); have f1 := cellk hb1 (show (w.alloc (Obj.cells #[Value.int IntKind.i64 M, Value.int IntKind.i64 X] 23)).cell? ⟨w.heap.size, 1, none⟩ = some (.int .i64 X) from cell_of (hnew _ _) 1); clear hb1) | (go_at_call 98; refine (check_calls hf _).mono ?_; rintro e w2 ⟨rfl, hb⟩; have f0' := cellk hb f0; have f1' := cellk hb f1; have hB' := bkeep hb hB; clear hb f0 f1 hB; have f0 := f0'; have f1 := f1'; have hB := hB'; clear f0' f1' hB') | (go_at_call 119; refine (sign_calls hf _ _).mono ?_; rintro e w2 ⟨rfl, hb⟩))
    go_ret2
    exact ret_close (tup2 rfl rfl) (bkeep hb hB)
  · obtain ⟨L, hL⟩ : ∃ L, bl (hi*2^64+lo) = L := ⟨_, rfl⟩
    obtain ⟨b1, b2, b3⟩ := bl_bounds h0
    rw [hL] at b1 b2 b3
    obtain ⟨N, hN⟩ : ∃ N, hi*2^64+lo = N := ⟨_, rfl⟩
    have hL2 : L ≤ 128 := by rw [← hL]; exact bl_le_iff.2 (by omega)
    have hbi := bia_le hf.x2
    have hM := hf.m2
    obtain ⟨U, hU⟩ : ∃ U : Int, U = max ((L : Int) + e - M - 1) (1 - (bs M X : Int)) := ⟨_, rfl⟩
    have hbs := bs_eq M X
    have hmL : more = true → M + 3 ≤ L := fun h => by
      have := hm h
      rcases Nat.lt_or_ge L (M+3) with h3 | h3
      · have : 2^L ≤ 2^(M+2) := pow_le (by omega)
        omega
      · exact h3
    -- the unit, and the whole number of units
    obtain ⟨u1, u2⟩ := unit_bounds (M := M) (X := X) (N := N) (e := e) (U := U) (by omega) (by rw [← hN, hL]; exact hU)
    obtain ⟨Q, hQ⟩ : ∃ Q, Q = (if more = true then rne ((2*N+1) * 2^(e-1-U).toNat) (2^(U-(e-1)).toNat) else rne (N * 2^(e-U).toNat) (2^(U-e).toNat)) := ⟨_, rfl⟩
    have hnear : packN M X neg N e more = sgn M X neg + min (infc M X) ((U - (1 - (bs M X : Int))).toNat * 2^M + Q) ∧ Q ≤ 2^(M+1) ∧ (U = 1 - bs M X ∨ 2^M ≤ Q) := by
      subst hQ
      cases more with
      | false =>
        rw [if_neg (by simp)]
        refine ⟨?_, rne_le (two_pow_pos _) u1, u2.imp id (rne_ge (two_pow_pos _))⟩
        unfold packN; rw [if_neg (by simp)]
        congr 1
        have := near_unit (M := M) (X := X) (N := N) (D := 1) (e := e) (U := U) (by decide) (by omega) (by rw [Nat.one_mul]; exact u1) (by rw [Nat.one_mul]; exact u2)
        rw [Nat.one_mul] at this; exact this
      | true =>
        have hl := hmL rfl
        rw [if_pos rfl]
        have hUe : e + 2 ≤ U := by omega
        obtain ⟨k, hk⟩ : ∃ k : Nat, U - e = k := ⟨(U-e).toNat, by omega⟩
        have z1 : (e-1-U).toNat = 0 := by omega
        have z2 : (e-U).toNat = 0 := by omega
        have z3 : (U-(e-1)).toNat = k+1 := by omega
        have z4 : (U-e).toNat = k := by omega
        rw [z2, z4, Nat.pow_zero, Nat.mul_one] at u1 u2
        have v1 : (2*N+1) * 2^(e-1-U).toNat < 2^(U-(e-1)).toNat * 2^(M+1) := by
          rw [z1, z3, Nat.pow_zero, Nat.mul_one, Nat.pow_succ]
          have : 2^k*2*2^(M+1) = 2*(2^k*2^(M+1)) := by ac_rfl
          omega
        have v2 : U = 1 - bs M X ∨ 2^(U-(e-1)).toNat * 2^M ≤ (2*N+1) * 2^(e-1-U).toNat := by
          rw [z1, z3, Nat.pow_zero, Nat.mul_one, Nat.pow_succ]
          have : 2^k*2*2^M = 2*(2^k*2^M) := by ac_rfl
          omega
        refine ⟨?_, rne_le (two_pow_pos _) v1, v2.imp id (rne_ge (two_pow_pos _))⟩
        unfold packN; rw [if_pos rfl]
        congr 1
        have := near_unit (M := M) (X := X) (N := 2*N+1) (D := 1) (e := e-1) (U := U) (by decide) (by omega) (by rw [Nat.one_mul]; exact v1) (by rw [Nat.one_mul]; exact v2)
        rw [Nat.one_mul] at this; exact this
    have hlst : least M X = 1 - (bs M X : Int) := by unfold least; omega
    have hp := two_pow_pos M
    have hp1 : 2^(M+1) = 2*2^M := by rw [Nat.pow_succ]; omega
    have hpk : ∃ V R, ((Q < 2^(M+1) ∧ V = U ∧ R = Q) ∨ (Q = 2^(M+1) ∧ V = U + 1 ∧ R = 2^M)) := by
      rcases Nat.lt_or_eq_of_le hnear.2.1 with h | h
      · exact ⟨U, Q, .inl ⟨h, rfl, rfl⟩⟩
      · exact ⟨U+1, 2^M, .inr ⟨h, rfl, rfl⟩⟩
    obtain ⟨V, R, hVR⟩ := hpk
    have hcode2 : code M X V R = min (infc M X) ((U - (1 - (bs M X : Int))).toNat * 2^M + Q) := by
      unfold code; rw [hlst]
      rcases hVR with ⟨_, rfl, rfl⟩ | ⟨r1, rfl, rfl⟩
      · rfl
      · congr 1
        rw [show (U + 1 - (1 - (bs M X : Int))).toNat = (U - (1 - (bs M X : Int))).toNat + 1 by omega, Nat.add_mul, r1]; omega
    have hQ64 : 2^(M+1) ≤ 2^53 := pow_le (by omega)
    have hNq : e < U → N / 2^(U-e).toNat < 2^(M+1) := fun h => by
      have z : (e-U).toNat = 0 := by omega
      rw [z, Nat.pow_zero, Nat.mul_one] at u1
      rw [Nat.div_lt_iff_lt_mul (two_pow_pos _), Nat.mul_comm]; exact u1
    rw [hN]
    refine pack_core hf neg more hi lo L e U h1 h2 hL b3 hL2 hmL he1 he2 ?_ (by omega) (by omega) Q ?_ ?_ (dh hi lo (U-e).toNat) (dr hi lo (U-e).toNat) _ _ rfl rfl rfl rfl ?_ V R hVR ?_ ?_ ?_ (by rcases hVR with ⟨_, h, _⟩ | ⟨_, h, _⟩ <;> omega) _ ?_ w
    · rw [hU]; split <;> omega
    · intro h
      have z : (U-e).toNat = 0 := by omega
      have hmf : more = false := by
        cases more
        · rfl
        · have := hmL rfl; omega
      subst hmf
      rw [if_neg (by simp), z, Nat.pow_zero, rne_one] at hQ
      rw [z, Nat.pow_zero, Nat.one_mul] at u1
      have hlo : lo = N := by
        have hp' := two_pow_pos (e-U).toNat
        have : N ≤ N * 2^(e-U).toNat := Nat.le_mul_of_pos_right _ hp'
        omega
      rw [hlo, hQ, pow_cast, ← Int.natCast_mul]
      exact u64_nat (by omega)
    · intro h; rw [hN]; have := hNq h; omega
    · intro h
      have hq := hNq h
      obtain ⟨j, hj⟩ : ∃ j, (U-e).toNat = j+1 := ⟨(U-e).toNat - 1, by omega⟩
      have z : (e-U).toNat = 0 := by omega
      have z1 : (e-1-U).toNat = 0 := by omega
      have z2 : (U-(e-1)).toNat = j+2 := by omega
      rw [hj] at hq
      have hd : dq hi lo (j+1) = N / 2^(j+1) := by unfold dq hl; rw [hN]
      have hh : dh hi lo (j+1) = decide (N / 2^j % 2 = 1) := by unfold dh hl; rw [hN]; rfl
      have hr : dr hi lo (j+1) = decide (N % 2^j ≠ 0) := by unfold dr hl; rw [hN]; rfl
      rw [hj, hd, hh, hr, odd_and (by omega)]
      have hw : IntKind.u64.wrap (((N / 2^(j+1) : Nat) : Int) + 1) = ((N / 2^(j+1) + 1 : Nat) : Int) := u64_nat (n := N / 2^(j+1) + 1) (by omega)
      rw [hw]
      cases more with
      | false =>
        rw [if_neg (by simp), z, hj, Nat.pow_zero, Nat.mul_one, rne_pow] at hQ
        rw [hQ]
        by_cases c1 : N / 2^j % 2 = 1 <;> by_cases c2 : N % 2^j = 0 <;> by_cases c3 : N / 2^(j+1) % 2 = 1 <;> simp [c1, c2, c3]
      | true =>
        rw [if_pos rfl, z1, z2, Nat.pow_zero, Nat.mul_one, rne_more] at hQ
        rw [hQ]
        by_cases c1 : N / 2^j % 2 = 1 <;> simp [c1]
    · rcases hVR with ⟨_, h, _⟩ | ⟨_, h, _⟩ <;> (show least M X ≤ V; rw [hlst]; omega)
    · intro h
      rcases hVR with ⟨_, r1, r2⟩ | ⟨_, r1, r2⟩
      · rw [hlst]; rcases hnear.2.2 with h3 | h3 <;> omega
      · omega
    · rcases hVR with ⟨_, r1, r2⟩ | ⟨_, r1, r2⟩ <;> (show R < 2^(M+1); omega)
    · show packN M X neg N e more = _
      rw [hnear.1, hcode2]
end Go.Proofs.Ytpliondhiahhnaa.K
