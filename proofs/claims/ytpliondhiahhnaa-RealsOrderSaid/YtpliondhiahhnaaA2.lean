/- CONTRACTS of round: Check, top, sign, bias, NaN, Inf, Zero, length. -/
import Derived.Test.YtpliondhiahhnaaA1
namespace Go.Proofs.Ytpliondhiahhnaa.K
open Go.RowKit Fl
set_option maxRecDepth 100000
set_option maxHeartbeats 1000000
/-! ### round: what a format has -/
theorem pw11 {X : Nat} (h : X ≤ 11) : 2^X ≤ 2048 := pow_le (b := 11) h
theorem pw52 {M : Nat} (h : M ≤ 52) : 2^M ≤ 4503599627370496 := pow_le (b := 52) h
theorem check_calls {M X : Nat} (hf : Okf M X) (w : World) :
    Calls Try.prog 98 #[.agg #[.int .i64 M, .int .i64 X]] w (Ret (.int .i64 0) w) := by
  obtain ⟨h1, h2, h3, h4⟩ := hf
  have hu23 := Try.underlying23
  go_enter Try.func98, Try.ntmps98
  go_wp2
  go_ret
  exact ret_close rfl (blA _ _)
theorem check_err (m x : Int) (hn : ¬ (2 ≤ m ∧ m ≤ 52 ∧ 2 ≤ x ∧ x ≤ 11)) (w : World) :
    Calls Try.prog 98 #[.agg #[.int .i64 m, .int .i64 x]] w (Ret (.int .i64 1) w) := by
  have hu23 := Try.underlying23
  have HN : Hid (¬ (2 ≤ m ∧ m ≤ 52 ∧ 2 ≤ x ∧ x ≤ 11)) := hn; clear hn
  go_enter Try.func98, Try.ntmps98
  go_wp2
  all_goals go_ret
  all_goals first | exact ret_close rfl (blA _ _) | (exfalso; have := HN.out; omega)
theorem bias_fin {X : Nat} (h : X ≤ 11) : wrap64 (wrap64 (2^(X-1)) - 1) = (bia X : Nat) := by
  have h1 := pw11 (X := X-1) (by omega)
  have h2 := pow_pos' (X-1)
  rw [pow_cast]; unfold bia
  rw [IntWalk.wrap64_in ((2^(X-1) : Nat) : Int) ⟨by omega, by omega⟩, IntWalk.wrap64_in _ ⟨by omega, by omega⟩]; omega
theorem bias_calls {M X : Nat} (hf : Okf M X) (w : World) :
    Calls Try.prog 121 #[.agg #[.int .i64 M, .int .i64 X]] w (Ret (.int .i64 (bia X : Nat)) w) := by
  obtain ⟨h1, h2, h3, h4⟩ := hf
  have hu23 := Try.underlying23
  go_enter Try.func121, Try.ntmps121
  go_wp2
  go_ret
  exact ret_close (int_eq (bias_fin h4)) (blA _ _)
theorem inf_lt (M X : Nat) : infc M X < 2^(X+M) ∧ infc M X + 2^M = 2^(X+M) := by
  have h1 := pow_pos' X
  have h2 := pow_pos' M
  unfold infc
  rw [Nat.pow_add, Nat.sub_mul, Nat.one_mul]
  have : 2^M ≤ 2^X * 2^M := Nat.le_mul_of_pos_left _ h1
  omega
theorem top_fin {M X : Nat} (hf : Okf M X) : IntKind.u64.wrap (IntKind.u64.wrap (IntKind.u64.wrap (2 ^ X) - 1) * 2 ^ M) = (infc M X : Nat) := by
  have h3 := hf.x2
  have h4 := hf.m2
  have hl : infc M X < 2^64 := Nat.lt_trans (inf_lt M X).1 (pow_lt (by omega))
  rw [u64_mask (by omega), pow_cast, ← Int.natCast_mul]
  exact u64_nat hl
theorem top_calls {M X : Nat} (hf : Okf M X) (w : World) :
    Calls Try.prog 118 #[.agg #[.int .i64 M, .int .i64 X]] w (Ret (.int .u64 (infc M X : Nat)) w) := by
  have ⟨h1, h2, h3, h4⟩ := hf
  have hu23 := Try.underlying23
  go_enter Try.func118, Try.ntmps118
  go_wp2
  go_quiet (fail)
  go_wp2
  go_ret
  exact ret_close (int_eq (top_fin hf)) (drn (blA _ _) _)
theorem sign_calls {M X : Nat} (hf : Okf M X) (s : Bool) (w : World) :
    Calls Try.prog 119 #[.agg #[.int .i64 M, .int .i64 X], .bool s] w (Ret (.int .u64 (sgn M X s : Nat)) w) := by
  obtain ⟨h1, h2, h3, h4⟩ := hf
  have hu23 := Try.underlying23
  cases s
  all_goals
    go_enter Try.func119, Try.ntmps119
    go_wp2
    go_ret
  · exact ret_close (int_eq rfl) (blA _ _)
  · exact ret_close (int_eq (u64_pow (by omega))) (blA _ _)
theorem nan_fin {M X : Nat} (hf : Okf M X) : bits .or .u64 (infc M X : Nat) (IntKind.u64.wrap (2^(M-1))) = (nanc M X : Nat) := by
  have ⟨h1, h2, h3, h4⟩ := hf
  have h5 := (inf_lt M X).1
  rw [u64_pow (by omega), or64 (Nat.lt_trans h5 (pow_lt (by omega))) (pow_lt (by omega)), or_add (i := M)]
  · rfl
  · unfold infc; exact Nat.mul_mod_left _ _
  · exact pow_lt (by omega)
theorem nan_calls {M X : Nat} (hf : Okf M X) (w : World) :
    Calls Try.prog 65 #[.agg #[.int .i64 M, .int .i64 X]] w (Ret (.int .u64 (nanc M X : Nat)) w) := by
  have ⟨h1, h2, h3, h4⟩ := hf
  have hu23 := Try.underlying23
  have e1 : IntKind.i64.wrap ((M : Int) - 1) = M - 1 := IntWalk.i64_in _ (by omega)
  have e2 : 1 ≤ M := by omega
  go_enter Try.func65, Try.ntmps65
  go_wp2_with (go_at_call 98; refine (check_calls hf _).mono ?_; rintro e w1 ⟨rfl, hb⟩; obtain ⟨hc, hz⟩ := bcell hb)
  have hb0 := Below.drew (blS hb)
  go_region_held3 (fun w' => w'.cell? ⟨w.heap.size, 0, none⟩ = some (.int .i64 M) ∧ w'.cell? ⟨w.heap.size, 1, none⟩ = some (.int .i64 X) ∧ Below w.heap.size w w')
    (first | go_keep | (go_split_ands; refine ⟨cellk hb (by assumption), cellk hb (by assumption), bkeep hb (by assumption)⟩))
    (first | (go_at_call 118; refine (top_calls hf _).mono ?_; rintro e w2 ⟨rfl, hb⟩))
  go_wp2
  go_ret
  refine ret_close (int_eq (nan_fin hf)) (by go_split_ands; assumption)
theorem inf_fin {M X : Nat} (hf : Okf M X) (s : Bool) : bits .or .u64 (infc M X : Nat) (sgn M X s : Nat) = (infc M X + sgn M X s : Nat) := by
  have ⟨h1, h2, h3, h4⟩ := hf
  have h5 := (inf_lt M X).1
  have h6 : sgn M X s ≤ 2^(X+M) := by unfold sgn; split <;> omega
  have h7 : 2^(X+M) < 2^64 := pow_lt (by omega)
  have h8 : infc M X < 2^64 := by omega
  rw [or64 h8 (by omega), Nat.or_comm, Nat.add_comm, or_add (i := X+M)]
  · unfold sgn; split <;> simp
  · exact h5
theorem inf_calls {M X : Nat} (hf : Okf M X) (s : Bool) (w : World) :
    Calls Try.prog 66 #[.agg #[.int .i64 M, .int .i64 X], .bool s] w (Ret (.int .u64 (infc M X + sgn M X s : Nat)) w) := by
  have ⟨h1, h2, h3, h4⟩ := hf
  have hu23 := Try.underlying23
  go_enter Try.func66, Try.ntmps66
  go_wp2_with (go_at_call 98; refine (check_calls hf _).mono ?_; rintro e w1 ⟨rfl, hb⟩; obtain ⟨hc, hz⟩ := bcell hb)
  have hb0 := Below.drew (blS hb)
  go_region_held3 (fun w' => w'.cell? ⟨w.heap.size, 0, none⟩ = some (.int .i64 M) ∧ w'.cell? ⟨w.heap.size, 1, none⟩ = some (.int .i64 X) ∧ Below w.heap.size w w')
    (first | go_keep | (go_split_ands; refine ⟨cellk hb (by assumption), cellk hb (by assumption), bkeep hb (by assumption)⟩))
    (first | (go_at_call 118; refine (top_calls hf _).mono ?_; rintro e w2 ⟨rfl, hb⟩) | (go_at_call 119; refine (sign_calls hf _ _).mono ?_; rintro e w2 ⟨rfl, hb⟩))
  go_wp2
  go_ret
  refine ret_close (int_eq (inf_fin hf s)) (by go_split_ands; assumption)
theorem zero_calls {M X : Nat} (hf : Okf M X) (s : Bool) (w : World) :
    Calls Try.prog 67 #[.agg #[.int .i64 M, .int .i64 X], .bool s] w (Ret (.int .u64 (sgn M X s : Nat)) w) := by
  have ⟨h1, h2, h3, h4⟩ := hf
  have hu23 := Try.underlying23
  go_enter Try.func67, Try.ntmps67
  go_wp2_with (first | (go_at_call 98; refine (check_calls hf _).mono ?_; rintro e w1 ⟨rfl, hb⟩; obtain ⟨hc, hz⟩ := bcell hb; have hb0 := (blS hb)) | (go_at_call 119; refine (sign_calls hf _ _).mono ?_; rintro e w2 ⟨rfl, hb2⟩))
  go_ret
  exact ret_close rfl (bkeep hb2 hb0)
theorem length_calls (hi lo : Nat) (h1 : hi < 2^64) (h2 : lo < 2^64) (w : World) :
    Calls Try.prog 120 #[.int .u64 hi, .int .u64 lo] w (Ret (.int .i64 (bl (hi*2^64+lo) : Nat)) w) := by
  have H1 : Hid (hi < 2^64) := h1; clear h1
  have H2 : Hid (lo < 2^64) := h2; clear h2
  have e : hi ≠ 0 → bl (hi*2^64+lo) = bl hi + 64 := by
    intro h
    have hq : (hi*2^64+lo)/2^64 = hi := by have := H2.out; omega
    have := bl_shift (a := hi*2^64+lo) (k := 64) (by rw [hq]; exact h)
    rw [hq] at this; exact this
  have hb : bl hi ≤ 64 := bl_le_iff.2 H1.out
  have E : Hid (hi ≠ 0 → bl (hi*2^64+lo) = bl hi + 64) := e; clear e
  by_cases c : hi = 0
  · have cb : ((hi : Int) != 0) = false := by rw [bne0]; simp [c]
    have C : Hid (hi = 0) := c; clear c
    go_enter Try.func120, Try.ntmps120
    go_wp2_with (go_at_call 125; refine (len_calls _ H2.out _).mono ?_; rintro e w1 ⟨rfl, hb1⟩)
    go_ret
    exact ret_close (int_eq (by rw [C.out, Nat.zero_mul, Nat.zero_add])) hb1
  · have cb : ((hi : Int) != 0) = true := by rw [bne0]; simp [c]
    have C : Hid (hi ≠ 0) := c; clear c
    go_enter Try.func120, Try.ntmps120
    go_wp2_with (go_at_call 125; refine (len_calls _ H1.out _).mono ?_; rintro e w1 ⟨rfl, hb1⟩)
    go_ret
    exact ret_close (int_eq (by rw [E.out C.out]; omega)) hb1
theorem and_field (a M X : Nat) : a &&& infc M X = a / 2^M % 2^X * 2^M := by
  apply Nat.eq_of_testBit_eq
  intro i
  unfold infc
  rw [Nat.testBit_and]
  simp only [← Nat.shiftLeft_eq, Nat.testBit_shiftLeft, Nat.testBit_two_pow_sub_one]
  by_cases h : M ≤ i
  · simp only [h, decide_true, Bool.true_and, Nat.testBit_mod_two_pow, Nat.testBit_div_two_pow]
    rw [show i - M + M = i by omega, Bool.and_comm]
  · simp [h]
end Go.Proofs.Ytpliondhiahhnaa.K
