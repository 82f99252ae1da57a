/- CONTRACTS of round: Open of what is no pattern, down, Pack. -/
import Derived.Test.YtpliondhiahhnaaA3
namespace Go.Proofs.Ytpliondhiahhnaa.K
open Go.RowKit Fl
set_option linter.unusedVariables false
set_option linter.unusedSimpArgs false
set_option maxRecDepth 100000
set_option maxHeartbeats 1000000
set_option maxHeartbeats 8000000 in
theorem open_badf (m x : Int) (a : Int) (hn : Hid (¬ (2 ≤ m ∧ m ≤ 52 ∧ 2 ≤ x ∧ x ≤ 11))) (w : World) :
    Calls Try.prog 93 #[.agg #[.int .i64 m, .int .i64 x], .int .u64 a] w (Ret (.tuple #[.agg #[.int .i64 0, .bool false, .int .i64 0, .int .u64 0], .int .i64 1]) w) := by
  have hu23 := Try.underlying23
  have hu41 := Try.underlying41
  go_enter Try.func93, Try.ntmps93
  go_wp2_with fail
  obtain ⟨W, hW⟩ : ∃ W, (w.alloc (Obj.cells #[Value.int IntKind.i64 m, Value.int IntKind.i64 x] 23)).alloc (Obj.cells #[Value.int IntKind.i64 0, Value.bool false, Value.int IntKind.i64 0, Value.int IntKind.u64 0] 41) = W := ⟨_, rfl⟩
  have c0 : W.heap[w.heap.size]? = some (.cells #[.int .i64 m, .int .i64 x] 23 (0, 0)) := by subst hW; exact hold (hnew _ _) _
  have c1 : W.heap[w.heap.size+1]? = some (.cells #[.int .i64 0, .bool false, .int .i64 0, .int .u64 0] 41 (0, 0)) := by subst hW; rw [← World.size_alloc w]; exact hnew _ _
  have hB : Below w.heap.size w W := by subst hW; exact (blA _ _).alloc (by simp) _
  rw [hW]
  clear hW
  have f0 : W.cell? ⟨w.heap.size, 0, none⟩ = some (.int .i64 m) := cell_of c0 0
  have f1 : W.cell? ⟨w.heap.size, 1, none⟩ = some (.int .i64 x) := cell_of c0 1
  clear c0
  refine reg_seq (fun W => W.cell? ⟨w.heap.size, 0, none⟩ = some (.int .i64 m) ∧ W.cell? ⟨w.heap.size, 1, none⟩ = some (.int .i64 x) ∧ W.heap[w.heap.size+1]? = some (.cells #[.int .i64 0, .bool false, .int .i64 0, .int .u64 0] 41 (0, 0)) ∧ Below w.heap.size w W) [(0, true), (1, false), (2, true), (3, true), (4, true), (6, true), (7, true), (8, true), (9, true), (10, true), (11, true), (5, false), (12, true), (13, true)] (by kernel_rfl) (by kernel_rfl) ⟨by assumption, by assumption, by assumption, Below.drew (by assumption)⟩ (fun hS => ?_)
  clear f0 f1 c1 hB
  repeat (first
    | (refine sq_take (oi := ⟨_, _, _, _, _, _⟩) (v := ?_) rfl (fun _ _ _ h => h) (by rfl) ?_ ?_; rotate_left; (intro w hSw; (try dsimp only at hSw); go_simp; with_reducible rfl); (try simp only [Act.put, List.setIfInBounds_toArray, List.set_cons_zero, List.set_cons_succ]))
    | (refine sq_skip (oi := ⟨_, _, _, _, _, _⟩) rfl (fun _ _ _ h => h) (by rfl) ?_; (try simp only [Act.put, List.setIfInBounds_toArray, List.set_cons_zero, List.set_cons_succ]))
    | (refine sq_skipc (oi := ⟨_, _, _, _, _, _⟩) rfl (by rfl) hS ?_; (try simp only [Act.put, List.setIfInBounds_toArray, List.set_cons_zero, List.set_cons_succ]))
    | (refine sq_call (oi := ⟨_, _, _, _, _, _⟩) rfl (by rfl) (fun K hK => ?_); go_simp; (first | (go_at_call 98; refine (check_err m x hn.out _).mono ?_; rintro e w2 ⟨rfl, hb⟩)); refine hK.out _ _ (by go_split_ands; exact ⟨cellk hb (by assumption), cellk hb (by assumption), heapk hb (by assumption), bkeep hb (by assumption)⟩) (fun hT => ?_); clear hK K hS hb; (have hS := hT); clear hT; (try simp only [Act.put, List.setIfInBounds_toArray, List.set_cons_zero, List.set_cons_succ])))
  refine sq_done ?_
  obtain ⟨f0, f1, c1, hB⟩ := hS
  have r0 : w2.cell? ⟨w.heap.size + 1, 0, none⟩ = some (.int .i64 0) := cell_of c1 0
  have r1 : w2.cell? ⟨w.heap.size + 1, 1, none⟩ = some (.bool false) := cell_of c1 1
  have r2 : w2.cell? ⟨w.heap.size + 1, 2, none⟩ = some (.int .i64 0) := cell_of c1 2
  have r3 : w2.cell? ⟨w.heap.size + 1, 3, none⟩ = some (.int .u64 0) := cell_of c1 3
  have q0 := froz_of c1 0
  have q1 := froz_of c1 1
  have q2 := froz_of c1 2
  have q3 := froz_of c1 3
  clear c1
  go_wp2
  refine bodyPost_ret (v := .tuple #[.agg #[.int .i64 0, .bool false, .int .i64 0, .int .u64 0], .int .i64 1]) (by simp [results, Try.results93, go_sem, r0, r1, r2, r3]) rfl ?_
  exact ret_close rfl (by repeat (first | (with_reducible exact hB) | refine Below.setCell ?_ (by simp <;> omega) _))
set_option maxHeartbeats 8000000 in
theorem open_badp {M X : Nat} (hf : Okf M X) (a : Nat) (h64 : a < 2^64) (ha : 2^(1+X+M) ≤ a) (w : World) :
    Calls Try.prog 93 #[.agg #[.int .i64 M, .int .i64 X], .int .u64 a] w (Ret (.tuple #[.agg #[.int .i64 0, .bool false, .int .i64 0, .int .u64 0], .int .i64 1]) w) := by
  have ⟨h1, h2, h3, h4⟩ := hf
  have hu23 := Try.underlying23
  have hu41 := Try.underlying41
  have hbl : 1 + X + M < bl a := by
    rcases Nat.lt_or_ge (1 + X + M) (bl a) with h | h
    · exact h
    · have := bl_le_iff.1 h; omega
  have H64 : Hid (a < 2^64) := h64; clear h64
  have HA : Hid (2^(1+X+M) ≤ a) := ha; clear ha
  have e1 : IntKind.i64.wrap (1 + (X : Int)) = 1 + X := IntWalk.i64_in _ (by omega)
  have e2 : IntKind.i64.wrap (1 + (X : Int) + M) = 1 + X + M := IntWalk.i64_in _ (by omega)
  go_enter Try.func93, Try.ntmps93
  go_wp2_with fail
  obtain ⟨W, hW⟩ : ∃ W, (w.alloc (Obj.cells #[Value.int IntKind.i64 M, Value.int IntKind.i64 X] 23)).alloc (Obj.cells #[Value.int IntKind.i64 0, Value.bool false, Value.int IntKind.i64 0, Value.int IntKind.u64 0] 41) = W := ⟨_, rfl⟩
  have c0 : W.heap[w.heap.size]? = some (.cells #[.int .i64 M, .int .i64 X] 23 (0, 0)) := by subst hW; exact hold (hnew _ _) _
  have c1 : W.heap[w.heap.size+1]? = some (.cells #[.int .i64 0, .bool false, .int .i64 0, .int .u64 0] 41 (0, 0)) := by subst hW; rw [← World.size_alloc w]; exact hnew _ _
  have hB : Below w.heap.size w W := by subst hW; exact (blA _ _).alloc (by simp) _
  rw [hW]
  clear hW
  have f0 : W.cell? ⟨w.heap.size, 0, none⟩ = some (.int .i64 M) := cell_of c0 0
  have f1 : W.cell? ⟨w.heap.size, 1, none⟩ = some (.int .i64 X) := cell_of c0 1
  clear c0
  refine reg_seq (fun W => W.cell? ⟨w.heap.size, 0, none⟩ = some (.int .i64 M) ∧ W.cell? ⟨w.heap.size, 1, none⟩ = some (.int .i64 X) ∧ W.heap[w.heap.size+1]? = some (.cells #[.int .i64 0, .bool false, .int .i64 0, .int .u64 0] 41 (0, 0)) ∧ Below w.heap.size w W) [(0, true), (1, false), (2, true), (3, true), (4, true), (6, true), (7, true), (8, true), (9, true), (10, true), (11, true), (5, false), (12, true), (13, true)] (by kernel_rfl) (by kernel_rfl) ⟨by assumption, by assumption, by assumption, Below.drew (by assumption)⟩ (fun hS => ?_)
  clear f0 f1 c1 hB
  repeat (first
    | (refine sq_take (oi := ⟨_, _, _, _, _, _⟩) (v := ?_) rfl (fun _ _ _ h => h) (by rfl) ?_ ?_; rotate_left; (intro w hSw; (try dsimp only at hSw); go_simp; with_reducible rfl); (try simp only [Act.put, List.setIfInBounds_toArray, List.set_cons_zero, List.set_cons_succ]))
    | (refine sq_skip (oi := ⟨_, _, _, _, _, _⟩) rfl (fun _ _ _ h => h) (by rfl) ?_; (try simp only [Act.put, List.setIfInBounds_toArray, List.set_cons_zero, List.set_cons_succ]))
    | (refine sq_skipc (oi := ⟨_, _, _, _, _, _⟩) rfl (by rfl) hS ?_; (try simp only [Act.put, List.setIfInBounds_toArray, List.set_cons_zero, List.set_cons_succ]))
    | (refine sq_call (oi := ⟨_, _, _, _, _, _⟩) rfl (by rfl) (fun K hK => ?_); go_simp; (first | (go_at_call 98; refine (check_calls hf _).mono ?_; rintro e w2 ⟨rfl, hb⟩) | (go_at_call 125; refine (len_calls _ H64.out _).mono ?_; rintro e w2 ⟨rfl, hb⟩)); refine hK.out _ _ (by go_split_ands; exact ⟨cellk hb (by assumption), cellk hb (by assumption), heapk hb (by assumption), bkeep hb (by assumption)⟩) (fun hT => ?_); clear hK K hS hb; (have hS := hT); clear hT; (try simp only [Act.put, List.setIfInBounds_toArray, List.set_cons_zero, List.set_cons_succ])))
  refine sq_done ?_
  obtain ⟨f0, f1, c1, hB⟩ := hS
  have r0 : w2.cell? ⟨w.heap.size + 1, 0, none⟩ = some (.int .i64 0) := cell_of c1 0
  have r1 : w2.cell? ⟨w.heap.size + 1, 1, none⟩ = some (.bool false) := cell_of c1 1
  have r2 : w2.cell? ⟨w.heap.size + 1, 2, none⟩ = some (.int .i64 0) := cell_of c1 2
  have r3 : w2.cell? ⟨w.heap.size + 1, 3, none⟩ = some (.int .u64 0) := cell_of c1 3
  have q0 := froz_of c1 0
  have q1 := froz_of c1 1
  have q2 := froz_of c1 2
  have q3 := froz_of c1 3
  clear c1
  go_wp2
  refine bodyPost_ret (v := .tuple #[.agg #[.int .i64 0, .bool false, .int .i64 0, .int .u64 0], .int .i64 1]) (by simp [results, Try.results93, go_sem, r0, r1, r2, r3]) rfl ?_
  exact ret_close rfl (by repeat (first | (with_reducible exact hB) | refine Below.setCell ?_ (by simp <;> omega) _))
theorem open_bad (m x : Int) (a : Nat) (h64 : a < 2^64) (h : ∀ M X : Nat, m = M → x = X → Okf M X → 2^(1+X+M) ≤ a) (w : World) :
    Calls Try.prog 93 #[.agg #[.int .i64 m, .int .i64 x], .int .u64 a] w (Ret (.tuple #[.agg #[.int .i64 0, .bool false, .int .i64 0, .int .u64 0], .int .i64 1]) w) := by
  by_cases hn : 2 ≤ m ∧ m ≤ 52 ∧ 2 ≤ x ∧ x ≤ 11
  · obtain ⟨M, rfl⟩ : ∃ M : Nat, m = M := ⟨m.toNat, by omega⟩
    obtain ⟨X, rfl⟩ : ∃ X : Nat, x = X := ⟨x.toNat, by omega⟩
    have hf : Okf M X := ⟨by omega, by omega, by omega, by omega⟩
    exact open_badp hf a h64 (h M X rfl rfl hf) w
  · exact open_badf m x a hn w
/-! ### round.down -/
def hl (hi lo : Nat) : Nat := hi*2^64+lo
def dq (hi lo n : Nat) : Nat := hl hi lo / 2^n
def dh (hi lo n : Nat) : Bool := decide (hl hi lo / 2^(n-1) % 2 = 1)
def dr (hi lo n : Nat) : Bool := decide (hl hi lo % 2^(n-1) ≠ 0)
theorem hl_div (hi lo k : Nat) (hl : lo < 2^64) : (hi*2^64+lo) / 2^(64+k) = hi / 2^k := by
  rw [Nat.pow_add, ← Nat.div_div_eq_div_mul, show hi*2^64+lo = lo + 2^64*hi by rw [Nat.mul_comm, Nat.add_comm], Nat.add_mul_div_left _ _ (pow_pos' 64), Nat.div_eq_of_lt hl, Nat.zero_add]
theorem hl_mod (hi lo k : Nat) (hl : lo < 2^64) : (hi*2^64+lo) % 2^(64+k) = hi % 2^k * 2^64 + lo := by
  rw [Nat.pow_add, Nat.mod_mul, show hi*2^64+lo = lo + 2^64*hi by rw [Nat.mul_comm, Nat.add_comm], Nat.add_mul_mod_self_left, Nat.mod_eq_of_lt hl, Nat.add_mul_div_left _ _ (pow_pos' 64), Nat.div_eq_of_lt hl, Nat.zero_add, Nat.mul_comm, Nat.add_comm]
theorem lo_div (hi lo k : Nat) (hk : k ≤ 64) : (hi*2^64+lo) / 2^k = hi*2^(64-k) + lo / 2^k := by
  have e : hi*2^64+lo = lo + 2^k*(hi*2^(64-k)) := by
    rw [Nat.mul_left_comm, ← Nat.pow_add, show k + (64-k) = 64 by omega, Nat.add_comm]
  rw [e, Nat.add_mul_div_left _ _ (pow_pos' k), Nat.add_comm]
theorem lo_mod (hi lo k : Nat) (hk : k ≤ 64) : (hi*2^64+lo) % 2^k = lo % 2^k := by
  have e : hi*2^64+lo = lo + 2^k*(hi*2^(64-k)) := by
    rw [Nat.mul_left_comm, ← Nat.pow_add, show k + (64-k) = 64 by omega, Nat.add_comm]
  rw [e, Nat.add_mul_mod_self_left]
theorem and_half (a k : Nat) (ha : a < 2^64) (hk : k < 64) : (bits .and .u64 (bits .and .u64 (a : Int) (IntKind.u64.wrap (IntKind.u64.wrap (2^(k+1)) - 1))) (IntKind.u64.wrap (2^k)) != 0) = decide (a / 2^k % 2 = 1) := by
  rw [u64_mask (by omega), and64 ha (by have := pow_le (a := k+1) (b := 64) (by omega); have := pow_pos' (k+1); omega), and_mask, u64_pow hk, and64 (Nat.lt_of_le_of_lt (Nat.mod_le _ _) ha) (pow_lt hk), bne0, decide_eq_decide, and_bit, mod_div_bit]
theorem and_rest (a k : Nat) (ha : a < 2^64) (hk : k < 64) : bits .and .u64 (bits .and .u64 (a : Int) (IntKind.u64.wrap (IntKind.u64.wrap (2^(k+1)) - 1))) (IntKind.u64.wrap (IntKind.u64.wrap (2^k) - 1)) = (a % 2^k : Nat) := by
  rw [u64_mask (by omega), u64_mask (by omega), and64 ha (by have := pow_le (a := k+1) (b := 64) (by omega); have := pow_pos' (k+1); omega), and_mask, and64 (Nat.lt_of_le_of_lt (Nat.mod_le _ _) ha) (by have := pow_lt hk; omega), and_mask, mod_mod_pow]
theorem down_calls (hi lo : Nat) (n : Int) (m : Nat) (hm : n = m) (hn : 1 ≤ m) (h1 : hi < 2^64) (h2 : lo < 2^64) (hq : (hi*2^64+lo) / 2^m < 2^64) (w : World) :
    Calls Try.prog 122 #[.int .u64 hi, .int .u64 lo, .int .i64 n] w (Ret (.tuple #[.int .u64 (dq hi lo m : Nat), .bool (dh hi lo m), .bool (dr hi lo m)]) w) := by
  show Calls Try.prog 122 #[.int .u64 hi, .int .u64 lo, .int .i64 n] w (Ret (.tuple #[.int .u64 ((hi*2^64+lo) / 2^m : Nat), .bool (decide ((hi*2^64+lo) / 2^(m-1) % 2 = 1)), .bool (decide ((hi*2^64+lo) % 2^(m-1) ≠ 0))]) w)
  subst hm
  have H1 : Hid (hi < 2^64) := h1; clear h1
  have H2 : Hid (lo < 2^64) := h2; clear h2
  have HQ : Hid ((hi*2^64+lo) / 2^m < 2^64) := hq; clear hq
  by_cases c1 : 128 < m
  · go_enter Try.func122, Try.ntmps122
    go_wp2
    go_ret3
    refine ret_close (tup3 (int_eq ?_) (bool_eq ?_) (bool_eq ?_)) (Below.refl _ _)
    all_goals have h1 := H1.out
    all_goals have h2 := H2.out
    all_goals have h3 : hi*2^64+lo < 2^(m-1) := Nat.lt_of_lt_of_le (by omega : hi*2^64+lo < 2^128) (pow_le (by omega))
    all_goals have h4 : 2^(m-1) ≤ 2^m := pow_le (by omega)
    · rw [Nat.div_eq_of_lt (by omega)]; rfl
    · rw [Nat.div_eq_of_lt h3]; rfl
    · rw [or64 h1 h2, bne0, Nat.mod_eq_of_lt h3, decide_eq_decide, Ne, Ne, Nat.or_eq_zero_iff]
      omega
  by_cases c2 : 64 < m
  · obtain ⟨k, rfl⟩ : ∃ k, m = 64 + 1 + k := ⟨m - 65, by omega⟩
    have e4 : k < 64 := by omega
    go_enter Try.func122, Try.ntmps122
    go_wp2
    all_goals go_ret3
    all_goals refine ret_close (tup3 (int_eq ?_) (bool_eq ?_) (bool_eq ?_)) (Below.refl _ _)
    all_goals have h1 := H1.out
    all_goals have h2 := H2.out
    all_goals have x1 : 65 + k - 64 = k + 1 := by omega
    all_goals have x2 : 64 + 1 + k - 1 = 64 + k := by omega
    all_goals have x3 : 64 + 1 + k = 64 + (k+1) := by omega
    all_goals have x4 : k + 1 - 1 = k := by omega
    all_goals rename_i hz
    all_goals rw [x1] at hz
    all_goals rw [x4, and_rest _ _ h1 e4] at hz
    · rw [x1, x3, hl_div _ _ _ h2, pow_cast, ← Int.natCast_ediv]
    · rw [x1, x4, and_half _ _ h1 e4, x2, hl_div _ _ _ h2]
    · rw [x2, hl_mod _ _ _ h2, bne0, decide_eq_decide]; omega
    · rw [x1, x3, hl_div _ _ _ h2, pow_cast, ← Int.natCast_ediv]
    · rw [x1, x4, and_half _ _ h1 e4, x2, hl_div _ _ _ h2]
    · rw [x2, hl_mod _ _ _ h2]; symm; rw [decide_eq_true_eq]; omega
  · obtain ⟨k, rfl⟩ : ∃ k, m = 1 + k := ⟨m - 1, by omega⟩
    have e1 : IntKind.i64.wrap (((1 + k : Nat) : Int) - 1) = k := by rw [IntWalk.i64_in _ (by omega)]; omega
    have e2 : IntKind.i64.wrap (64 - ((1 + k : Nat) : Int)) = ((63 - k : Nat) : Int) := by rw [IntWalk.i64_in _ (by omega)]; omega
    have e4 : k ≤ 63 := by omega
    go_enter Try.func122, Try.ntmps122
    go_wp2
    go_quiet (fail)
    go_wp2
    go_ret3
    refine ret_close (tup3 (int_eq ?_) (bool_eq ?_) (bool_eq ?_)) (drn (Below.refl _ _) _)
    all_goals have h1 := H1.out
    all_goals have h2 := H2.out
    all_goals have x1 : 1 + k - 1 = k := by omega
    all_goals have x2 : 1 + k = k + 1 := by omega
    · have hq := HQ.out
      rw [lo_div _ _ _ (by omega)] at hq ⊢
      have hp : hi * 2^(64 - (1+k)) < 2^64 := Nat.lt_of_le_of_lt (Nat.le_add_right _ _) hq
      have hlt : lo / 2^(1+k) < 2^(64-(1+k)) := by
        rw [Nat.div_lt_iff_lt_mul (pow_pos' _), ← Nat.pow_add, show 64 - (1+k) + (1+k) = 64 by omega]; exact h2
      rw [pow_cast, ← Int.natCast_mul, u64_nat hp, pow_cast, ← Int.natCast_ediv, or64 hp (Nat.lt_of_lt_of_le hlt (pow_le (by omega))), or_add (i := 64 - (1+k)) (Nat.mul_mod_left _ _) hlt]
    · rw [x2, and_half _ _ h2 (by omega), show k + 1 - 1 = k from rfl, lo_div _ _ _ (by omega)]
      rw [decide_eq_decide]
      have : hi * 2^(64-k) % 2 = 0 := by
        obtain ⟨j, hj⟩ : ∃ j, 64 - k = j + 1 := ⟨63 - k, by omega⟩
        rw [hj, Nat.pow_succ, ← Nat.mul_assoc, Nat.mul_mod_left]
      generalize lo / 2^k = q at *
      omega
    · rw [x2, and_rest _ _ h2 (by omega), bne0, show k + 1 - 1 = k from rfl, lo_mod _ _ _ (by omega)]
/-! ### what Pack comes to at its end -/
def least (M X : Nat) : Int := 1 - bia X - M
def code (M X : Nat) (U : Int) (Q : Nat) : Nat := min (infc M X) ((U - least M X).toNat * 2^M + Q)
theorem sgn_lt {M X : Nat} (hf : Okf M X) (s : Bool) : sgn M X s ≤ 2^(X+M) ∧ sgn M X s % 2^(X+M) = 0 ∧ 2^(X+M) < 2^63 + 1 := by
  have h1 := hf.m2; have h2 := hf.x2
  have h3 := pow_pos' (X+M)
  refine ⟨by unfold sgn; split <;> omega, by unfold sgn; split <;> simp, by have := pow_le (a := X+M) (b := 63) (by omega); omega⟩
theorem or_sgn {M X : Nat} (hf : Okf M X) (s : Bool) {q : Nat} (hq : q < 2^(X+M)) : bits .or .u64 (sgn M X s : Nat) (q : Nat) = (sgn M X s + q : Nat) := by
  obtain ⟨h1, h2, h3⟩ := sgn_lt hf s
  rw [or64 (by omega) (by omega), or_add h2 hq]
theorem code_small {M X : Nat} (hf : Okf M X) {U : Int} {Q : Nat} (hU : U = least M X) (hQ : Q < 2^M) : code M X U Q = Q := by
  have hi : 2^M ≤ infc M X := by
    have h3 := pow_le (a := 2) (b := X) hf.x1
    unfold infc; exact Nat.le_mul_of_pos_left _ (by omega)
  unfold code; subst hU
  rw [Int.sub_self]; simp; omega
theorem fin1 {M X : Nat} (hf : Okf M X) (s : Bool) {U : Int} {Q : Nat} (hU : U = least M X) (hQ : Q < 2^M) : bits .or .u64 (sgn M X s : Nat) (Q : Int) = (sgn M X s + code M X U Q : Nat) := by
  have : 2^M ≤ 2^(X+M) := pow_le (by omega)
  rw [code_small hf hU hQ, or_sgn hf s (by omega)]
theorem field_code {M X : Nat} {U : Int} {Q : Nat} (hU : least M X ≤ U) (hQ1 : 2^M ≤ Q) : (U - least M X).toNat * 2^M + Q = (U + bia X + M).toNat * 2^M + (Q - 2^M) := by
  unfold least at *
  have e : (U + bia X + M).toNat = (U - (1 - bia X - M)).toNat + 1 := by omega
  rw [e, Nat.add_mul, Nat.one_mul]; omega
theorem fin2 {M X : Nat} {s : Bool} {U : Int} {Q : Nat} (hU : least M X ≤ U) (hQ1 : 2^M ≤ Q) (h : ((2^X - 1 : Nat) : Int) ≤ U + bia X + M) : ((infc M X + sgn M X s : Nat) : Int) = (sgn M X s + code M X U Q : Nat) := by
  unfold code
  rw [field_code hU hQ1]
  have : infc M X ≤ (U + bia X + M).toNat * 2^M := by unfold infc; exact Nat.mul_le_mul_right _ (by omega)
  omega
theorem fin3 {M X : Nat} (hf : Okf M X) (s : Bool) {U : Int} {Q : Nat} (hU : least M X ≤ U) (hQ1 : 2^M ≤ Q) (hQ2 : Q < 2^(M+1)) (h : U + bia X + M < ((2^X - 1 : Nat) : Int)) :
    bits .or .u64 (bits .or .u64 (sgn M X s : Nat) (IntKind.u64.wrap (IntKind.u64.wrap (U + bia X + M) * 2^M))) (bits .and .u64 (Q : Int) (IntKind.u64.wrap (IntKind.u64.wrap (2^M) - 1))) = (sgn M X s + code M X U Q : Nat) := by
  have g1 := hf.m2; have g2 := hf.x2
  have hp := pow_pos' M
  have hs := sgn_lt hf s
  have h2m : 2^(M+1) = 2*2^M := by rw [Nat.pow_succ]; omega
  obtain ⟨f, hfld⟩ : ∃ f : Nat, U + bia X + M = f := ⟨(U + bia X + M).toNat, by unfold least at hU; omega⟩
  have hf1 : f < 2^X - 1 := by omega
  have hfm : f * 2^M + 2^M ≤ infc M X := by
    unfold infc; rw [← Nat.succ_mul]; exact Nat.mul_le_mul_right _ (by omega)
  have hin := inf_lt M X
  have hx : 2^X ≤ 2048 := pw11 g2
  have hq64 : Q < 2^64 := by have := pow_le (a := M+1) (b := 53) (by omega); omega
  unfold code
  rw [field_code hU hQ1, hfld]
  rw [u64_mask (by omega), and64 hq64 (by have := pow_lt (a := M) (b := 64) (by omega); omega), and_mask]
  have hqm : Q % 2^M = Q - 2^M := by
    rw [Nat.mod_eq_sub_mod hQ1, Nat.mod_eq_of_lt (by omega)]
  rw [hqm, u64_nat (n := f) (by omega), pow_cast, ← Int.natCast_mul, u64_nat (by omega), or_sgn hf s (by omega)]
  have hsm : (sgn M X s + f * 2^M) % 2^M = 0 := by
    have e : sgn M X s % 2^M = 0 := by
      unfold sgn; split
      · rw [Nat.pow_add]; exact Nat.mul_mod_left _ _
      · exact Nat.zero_mod _
    rw [Nat.add_mod, e, Nat.mul_mod_left, Nat.add_zero, Nat.zero_mod]
  rw [or64 (by omega) (by omega), or_add hsm (by omega)]
  rw [show (f : Int).toNat = f from rfl]
  rw [Nat.min_eq_right (by omega), Nat.add_assoc]
/-! ### round.Pack -/
set_option maxHeartbeats 8000000 in
theorem pack_core {M X : Nat} (hf : Okf M X) (neg more : Bool) (hi lo L : Nat) (e U : Int) (h1 : Hid (hi < 2^64)) (h2 : Hid (lo < 2^64)) (hL : bl (hi*2^64+lo) = L) (hL1 : 1 ≤ L) (hL2 : L ≤ 128) (hm : more = true → M + 3 ≤ L)
    (he1 : -4096 ≤ e) (he2 : e ≤ 4096) (hU : (if (L : Int) + e - M - 1 < 1 - (bia X : Int) - M then 1 - (bia X : Int) - M else (L : Int) + e - M - 1) = U) (hU1 : -6000 ≤ U) (hU2 : U ≤ 6000)
    (Q : Nat) (hQ1 : Hid (U ≤ e → IntKind.u64.wrap ((lo : Int) * 2^(e-U).toNat) = Q)) (hQ2 : Hid (e < U → (hi*2^64+lo) / 2^(U-e).toNat < 2^64))
    (D E O : Bool) (q : Int) (hD : dh hi lo (U-e).toNat = D) (hE : dr hi lo (U-e).toNat = E) (hq : ((dq hi lo (U-e).toNat : Nat) : Int) = q) (hO : (bits .and .u64 q 1 == 1) = O) (hQ3 : Hid (e < U → (Q : Int) = if (D && (E || more || O)) = true then IntKind.u64.wrap (q + 1) else q))
    (V : Int) (R : Nat) (hVR : Hid ((Q < 2^(M+1) ∧ V = U ∧ R = Q) ∨ (Q = 2^(M+1) ∧ V = U + 1 ∧ R = 2^M))) (hV : Hid (least M X ≤ V)) (hV2 : Hid (R < 2^M → V = least M X)) (hR : Hid (R < 2^(M+1))) (hVb : -7000 ≤ V ∧ V ≤ 7000)
    (Z : Nat) (hc : Hid (Z = sgn M X neg + code M X V R)) (w : World) :
    Calls Try.prog 69 #[.agg #[.int .i64 M, .int .i64 X], .bool neg, .int .u64 hi, .int .u64 lo, .int .i64 e, .bool more] w (Ret (.tuple #[.int .u64 (Z : Nat), .int .i64 0]) w) := by
  have ⟨g1, g2, g3, g4⟩ := hf
  have hu23 := Try.underlying23
  have hbi := bia_le g4
  have i1 : IntKind.i64.wrap ((L : Int) + e) = L + e := IntWalk.i64_in _ (by omega)
  have i2 : IntKind.i64.wrap ((L : Int) + e - M) = L + e - M := IntWalk.i64_in _ (by omega)
  have i3 : IntKind.i64.wrap ((L : Int) + e - M - 1) = L + e - M - 1 := IntWalk.i64_in _ (by omega)
  have i4 : IntKind.i64.wrap (1 - (bia X : Int)) = 1 - bia X := IntWalk.i64_in _ (by omega)
  have i5 : IntKind.i64.wrap (1 - (bia X : Int) - M) = 1 - bia X - M := IntWalk.i64_in _ (by omega)
  have l0 : ((L : Int) == 0) = false := by rw [beq0]; simp; omega
  have hm' : Hid (more = true → ¬ (L : Int) < M + 3) := fun h => by have := hm h; omega
  clear hm
  have hQ0 : 0 ≤ (Q : Int) := Int.natCast_nonneg _
  go_enter Try.func69, Try.ntmps69
  go_upto_region 2 with (go_at_call 120; refine (length_calls _ _ h1.out h2.out _).mono ?_; rintro e w1 ⟨rfl, hb1⟩; have f0 := cellk hb1 (show (w.alloc (Obj.cells #[Value.int IntKind.i64 M, Value.int IntKind.i64 X] 23)).cell? ⟨w.heap.size, 0, none⟩ = some (.int .i64 M) from cell_of (hnew _ _) 0); have f1 := cellk hb1 (show (w.alloc (Obj.cells #[Value.int IntKind.i64 M, Value.int IntKind.i64 X] 23)).cell? ⟨w.heap.size, 1, none⟩ = some (.int .i64 X) from cell_of (hnew _ _) 1); have hB := blS hb1; clear hb1)
  go_cut [43] (fun c W => c = .bool false ∧ W.cell? ⟨w.heap.size, 0, none⟩ = some (.int .i64 M) ∧ W.cell? ⟨w.heap.size, 1, none⟩ = some (.int .i64 X) ∧ Below w.heap.size w W)
  case first => as_aux_lemma =>
    have y1 : ¬ e < -4096 := by omega
    have y2 : ¬ 4096 < e := by omega
    have hm2 := hm'.out
    cases more
    all_goals
      try have hm3 := hm2 rfl
      clear hm2
      go_wp2_with (go_at_call 98; refine (check_calls hf _).mono ?_; rintro e w2 ⟨rfl, hb⟩; have f0' := cellk hb f0; have f1' := cellk hb f1; have hB' := bkeep hb hB; clear hb f0 f1 hB; have f0 := f0'; have f1 := f1'; have hB := hB'; clear f0' f1' hB')
      go_meet
      refine ⟨?_, f0, f1, hB⟩
      simp
      try omega
  case rest => as_aux_lemma =>
    obtain ⟨rfl, f0, f1, hB⟩ := hcut
    go_wp2
    refine reg_seq (fun W => W.cell? ⟨w.heap.size, 0, none⟩ = some (.int .i64 M) ∧ W.cell? ⟨w.heap.size, 1, none⟩ = some (.int .i64 X) ∧ Below w.heap.size w W) [(0, true), (1, true), (2, true), (3, true), (4, true), (5, true), (6, true), (7, true), (10, true), (11, true), (8, false), (9, true), (12, true), (13, true), (14, true)] (by as_aux_lemma => kernel_rfl) (by as_aux_lemma => kernel_rfl) ⟨by assumption, by assumption, Below.drew (by assumption)⟩ (fun hS => ?_)
    clear f0 f1 hB
    repeat (first
      | (refine sq_take (oi := ⟨_, _, _, _, _, _⟩) (v := ?_) rfl (fun _ _ _ h => h) (by rfl) ?_ ?_; rotate_left; (intro w hSw; (try dsimp only at hSw); go_simp; with_reducible rfl); (try simp only [Act.put, List.setIfInBounds_toArray, List.set_cons_zero, List.set_cons_succ]))
      | (refine sq_skip (oi := ⟨_, _, _, _, _, _⟩) rfl (fun _ _ _ h => h) (by rfl) ?_; (try simp only [Act.put, List.setIfInBounds_toArray, List.set_cons_zero, List.set_cons_succ]))
      | (refine sq_skipc (oi := ⟨_, _, _, _, _, _⟩) rfl (by rfl) hS ?_; (try simp only [Act.put, List.setIfInBounds_toArray, List.set_cons_zero, List.set_cons_succ]))
      | (refine sq_call (oi := ⟨_, _, _, _, _, _⟩) rfl (by rfl) (fun K hK => ?_); go_simp; (first | (go_at_call 121; refine (bias_calls hf _).mono ?_; rintro e w2 ⟨rfl, hb⟩)); refine hK.out _ _ (by go_split_ands; exact ⟨cellk hb (by assumption), cellk hb (by assumption), bkeep hb (by assumption)⟩) (fun hT => ?_); clear hK K hS hb; (have hS := hT); clear hT; (try simp only [Act.put, List.setIfInBounds_toArray, List.set_cons_zero, List.set_cons_succ])))
    refine sq_done ?_
    obtain ⟨f0, f1, hB⟩ := hS
    go_upto_if 65 with (fail)
    go_cut [15, 16] (fun u q W => u = .int .i64 U ∧ q = .int .u64 (Q : Int) ∧ W.cell? ⟨w.heap.size, 0, none⟩ = some (.int .i64 M) ∧ W.cell? ⟨w.heap.size, 1, none⟩ = some (.int .i64 X) ∧ Below w.heap.size w W)
    case first => as_aux_lemma =>
      by_cases c : U ≤ e
      · have q1 := hQ1.out c
        go_wp2
        go_meet
        exact ⟨rfl, rfl, f0, f1, hB⟩
      · have c' : e < U := by omega
        have H1 := Lib.hid (hQ2.out c')
        have H2 := Lib.hid (hQ3.out c')
        clear hQ1 hQ2 hQ3
        have j1 : IntKind.i64.wrap (U - e) = U - e := IntWalk.i64_in _ (by omega)
        cases more
        all_goals as_aux_lemma =>
          go_wp2_with (go_at_call 122; refine (down_calls _ _ _ (U-e).toNat (by omega) (by omega) h1.out h2.out H1.out _).mono ?_; rintro e w3 ⟨rfl, hb3⟩)
          all_goals go_meet
          all_goals refine ⟨rfl, int_eq (Eq.trans ?_ H2.out.symm), cellk hb3 f0, cellk hb3 f1, bkeep hb3 hB⟩
          all_goals clear hb3 f0 f1 hB H1 H2 hU
          all_goals simp_all
    case rest => as_aux_lemma =>
      clear f0 f1 hB
      obtain ⟨rfl, rfl, f0, f1, hB⟩ := hcut
      go_upto_if 100 with (fail)
      go_cut [15, 16] (fun u q W => u = .int .i64 V ∧ q = .int .u64 (R : Int) ∧ W.cell? ⟨w.heap.size, 0, none⟩ = some (.int .i64 M) ∧ W.cell? ⟨w.heap.size, 1, none⟩ = some (.int .i64 X) ∧ Below w.heap.size w W)
      case first => as_aux_lemma =>
        have hp := pow_pos' (M+1)
        rcases hVR.out with ⟨z1, z3, z2⟩ | ⟨z1, z3, z2⟩
        · have b1 : ((Q : Int) / 2^(M+1) != 0) = false := by rw [pow_cast, ← Int.natCast_ediv, bne0, Nat.div_eq_of_lt z1]; rfl
          have Z1 := Lib.hid z1; have Z2 := Lib.hid z2; have Z3 := Lib.hid z3; clear z1 z2 z3
          go_wp2
          go_meet
          exact ⟨int_eq Z3.out.symm, int_eq (by rw [Z2.out]), f0, f1, hB⟩
        · have b1 : ((Q : Int) / 2^(M+1) != 0) = true := by rw [pow_cast, ← Int.natCast_ediv, bne0, z1, Nat.div_self hp]; rfl
          have b2 : (Q : Int) / 2 = R := by rw [z1, z2, Nat.pow_succ]; omega
          have j2 : IntKind.i64.wrap (U + 1) = U + 1 := IntWalk.i64_in _ (by omega)
          have Z1 := Lib.hid z1; have Z2 := Lib.hid z2; have Z3 := Lib.hid z3; clear z1 z2 z3
          go_wp2
          go_meet
          exact ⟨int_eq Z3.out.symm, rfl, f0, f1, hB⟩
      case rest => as_aux_lemma =>
        clear f0 f1 hB
        obtain ⟨rfl, rfl, f0, f1, hB⟩ := hcut
        by_cases c : R < 2^M
        · have b1 : ((R : Int) / 2^M == 0) = true := by rw [pow_cast, ← Int.natCast_ediv, beq0, Nat.div_eq_of_lt c]; rfl
          have FIN := Lib.hid (fin1 hf neg (hV2.out c) c)
          have C := Lib.hid c; clear c
          go_wp2_with (go_at_call 119; refine (sign_calls hf _ _).mono ?_; rintro e w2 ⟨rfl, hb⟩)
          go_ret2
          exact ret_close (tup2 (int_eq (by rw [hc.out]; exact FIN.out)) rfl) (bkeep hb hB)
        · have b1 : ((R : Int) / 2^M == 0) = false := by
            rw [pow_cast, ← Int.natCast_ediv, beq0]
            have : 0 < R / 2^M := Nat.div_pos (by omega) (pow_pos' M)
            simp; omega
          have c' : 2^M ≤ R := by omega
          have hV1 := hV.out
          have j3 : IntKind.i64.wrap (V + (bia X : Int)) = V + bia X := IntWalk.i64_in _ (by omega)
          have j4 : IntKind.i64.wrap (V + (bia X : Int) + M) = V + bia X + M := IntWalk.i64_in _ (by omega)
          have j5 : wrap64 (wrap64 (2^X) - 1) = ((2^X - 1 : Nat) : Int) := by
            have := pw11 g4; have := pow_pos' X
            rw [pow_cast, IntWalk.wrap64_in ((2^X : Nat) : Int) ⟨by omega, by omega⟩, IntWalk.wrap64_in _ ⟨by omega, by omega⟩]; omega
          have C := Lib.hid c'; clear c c'
          go_wp2_with fail
          refine reg_seq (fun W => W.cell? ⟨w.heap.size, 0, none⟩ = some (.int .i64 M) ∧ W.cell? ⟨w.heap.size, 1, none⟩ = some (.int .i64 X) ∧ Below w.heap.size w W) [(0, true), (1, true), (4, true), (5, true), (2, false), (3, true), (6, true), (7, true)] (by as_aux_lemma => kernel_rfl) (by as_aux_lemma => kernel_rfl) ⟨by assumption, by assumption, Below.drew (by assumption)⟩ (fun hS => ?_)
          clear f0 f1 hB
          repeat (first
            | (refine sq_take (oi := ⟨_, _, _, _, _, _⟩) (v := ?_) rfl (fun _ _ _ h => h) (by rfl) ?_ ?_; rotate_left; (intro w hSw; (try dsimp only at hSw); go_simp; with_reducible rfl); (try simp only [Act.put, List.setIfInBounds_toArray, List.set_cons_zero, List.set_cons_succ]))
            | (refine sq_skip (oi := ⟨_, _, _, _, _, _⟩) rfl (fun _ _ _ h => h) (by rfl) ?_; (try simp only [Act.put, List.setIfInBounds_toArray, List.set_cons_zero, List.set_cons_succ]))
            | (refine sq_skipc (oi := ⟨_, _, _, _, _, _⟩) rfl (by rfl) hS ?_; (try simp only [Act.put, List.setIfInBounds_toArray, List.set_cons_zero, List.set_cons_succ]))
            | (refine sq_call (oi := ⟨_, _, _, _, _, _⟩) rfl (by rfl) (fun K hK => ?_); go_simp; (first | (go_at_call 121; refine (bias_calls hf _).mono ?_; rintro e w2 ⟨rfl, hb⟩)); refine hK.out _ _ (by go_split_ands; exact ⟨cellk hb (by assumption), cellk hb (by assumption), bkeep hb (by assumption)⟩) (fun hT => ?_); clear hK K hS hb; (have hS := hT); clear hT; (try simp only [Act.put, List.setIfInBounds_toArray, List.set_cons_zero, List.set_cons_succ])))
          refine sq_done ?_
          obtain ⟨f0, f1, hB⟩ := hS
          by_cases d : ((2^X - 1 : Nat) : Int) ≤ V + bia X + M
          · have FIN := Lib.hid (fin2 (s := neg) hV1 C.out d)
            go_wp2_with (go_at_call 66; refine (inf_calls hf _ _).mono ?_; rintro e w2 ⟨rfl, hb⟩)
            go_ret2
            exact ret_close (tup2 (int_eq (by rw [hc.out]; exact FIN.out)) rfl) (bkeep hb hB)
          · have FIN := Lib.hid (fin3 hf neg hV1 C.out hR.out (by omega))
            go_wp2_with fail
            refine reg_seq (fun W => W.cell? ⟨w.heap.size, 0, none⟩ = some (.int .i64 M) ∧ W.cell? ⟨w.heap.size, 1, none⟩ = some (.int .i64 X) ∧ Below w.heap.size w W) [(0, true), (1, true), (3, true), (4, true), (5, true), (6, true), (7, true), (9, true), (10, true), (11, true), (12, true), (13, true), (14, true), (2, false), (8, true), (15, true), (16, true), (17, true)] (by as_aux_lemma => kernel_rfl) (by as_aux_lemma => kernel_rfl) ⟨by assumption, by assumption, Below.drew (by assumption)⟩ (fun hS => ?_)
            clear f0 f1 hB
            repeat (first
              | (refine sq_take (oi := ⟨_, _, _, _, _, _⟩) (v := ?_) rfl (fun _ _ _ h => h) (by rfl) ?_ ?_; rotate_left; (intro w hSw; (try dsimp only at hSw); go_simp; with_reducible rfl); (try simp only [Act.put, List.setIfInBounds_toArray, List.set_cons_zero, List.set_cons_succ]))
              | (refine sq_skip (oi := ⟨_, _, _, _, _, _⟩) rfl (fun _ _ _ h => h) (by rfl) ?_; (try simp only [Act.put, List.setIfInBounds_toArray, List.set_cons_zero, List.set_cons_succ]))
              | (refine sq_skipc (oi := ⟨_, _, _, _, _, _⟩) rfl (by rfl) hS ?_; (try simp only [Act.put, List.setIfInBounds_toArray, List.set_cons_zero, List.set_cons_succ]))
              | (refine sq_call (oi := ⟨_, _, _, _, _, _⟩) rfl (by rfl) (fun K hK => ?_); go_simp; (first | (go_at_call 119; refine (sign_calls hf _ _).mono ?_; rintro e w2 ⟨rfl, hb⟩)); refine hK.out _ _ (by go_split_ands; exact ⟨cellk hb (by assumption), cellk hb (by assumption), bkeep hb (by assumption)⟩) (fun hT => ?_); clear hK K hS hb; (have hS := hT); clear hT; (try simp only [Act.put, List.setIfInBounds_toArray, List.set_cons_zero, List.set_cons_succ])))
            refine sq_done ?_
            obtain ⟨f0, f1, hB⟩ := hS
            go_wp2
            go_ret2
            exact ret_close (tup2 (int_eq (by rw [hc.out]; exact FIN.out)) rfl) hB
end Go.Proofs.Ytpliondhiahhnaa.K
