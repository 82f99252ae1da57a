import Derived.Test.YtpliondhiahhnaaB2
import Derived.Test.YtpliondhiahhnaaB3
import Derived.Test.YtpliondhiahhnaaM4
import Derived.Outline
import Derived.Lib.Hide
set_option linter.unusedVariables false
set_option linter.unusedSimpArgs false
namespace Go.Proofs.Ytpliondhiahhnaa.K
open Go.RowKit Fl
set_option maxRecDepth 100000
set_option maxHeartbeats 1000000
/-- What Div packs is the nearest to the quotient. -/
theorem div_near {M X ma mb s t : Nat} {ea eb : Int} (hM : 0 < M) (hM2 : M ≤ 52) (hs : 2^63 ≤ ma*2^s) (ht : 2^63 ≤ mb*2^t) (ht2 : mb*2^t < 2^64) :
    (if (ma*2^s*2^63 % (mb*2^t) ≠ 0) then near M X (2*(ma*2^s*2^63 / (mb*2^t))+1) 1 (ea - s - eb + t - 63 - 1) else near M X (ma*2^s*2^63 / (mb*2^t)) 1 (ea - s - eb + t - 63)) = near M X ma mb (ea - eb) := by
  have hmb : 0 < mb := by
    rcases Nat.eq_zero_or_pos mb with h | h
    · subst h; rw [Nat.zero_mul] at ht; exact absurd ht (by decide)
    · exact h
  have hn : 0 < mb*2^t := Nat.lt_of_lt_of_le (by decide) ht
  have hdm := Nat.div_add_mod (ma*2^s*2^63) (mb*2^t)
  have hmod := Nat.mod_lt (ma*2^s*2^63) hn
  have hq : 2^(M+2) ≤ ma*2^s*2^63 / (mb*2^t) := by
    rw [Nat.le_div_iff_mul_le hn]
    have h1 : 2^(M+2) ≤ 2^54 := Nat.pow_le_pow_right (by decide) (by omega)
    have h2 : 2^(M+2) * (mb*2^t) ≤ 2^54 * 2^64 := Nat.mul_le_mul h1 (by omega)
    have h3 : 2^63 * 2^63 ≤ ma*2^s*2^63 := Nat.mul_le_mul_right _ hs
    have h4 : (2:Nat)^54 * 2^64 ≤ 2^63 * 2^63 := by decide
    exact Nat.le_trans h2 (Nat.le_trans h4 h3)
  generalize hQ : ma*2^s*2^63 / (mb*2^t) = q at *
  generalize hR : ma*2^s*2^63 % (mb*2^t) = r at *
  obtain ⟨K, hK⟩ : ∃ K : Nat, (K : Int) = (ea - eb).natAbs + s + 64 := ⟨(ea - eb).natAbs + s + 64, by omega⟩
  have e0 : 0 ≤ ea - s - eb + t - 63 + K := by omega
  have e1 : 0 ≤ ea - eb + K := by omega
  have e2 : (ea - eb + K).toNat + t = (ea - s - eb + t - 63 + K).toNat + s + 63 := by omega
  generalize hA : (ea - s - eb + t - 63 + K).toNat = A at *
  generalize hB : (ea - eb + K).toNat = B at *
  have key : ma * 2^B * 2^t = ma * 2^s * 2^63 * 2^A := by
    rw [Nat.mul_assoc, ← Nat.pow_add, e2, Nat.mul_assoc (ma * 2^s), ← Nat.pow_add, Nat.mul_assoc, ← Nat.pow_add]; congr 2; omega
  have hpt := two_pow_pos t
  by_cases c : r = 0
  · rw [if_neg (by simp [c])]
    refine near_eq (K := K) hM (by decide) hmb e0 e1 ?_
    rw [hA, hB]
    refine Nat.eq_of_mul_eq_mul_right hpt ?_
    rw [Nat.mul_one, key, ← hdm, c, Nat.add_zero]; ac_rfl
  · rw [if_pos c]
    symm
    refine near_sticky (K := K) hM hmb hq e0 e1 ?_ ?_
    · rw [hA, hB]
      refine Nat.lt_of_mul_lt_mul_right (a := 2^t) ?_
      rw [key, ← hdm]
      have h1 : q * 2^A * mb * 2^t = (mb*2^t*q) * 2^A := by ac_rfl
      rw [h1]; exact Nat.mul_lt_mul_of_pos_right (by omega) (two_pow_pos A)
    · rw [hA, hB]
      refine Nat.lt_of_mul_lt_mul_right (a := 2^t) ?_
      rw [key, ← hdm]
      have h1 : (q+1) * 2^A * mb * 2^t = (mb*2^t*q + mb*2^t) * 2^A := by
        rw [← Nat.mul_succ]; ac_rfl
      rw [h1]; exact Nat.mul_lt_mul_of_pos_right (by omega) (two_pow_pos A)
/-! ### soft.Div -/
def divP (M X : Nat) (ka : Int) (na : Bool) (ea : Int) (ma : Nat) (kb : Int) (nb : Bool) (eb : Int) (mb : Nat) : Nat :=
  if ka = 4 ∨ kb = 4 ∨ (ka = kb ∧ ka ≠ 2) then nanc M X else if ka = 3 ∨ kb = 1 then infc M X + sgn M X (!(na == nb)) else if ka = 1 ∨ kb = 3 then sgn M X (!(na == nb)) else sgn M X (!(na == nb)) + near M X ma mb (ea-eb)
def dvq (m n : Nat) : Nat := m*2^63/n
def dvr (m n : Nat) : Nat := m*2^63%n
theorem div64_norm (m n : Nat) (h1 : 2^63 ≤ m) (h2 : m < 2^64) (h3 : 2^63 ≤ n) (h4 : n < 2^64) (w : World) :
    Calls Try.prog 77 #[.int .u64 ((m : Int)/2), .int .u64 (IntKind.u64.wrap ((m : Int) * 9223372036854775808)), .int .u64 n] w (Ret (.tuple #[.int .u64 (dvq m n : Nat), .int .u64 (dvr m n : Nat)]) w) := by
  have e1 : (m : Int)/2 = ((m/2 : Nat) : Int) := rfl
  have e2 : IntKind.u64.wrap ((m : Int) * 9223372036854775808) = ((m*2^63 % 2^64 : Nat) : Int) := by
    rw [← u64_mod]; congr 1
  have e3 : m/2*2^64 + m*2^63 % 2^64 = m*2^63 := by omega
  have h := div64_calls (m/2) (m*2^63 % 2^64) n (by omega) (by omega) (Nat.mod_lt _ (by decide)) h3 h4 w
  rw [e3] at h
  rw [e1, e2]; exact h
theorem norm_bounds {m : Nat} (h0 : 0 < m) (h : m < 2^64) : 2^63 ≤ m * 2^(64 - bl m) ∧ m * 2^(64 - bl m) < 2^64 := by
  obtain ⟨h1, h2, h3⟩ := bl_bounds (N := m) (by omega)
  have h4 : bl m ≤ 64 := bl_le_iff.2 h
  constructor
  · have : 2^(bl m - 1) * 2^(64 - bl m) ≤ m * 2^(64 - bl m) := Nat.mul_le_mul_right _ h1
    rw [← Nat.pow_add, show bl m - 1 + (64 - bl m) = 63 by omega] at this; exact this
  · have : m * 2^(64 - bl m) < 2^(bl m) * 2^(64 - bl m) := Nat.mul_lt_mul_of_pos_right h2 (two_pow_pos _)
    rw [← Nat.pow_add, show bl m + (64 - bl m) = 64 by omega] at this; exact this
set_option maxHeartbeats 8000000 in
theorem div_core {M X : Nat} (hf : Okf M X) (a b : Nat) (ka kb ea eb : Int) (na nb : Bool) (ma mb : Nat)
    (H : Hid (∀ w, Calls Try.prog 63 #[.agg #[.int .i64 M, .int .i64 X], .int .u64 a, .int .u64 b] w (Ret (.tuple #[.agg #[.int .i64 ka, .bool na, .int .i64 ea, .int .u64 ma], .agg #[.int .i64 kb, .bool nb, .int .i64 eb, .int .u64 mb], .int .i64 0]) w)))
    (hka : ka = 1 ∨ ka = 2 ∨ ka = 3 ∨ ka = 4) (hkb : kb = 1 ∨ kb = 2 ∨ kb = 3 ∨ kb = 4) (hma : Hid (ma < 2^64)) (hmb : Hid (mb < 2^64)) (hma0 : Hid (ka = 2 → 0 < ma)) (hmb0 : Hid (kb = 2 → 0 < mb)) (he1 : -1500 ≤ ea) (he2 : ea ≤ 1500) (he3 : -1500 ≤ eb) (he4 : eb ≤ 1500) (w : World) :
    Calls Try.prog 21 #[.agg #[.int .i64 M, .int .i64 X], .int .u64 a, .int .u64 b] w (Ret (.tuple #[.int .u64 (divP M X ka na ea ma kb nb eb mb : Nat), .int .i64 0]) w) := by
  have hu23 := Try.underlying23
  have hu41 := Try.underlying41
  obtain ⟨R, hR⟩ : ∃ R, divP M X ka na ea ma kb nb eb mb = R := ⟨_, rfl⟩
  rw [hR]
  have HR := Lib.hid hR; clear hR
  obtain ⟨s, hs⟩ : ∃ s, 64 - bl ma = s := ⟨_, rfl⟩
  obtain ⟨t, ht⟩ : ∃ t, 64 - bl mb = t := ⟨_, rfl⟩
  have hs64 : s ≤ 64 := by omega
  have ht64 : t ≤ 64 := by omega
  obtain ⟨mS, hmS⟩ : ∃ mS, ma * 2^s = mS := ⟨_, rfl⟩
  obtain ⟨nS, hnS⟩ : ∃ nS, mb * 2^t = nS := ⟨_, rfl⟩
  have hm1 : ka = 2 → 2^63 ≤ mS ∧ mS < 2^64 := fun h => by rw [← hmS, ← hs]; exact norm_bounds (hma0.out h) hma.out
  have hn1 : kb = 2 → 2^63 ≤ nS ∧ nS < 2^64 := fun h => by rw [← hnS, ← ht]; exact norm_bounds (hmb0.out h) hmb.out
  have HM := Lib.hid hm1; have HN := Lib.hid hn1; have HmS := Lib.hid hmS; have HnS := Lib.hid hnS
  clear hm1 hn1 hmS hnS
  have ca : (((ka == 1) = true ∧ (ka == 3) = false ∧ (ka == 4) = false ∧ (ka == 2) = false) ∨ ((ka == 1) = false ∧ (ka == 3) = false ∧ (ka == 4) = false ∧ (ka == 2) = true) ∨ ((ka == 1) = false ∧ (ka == 3) = true ∧ (ka == 4) = false ∧ (ka == 2) = false) ∨ ((ka == 1) = false ∧ (ka == 3) = false ∧ (ka == 4) = true ∧ (ka == 2) = false)) := by
    rcases hka with rfl | rfl | rfl | rfl <;> decide
  have cb : (((kb == 1) = true ∧ (kb == 3) = false ∧ (kb == 4) = false ∧ (kb == 2) = false) ∨ ((kb == 1) = false ∧ (kb == 3) = false ∧ (kb == 4) = false ∧ (kb == 2) = true) ∨ ((kb == 1) = false ∧ (kb == 3) = true ∧ (kb == 4) = false ∧ (kb == 2) = false) ∨ ((kb == 1) = false ∧ (kb == 3) = false ∧ (kb == 4) = true ∧ (kb == 2) = false)) := by
    rcases hkb with rfl | rfl | rfl | rfl <;> decide
  have cab : Hid ((ka == kb) = (((ka == 1) && (kb == 1)) || ((ka == 2) && (kb == 2)) || ((ka == 3) && (kb == 3)) || ((ka == 4) && (kb == 4)))) := by
    show _ = _
    rcases hka with rfl | rfl | rfl | rfl <;> rcases hkb with rfl | rfl | rfl | rfl <;> decide
  clear hka hkb
  go_enter Try.func21, Try.ntmps21
  go_wp2_with fail
  refine (H.out _).mono ?_
  rintro e w1 ⟨rfl, hb⟩
  have d0 := heapk hb (show (w.alloc (Obj.cells #[Value.int IntKind.i64 M, Value.int IntKind.i64 X] 23)).heap[w.heap.size]? = some (Obj.cells #[Value.int IntKind.i64 M, Value.int IntKind.i64 X] 23) from hnew _ _)
  have hz := (Array.getElem?_eq_some_iff.1 d0).1
  have hB1 := blS hb
  clear hb
  rcases ca with ⟨ta1, ta3, ta4, ta2⟩ | ⟨ta1, ta3, ta4, ta2⟩ | ⟨ta1, ta3, ta4, ta2⟩ | ⟨ta1, ta3, ta4, ta2⟩
  all_goals rcases cb with ⟨tb1, tb3, tb4, tb2⟩ | ⟨tb1, tb3, tb4, tb2⟩ | ⟨tb1, tb3, tb4, tb2⟩ | ⟨tb1, tb3, tb4, tb2⟩
  all_goals have hod : oddB ka kb = ((ka == 4) || (kb == 4)) := rfl
  all_goals rw [ta4, tb4] at hod
  all_goals simp only [Bool.or_false, Bool.or_true, Bool.or_self] at hod
  all_goals have kab := cab.out
  all_goals rw [ta1, ta2, ta3, ta4, tb1, tb2, tb3, tb4] at kab
  all_goals simp only [Bool.and_false, Bool.and_true, Bool.or_false, Bool.or_true, Bool.or_self, Bool.and_self, Bool.false_and] at kab
  all_goals
    go_wp2_with fail
    obtain ⟨g, hg⟩ : ∃ g, w1.heap.size = g := ⟨_, rfl⟩
    obtain ⟨W, hW⟩ : ∃ W, (w1.alloc (Obj.cells #[Value.int IntKind.i64 ka, Value.bool na, Value.int IntKind.i64 ea, Value.int IntKind.u64 ma] 41)).alloc (Obj.cells #[Value.int IntKind.i64 kb, Value.bool nb, Value.int IntKind.i64 eb, Value.int IntKind.u64 mb] 41) = W := ⟨_, rfl⟩
    have c0 : W.heap[w.heap.size]? = some (Obj.cells #[Value.int IntKind.i64 M, Value.int IntKind.i64 X] 23) := by subst hW; exact hold (hold d0 _) _
    have c1 : W.heap[g]? = some (Obj.cells #[Value.int IntKind.i64 ka, Value.bool na, Value.int IntKind.i64 ea, Value.int IntKind.u64 ma] 41) := by subst hW; rw [← hg]; exact hold (hnew _ _) _
    have c2 : W.heap[g + 1]? = some (Obj.cells #[Value.int IntKind.i64 kb, Value.bool nb, Value.int IntKind.i64 eb, Value.int IntKind.u64 mb] 41) := by subst hW; rw [← hg, ← World.size_alloc w1]; exact hnew _ _
    have hB : Below w.heap.size w W := by subst hW; exact (hB1.alloc (by omega) _).alloc (by simp; omega) _
    rw [hW, hg]
    clear d0 hB1 hz hW hg
    have f0 : W.cell? ⟨w.heap.size, 0, none⟩ = some (.int .i64 M) := cell_of c0 0; have f1 : W.cell? ⟨w.heap.size, 1, none⟩ = some (.int .i64 X) := cell_of c0 1; have p0 : W.cell? ⟨g, 0, none⟩ = some (.int .i64 ka) := cell_of c1 0; have p1 : W.cell? ⟨g, 1, none⟩ = some (.bool na) := cell_of c1 1; have p2 : W.cell? ⟨g, 2, none⟩ = some (.int .i64 ea) := cell_of c1 2; have p3 : W.cell? ⟨g, 3, none⟩ = some (.int .u64 ma) := cell_of c1 3; have q0 : W.cell? ⟨g + 1, 0, none⟩ = some (.int .i64 kb) := cell_of c2 0; have q1 : W.cell? ⟨g + 1, 1, none⟩ = some (.bool nb) := cell_of c2 1; have q2 : W.cell? ⟨g + 1, 2, none⟩ = some (.int .i64 eb) := cell_of c2 2; have q3 : W.cell? ⟨g + 1, 3, none⟩ = some (.int .u64 mb) := cell_of c2 3
    go_wp2_with (first | (go_at_call 64; refine (odd_calls _ _ _ _ _ _ _ _ _).mono ?_; rintro e w2 ⟨rfl, hb⟩; have c0' := heapk hb c0; have c1' := heapk hb c1; have c2' := heapk hb c2; have hB' := bkeep hb hB; clear f0 f1 p0 p1 p2 p3 q0 q1 q2 q3 c0 c1 c2 hB hb; have c0 := c0'; have c1 := c1'; have c2 := c2'; have hB := hB'; clear c0' c1' c2' hB'; have f0 : w2.cell? ⟨w.heap.size, 0, none⟩ = some (.int .i64 M) := cell_of c0 0; have f1 : w2.cell? ⟨w.heap.size, 1, none⟩ = some (.int .i64 X) := cell_of c0 1; have p0 : w2.cell? ⟨g, 0, none⟩ = some (.int .i64 ka) := cell_of c1 0; have p1 : w2.cell? ⟨g, 1, none⟩ = some (.bool na) := cell_of c1 1; have p2 : w2.cell? ⟨g, 2, none⟩ = some (.int .i64 ea) := cell_of c1 2; have p3 : w2.cell? ⟨g, 3, none⟩ = some (.int .u64 ma) := cell_of c1 3; have q0 : w2.cell? ⟨g + 1, 0, none⟩ = some (.int .i64 kb) := cell_of c2 0; have q1 : w2.cell? ⟨g + 1, 1, none⟩ = some (.bool nb) := cell_of c2 1; have q2 : w2.cell? ⟨g + 1, 2, none⟩ = some (.int .i64 eb) := cell_of c2 2; have q3 : w2.cell? ⟨g + 1, 3, none⟩ = some (.int .u64 mb) := cell_of c2 3) | (go_at_call 65; refine (nan_calls hf _).mono ?_; rintro e w2 ⟨rfl, hb⟩; have c0' := heapk hb c0; have c1' := heapk hb c1; have c2' := heapk hb c2; have hB' := bkeep hb hB; clear f0 f1 p0 p1 p2 p3 q0 q1 q2 q3 c0 c1 c2 hB hb; have c0 := c0'; have c1 := c1'; have c2 := c2'; have hB := hB'; clear c0' c1' c2' hB'; have f0 : w2.cell? ⟨w.heap.size, 0, none⟩ = some (.int .i64 M) := cell_of c0 0; have f1 : w2.cell? ⟨w.heap.size, 1, none⟩ = some (.int .i64 X) := cell_of c0 1; have p0 : w2.cell? ⟨g, 0, none⟩ = some (.int .i64 ka) := cell_of c1 0; have p1 : w2.cell? ⟨g, 1, none⟩ = some (.bool na) := cell_of c1 1; have p2 : w2.cell? ⟨g, 2, none⟩ = some (.int .i64 ea) := cell_of c1 2; have p3 : w2.cell? ⟨g, 3, none⟩ = some (.int .u64 ma) := cell_of c1 3; have q0 : w2.cell? ⟨g + 1, 0, none⟩ = some (.int .i64 kb) := cell_of c2 0; have q1 : w2.cell? ⟨g + 1, 1, none⟩ = some (.bool nb) := cell_of c2 1; have q2 : w2.cell? ⟨g + 1, 2, none⟩ = some (.int .i64 eb) := cell_of c2 2; have q3 : w2.cell? ⟨g + 1, 3, none⟩ = some (.int .u64 mb) := cell_of c2 3) | (go_at_call 66; refine (inf_calls hf _ _).mono ?_; rintro e w2 ⟨rfl, hb⟩; have c0' := heapk hb c0; have c1' := heapk hb c1; have c2' := heapk hb c2; have hB' := bkeep hb hB; clear f0 f1 p0 p1 p2 p3 q0 q1 q2 q3 c0 c1 c2 hB hb; have c0 := c0'; have c1 := c1'; have c2 := c2'; have hB := hB'; clear c0' c1' c2' hB'; have f0 : w2.cell? ⟨w.heap.size, 0, none⟩ = some (.int .i64 M) := cell_of c0 0; have f1 : w2.cell? ⟨w.heap.size, 1, none⟩ = some (.int .i64 X) := cell_of c0 1; have p0 : w2.cell? ⟨g, 0, none⟩ = some (.int .i64 ka) := cell_of c1 0; have p1 : w2.cell? ⟨g, 1, none⟩ = some (.bool na) := cell_of c1 1; have p2 : w2.cell? ⟨g, 2, none⟩ = some (.int .i64 ea) := cell_of c1 2; have p3 : w2.cell? ⟨g, 3, none⟩ = some (.int .u64 ma) := cell_of c1 3; have q0 : w2.cell? ⟨g + 1, 0, none⟩ = some (.int .i64 kb) := cell_of c2 0; have q1 : w2.cell? ⟨g + 1, 1, none⟩ = some (.bool nb) := cell_of c2 1; have q2 : w2.cell? ⟨g + 1, 2, none⟩ = some (.int .i64 eb) := cell_of c2 2; have q3 : w2.cell? ⟨g + 1, 3, none⟩ = some (.int .u64 mb) := cell_of c2 3) | (go_at_call 67; refine (zero_calls hf _ _).mono ?_; rintro e w2 ⟨rfl, hb⟩; have c0' := heapk hb c0; have c1' := heapk hb c1; have c2' := heapk hb c2; have hB' := bkeep hb hB; clear f0 f1 p0 p1 p2 p3 q0 q1 q2 q3 c0 c1 c2 hB hb; have c0 := c0'; have c1 := c1'; have c2 := c2'; have hB := hB'; clear c0' c1' c2' hB'; have f0 : w2.cell? ⟨w.heap.size, 0, none⟩ = some (.int .i64 M) := cell_of c0 0; have f1 : w2.cell? ⟨w.heap.size, 1, none⟩ = some (.int .i64 X) := cell_of c0 1; have p0 : w2.cell? ⟨g, 0, none⟩ = some (.int .i64 ka) := cell_of c1 0; have p1 : w2.cell? ⟨g, 1, none⟩ = some (.bool na) := cell_of c1 1; have p2 : w2.cell? ⟨g, 2, none⟩ = some (.int .i64 ea) := cell_of c1 2; have p3 : w2.cell? ⟨g, 3, none⟩ = some (.int .u64 ma) := cell_of c1 3; have q0 : w2.cell? ⟨g + 1, 0, none⟩ = some (.int .i64 kb) := cell_of c2 0; have q1 : w2.cell? ⟨g + 1, 1, none⟩ = some (.bool nb) := cell_of c2 1; have q2 : w2.cell? ⟨g + 1, 2, none⟩ = some (.int .i64 eb) := cell_of c2 2; have q3 : w2.cell? ⟨g + 1, 3, none⟩ = some (.int .u64 mb) := cell_of c2 3))
    try (go_ret2; refine ret_close (tup2 (int_eq ?_) rfl) hB; rw [← HR.out]; clear c0 c1 c2 hB H HR hod hma hmb hma0 hmb0 cab; simp_all [divP])
  refine reg_seq (fun W => W.cell? ⟨g, 3, none⟩ = some (.int .u64 ma) ∧ W.cell? ⟨g + 1, 3, none⟩ = some (.int .u64 mb) ∧ W.heap[w.heap.size]? = some (Obj.cells #[Value.int IntKind.i64 M, Value.int IntKind.i64 X] 23) ∧ W.heap[g]? = some (Obj.cells #[Value.int IntKind.i64 ka, Value.bool na, Value.int IntKind.i64 ea, Value.int IntKind.u64 ma] 41) ∧ W.heap[g + 1]? = some (Obj.cells #[Value.int IntKind.i64 kb, Value.bool nb, Value.int IntKind.i64 eb, Value.int IntKind.u64 mb] 41) ∧ Below w.heap.size w W) [(0, true), (1, true), (3, true), (4, true), (2, false), (5, false), (6, true), (7, true)] (by as_aux_lemma => kernel_rfl) (by as_aux_lemma => kernel_rfl) ⟨by assumption, by assumption, by assumption, by assumption, by assumption, Below.drew (by assumption)⟩ (fun hS => ?_)
  clear c0 c1 c2 hB f0 f1 p0 p1 p2 p3 q0 q1 q2 q3
  repeat (first
    | (refine sq_take (oi := ⟨_, _, _, _, _, _⟩) (v := ?_) rfl (fun _ _ _ h => h) (by rfl) ?_ ?_; rotate_left; (intro w hSw; (try dsimp only at hSw); go_simp; with_reducible rfl); (try simp only [Act.put, List.setIfInBounds_toArray, List.set_cons_zero, List.set_cons_succ]))
    | (refine sq_skip (oi := ⟨_, _, _, _, _, _⟩) rfl (fun _ _ _ h => h) (by rfl) ?_; (try simp only [Act.put, List.setIfInBounds_toArray, List.set_cons_zero, List.set_cons_succ]))
    | (refine sq_skipc (oi := ⟨_, _, _, _, _, _⟩) rfl (by rfl) hS ?_; (try simp only [Act.put, List.setIfInBounds_toArray, List.set_cons_zero, List.set_cons_succ]))
    | (refine sq_call (oi := ⟨_, _, _, _, _, _⟩) rfl (by rfl) (fun K hK => ?_); go_simp; (first | (go_at_call 76; refine (lz_calls ma hma.out _).mono ?_; rintro e w2 ⟨rfl, hb⟩) | (go_at_call 76; refine (lz_calls mb hmb.out _).mono ?_; rintro e w2 ⟨rfl, hb⟩)); refine hK.out _ _ (by go_split_ands; exact ⟨cellk hb (by assumption), cellk hb (by assumption), heapk hb (by assumption), heapk hb (by assumption), heapk hb (by assumption), bkeep hb (by assumption)⟩) (fun hT => ?_); clear hK K hS hb; (have hS := hT); clear hT; (try simp only [Act.put, List.setIfInBounds_toArray, List.set_cons_zero, List.set_cons_succ])))
  refine sq_done ?_
  obtain ⟨x3, y3, c0, c1, c2, hB⟩ := hS
  go_wp2_with fail
  have ka2 : ka = 2 := by simpa using ta2
  have kb2 : kb = 2 := by simpa using tb2
  have w1' : IntKind.u64.wrap ((ma : Int) * 2^s) = mS := by rw [pow_cast, ← Int.natCast_mul, HmS.out]; exact u64_nat (HM.out ka2).2
  have w2' : IntKind.u64.wrap ((mb : Int) * 2^t) = nS := by rw [pow_cast, ← Int.natCast_mul, HnS.out]; exact u64_nat (HN.out kb2).2
  refine reg_seq (fun W => W.cell? ⟨g, 3, none⟩ = some (.int .u64 ma) ∧ W.cell? ⟨g + 1, 3, none⟩ = some (.int .u64 mb) ∧ W.heap[w.heap.size]? = some (Obj.cells #[Value.int IntKind.i64 M, Value.int IntKind.i64 X] 23) ∧ W.heap[g]? = some (Obj.cells #[Value.int IntKind.i64 ka, Value.bool na, Value.int IntKind.i64 ea, Value.int IntKind.u64 ma] 41) ∧ W.heap[g + 1]? = some (Obj.cells #[Value.int IntKind.i64 kb, Value.bool nb, Value.int IntKind.i64 eb, Value.int IntKind.u64 mb] 41) ∧ Below w.heap.size w W) [(0, true), (1, true), (2, true), (3, true), (4, true), (5, true), (6, true), (7, true), (8, true), (9, true)] (by as_aux_lemma => kernel_rfl) (by as_aux_lemma => kernel_rfl) ⟨by assumption, by assumption, by assumption, by assumption, by assumption, Below.drew (by assumption)⟩ (fun hS => ?_)
  clear x3 y3 c0 c1 c2 hB
  repeat (first
    | (refine sq_take (oi := ⟨_, _, _, _, _, _⟩) (v := ?_) rfl (fun _ _ _ h => h) (by rfl) ?_ ?_; rotate_left; (intro w hSw; (try dsimp only at hSw); go_simp; with_reducible rfl); (try simp only [Act.put, List.setIfInBounds_toArray, List.set_cons_zero, List.set_cons_succ]))
    | (refine sq_skip (oi := ⟨_, _, _, _, _, _⟩) rfl (fun _ _ _ h => h) (by rfl) ?_; (try simp only [Act.put, List.setIfInBounds_toArray, List.set_cons_zero, List.set_cons_succ])))
  refine sq_done ?_
  obtain ⟨x3, y3, c0, c1, c2, hB⟩ := hS
  go_wp2_with fail
  have bq : Hid (dvq mS nS < 2^64) := by
    have h1 := (HM.out ka2).2
    have h2 := (HN.out kb2).1
    show mS*2^63/nS < 2^64
    rw [Nat.div_lt_iff_lt_mul (Nat.lt_of_lt_of_le (by decide) h2)]
    exact Nat.lt_of_lt_of_le (Nat.mul_lt_mul_of_pos_right h1 (by decide)) (Nat.mul_le_mul_left _ h2)
  have bm : Hid (decide (dvr mS nS ≠ 0) = true → 2^(M+2) ≤ 0*2^64 + dvq mS nS) := fun _ => by
    have h1 := (HM.out ka2).1
    have h2 := (HN.out kb2).2
    have h3 := (HN.out kb2).1
    have h4 := hf.m2
    rw [Nat.zero_mul, Nat.zero_add]
    show 2^(M+2) ≤ mS*2^63/nS
    rw [Nat.le_div_iff_mul_le (Nat.lt_of_lt_of_le (by decide) h3)]
    have k1 : 2^(M+2) ≤ 2^54 := pow_le (by omega)
    have k2 : 2^(M+2) * nS ≤ 2^54 * 2^64 := Nat.mul_le_mul k1 (Nat.le_of_lt h2)
    have k3 : 2^63 * 2^63 ≤ mS*2^63 := Nat.mul_le_mul_right _ h1
    have k4 : (2:Nat)^54 * 2^64 ≤ 2^63 * 2^63 := by decide
    exact Nat.le_trans k2 (Nat.le_trans k4 k3)
  have bz := bne0 (dvr mS nS)
  obtain ⟨mo, hmo⟩ : ∃ mo, decide (dvr mS nS ≠ 0) = mo := ⟨_, rfl⟩
  rw [hmo] at bz bm
  have HMO := Lib.hid hmo; clear hmo
  refine (div64_norm mS nS (HM.out ka2).1 (HM.out ka2).2 (HN.out kb2).1 (HN.out kb2).2 _).mono ?_
  rintro e w3 ⟨rfl, hb⟩
  have f0 : w3.cell? ⟨w.heap.size, 0, none⟩ = some (.int .i64 M) := cell_of (heapk hb c0) 0
  have f1 : w3.cell? ⟨w.heap.size, 1, none⟩ = some (.int .i64 X) := cell_of (heapk hb c0) 1
  have p2 : w3.cell? ⟨g, 2, none⟩ = some (.int .i64 ea) := cell_of (heapk hb c1) 2
  have q2 : w3.cell? ⟨g + 1, 2, none⟩ = some (.int .i64 eb) := cell_of (heapk hb c2) 2
  have hB3 := bkeep hb hB
  clear hb c0 c1 c2 hB x3 y3
  have hp := pack_calls hf (!na == nb) mo 0 (dvq mS nS) (ea - (s:Int) - eb + (t:Int) - 63) (by decide) bq.out (by omega) (by omega) bm.out w3
  go_wp2_with (go_at_call 69; refine hp.mono ?_; rintro e w4 ⟨rfl, hb⟩)
  go_ret2
  refine ret_close (tup2 (int_eq ?_) rfl) (bkeep hb hB3)
  rw [← HR.out, ← HMO.out]
  have hM := hf.m1; have hM2 := hf.m2
  have hd := div_near (M := M) (X := X) (ma := ma) (mb := mb) (s := s) (t := t) (ea := ea) (eb := eb) (by omega) hM2 (by rw [HmS.out]; exact (HM.out ka2).1) (by rw [HnS.out]; exact (HN.out kb2).1) (by rw [HnS.out]; exact (HN.out kb2).2)
  rw [HmS.out, HnS.out] at hd
  subst ka2 kb2
  have e1 : divP M X 2 na ea ma 2 nb eb mb = sgn M X (!na == nb) + near M X ma mb (ea - eb) := by
    unfold divP
    rw [if_neg (by decide), if_neg (by decide), if_neg (by decide)]
  rw [e1, ← hd]
  unfold packN dvq dvr
  by_cases hz : mS * 2 ^ 63 % nS ≠ 0
  · rw [if_pos hz, if_pos (decide_eq_true hz)]
  · rw [if_neg hz, if_neg (by rw [decide_eq_false hz]; decide)]

end Go.Proofs.Ytpliondhiahhnaa.K
