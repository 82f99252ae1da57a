/- CONTRACTS of soft.odd, soft.Mul. -/
import Derived.Test.YtpliondhiahhnaaB1
namespace Go.Proofs.Ytpliondhiahhnaa.K
open Go.RowKit Fl
set_option linter.unusedVariables false
set_option linter.unusedSimpArgs false
set_option maxRecDepth 100000
set_option maxHeartbeats 1000000
/-! ### soft.odd, soft.Mul -/
def oddB (j k : Int) : Bool := j == 4 || k == 4
theorem odd_calls (k1 k2 e1 e2 m1 m2 : Int) (n1 n2 : Bool) (w : World) :
    Calls Try.prog 64 #[.agg #[.int .i64 k1, .bool n1, .int .i64 e1, .int .u64 m1], .agg #[.int .i64 k2, .bool n2, .int .i64 e2, .int .u64 m2]] w (Ret (.bool (oddB k1 k2)) w) := by
  have hu41 := Try.underlying41
  by_cases c : k1 = 4
  all_goals
    have d : (k1 == 4) = decide (k1 = 4) := rfl
    simp only [c] at d
    go_enter Try.func64, Try.ntmps64
    go_wp2
    all_goals go_ret
    all_goals refine ret_close (bool_eq ?_) ((blA _ _).alloc (by simp) _)
    all_goals simp [oddB, c]
def mulP (M X : Nat) (ka : Int) (na : Bool) (ea : Int) (ma : Nat) (kb : Int) (nb : Bool) (eb : Int) (mb : Nat) : Nat :=
  if ka = 4 ∨ kb = 4 ∨ (ka = 3 ∧ kb = 1) ∨ (ka = 1 ∧ kb = 3) then nanc M X else if ka = 3 ∨ kb = 3 then infc M X + sgn M X (na != nb) else if ka = 1 ∨ kb = 1 then sgn M X (na != nb) else packN M X (na != nb) (ma*mb) (ea+eb) false
def PV (k : Int) (n : Bool) (e : Int) (m : Nat) : Value := .agg #[.int .i64 k, .bool n, .int .i64 e, .int .u64 m]
set_option maxHeartbeats 8000000 in
theorem mul_core {M X : Nat} (hf : Okf M X) (a b : Nat) (ka kb ea eb : Int) (na nb : Bool) (ma mb : Nat)
    (H : Hid (∀ w, Calls Try.prog 63 #[.agg #[.int .i64 M, .int .i64 X], .int .u64 a, .int .u64 b] w (Ret (.tuple #[.agg #[.int .i64 ka, .bool na, .int .i64 ea, .int .u64 ma], .agg #[.int .i64 kb, .bool nb, .int .i64 eb, .int .u64 mb], .int .i64 0]) w)))
    (hka : ka = 1 ∨ ka = 2 ∨ ka = 3 ∨ ka = 4) (hkb : kb = 1 ∨ kb = 2 ∨ kb = 3 ∨ kb = 4) (hma : Hid (ma < 2^64)) (hmb : Hid (mb < 2^64)) (he1 : -2000 ≤ ea) (he2 : ea ≤ 2000) (he3 : -2000 ≤ eb) (he4 : eb ≤ 2000) (w : World) :
    Calls Try.prog 19 #[.agg #[.int .i64 M, .int .i64 X], .int .u64 a, .int .u64 b] w (Ret (.tuple #[.int .u64 (mulP M X ka na ea ma kb nb eb mb : Nat), .int .i64 0]) w) := by
  have hu23 := Try.underlying23
  have hu41 := Try.underlying41
  obtain ⟨R, hR⟩ : ∃ R, mulP M X ka na ea ma kb nb eb mb = R := ⟨_, rfl⟩
  rw [hR]
  have HR := Lib.hid hR; clear hR
  have ca : ((ka == 1) = true ∧ (ka == 3) = false ∧ (ka == 4) = false) ∨ ((ka == 1) = false ∧ (ka == 3) = false ∧ (ka == 4) = false) ∨ ((ka == 1) = false ∧ (ka == 3) = true ∧ (ka == 4) = false) ∨ ((ka == 1) = false ∧ (ka == 3) = false ∧ (ka == 4) = true) := by
    rcases hka with rfl | rfl | rfl | rfl <;> decide
  have cb : ((kb == 1) = true ∧ (kb == 3) = false ∧ (kb == 4) = false) ∨ ((kb == 1) = false ∧ (kb == 3) = false ∧ (kb == 4) = false) ∨ ((kb == 1) = false ∧ (kb == 3) = true ∧ (kb == 4) = false) ∨ ((kb == 1) = false ∧ (kb == 3) = false ∧ (kb == 4) = true) := by
    rcases hkb with rfl | rfl | rfl | rfl <;> decide
  clear hka hkb
  have hi : Hid (ma * mb / 2^64 < 2^64) := by
    have h1 := hma.out; have h2 := hmb.out
    have h3 : ma * mb < 2^64 * 2^64 := Nat.mul_lt_mul'' h1 h2
    exact (Nat.div_lt_iff_lt_mul (by decide)).2 h3
  have hl : Hid (ma * mb % 2^64 < 2^64) := Nat.mod_lt _ (by decide)
  have hs : Hid (ma * mb / 2^64 * 2^64 + ma * mb % 2^64 = ma * mb) := by have := Nat.div_add_mod (ma*mb) (2^64); show _ = _; omega
  have i1 : IntKind.i64.wrap (ea + eb) = ea + eb := IntWalk.i64_in _ (by omega)
  go_enter Try.func19, Try.ntmps19
  go_wp2_with fail
  refine (H.out _).mono ?_
  rintro e w1 ⟨rfl, hb⟩
  have d0 := heapk hb (show (w.alloc (Obj.cells #[Value.int IntKind.i64 M, Value.int IntKind.i64 X] 23)).heap[w.heap.size]? = some (Obj.cells #[Value.int IntKind.i64 M, Value.int IntKind.i64 X] 23) from hnew _ _)
  have hz := (Array.getElem?_eq_some_iff.1 d0).1
  have hB1 := blS hb
  clear hb
  rcases ca with ⟨ta1, ta3, ta4⟩ | ⟨ta1, ta3, ta4⟩ | ⟨ta1, ta3, ta4⟩ | ⟨ta1, ta3, ta4⟩
  all_goals rcases cb with ⟨tb1, tb3, tb4⟩ | ⟨tb1, tb3, tb4⟩ | ⟨tb1, tb3, tb4⟩ | ⟨tb1, tb3, tb4⟩
  all_goals have hod : oddB ka kb = ((ka == 4) || (kb == 4)) := rfl
  all_goals rw [ta4, tb4] at hod
  all_goals simp only [Bool.or_false, Bool.or_true, Bool.or_self] at hod
  all_goals
    go_wp2_with fail
    obtain ⟨g, hg⟩ : ∃ g, w1.heap.size = g := ⟨_, rfl⟩
    obtain ⟨W, hW⟩ : ∃ W, (w1.alloc (Obj.cells #[Value.int IntKind.i64 ka, Value.bool na, Value.int IntKind.i64 ea, Value.int IntKind.u64 ma] 41)).alloc (Obj.cells #[Value.int IntKind.i64 kb, Value.bool nb, Value.int IntKind.i64 eb, Value.int IntKind.u64 mb] 41) = W := ⟨_, rfl⟩
    have c0 : W.heap[w.heap.size]? = some (Obj.cells #[Value.int IntKind.i64 M, Value.int IntKind.i64 X] 23) := by subst hW; exact hold (hold d0 _) _
    have c1 : W.heap[g]? = some (Obj.cells #[Value.int IntKind.i64 ka, Value.bool na, Value.int IntKind.i64 ea, Value.int IntKind.u64 ma] 41) := by subst hW; rw [← hg]; exact hold (hnew _ _) _
    have c2 : W.heap[g + 1]? = some (Obj.cells #[Value.int IntKind.i64 kb, Value.bool nb, Value.int IntKind.i64 eb, Value.int IntKind.u64 mb] 41) := by subst hW; rw [← hg, ← World.size_alloc w1]; exact hnew _ _
    have hB : Below w.heap.size w W := by subst hW; exact (hB1.alloc (by omega) _).alloc (by simp; omega) _
    rw [hW, hg]
    clear d0 hB1 hz hW hg
    have f0 : W.cell? ⟨w.heap.size, 0, none⟩ = some (.int .i64 M) := cell_of c0 0; have f1 : W.cell? ⟨w.heap.size, 1, none⟩ = some (.int .i64 X) := cell_of c0 1; have p0 : W.cell? ⟨g, 0, none⟩ = some (.int .i64 ka) := cell_of c1 0; have p1 : W.cell? ⟨g, 1, none⟩ = some (.bool na) := cell_of c1 1; have p2 : W.cell? ⟨g, 2, none⟩ = some (.int .i64 ea) := cell_of c1 2; have p3 : W.cell? ⟨g, 3, none⟩ = some (.int .u64 ma) := cell_of c1 3; have q0 : W.cell? ⟨g + 1, 0, none⟩ = some (.int .i64 kb) := cell_of c2 0; have q1 : W.cell? ⟨g + 1, 1, none⟩ = some (.bool nb) := cell_of c2 1; have q2 : W.cell? ⟨g + 1, 2, none⟩ = some (.int .i64 eb) := cell_of c2 2; have q3 : W.cell? ⟨g + 1, 3, none⟩ = some (.int .u64 mb) := cell_of c2 3
    go_wp2_with (first | (go_at_call 64; refine (odd_calls _ _ _ _ _ _ _ _ _).mono ?_; rintro e w2 ⟨rfl, hb⟩; have c0' := heapk hb c0; have c1' := heapk hb c1; have c2' := heapk hb c2; have hB' := bkeep hb hB; clear f0 f1 p0 p1 p2 p3 q0 q1 q2 q3 c0 c1 c2 hB hb; have c0 := c0'; have c1 := c1'; have c2 := c2'; have hB := hB'; clear c0' c1' c2' hB'; have f0 : w2.cell? ⟨w.heap.size, 0, none⟩ = some (.int .i64 M) := cell_of c0 0; have f1 : w2.cell? ⟨w.heap.size, 1, none⟩ = some (.int .i64 X) := cell_of c0 1; have p0 : w2.cell? ⟨g, 0, none⟩ = some (.int .i64 ka) := cell_of c1 0; have p1 : w2.cell? ⟨g, 1, none⟩ = some (.bool na) := cell_of c1 1; have p2 : w2.cell? ⟨g, 2, none⟩ = some (.int .i64 ea) := cell_of c1 2; have p3 : w2.cell? ⟨g, 3, none⟩ = some (.int .u64 ma) := cell_of c1 3; have q0 : w2.cell? ⟨g + 1, 0, none⟩ = some (.int .i64 kb) := cell_of c2 0; have q1 : w2.cell? ⟨g + 1, 1, none⟩ = some (.bool nb) := cell_of c2 1; have q2 : w2.cell? ⟨g + 1, 2, none⟩ = some (.int .i64 eb) := cell_of c2 2; have q3 : w2.cell? ⟨g + 1, 3, none⟩ = some (.int .u64 mb) := cell_of c2 3) | (go_at_call 65; refine (nan_calls hf _).mono ?_; rintro e w2 ⟨rfl, hb⟩; have c0' := heapk hb c0; have c1' := heapk hb c1; have c2' := heapk hb c2; have hB' := bkeep hb hB; clear f0 f1 p0 p1 p2 p3 q0 q1 q2 q3 c0 c1 c2 hB hb; have c0 := c0'; have c1 := c1'; have c2 := c2'; have hB := hB'; clear c0' c1' c2' hB'; have f0 : w2.cell? ⟨w.heap.size, 0, none⟩ = some (.int .i64 M) := cell_of c0 0; have f1 : w2.cell? ⟨w.heap.size, 1, none⟩ = some (.int .i64 X) := cell_of c0 1; have p0 : w2.cell? ⟨g, 0, none⟩ = some (.int .i64 ka) := cell_of c1 0; have p1 : w2.cell? ⟨g, 1, none⟩ = some (.bool na) := cell_of c1 1; have p2 : w2.cell? ⟨g, 2, none⟩ = some (.int .i64 ea) := cell_of c1 2; have p3 : w2.cell? ⟨g, 3, none⟩ = some (.int .u64 ma) := cell_of c1 3; have q0 : w2.cell? ⟨g + 1, 0, none⟩ = some (.int .i64 kb) := cell_of c2 0; have q1 : w2.cell? ⟨g + 1, 1, none⟩ = some (.bool nb) := cell_of c2 1; have q2 : w2.cell? ⟨g + 1, 2, none⟩ = some (.int .i64 eb) := cell_of c2 2; have q3 : w2.cell? ⟨g + 1, 3, none⟩ = some (.int .u64 mb) := cell_of c2 3) | (go_at_call 66; refine (inf_calls hf _ _).mono ?_; rintro e w2 ⟨rfl, hb⟩; have c0' := heapk hb c0; have c1' := heapk hb c1; have c2' := heapk hb c2; have hB' := bkeep hb hB; clear f0 f1 p0 p1 p2 p3 q0 q1 q2 q3 c0 c1 c2 hB hb; have c0 := c0'; have c1 := c1'; have c2 := c2'; have hB := hB'; clear c0' c1' c2' hB'; have f0 : w2.cell? ⟨w.heap.size, 0, none⟩ = some (.int .i64 M) := cell_of c0 0; have f1 : w2.cell? ⟨w.heap.size, 1, none⟩ = some (.int .i64 X) := cell_of c0 1; have p0 : w2.cell? ⟨g, 0, none⟩ = some (.int .i64 ka) := cell_of c1 0; have p1 : w2.cell? ⟨g, 1, none⟩ = some (.bool na) := cell_of c1 1; have p2 : w2.cell? ⟨g, 2, none⟩ = some (.int .i64 ea) := cell_of c1 2; have p3 : w2.cell? ⟨g, 3, none⟩ = some (.int .u64 ma) := cell_of c1 3; have q0 : w2.cell? ⟨g + 1, 0, none⟩ = some (.int .i64 kb) := cell_of c2 0; have q1 : w2.cell? ⟨g + 1, 1, none⟩ = some (.bool nb) := cell_of c2 1; have q2 : w2.cell? ⟨g + 1, 2, none⟩ = some (.int .i64 eb) := cell_of c2 2; have q3 : w2.cell? ⟨g + 1, 3, none⟩ = some (.int .u64 mb) := cell_of c2 3) | (go_at_call 67; refine (zero_calls hf _ _).mono ?_; rintro e w2 ⟨rfl, hb⟩; have c0' := heapk hb c0; have c1' := heapk hb c1; have c2' := heapk hb c2; have hB' := bkeep hb hB; clear f0 f1 p0 p1 p2 p3 q0 q1 q2 q3 c0 c1 c2 hB hb; have c0 := c0'; have c1 := c1'; have c2 := c2'; have hB := hB'; clear c0' c1' c2' hB'; have f0 : w2.cell? ⟨w.heap.size, 0, none⟩ = some (.int .i64 M) := cell_of c0 0; have f1 : w2.cell? ⟨w.heap.size, 1, none⟩ = some (.int .i64 X) := cell_of c0 1; have p0 : w2.cell? ⟨g, 0, none⟩ = some (.int .i64 ka) := cell_of c1 0; have p1 : w2.cell? ⟨g, 1, none⟩ = some (.bool na) := cell_of c1 1; have p2 : w2.cell? ⟨g, 2, none⟩ = some (.int .i64 ea) := cell_of c1 2; have p3 : w2.cell? ⟨g, 3, none⟩ = some (.int .u64 ma) := cell_of c1 3; have q0 : w2.cell? ⟨g + 1, 0, none⟩ = some (.int .i64 kb) := cell_of c2 0; have q1 : w2.cell? ⟨g + 1, 1, none⟩ = some (.bool nb) := cell_of c2 1; have q2 : w2.cell? ⟨g + 1, 2, none⟩ = some (.int .i64 eb) := cell_of c2 2; have q3 : w2.cell? ⟨g + 1, 3, none⟩ = some (.int .u64 mb) := cell_of c2 3) | (go_at_call 68; refine (mul_calls _ _ hma.out hmb.out _).mono ?_; rintro e w2 ⟨rfl, hb⟩; have c0' := heapk hb c0; have c1' := heapk hb c1; have c2' := heapk hb c2; have hB' := bkeep hb hB; clear f0 f1 p0 p1 p2 p3 q0 q1 q2 q3 c0 c1 c2 hB hb; have c0 := c0'; have c1 := c1'; have c2 := c2'; have hB := hB'; clear c0' c1' c2' hB'; have f0 : w2.cell? ⟨w.heap.size, 0, none⟩ = some (.int .i64 M) := cell_of c0 0; have f1 : w2.cell? ⟨w.heap.size, 1, none⟩ = some (.int .i64 X) := cell_of c0 1; have p0 : w2.cell? ⟨g, 0, none⟩ = some (.int .i64 ka) := cell_of c1 0; have p1 : w2.cell? ⟨g, 1, none⟩ = some (.bool na) := cell_of c1 1; have p2 : w2.cell? ⟨g, 2, none⟩ = some (.int .i64 ea) := cell_of c1 2; have p3 : w2.cell? ⟨g, 3, none⟩ = some (.int .u64 ma) := cell_of c1 3; have q0 : w2.cell? ⟨g + 1, 0, none⟩ = some (.int .i64 kb) := cell_of c2 0; have q1 : w2.cell? ⟨g + 1, 1, none⟩ = some (.bool nb) := cell_of c2 1; have q2 : w2.cell? ⟨g + 1, 2, none⟩ = some (.int .i64 eb) := cell_of c2 2; have q3 : w2.cell? ⟨g + 1, 3, none⟩ = some (.int .u64 mb) := cell_of c2 3) | (go_at_call 69; refine (pack_calls hf _ _ _ _ _ hi.out hl.out (by omega) (by omega) (by simp) _).mono ?_; rintro e w2 ⟨rfl, hb⟩; have c0' := heapk hb c0; have c1' := heapk hb c1; have c2' := heapk hb c2; have hB' := bkeep hb hB; clear f0 f1 p0 p1 p2 p3 q0 q1 q2 q3 c0 c1 c2 hB hb; have c0 := c0'; have c1 := c1'; have c2 := c2'; have hB := hB'; clear c0' c1' c2' hB'; have f0 : w2.cell? ⟨w.heap.size, 0, none⟩ = some (.int .i64 M) := cell_of c0 0; have f1 : w2.cell? ⟨w.heap.size, 1, none⟩ = some (.int .i64 X) := cell_of c0 1; have p0 : w2.cell? ⟨g, 0, none⟩ = some (.int .i64 ka) := cell_of c1 0; have p1 : w2.cell? ⟨g, 1, none⟩ = some (.bool na) := cell_of c1 1; have p2 : w2.cell? ⟨g, 2, none⟩ = some (.int .i64 ea) := cell_of c1 2; have p3 : w2.cell? ⟨g, 3, none⟩ = some (.int .u64 ma) := cell_of c1 3; have q0 : w2.cell? ⟨g + 1, 0, none⟩ = some (.int .i64 kb) := cell_of c2 0; have q1 : w2.cell? ⟨g + 1, 1, none⟩ = some (.bool nb) := cell_of c2 1; have q2 : w2.cell? ⟨g + 1, 2, none⟩ = some (.int .i64 eb) := cell_of c2 2; have q3 : w2.cell? ⟨g + 1, 3, none⟩ = some (.int .u64 mb) := cell_of c2 3))
    go_ret2
    refine ret_close (tup2 (int_eq ?_) rfl) hB
    rw [← HR.out]
    try rw [hs.out]
    clear c0 c1 c2 hB H HR hi hl hs hod hma hmb
    simp_all [mulP, bne]
end Go.Proofs.Ytpliondhiahhnaa.K
