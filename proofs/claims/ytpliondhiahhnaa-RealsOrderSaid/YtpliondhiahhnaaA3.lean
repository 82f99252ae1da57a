/- CONTRACTS of round.Open. -/
import Derived.Test.YtpliondhiahhnaaA2
import Derived.Lib.Hide
namespace Go.Proofs.Ytpliondhiahhnaa.K
open Go.RowKit Fl
set_option linter.unusedVariables false
set_option linter.unusedSimpArgs false
set_option maxRecDepth 100000
set_option maxHeartbeats 1000000
theorem a64 {M X a : Nat} (hf : Okf M X) (ha : a < 2^(1+X+M)) : a < 2^64 := Nat.lt_of_lt_of_le ha (pow_le (by have := hf.m2; have := hf.x2; omega))
theorem fd_lt (M X a : Nat) : fd M X a < 2^X := Nat.mod_lt _ (pow_pos' X)
theorem op_sign {M X a : Nat} (hf : Okf M X) (ha : a < 2^(1+X+M)) : (bits .and .u64 (a : Int) (sgn M X true : Nat) != 0) = ng M X a := by
  have h1 := hf.m2; have h2 := hf.x2
  have e : sgn M X true = 2^(X+M) := rfl
  rw [e, and64 (a64 hf ha) (pow_lt (by omega)), bne0]
  unfold ng
  rw [decide_eq_decide, and_bit]
  have hp := pow_pos' (X+M)
  have h3 : a < 2 * 2^(X+M) := by rw [show 1+X+M = (X+M)+1 by omega, Nat.pow_succ] at ha; omega
  have h4 : a / 2^(X+M) < 2 := (Nat.div_lt_iff_lt_mul hp).2 h3
  have h5 : a / 2^(X+M) = 1 ↔ 2^(X+M) ≤ a := by
    have h6 : 1 ≤ a / 2^(X+M) ↔ 1 * 2^(X+M) ≤ a := Nat.le_div_iff_mul_le hp
    rw [Nat.one_mul] at h6; omega
  generalize a / 2^(X+M) = q at *
  omega
theorem op_frac {M X a : Nat} (hf : Okf M X) (ha : a < 2^(1+X+M)) : bits .and .u64 (a : Int) (IntKind.u64.wrap (IntKind.u64.wrap (2^M) - 1)) = (fr M a : Nat) := by
  have h1 := hf.m2
  rw [u64_mask (by omega), and64 (a64 hf ha) (by have := pow_lt (a := M) (b := 64) (by omega); omega), and_mask]; rfl
theorem op_top {M X a : Nat} (hf : Okf M X) (ha : a < 2^(1+X+M)) : bits .and .u64 (a : Int) (infc M X : Nat) = (fd M X a * 2^M : Nat) := by
  have h1 := hf.m2; have h2 := hf.x2
  rw [and64 (a64 hf ha) (Nat.lt_trans (inf_lt M X).1 (pow_lt (by omega))), and_field]; rfl
theorem fdm_lt {M X : Nat} (hf : Okf M X) (a : Nat) : fd M X a * 2^M < 2^63 := by
  have h1 := hf.m2; have h2 := hf.x2
  have h3 : fd M X a * 2^M < 2^X * 2^M := Nat.mul_lt_mul_of_pos_right (fd_lt M X a) (pow_pos' M)
  rw [← Nat.pow_add] at h3
  exact Nat.lt_of_lt_of_le h3 (pow_le (by omega))
theorem op_i64 {M X : Nat} (hf : Okf M X) (a : Nat) : IntKind.i64.wrap ((fd M X a * 2^M : Nat) : Int) = (fd M X a * 2^M : Nat) := by
  have := fdm_lt hf a
  exact IntWalk.i64_in _ ⟨by omega, by omega⟩
theorem op_shr (M X a : Nat) : ((fd M X a * 2^M : Nat) : Int) / 2^M = (fd M X a : Nat) := by
  rw [pow_cast, ← Int.natCast_ediv, Nat.mul_div_cancel _ (pow_pos' M)]
theorem op_or {M X a : Nat} (hf : Okf M X) : bits .or .u64 (fr M a : Nat) (IntKind.u64.wrap (2^M)) = (fr M a + 2^M : Nat) := by
  have h1 := hf.m2
  have h2 : fr M a < 2^M := Nat.mod_lt _ (pow_pos' M)
  have h3 : 2^M < 2^64 := pow_lt (by omega)
  rw [u64_pow (by omega), or64 (by omega) h3, Nat.or_comm, or_add (i := M) (Nat.mod_self _) h2, Nat.add_comm]
theorem op_eq (M X a : Nat) : (((fd M X a * 2^M : Nat) : Int) == (infc M X : Nat)) = decide (fd M X a = 2^X - 1) := by
  have hp := pow_pos' M
  rw [Bool.eq_iff_iff]
  simp only [beq_iff_eq, decide_eq_true_eq, Int.natCast_inj, infc]
  exact ⟨fun h => Nat.eq_of_mul_eq_mul_right hp h, fun h => by rw [h]⟩
theorem bia_le {X : Nat} (h : X ≤ 11) : bia X ≤ 1023 := by
  have := pow_le (a := X-1) (b := 10) (by omega); unfold bia; omega
/-! ### round.Open -/
set_option maxHeartbeats 8000000 in
theorem open_core {M X : Nat} (hf : Okf M X) (a : Nat) (H64 : Hid (a < 2^64)) (hbl : bl a ≤ 1 + X + M) (s : Bool) (F T G Z : Int) (k e m : Int)
    (hs : (bits .and .u64 (a : Int) (sgn M X true : Nat) != 0) = s) (hF : bits .and .u64 (a : Int) (IntKind.u64.wrap (IntKind.u64.wrap (2^M) - 1)) = F)
    (hT : bits .and .u64 (a : Int) (infc M X : Nat) = T) (hT0 : 0 ≤ T) (hT1 : IntKind.i64.wrap T = T) (hG : T / 2^M = G) (hG0 : 0 ≤ G) (hG1 : G ≤ 2047) (hZ : bits .or .u64 F (IntKind.u64.wrap (2^M)) = Z)
    (hcase : ((T == (infc M X : Nat)) = true ∧ (F == 0) = true ∧ k = 3 ∧ e = 0 ∧ m = 0) ∨ ((T == (infc M X : Nat)) = true ∧ (F == 0) = false ∧ k = 4 ∧ e = 0 ∧ m = 0) ∨ ((T == (infc M X : Nat)) = false ∧ (G == 0) = true ∧ (F == 0) = true ∧ k = 1 ∧ e = 0 ∧ m = 0) ∨ ((T == (infc M X : Nat)) = false ∧ (G == 0) = true ∧ (F == 0) = false ∧ k = 2 ∧ e = 1 - bia X - M ∧ m = F) ∨ ((T == (infc M X : Nat)) = false ∧ (G == 0) = false ∧ k = 2 ∧ e = G - bia X - M ∧ m = Z))
    (w : World) :
    Calls Try.prog 93 #[.agg #[.int .i64 M, .int .i64 X], .int .u64 a] w (Ret (.tuple #[.agg #[.int .i64 k, .bool s, .int .i64 e, .int .u64 m], .int .i64 0]) w) := by
  have ⟨h1, h2, h3, h4⟩ := hf
  have hu23 := Try.underlying23
  have hu41 := Try.underlying41
  have e1 : IntKind.i64.wrap (1 + (X : Int)) = 1 + X := IntWalk.i64_in _ (by omega)
  have e2 : IntKind.i64.wrap (1 + (X : Int) + M) = 1 + X + M := IntWalk.i64_in _ (by omega)
  have hbi := bia_le h4
  have e3 : IntKind.i64.wrap (1 - (bia X : Int)) = 1 - bia X := IntWalk.i64_in _ (by omega)
  have e4 : IntKind.i64.wrap (1 - (bia X : Int) - M) = 1 - bia X - M := IntWalk.i64_in _ (by omega)
  have e5 : IntKind.i64.wrap (G - (bia X : Int)) = G - bia X := IntWalk.i64_in _ (by omega)
  have e6 : IntKind.i64.wrap (G - (bia X : Int) - M) = G - bia X - M := IntWalk.i64_in _ (by omega)
  have HC := Lib.hid hcase; clear hcase
  go_enter Try.func93, Try.ntmps93
  go_wp2_with fail
  obtain ⟨W, hW⟩ : ∃ W, (w.alloc (Obj.cells #[Value.int IntKind.i64 M, Value.int IntKind.i64 X] 23)).alloc (Obj.cells #[Value.int IntKind.i64 0, Value.bool false, Value.int IntKind.i64 0, Value.int IntKind.u64 0] 41) = W := ⟨_, rfl⟩
  have c0 : W.heap[w.heap.size]? = some (.cells #[.int .i64 M, .int .i64 X] 23 (0, 0)) := by subst hW; exact hold (hnew _ _) _
  have c1 : W.heap[w.heap.size+1]? = some (.cells #[.int .i64 0, .bool false, .int .i64 0, .int .u64 0] 41 (0, 0)) := by subst hW; rw [← World.size_alloc w]; exact hnew _ _
  have hB : Below w.heap.size w W := by subst hW; exact (blA _ _).alloc (by simp) _
  rw [hW]
  clear hW
  have f0 : W.cell? ⟨w.heap.size, 0, none⟩ = some (.int .i64 M) := cell_of c0 0
  have f1 : W.cell? ⟨w.heap.size, 1, none⟩ = some (.int .i64 X) := cell_of c0 1
  clear c0
  refine reg_seq (fun W => W.cell? ⟨w.heap.size, 0, none⟩ = some (.int .i64 M) ∧ W.cell? ⟨w.heap.size, 1, none⟩ = some (.int .i64 X) ∧ W.heap[w.heap.size+1]? = some (.cells #[.int .i64 0, .bool false, .int .i64 0, .int .u64 0] 41 (0, 0)) ∧ Below w.heap.size w W) [(0, true), (1, false), (2, true), (3, true), (4, true), (6, true), (7, true), (8, true), (9, true), (10, true), (11, true), (5, false), (12, true), (13, true)] (by kernel_rfl) (by kernel_rfl) ⟨by assumption, by assumption, by assumption, Below.drew (by assumption)⟩ (fun hS => ?_)
  clear f0 f1 c1 hB
  repeat (first
    | (refine sq_take (oi := ⟨_, _, _, _, _, _⟩) (v := ?_) rfl (fun _ _ _ h => h) (by rfl) ?_ ?_; rotate_left; (intro w hSw; (try dsimp only at hSw); go_simp; with_reducible rfl); (try simp only [Act.put, List.setIfInBounds_toArray, List.set_cons_zero, List.set_cons_succ]))
    | (refine sq_skip (oi := ⟨_, _, _, _, _, _⟩) rfl (fun _ _ _ h => h) (by rfl) ?_; (try simp only [Act.put, List.setIfInBounds_toArray, List.set_cons_zero, List.set_cons_succ]))
    | (refine sq_call (oi := ⟨_, _, _, _, _, _⟩) rfl (by rfl) (fun K hK => ?_); go_simp; (first | (go_at_call 98; refine (check_calls hf _).mono ?_; rintro e w2 ⟨rfl, hb⟩) | (go_at_call 125; refine (len_calls _ H64.out _).mono ?_; rintro e w2 ⟨rfl, hb⟩)); refine hK.out _ _ (by go_split_ands; exact ⟨cellk hb (by assumption), cellk hb (by assumption), heapk hb (by assumption), bkeep hb (by assumption)⟩) (fun hT => ?_); clear hK K hS hb; (have hS := hT); clear hT; (try simp only [Act.put, List.setIfInBounds_toArray, List.set_cons_zero, List.set_cons_succ])))
  refine sq_done ?_
  obtain ⟨f0, f1, c1, hB⟩ := hS
  go_wp2_with (go_at_call 119; refine (sign_calls hf _ _).mono ?_; rintro e w3 ⟨rfl, hb3⟩; have f0' := cellk hb3 f0; have f1' := cellk hb3 f1; have c1' := heapk hb3 c1; have hB3 := bkeep hb3 hB; clear f0 f1 c1 hB; have f0 := f0'; have f1 := f1'; have c1 := c1'; clear f0' f1' c1'; have hz3 : w.heap.size + 1 < w3.heap.size := (Array.getElem?_eq_some_iff.1 c1).1; have fq : ∀ (o : Obj) (i : Nat), (w3.alloc o).cell? ⟨w.heap.size, i, none⟩ = w3.cell? ⟨w.heap.size, i, none⟩ := fun o i => calloc (by omega) o i; clear hb3)
  obtain ⟨g, hg⟩ : ∃ g, w3.heap.size = g := ⟨_, rfl⟩
  obtain ⟨W4, hW4⟩ : ∃ W4, w3.alloc (Obj.cells #[Value.int IntKind.i64 0, Value.bool s, Value.int IntKind.i64 0, Value.int IntKind.u64 0] 41) = W4 := ⟨_, rfl⟩
  have f0n : W4.cell? ⟨w.heap.size, 0, none⟩ = some (.int .i64 M) := by subst hW4; rw [fq]; exact f0
  have f1n : W4.cell? ⟨w.heap.size, 1, none⟩ = some (.int .i64 X) := by subst hW4; rw [fq]; exact f1
  have c1n : W4.heap[w.heap.size+1]? = some (.cells #[.int .i64 0, .bool false, .int .i64 0, .int .u64 0] 41 (0, 0)) := by subst hW4; exact hold c1 _
  have c2 : W4.heap[g]? = some (.cells #[.int .i64 0, .bool s, .int .i64 0, .int .u64 0] 41 (0, 0)) := by subst hW4; rw [← hg]; exact hnew _ _
  have hB : Below w.heap.size w W4 := by subst hW4; exact hB3.alloc (by omega) _
  have hgz : w.heap.size + 1 < g := by omega
  clear fq f0 f1 c1
  have f0 := f0n; have f1 := f1n; have c1 := c1n; clear f0n f1n c1n
  rw [hg, hW4]
  clear hW4 hB3 hz3
  refine reg_seq (fun W => W.cell? ⟨w.heap.size, 0, none⟩ = some (.int .i64 M) ∧ W.cell? ⟨w.heap.size, 1, none⟩ = some (.int .i64 X) ∧ W.heap[w.heap.size+1]? = some (.cells #[.int .i64 0, .bool false, .int .i64 0, .int .u64 0] 41 (0, 0)) ∧ W.heap[g]? = some (.cells #[.int .i64 0, .bool s, .int .i64 0, .int .u64 0] 41 (0, 0)) ∧ Below w.heap.size w W) [(0, true), (1, true), (5, true), (6, true), (2, false), (3, true), (4, true), (7, true), (8, true)] (by kernel_rfl) (by kernel_rfl) ⟨by assumption, by assumption, by assumption, by assumption, Below.drew (by assumption)⟩ (fun hS => ?_)
  clear f0 f1 c1 c2 hB
  repeat (first
    | (refine sq_take (oi := ⟨_, _, _, _, _, _⟩) (v := ?_) rfl (fun _ _ _ h => h) (by rfl) ?_ ?_; rotate_left; (intro w hSw; (try dsimp only at hSw); go_simp; with_reducible rfl); (try simp only [Act.put, List.setIfInBounds_toArray, List.set_cons_zero, List.set_cons_succ]))
    | (refine sq_skip (oi := ⟨_, _, _, _, _, _⟩) rfl (fun _ _ _ h => h) (by rfl) ?_; (try simp only [Act.put, List.setIfInBounds_toArray, List.set_cons_zero, List.set_cons_succ]))
    | (refine sq_call (oi := ⟨_, _, _, _, _, _⟩) rfl (by rfl) (fun K hK => ?_); go_simp; (first | (go_at_call 118; refine (top_calls hf _).mono ?_; rintro e w2 ⟨rfl, hb⟩)); refine hK.out _ _ (by go_split_ands; exact ⟨cellk hb (by assumption), cellk hb (by assumption), heapk hb (by assumption), heapk hb (by assumption), bkeep hb (by assumption)⟩) (fun hT => ?_); clear hK K hS hb; (have hS := hT); clear hT; (try simp only [Act.put, List.setIfInBounds_toArray, List.set_cons_zero, List.set_cons_succ])))
  refine sq_done ?_
  obtain ⟨f0, f1, c1, c2, hB⟩ := hS
  go_wp2
  have hcase := HC.out
  clear HC
  rcases hcase with ⟨b1, b2, rfl, rfl, rfl⟩ | ⟨b1, b2, rfl, rfl, rfl⟩ | ⟨b1, b3, b2, rfl, rfl, rfl⟩ | ⟨b1, b3, b2, rfl, rfl, rfl⟩ | ⟨b1, b3, rfl, rfl, rfl⟩
  all_goals
    refine reg_seq (fun W => W.cell? ⟨w.heap.size, 0, none⟩ = some (.int .i64 M) ∧ W.cell? ⟨w.heap.size, 1, none⟩ = some (.int .i64 X) ∧ W.heap[w.heap.size+1]? = some (.cells #[.int .i64 0, .bool false, .int .i64 0, .int .u64 0] 41 (0, 0)) ∧ W.heap[g]? = some (.cells #[.int .i64 0, .bool s, .int .i64 0, .int .u64 0] 41 (0, 0)) ∧ Below w.heap.size w W) [(0, true), (1, true), (4, true), (2, false), (3, true), (5, false), (6, true), (7, true), (8, true), (9, true), (10, true), (11, true)] (by kernel_rfl) (by kernel_rfl) ⟨by assumption, by assumption, by assumption, by assumption, Below.drew (by assumption)⟩ (fun hS => ?_)
    clear f0 f1 c1 c2 hB
    repeat (first
      | (refine sq_take (oi := ⟨_, _, _, _, _, _⟩) (v := ?_) rfl (fun _ _ _ h => h) (by rfl) ?_ ?_; rotate_left; (intro w hSw; (try dsimp only at hSw); go_simp; with_reducible rfl); (try simp only [Act.put, List.setIfInBounds_toArray, List.set_cons_zero, List.set_cons_succ]))
      | (refine sq_skip (oi := ⟨_, _, _, _, _, _⟩) rfl (fun _ _ _ h => h) (by rfl) ?_; (try simp only [Act.put, List.setIfInBounds_toArray, List.set_cons_zero, List.set_cons_succ]))
      | (refine sq_call (oi := ⟨_, _, _, _, _, _⟩) rfl (by rfl) (fun K hK => ?_); go_simp; (first | (go_at_call 118; refine (top_calls hf _).mono ?_; rintro e w2 ⟨rfl, hb⟩)); refine hK.out _ _ (by go_split_ands; exact ⟨cellk hb (by assumption), cellk hb (by assumption), heapk hb (by assumption), heapk hb (by assumption), bkeep hb (by assumption)⟩) (fun hT => ?_); clear hK K hS hb; (have hS := hT); clear hT; (try simp only [Act.put, List.setIfInBounds_toArray, List.set_cons_zero, List.set_cons_succ])))
    refine sq_done ?_
    obtain ⟨f0, f1, c1, c2, hB⟩ := hS
  · -- an infinity
    have p0 : w2.cell? ⟨g, 0, none⟩ = some (.int .i64 0) := cell_of c2 0
    have p1 : w2.cell? ⟨g, 1, none⟩ = some (.bool s) := cell_of c2 1
    have p2 : w2.cell? ⟨g, 2, none⟩ = some (.int .i64 0) := cell_of c2 2
    have p3 : w2.cell? ⟨g, 3, none⟩ = some (.int .u64 0) := cell_of c2 3
    have y0 := froz_of c2 0
    have y2 := froz_of c2 2
    have y3 := froz_of c2 3
    have r0 : w2.cell? ⟨w.heap.size + 1, 0, none⟩ = some (.int .i64 0) := cell_of c1 0
    have r1 : w2.cell? ⟨w.heap.size + 1, 1, none⟩ = some (.bool false) := cell_of c1 1
    have r2 : w2.cell? ⟨w.heap.size + 1, 2, none⟩ = some (.int .i64 0) := cell_of c1 2
    have r3 : w2.cell? ⟨w.heap.size + 1, 3, none⟩ = some (.int .u64 0) := cell_of c1 3
    have q0 := froz_of c1 0
    have q1 := froz_of c1 1
    have q2 := froz_of c1 2
    have q3 := froz_of c1 3
    clear c1 c2
    go_wp2
    refine bodyPost_ret (v := .tuple #[.agg #[.int .i64 3, .bool s, .int .i64 0, .int .u64 0], .int .i64 0]) (by simp [results, Try.results93, go_sem, r0, r1, r2, r3]) rfl ?_
    exact ret_close rfl (by repeat (first | (with_reducible exact hB) | refine Below.setCell ?_ (by simp <;> omega) _))
  · -- no number
    go_wp2
    refine reg_seq (fun W => W.cell? ⟨w.heap.size, 0, none⟩ = some (.int .i64 M) ∧ W.cell? ⟨w.heap.size, 1, none⟩ = some (.int .i64 X) ∧ W.heap[w.heap.size+1]? = some (.cells #[.int .i64 0, .bool false, .int .i64 0, .int .u64 0] 41 (0, 0)) ∧ W.heap[g]? = some (.cells #[.int .i64 0, .bool s, .int .i64 0, .int .u64 0] 41 (0, 0)) ∧ Below w.heap.size w W) [(0, true), (1, true), (4, true), (2, false), (3, true), (5, false), (6, true), (7, true)] (by kernel_rfl) (by kernel_rfl) ⟨by assumption, by assumption, by assumption, by assumption, Below.drew (by assumption)⟩ (fun hS => ?_)
    clear f0 f1 c1 c2 hB
    repeat (first
      | (refine sq_take (oi := ⟨_, _, _, _, _, _⟩) (v := ?_) rfl (fun _ _ _ h => h) (by rfl) ?_ ?_; rotate_left; (intro w hSw; (try dsimp only at hSw); go_simp; with_reducible rfl); (try simp only [Act.put, List.setIfInBounds_toArray, List.set_cons_zero, List.set_cons_succ]))
      | (refine sq_skip (oi := ⟨_, _, _, _, _, _⟩) rfl (fun _ _ _ h => h) (by rfl) ?_; (try simp only [Act.put, List.setIfInBounds_toArray, List.set_cons_zero, List.set_cons_succ]))
      | (refine sq_call (oi := ⟨_, _, _, _, _, _⟩) rfl (by rfl) (fun K hK => ?_); go_simp; (first | (go_at_call 118; refine (top_calls hf _).mono ?_; rintro e w2 ⟨rfl, hb⟩)); refine hK.out _ _ (by go_split_ands; exact ⟨cellk hb (by assumption), cellk hb (by assumption), heapk hb (by assumption), heapk hb (by assumption), bkeep hb (by assumption)⟩) (fun hT => ?_); clear hK K hS hb; (have hS := hT); clear hT; (try simp only [Act.put, List.setIfInBounds_toArray, List.set_cons_zero, List.set_cons_succ])))
    refine sq_done ?_
    obtain ⟨f0, f1, c1, c2, hB⟩ := hS
    have p0 : w2.cell? ⟨g, 0, none⟩ = some (.int .i64 0) := cell_of c2 0
    have p1 : w2.cell? ⟨g, 1, none⟩ = some (.bool s) := cell_of c2 1
    have p2 : w2.cell? ⟨g, 2, none⟩ = some (.int .i64 0) := cell_of c2 2
    have p3 : w2.cell? ⟨g, 3, none⟩ = some (.int .u64 0) := cell_of c2 3
    have y0 := froz_of c2 0
    have y2 := froz_of c2 2
    have y3 := froz_of c2 3
    have r0 : w2.cell? ⟨w.heap.size + 1, 0, none⟩ = some (.int .i64 0) := cell_of c1 0
    have r1 : w2.cell? ⟨w.heap.size + 1, 1, none⟩ = some (.bool false) := cell_of c1 1
    have r2 : w2.cell? ⟨w.heap.size + 1, 2, none⟩ = some (.int .i64 0) := cell_of c1 2
    have r3 : w2.cell? ⟨w.heap.size + 1, 3, none⟩ = some (.int .u64 0) := cell_of c1 3
    have q0 := froz_of c1 0
    have q1 := froz_of c1 1
    have q2 := froz_of c1 2
    have q3 := froz_of c1 3
    clear c1 c2
    go_wp2
    refine bodyPost_ret (v := .tuple #[.agg #[.int .i64 4, .bool s, .int .i64 0, .int .u64 0], .int .i64 0]) (by simp [results, Try.results93, go_sem, r0, r1, r2, r3]) rfl ?_
    exact ret_close rfl (by repeat (first | (with_reducible exact hB) | refine Below.setCell ?_ (by simp <;> omega) _))
  · -- zero
    go_wp2
    refine reg_seq (fun W => W.cell? ⟨w.heap.size, 0, none⟩ = some (.int .i64 M) ∧ W.cell? ⟨w.heap.size, 1, none⟩ = some (.int .i64 X) ∧ W.heap[w.heap.size+1]? = some (.cells #[.int .i64 0, .bool false, .int .i64 0, .int .u64 0] 41 (0, 0)) ∧ W.heap[g]? = some (.cells #[.int .i64 0, .bool s, .int .i64 0, .int .u64 0] 41 (0, 0)) ∧ Below w.heap.size w W) [(0, true), (1, true), (4, true), (2, false), (3, true), (5, false), (6, true), (7, true)] (by kernel_rfl) (by kernel_rfl) ⟨by assumption, by assumption, by assumption, by assumption, Below.drew (by assumption)⟩ (fun hS => ?_)
    clear f0 f1 c1 c2 hB
    repeat (first
      | (refine sq_take (oi := ⟨_, _, _, _, _, _⟩) (v := ?_) rfl (fun _ _ _ h => h) (by rfl) ?_ ?_; rotate_left; (intro w hSw; (try dsimp only at hSw); go_simp; with_reducible rfl); (try simp only [Act.put, List.setIfInBounds_toArray, List.set_cons_zero, List.set_cons_succ]))
      | (refine sq_skip (oi := ⟨_, _, _, _, _, _⟩) rfl (fun _ _ _ h => h) (by rfl) ?_; (try simp only [Act.put, List.setIfInBounds_toArray, List.set_cons_zero, List.set_cons_succ]))
      | (refine sq_call (oi := ⟨_, _, _, _, _, _⟩) rfl (by rfl) (fun K hK => ?_); go_simp; (first | (go_at_call 118; refine (top_calls hf _).mono ?_; rintro e w2 ⟨rfl, hb⟩)); refine hK.out _ _ (by go_split_ands; exact ⟨cellk hb (by assumption), cellk hb (by assumption), heapk hb (by assumption), heapk hb (by assumption), bkeep hb (by assumption)⟩) (fun hT => ?_); clear hK K hS hb; (have hS := hT); clear hT; (try simp only [Act.put, List.setIfInBounds_toArray, List.set_cons_zero, List.set_cons_succ])))
    refine sq_done ?_
    obtain ⟨f0, f1, c1, c2, hB⟩ := hS
    have p0 : w2.cell? ⟨g, 0, none⟩ = some (.int .i64 0) := cell_of c2 0
    have p1 : w2.cell? ⟨g, 1, none⟩ = some (.bool s) := cell_of c2 1
    have p2 : w2.cell? ⟨g, 2, none⟩ = some (.int .i64 0) := cell_of c2 2
    have p3 : w2.cell? ⟨g, 3, none⟩ = some (.int .u64 0) := cell_of c2 3
    have y0 := froz_of c2 0
    have y2 := froz_of c2 2
    have y3 := froz_of c2 3
    have r0 : w2.cell? ⟨w.heap.size + 1, 0, none⟩ = some (.int .i64 0) := cell_of c1 0
    have r1 : w2.cell? ⟨w.heap.size + 1, 1, none⟩ = some (.bool false) := cell_of c1 1
    have r2 : w2.cell? ⟨w.heap.size + 1, 2, none⟩ = some (.int .i64 0) := cell_of c1 2
    have r3 : w2.cell? ⟨w.heap.size + 1, 3, none⟩ = some (.int .u64 0) := cell_of c1 3
    have q0 := froz_of c1 0
    have q1 := froz_of c1 1
    have q2 := froz_of c1 2
    have q3 := froz_of c1 3
    clear c1 c2
    go_wp2
    refine bodyPost_ret (v := .tuple #[.agg #[.int .i64 1, .bool s, .int .i64 0, .int .u64 0], .int .i64 0]) (by simp [results, Try.results93, go_sem, r0, r1, r2, r3]) rfl ?_
    exact ret_close rfl (by repeat (first | (with_reducible exact hB) | refine Below.setCell ?_ (by simp <;> omega) _))
  · -- below the normal ones
    go_wp2
    refine reg_seq (fun W => W.cell? ⟨w.heap.size, 0, none⟩ = some (.int .i64 M) ∧ W.cell? ⟨w.heap.size, 1, none⟩ = some (.int .i64 X) ∧ W.heap[w.heap.size+1]? = some (.cells #[.int .i64 0, .bool false, .int .i64 0, .int .u64 0] 41 (0, 0)) ∧ W.heap[g]? = some (.cells #[.int .i64 0, .bool s, .int .i64 0, .int .u64 0] 41 (0, 0)) ∧ Below w.heap.size w W) [(0, true), (1, true), (4, true), (2, false), (3, true), (5, false), (6, true), (7, true)] (by kernel_rfl) (by kernel_rfl) ⟨by assumption, by assumption, by assumption, by assumption, Below.drew (by assumption)⟩ (fun hS => ?_)
    clear f0 f1 c1 c2 hB
    repeat (first
      | (refine sq_take (oi := ⟨_, _, _, _, _, _⟩) (v := ?_) rfl (fun _ _ _ h => h) (by rfl) ?_ ?_; rotate_left; (intro w hSw; (try dsimp only at hSw); go_simp; with_reducible rfl); (try simp only [Act.put, List.setIfInBounds_toArray, List.set_cons_zero, List.set_cons_succ]))
      | (refine sq_skip (oi := ⟨_, _, _, _, _, _⟩) rfl (fun _ _ _ h => h) (by rfl) ?_; (try simp only [Act.put, List.setIfInBounds_toArray, List.set_cons_zero, List.set_cons_succ]))
      | (refine sq_call (oi := ⟨_, _, _, _, _, _⟩) rfl (by rfl) (fun K hK => ?_); go_simp; (first | (go_at_call 118; refine (top_calls hf _).mono ?_; rintro e w2 ⟨rfl, hb⟩)); refine hK.out _ _ (by go_split_ands; exact ⟨cellk hb (by assumption), cellk hb (by assumption), heapk hb (by assumption), heapk hb (by assumption), bkeep hb (by assumption)⟩) (fun hT => ?_); clear hK K hS hb; (have hS := hT); clear hT; (try simp only [Act.put, List.setIfInBounds_toArray, List.set_cons_zero, List.set_cons_succ])))
    refine sq_done ?_
    obtain ⟨f0, f1, c1, c2, hB⟩ := hS
    go_wp2
    refine reg_seq (fun W => W.cell? ⟨w.heap.size, 0, none⟩ = some (.int .i64 M) ∧ W.cell? ⟨w.heap.size, 1, none⟩ = some (.int .i64 X) ∧ Below w.heap.size w W) [(0, true), (1, true), (4, true), (5, true), (7, true), (2, false), (3, true), (6, true), (8, false), (9, true), (10, false), (11, true), (12, false)] (by kernel_rfl) (by kernel_rfl) ⟨by assumption, by assumption, Below.drew (by assumption)⟩ (fun hS => ?_)
    clear f0 f1 hB
    repeat (first
      | (refine sq_take (oi := ⟨_, _, _, _, _, _⟩) (v := ?_) rfl (fun _ _ _ h => h) (by rfl) ?_ ?_; rotate_left; (intro w hSw; (try dsimp only at hSw); go_simp; with_reducible rfl); (try simp only [Act.put, List.setIfInBounds_toArray, List.set_cons_zero, List.set_cons_succ]))
      | (refine sq_skip (oi := ⟨_, _, _, _, _, _⟩) rfl (fun _ _ _ h => h) (by rfl) ?_; (try simp only [Act.put, List.setIfInBounds_toArray, List.set_cons_zero, List.set_cons_succ]))
      | (refine sq_call (oi := ⟨_, _, _, _, _, _⟩) rfl (by rfl) (fun K hK => ?_); go_simp; (first | (go_at_call 121; refine (bias_calls hf _).mono ?_; rintro e w2 ⟨rfl, hb⟩; have c1 := heapk hb c1; have c2 := heapk hb c2; have p0 : w2.cell? ⟨g, 0, none⟩ = some (.int .i64 0) := cell_of c2 0; have p1 : w2.cell? ⟨g, 1, none⟩ = some (.bool s) := cell_of c2 1; have p2 : w2.cell? ⟨g, 2, none⟩ = some (.int .i64 0) := cell_of c2 2; have p3 : w2.cell? ⟨g, 3, none⟩ = some (.int .u64 0) := cell_of c2 3; have y0 := froz_of c2 0; have y2 := froz_of c2 2; have y3 := froz_of c2 3; have r0 : w2.cell? ⟨w.heap.size + 1, 0, none⟩ = some (.int .i64 0) := cell_of c1 0; have r1 : w2.cell? ⟨w.heap.size + 1, 1, none⟩ = some (.bool false) := cell_of c1 1; have r2 : w2.cell? ⟨w.heap.size + 1, 2, none⟩ = some (.int .i64 0) := cell_of c1 2; have r3 : w2.cell? ⟨w.heap.size + 1, 3, none⟩ = some (.int .u64 0) := cell_of c1 3; have q0 := froz_of c1 0; have q1 := froz_of c1 1; have q2 := froz_of c1 2; have q3 := froz_of c1 3; clear c1 c2)); refine hK.out _ _ (by go_split_ands; exact ⟨cellk hb (by assumption), cellk hb (by assumption), bkeep hb (by assumption)⟩) (fun hT => ?_); clear hK K hS hb; (have hS := hT); clear hT; (try simp only [Act.put, List.setIfInBounds_toArray, List.set_cons_zero, List.set_cons_succ]))
      | (refine sq_call (oi := ⟨_, _, _, _, _, _⟩) rfl (by rfl) (fun K hK => ?_); go_simp; refine hK.out _ _ (by go_split_ands; exact ⟨by rw [World.cell?_setCell_far _ _ _ _ (by simp <;> omega)]; assumption, by rw [World.cell?_setCell_far _ _ _ _ (by simp <;> omega)]; assumption, Below.setCell (by assumption) (by simp <;> omega) _⟩) (fun hT => ?_); clear hK K hS; (have hS := hT); clear hT; (try simp only [Act.put, List.setIfInBounds_toArray, List.set_cons_zero, List.set_cons_succ])))
    refine sq_done ?_
    obtain ⟨f0, f1, hB⟩ := hS
    go_wp2
    refine bodyPost_ret (v := .tuple #[.agg #[.int .i64 2, .bool s, .int .i64 (1 - bia X - M), .int .u64 m], .int .i64 0]) (by simp [results, Try.results93, go_sem, r0, r1, r2, r3]) rfl ?_
    exact ret_close rfl (by repeat (first | (with_reducible exact hB) | refine Below.setCell ?_ (by simp <;> omega) _))
  · -- a normal one
    go_wp2
    refine reg_seq (fun W => W.cell? ⟨w.heap.size, 0, none⟩ = some (.int .i64 M) ∧ W.cell? ⟨w.heap.size, 1, none⟩ = some (.int .i64 X) ∧ W.heap[w.heap.size+1]? = some (.cells #[.int .i64 0, .bool false, .int .i64 0, .int .u64 0] 41 (0, 0)) ∧ W.heap[g]? = some (.cells #[.int .i64 0, .bool s, .int .i64 0, .int .u64 0] 41 (0, 0)) ∧ Below w.heap.size w W) [(0, true), (1, true), (4, true), (2, false), (3, true), (5, false), (6, true), (7, true)] (by kernel_rfl) (by kernel_rfl) ⟨by assumption, by assumption, by assumption, by assumption, Below.drew (by assumption)⟩ (fun hS => ?_)
    clear f0 f1 c1 c2 hB
    repeat (first
      | (refine sq_take (oi := ⟨_, _, _, _, _, _⟩) (v := ?_) rfl (fun _ _ _ h => h) (by rfl) ?_ ?_; rotate_left; (intro w hSw; (try dsimp only at hSw); go_simp; with_reducible rfl); (try simp only [Act.put, List.setIfInBounds_toArray, List.set_cons_zero, List.set_cons_succ]))
      | (refine sq_skip (oi := ⟨_, _, _, _, _, _⟩) rfl (fun _ _ _ h => h) (by rfl) ?_; (try simp only [Act.put, List.setIfInBounds_toArray, List.set_cons_zero, List.set_cons_succ]))
      | (refine sq_call (oi := ⟨_, _, _, _, _, _⟩) rfl (by rfl) (fun K hK => ?_); go_simp; (first | (go_at_call 118; refine (top_calls hf _).mono ?_; rintro e w2 ⟨rfl, hb⟩)); refine hK.out _ _ (by go_split_ands; exact ⟨cellk hb (by assumption), cellk hb (by assumption), heapk hb (by assumption), heapk hb (by assumption), bkeep hb (by assumption)⟩) (fun hT => ?_); clear hK K hS hb; (have hS := hT); clear hT; (try simp only [Act.put, List.setIfInBounds_toArray, List.set_cons_zero, List.set_cons_succ])))
    refine sq_done ?_
    obtain ⟨f0, f1, c1, c2, hB⟩ := hS
    go_wp2
    refine reg_seq (fun W => W.cell? ⟨w.heap.size, 0, none⟩ = some (.int .i64 M) ∧ W.cell? ⟨w.heap.size, 1, none⟩ = some (.int .i64 X) ∧ Below w.heap.size w W) [(0, true), (1, true), (2, true), (3, true), (4, true), (5, true), (6, true), (9, true), (10, true), (12, true), (7, false), (8, true), (11, true), (13, false), (14, true), (15, false), (16, true), (17, false)] (by kernel_rfl) (by kernel_rfl) ⟨by assumption, by assumption, Below.drew (by assumption)⟩ (fun hS => ?_)
    clear f0 f1 hB
    repeat (first
      | (refine sq_take (oi := ⟨_, _, _, _, _, _⟩) (v := ?_) rfl (fun _ _ _ h => h) (by rfl) ?_ ?_; rotate_left; (intro w hSw; (try dsimp only at hSw); go_simp; with_reducible rfl); (try simp only [Act.put, List.setIfInBounds_toArray, List.set_cons_zero, List.set_cons_succ]))
      | (refine sq_skip (oi := ⟨_, _, _, _, _, _⟩) rfl (fun _ _ _ h => h) (by rfl) ?_; (try simp only [Act.put, List.setIfInBounds_toArray, List.set_cons_zero, List.set_cons_succ]))
      | (refine sq_call (oi := ⟨_, _, _, _, _, _⟩) rfl (by rfl) (fun K hK => ?_); go_simp; (first | (go_at_call 121; refine (bias_calls hf _).mono ?_; rintro e w2 ⟨rfl, hb⟩; have c1 := heapk hb c1; have c2 := heapk hb c2; have p0 : w2.cell? ⟨g, 0, none⟩ = some (.int .i64 0) := cell_of c2 0; have p1 : w2.cell? ⟨g, 1, none⟩ = some (.bool s) := cell_of c2 1; have p2 : w2.cell? ⟨g, 2, none⟩ = some (.int .i64 0) := cell_of c2 2; have p3 : w2.cell? ⟨g, 3, none⟩ = some (.int .u64 0) := cell_of c2 3; have y0 := froz_of c2 0; have y2 := froz_of c2 2; have y3 := froz_of c2 3; have r0 : w2.cell? ⟨w.heap.size + 1, 0, none⟩ = some (.int .i64 0) := cell_of c1 0; have r1 : w2.cell? ⟨w.heap.size + 1, 1, none⟩ = some (.bool false) := cell_of c1 1; have r2 : w2.cell? ⟨w.heap.size + 1, 2, none⟩ = some (.int .i64 0) := cell_of c1 2; have r3 : w2.cell? ⟨w.heap.size + 1, 3, none⟩ = some (.int .u64 0) := cell_of c1 3; have q0 := froz_of c1 0; have q1 := froz_of c1 1; have q2 := froz_of c1 2; have q3 := froz_of c1 3; clear c1 c2)); refine hK.out _ _ (by go_split_ands; exact ⟨cellk hb (by assumption), cellk hb (by assumption), bkeep hb (by assumption)⟩) (fun hT => ?_); clear hK K hS hb; (have hS := hT); clear hT; (try simp only [Act.put, List.setIfInBounds_toArray, List.set_cons_zero, List.set_cons_succ]))
      | (refine sq_call (oi := ⟨_, _, _, _, _, _⟩) rfl (by rfl) (fun K hK => ?_); go_simp; refine hK.out _ _ (by go_split_ands; exact ⟨by rw [World.cell?_setCell_far _ _ _ _ (by simp <;> omega)]; assumption, by rw [World.cell?_setCell_far _ _ _ _ (by simp <;> omega)]; assumption, Below.setCell (by assumption) (by simp <;> omega) _⟩) (fun hT => ?_); clear hK K hS; (have hS := hT); clear hT; (try simp only [Act.put, List.setIfInBounds_toArray, List.set_cons_zero, List.set_cons_succ])))
    refine sq_done ?_
    obtain ⟨f0, f1, hB⟩ := hS
    go_wp2
    refine bodyPost_ret (v := .tuple #[.agg #[.int .i64 2, .bool s, .int .i64 (G - bia X - M), .int .u64 m], .int .i64 0]) (by simp [results, Try.results93, go_sem, r0, r1, r2, r3]) rfl ?_
    exact ret_close rfl (by repeat (first | (with_reducible exact hB) | refine Below.setCell ?_ (by simp <;> omega) _))

theorem open_ok {M X : Nat} (hf : Okf M X) (a : Nat) (ha : a < 2^(1+X+M)) (w : World) :
    Calls Try.prog 93 #[.agg #[.int .i64 M, .int .i64 X], .int .u64 a] w (Ret (.tuple #[.agg #[.int .i64 (kd M X a : Nat), .bool (ng M X a), .int .i64 (ex M X a), .int .u64 (mn M X a : Nat)], .int .i64 0]) w) := by
  have hp := pow_pos' M
  refine open_core hf a (a64 hf ha) (bl_le_iff.2 ha) _ _ _ _ _ _ _ _ (op_sign hf ha) (op_frac hf ha) (op_top hf ha) (Int.natCast_nonneg _) (op_i64 hf a) (op_shr M X a) (Int.natCast_nonneg _) (by have := fd_lt M X a; have := pw11 hf.x2; omega) (op_or hf) ?_ w
  rw [op_eq, beq0, beq0]
  unfold mn ex kd
  have hq : 2^X - 1 ≠ 0 := by have := pow_lt (a := 1) (b := X) (by have := hf.x1; omega); omega
  by_cases c1 : fd M X a = 2^X - 1
  · by_cases c2 : fr M a = 0 <;> simp [c1, c2]
  · by_cases c3 : fd M X a = 0
    · have c4 : ¬ 0 = 2^X - 1 := fun h => hq h.symm
      by_cases c2 : fr M a = 0 <;> simp [c2, c3, c4]
    · simp [c1, c3]
end Go.Proofs.Ytpliondhiahhnaa.K
