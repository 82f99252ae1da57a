/- CONTRACT of soft.two. -/
import Derived.Test.YtpliondhiahhnaaA5
import Derived.Lib.Hide
namespace Go.Proofs.Ytpliondhiahhnaa.K
open Go.RowKit Fl
set_option linter.unusedVariables false
set_option linter.unusedSimpArgs false
set_option maxRecDepth 100000
set_option maxHeartbeats 1000000
theorem cell_drew (w : World) (p : Addr) : w.drew.cell? p = w.cell? p := rfl
theorem heap_drew (w : World) : w.drew.heap = w.heap := rfl
theorem falloc {w : World} {g : Nat} (h : g < w.heap.size) (o : Obj) (i : Nat) : (w.alloc o).frozen? ⟨g, i, none⟩ = w.frozen? ⟨g, i, none⟩ := (bcell (blA w o)).2 g i h
/-! ### soft.two -/
set_option maxHeartbeats 8000000 in
theorem two_ok {M X : Nat} (hf : Okf M X) (a b : Nat) (ha : Hid (a < 2^(1+X+M))) (hb : Hid (b < 2^(1+X+M))) (w : World) :
    Calls Try.prog 63 #[.agg #[.int .i64 M, .int .i64 X], .int .u64 a, .int .u64 b] w (Ret (.tuple #[.agg #[.int .i64 (kd M X a : Nat), .bool (ng M X a), .int .i64 (ex M X a), .int .u64 (mn M X a : Nat)], .agg #[.int .i64 (kd M X b : Nat), .bool (ng M X b), .int .i64 (ex M X b), .int .u64 (mn M X b : Nat)], .int .i64 0]) w) := by
  have hu23 := Try.underlying23
  have hu41 := Try.underlying41
  go_enter Try.func63, Try.ntmps63
  go_wp2_with fail
  obtain ⟨W, hW⟩ : ∃ W, ((w.alloc (Obj.cells #[Value.int IntKind.i64 M, Value.int IntKind.i64 X] 23)).alloc (Obj.cells #[Value.int IntKind.i64 0, Value.bool false, Value.int IntKind.i64 0, Value.int IntKind.u64 0] 41)).alloc (Obj.cells #[Value.int IntKind.i64 0, Value.bool false, Value.int IntKind.i64 0, Value.int IntKind.u64 0] 41) = W := ⟨_, rfl⟩
  have c0 : W.heap[w.heap.size]? = some (.cells #[.int .i64 M, .int .i64 X] 23 (0, 0)) := by subst hW; exact hold (hold (hnew _ _) _) _
  have c1 : W.heap[w.heap.size+1]? = some (Obj.cells #[Value.int IntKind.i64 0, Value.bool false, Value.int IntKind.i64 0, Value.int IntKind.u64 0] 41) := by subst hW; rw [← World.size_alloc w]; exact hold (hnew _ _) _
  have c2 : W.heap[w.heap.size+1+1]? = some (Obj.cells #[Value.int IntKind.i64 0, Value.bool false, Value.int IntKind.i64 0, Value.int IntKind.u64 0] 41) := by subst hW; rw [show w.heap.size + 1 + 1 = ((w.alloc (Obj.cells #[Value.int IntKind.i64 M, Value.int IntKind.i64 X] 23)).alloc (Obj.cells #[Value.int IntKind.i64 0, Value.bool false, Value.int IntKind.i64 0, Value.int IntKind.u64 0] 41)).heap.size by simp]; exact hnew _ _
  have hB : Below w.heap.size w W := by subst hW; exact ((blA _ _).alloc (by simp) _).alloc (by simp; omega) _
  rw [hW]
  clear hW

  refine (open_ok hf a ha.out _).mono ?_
  rintro e w1 ⟨rfl, hb1⟩
  have d0 := heapk hb1 c0
  have d1 := heapk hb1 c1
  have d2 := heapk hb1 c2
  have hB1 := bkeep hb1 hB
  clear c0 c1 c2 hB hb1
  have f0 : w1.cell? ⟨w.heap.size, 0, none⟩ = some (.int .i64 M) := cell_of d0 0
  have f1 : w1.cell? ⟨w.heap.size, 1, none⟩ = some (.int .i64 X) := cell_of d0 1
  have hz : w.heap.size + 2 < w1.heap.size := (Array.getElem?_eq_some_iff.1 d2).1
  have fq : ∀ (o : Obj) (i : Nat), (w1.alloc o).cell? ⟨w.heap.size, i, none⟩ = w1.cell? ⟨w.heap.size, i, none⟩ := fun o i => calloc (by omega) o i
  go_wp2_with fail
  obtain ⟨g, hg⟩ : ∃ g, w1.heap.size = g := ⟨_, rfl⟩
  obtain ⟨W2, hW2⟩ : ∃ W2, w1.alloc (Obj.cells #[Value.int IntKind.i64 (kd M X a : Nat), Value.bool (ng M X a), Value.int IntKind.i64 (ex M X a), Value.int IntKind.u64 (mn M X a : Nat)] 41) = W2 := ⟨_, rfl⟩
  have c1 : W2.heap[w.heap.size+1]? = some (Obj.cells #[Value.int IntKind.i64 0, Value.bool false, Value.int IntKind.i64 0, Value.int IntKind.u64 0] 41) := by subst hW2; exact hold d1 _
  have c2 : W2.heap[w.heap.size+1+1]? = some (Obj.cells #[Value.int IntKind.i64 0, Value.bool false, Value.int IntKind.i64 0, Value.int IntKind.u64 0] 41) := by subst hW2; exact hold d2 _
  have c3 : W2.heap[g]? = some (Obj.cells #[Value.int IntKind.i64 (kd M X a : Nat), Value.bool (ng M X a), Value.int IntKind.i64 (ex M X a), Value.int IntKind.u64 (mn M X a : Nat)] 41) := by subst hW2; rw [← hg]; exact hnew _ _
  have hB : Below w.heap.size w W2 := by subst hW2; exact hB1.alloc (by omega) _
  have hgz : w.heap.size + 2 < g := by omega
  rw [hg, hW2]
  clear d0 d1 d2 hB1 f0 f1 hz fq hW2 hg
  refine (open_ok hf b hb.out _).mono ?_
  rintro e w2 ⟨rfl, hb1⟩
  have d1 := heapk hb1 c1
  have d2 := heapk hb1 c2
  have d3 := heapk hb1 c3
  have hB2 := bkeep hb1 hB
  clear c1 c2 c3 hB hb1
  have hz : g < w2.heap.size := (Array.getElem?_eq_some_iff.1 d3).1
  go_wp2_with fail
  obtain ⟨h, hh⟩ : ∃ h, w2.heap.size = h := ⟨_, rfl⟩
  obtain ⟨W3, hW3⟩ : ∃ W3, w2.alloc (Obj.cells #[Value.int IntKind.i64 (kd M X b : Nat), Value.bool (ng M X b), Value.int IntKind.i64 (ex M X b), Value.int IntKind.u64 (mn M X b : Nat)] 41) = W3 := ⟨_, rfl⟩
  have c1 : W3.heap[w.heap.size+1]? = some (Obj.cells #[Value.int IntKind.i64 0, Value.bool false, Value.int IntKind.i64 0, Value.int IntKind.u64 0] 41) := by subst hW3; exact hold d1 _
  have c2 : W3.heap[w.heap.size+1+1]? = some (Obj.cells #[Value.int IntKind.i64 0, Value.bool false, Value.int IntKind.i64 0, Value.int IntKind.u64 0] 41) := by subst hW3; exact hold d2 _
  have c3 : W3.heap[g]? = some (Obj.cells #[Value.int IntKind.i64 (kd M X a : Nat), Value.bool (ng M X a), Value.int IntKind.i64 (ex M X a), Value.int IntKind.u64 (mn M X a : Nat)] 41) := by subst hW3; exact hold d3 _
  have c4 : W3.heap[h]? = some (Obj.cells #[Value.int IntKind.i64 (kd M X b : Nat), Value.bool (ng M X b), Value.int IntKind.i64 (ex M X b), Value.int IntKind.u64 (mn M X b : Nat)] 41) := by subst hW3; rw [← hh]; exact hnew _ _
  have hB : Below w.heap.size w W3 := by subst hW3; exact hB2.alloc (by omega) _
  have hhz : g < h := by omega
  rw [hh, hW3]
  clear d1 d2 d3 hB2 hz hW3 hh
  have p0 : W3.cell? ⟨g, 0, none⟩ = some (.int .i64 (kd M X a : Nat)) := cell_of c3 0
  have p1 : W3.cell? ⟨g, 1, none⟩ = some (.bool (ng M X a)) := cell_of c3 1
  have p2 : W3.cell? ⟨g, 2, none⟩ = some (.int .i64 (ex M X a)) := cell_of c3 2
  have p3 : W3.cell? ⟨g, 3, none⟩ = some (.int .u64 (mn M X a : Nat)) := cell_of c3 3
  have t0 : W3.cell? ⟨h, 0, none⟩ = some (.int .i64 (kd M X b : Nat)) := cell_of c4 0
  have t1 : W3.cell? ⟨h, 1, none⟩ = some (.bool (ng M X b)) := cell_of c4 1
  have t2 : W3.cell? ⟨h, 2, none⟩ = some (.int .i64 (ex M X b)) := cell_of c4 2
  have t3 : W3.cell? ⟨h, 3, none⟩ = some (.int .u64 (mn M X b : Nat)) := cell_of c4 3
  have r10 : W3.cell? ⟨w.heap.size + 1, 0, none⟩ = some (.int .i64 0) := cell_of c1 0
  have q10 := froz_of c1 0
  have r11 : W3.cell? ⟨w.heap.size + 1, 1, none⟩ = some (.bool false) := cell_of c1 1
  have q11 := froz_of c1 1
  have r12 : W3.cell? ⟨w.heap.size + 1, 2, none⟩ = some (.int .i64 0) := cell_of c1 2
  have q12 := froz_of c1 2
  have r13 : W3.cell? ⟨w.heap.size + 1, 3, none⟩ = some (.int .u64 0) := cell_of c1 3
  have q13 := froz_of c1 3
  have r20 : W3.cell? ⟨w.heap.size + 1 + 1, 0, none⟩ = some (.int .i64 0) := cell_of c2 0
  have q20 := froz_of c2 0
  have r21 : W3.cell? ⟨w.heap.size + 1 + 1, 1, none⟩ = some (.bool false) := cell_of c2 1
  have q21 := froz_of c2 1
  have r22 : W3.cell? ⟨w.heap.size + 1 + 1, 2, none⟩ = some (.int .i64 0) := cell_of c2 2
  have q22 := froz_of c2 2
  have r23 : W3.cell? ⟨w.heap.size + 1 + 1, 3, none⟩ = some (.int .u64 0) := cell_of c2 3
  have q23 := froz_of c2 3
  clear c1 c2 c3 c4
  refine reg_seq (fun W => W.cell? ⟨g, 0, none⟩ = some (.int .i64 (kd M X a : Nat)) ∧ W.cell? ⟨g, 1, none⟩ = some (.bool (ng M X a)) ∧ W.cell? ⟨g, 2, none⟩ = some (.int .i64 (ex M X a)) ∧ W.cell? ⟨g, 3, none⟩ = some (.int .u64 (mn M X a : Nat)) ∧ W.cell? ⟨h, 0, none⟩ = some (.int .i64 (kd M X b : Nat)) ∧ W.cell? ⟨h, 1, none⟩ = some (.bool (ng M X b)) ∧ W.cell? ⟨h, 2, none⟩ = some (.int .i64 (ex M X b)) ∧ W.cell? ⟨h, 3, none⟩ = some (.int .u64 (mn M X b : Nat)) ∧ Below w.heap.size w W) [(0, true), (1, true), (2, false), (3, false), (4, true)] (by as_aux_lemma => kernel_rfl) (by as_aux_lemma => kernel_rfl) ⟨by assumption, by assumption, by assumption, by assumption, by assumption, by assumption, by assumption, by assumption, Below.drew (by assumption)⟩ (fun hS => ?_)
  repeat (first
    | (refine sq_take (oi := ⟨_, _, _, _, _, _⟩) (v := ?_) rfl (fun _ _ _ h => h) (by rfl) ?_ ?_; rotate_left; (intro w hSw; (try dsimp only at hSw); go_simp; with_reducible rfl); (try simp only [Act.put, List.setIfInBounds_toArray, List.set_cons_zero, List.set_cons_succ]))
    | (refine sq_skip (oi := ⟨_, _, _, _, _, _⟩) rfl (fun _ _ _ h => h) (by rfl) ?_; (try simp only [Act.put, List.setIfInBounds_toArray, List.set_cons_zero, List.set_cons_succ]))
    | (refine sq_skipc (oi := ⟨_, _, _, _, _, _⟩) rfl (by rfl) hS ?_; (try simp only [Act.put, List.setIfInBounds_toArray, List.set_cons_zero, List.set_cons_succ]))
    | (refine sq_call (oi := ⟨_, _, _, _, _, _⟩) rfl (by rfl) (fun K hK => ?_); go_simp; refine hK.out _ _ (by go_split_ands; exact ⟨by (try rw [cell_drew]); (repeat rw [World.cell?_setCell_far _ _ _ _ (by simp <;> omega)]); with_reducible assumption, by (try rw [cell_drew]); (repeat rw [World.cell?_setCell_far _ _ _ _ (by simp <;> omega)]); with_reducible assumption, by (try rw [cell_drew]); (repeat rw [World.cell?_setCell_far _ _ _ _ (by simp <;> omega)]); with_reducible assumption, by (try rw [cell_drew]); (repeat rw [World.cell?_setCell_far _ _ _ _ (by simp <;> omega)]); with_reducible assumption, by (try rw [cell_drew]); (repeat rw [World.cell?_setCell_far _ _ _ _ (by simp <;> omega)]); with_reducible assumption, by (try rw [cell_drew]); (repeat rw [World.cell?_setCell_far _ _ _ _ (by simp <;> omega)]); with_reducible assumption, by (try rw [cell_drew]); (repeat rw [World.cell?_setCell_far _ _ _ _ (by simp <;> omega)]); with_reducible assumption, by (try rw [cell_drew]); (repeat rw [World.cell?_setCell_far _ _ _ _ (by simp <;> omega)]); with_reducible assumption, by (try refine Below.drew ?_); repeat (first | (with_reducible assumption) | refine Below.setCell ?_ (by simp <;> omega) _)⟩) (fun hT => ?_); clear hK K hS; (have hS := hT); clear hT; (try simp only [Act.put, List.setIfInBounds_toArray, List.set_cons_zero, List.set_cons_succ])))
  refine sq_done ?_
  have hE := hS.2.2.2.2.2.2.2.2
  clear hS
  go_wp2
  refine bodyPost_ret (v := .tuple #[.agg #[.int .i64 (kd M X a : Nat), .bool (ng M X a), .int .i64 (ex M X a), .int .u64 (mn M X a : Nat)], .agg #[.int .i64 (kd M X b : Nat), .bool (ng M X b), .int .i64 (ex M X b), .int .u64 (mn M X b : Nat)], .int .i64 0]) (by simp [results, Try.results63, go_sem, r10, r11, r12, r13, r20, r21, r22, r23]) rfl ?_
  exact ret_close rfl hE
set_option maxHeartbeats 8000000 in
theorem two_bad1 (m x : Int) (a b : Nat) (h64 : Hid (a < 2^64)) (h : Hid (∀ M X : Nat, m = M → x = X → Okf M X → 2^(1+X+M) ≤ a)) (w : World) :
    Calls Try.prog 63 #[.agg #[.int .i64 m, .int .i64 x], .int .u64 a, .int .u64 b] w (Ret (.tuple #[.agg #[.int .i64 0, .bool false, .int .i64 0, .int .u64 0], .agg #[.int .i64 0, .bool false, .int .i64 0, .int .u64 0], .int .i64 1]) w) := by
  have hu23 := Try.underlying23
  have hu41 := Try.underlying41
  go_enter Try.func63, Try.ntmps63
  go_wp2_with fail
  obtain ⟨W, hW⟩ : ∃ W, ((w.alloc (Obj.cells #[Value.int IntKind.i64 m, Value.int IntKind.i64 x] 23)).alloc (Obj.cells #[Value.int IntKind.i64 0, Value.bool false, Value.int IntKind.i64 0, Value.int IntKind.u64 0] 41)).alloc (Obj.cells #[Value.int IntKind.i64 0, Value.bool false, Value.int IntKind.i64 0, Value.int IntKind.u64 0] 41) = W := ⟨_, rfl⟩
  have c0 : W.heap[w.heap.size]? = some (.cells #[.int .i64 m, .int .i64 x] 23 (0, 0)) := by subst hW; exact hold (hold (hnew _ _) _) _
  have c1 : W.heap[w.heap.size+1]? = some (Obj.cells #[Value.int IntKind.i64 0, Value.bool false, Value.int IntKind.i64 0, Value.int IntKind.u64 0] 41) := by subst hW; rw [← World.size_alloc w]; exact hold (hnew _ _) _
  have c2 : W.heap[w.heap.size+1+1]? = some (Obj.cells #[Value.int IntKind.i64 0, Value.bool false, Value.int IntKind.i64 0, Value.int IntKind.u64 0] 41) := by subst hW; rw [show w.heap.size + 1 + 1 = ((w.alloc (Obj.cells #[Value.int IntKind.i64 m, Value.int IntKind.i64 x] 23)).alloc (Obj.cells #[Value.int IntKind.i64 0, Value.bool false, Value.int IntKind.i64 0, Value.int IntKind.u64 0] 41)).heap.size by simp]; exact hnew _ _
  have hB : Below w.heap.size w W := by subst hW; exact ((blA _ _).alloc (by simp) _).alloc (by simp; omega) _
  rw [hW]
  clear hW

  refine (open_bad m x a h64.out h.out _).mono ?_
  rintro e w2 ⟨rfl, hb1⟩
  have d1 := heapk hb1 c1
  have d2 := heapk hb1 c2
  have hB2 := bkeep hb1 hB
  have hz : w.heap.size + 1 + 1 < w2.heap.size := (Array.getElem?_eq_some_iff.1 d2).1
  clear c0 c1 c2 hB hb1
  have r10 : w2.cell? ⟨w.heap.size + 1, 0, none⟩ = some (.int .i64 0) := cell_of d1 0
  have q10 := froz_of d1 0
  have r11 : w2.cell? ⟨w.heap.size + 1, 1, none⟩ = some (.bool false) := cell_of d1 1
  have q11 := froz_of d1 1
  have r12 : w2.cell? ⟨w.heap.size + 1, 2, none⟩ = some (.int .i64 0) := cell_of d1 2
  have q12 := froz_of d1 2
  have r13 : w2.cell? ⟨w.heap.size + 1, 3, none⟩ = some (.int .u64 0) := cell_of d1 3
  have q13 := froz_of d1 3
  have r20 : w2.cell? ⟨w.heap.size + 1 + 1, 0, none⟩ = some (.int .i64 0) := cell_of d2 0
  have q20 := froz_of d2 0
  have r21 : w2.cell? ⟨w.heap.size + 1 + 1, 1, none⟩ = some (.bool false) := cell_of d2 1
  have q21 := froz_of d2 1
  have r22 : w2.cell? ⟨w.heap.size + 1 + 1, 2, none⟩ = some (.int .i64 0) := cell_of d2 2
  have q22 := froz_of d2 2
  have r23 : w2.cell? ⟨w.heap.size + 1 + 1, 3, none⟩ = some (.int .u64 0) := cell_of d2 3
  have q23 := froz_of d2 3
  clear d1 d2
  have k1 : ∀ (o : Obj) (i : Nat), (w2.alloc o).cell? ⟨w.heap.size + 1, i, none⟩ = w2.cell? ⟨w.heap.size + 1, i, none⟩ := fun o i => calloc (by omega) o i
  have k2 : ∀ (o : Obj) (i : Nat), (w2.alloc o).cell? ⟨w.heap.size + 1 + 1, i, none⟩ = w2.cell? ⟨w.heap.size + 1 + 1, i, none⟩ := fun o i => calloc (by omega) o i
  have k3 : ∀ (o : Obj) (i : Nat), (w2.alloc o).frozen? ⟨w.heap.size + 1, i, none⟩ = w2.frozen? ⟨w.heap.size + 1, i, none⟩ := fun o i => falloc (by omega) o i
  have k4 : ∀ (o : Obj) (i : Nat), (w2.alloc o).frozen? ⟨w.heap.size + 1 + 1, i, none⟩ = w2.frozen? ⟨w.heap.size + 1 + 1, i, none⟩ := fun o i => falloc (by omega) o i
  go_wp2
  refine bodyPost_ret (v := .tuple #[.agg #[.int .i64 0, .bool false, .int .i64 0, .int .u64 0], .agg #[.int .i64 0, .bool false, .int .i64 0, .int .u64 0], .int .i64 1]) (by simp [results, Try.results63, go_sem, r10, r11, r12, r13, r20, r21, r22, r23, k1, k2]) rfl ?_
  exact ret_close rfl (by repeat (first | (with_reducible exact hB2) | refine Below.setCell ?_ (by simp <;> omega) _ | refine Below.alloc ?_ (by omega) _))
set_option maxHeartbeats 8000000 in
theorem two_bad2 {M X : Nat} (hf : Okf M X) (a b : Nat) (ha : Hid (a < 2^(1+X+M))) (h64 : Hid (b < 2^64)) (hb : Hid (2^(1+X+M) ≤ b)) (w : World) :
    Calls Try.prog 63 #[.agg #[.int .i64 M, .int .i64 X], .int .u64 a, .int .u64 b] w (Ret (.tuple #[.agg #[.int .i64 0, .bool false, .int .i64 0, .int .u64 0], .agg #[.int .i64 0, .bool false, .int .i64 0, .int .u64 0], .int .i64 1]) w) := by
  have hu23 := Try.underlying23
  have hu41 := Try.underlying41
  go_enter Try.func63, Try.ntmps63
  go_wp2_with fail
  obtain ⟨W, hW⟩ : ∃ W, ((w.alloc (Obj.cells #[Value.int IntKind.i64 M, Value.int IntKind.i64 X] 23)).alloc (Obj.cells #[Value.int IntKind.i64 0, Value.bool false, Value.int IntKind.i64 0, Value.int IntKind.u64 0] 41)).alloc (Obj.cells #[Value.int IntKind.i64 0, Value.bool false, Value.int IntKind.i64 0, Value.int IntKind.u64 0] 41) = W := ⟨_, rfl⟩
  have c0 : W.heap[w.heap.size]? = some (.cells #[.int .i64 M, .int .i64 X] 23 (0, 0)) := by subst hW; exact hold (hold (hnew _ _) _) _
  have c1 : W.heap[w.heap.size+1]? = some (Obj.cells #[Value.int IntKind.i64 0, Value.bool false, Value.int IntKind.i64 0, Value.int IntKind.u64 0] 41) := by subst hW; rw [← World.size_alloc w]; exact hold (hnew _ _) _
  have c2 : W.heap[w.heap.size+1+1]? = some (Obj.cells #[Value.int IntKind.i64 0, Value.bool false, Value.int IntKind.i64 0, Value.int IntKind.u64 0] 41) := by subst hW; rw [show w.heap.size + 1 + 1 = ((w.alloc (Obj.cells #[Value.int IntKind.i64 M, Value.int IntKind.i64 X] 23)).alloc (Obj.cells #[Value.int IntKind.i64 0, Value.bool false, Value.int IntKind.i64 0, Value.int IntKind.u64 0] 41)).heap.size by simp]; exact hnew _ _
  have hB : Below w.heap.size w W := by subst hW; exact ((blA _ _).alloc (by simp) _).alloc (by simp; omega) _
  rw [hW]
  clear hW

  refine (open_ok hf a ha.out _).mono ?_
  rintro e w1 ⟨rfl, hb1⟩
  have d0 := heapk hb1 c0
  have d1 := heapk hb1 c1
  have d2 := heapk hb1 c2
  have hB1 := bkeep hb1 hB
  clear c0 c1 c2 hB hb1
  have f0 : w1.cell? ⟨w.heap.size, 0, none⟩ = some (.int .i64 M) := cell_of d0 0
  have f1 : w1.cell? ⟨w.heap.size, 1, none⟩ = some (.int .i64 X) := cell_of d0 1
  have hz : w.heap.size + 2 < w1.heap.size := (Array.getElem?_eq_some_iff.1 d2).1
  have fq : ∀ (o : Obj) (i : Nat), (w1.alloc o).cell? ⟨w.heap.size, i, none⟩ = w1.cell? ⟨w.heap.size, i, none⟩ := fun o i => calloc (by omega) o i
  go_wp2_with fail
  obtain ⟨W2, hW2⟩ : ∃ W2, w1.alloc (Obj.cells #[Value.int IntKind.i64 (kd M X a : Nat), Value.bool (ng M X a), Value.int IntKind.i64 (ex M X a), Value.int IntKind.u64 (mn M X a : Nat)] 41) = W2 := ⟨_, rfl⟩
  have c1 : W2.heap[w.heap.size+1]? = some (Obj.cells #[Value.int IntKind.i64 0, Value.bool false, Value.int IntKind.i64 0, Value.int IntKind.u64 0] 41) := by subst hW2; exact hold d1 _
  have c2 : W2.heap[w.heap.size+1+1]? = some (Obj.cells #[Value.int IntKind.i64 0, Value.bool false, Value.int IntKind.i64 0, Value.int IntKind.u64 0] 41) := by subst hW2; exact hold d2 _
  have hB : Below w.heap.size w W2 := by subst hW2; exact hB1.alloc (by omega) _
  rw [hW2]
  clear d0 d1 d2 hB1 f0 f1 hz fq hW2
  refine (open_badp hf b h64.out hb.out _).mono ?_
  rintro e w2 ⟨rfl, hb1⟩
  have d1 := heapk hb1 c1
  have d2 := heapk hb1 c2
  have hB2 := bkeep hb1 hB
  have hz : w.heap.size + 1 + 1 < w2.heap.size := (Array.getElem?_eq_some_iff.1 d2).1
  clear c1 c2 hB hb1
  have r10 : w2.cell? ⟨w.heap.size + 1, 0, none⟩ = some (.int .i64 0) := cell_of d1 0
  have q10 := froz_of d1 0
  have r11 : w2.cell? ⟨w.heap.size + 1, 1, none⟩ = some (.bool false) := cell_of d1 1
  have q11 := froz_of d1 1
  have r12 : w2.cell? ⟨w.heap.size + 1, 2, none⟩ = some (.int .i64 0) := cell_of d1 2
  have q12 := froz_of d1 2
  have r13 : w2.cell? ⟨w.heap.size + 1, 3, none⟩ = some (.int .u64 0) := cell_of d1 3
  have q13 := froz_of d1 3
  have r20 : w2.cell? ⟨w.heap.size + 1 + 1, 0, none⟩ = some (.int .i64 0) := cell_of d2 0
  have q20 := froz_of d2 0
  have r21 : w2.cell? ⟨w.heap.size + 1 + 1, 1, none⟩ = some (.bool false) := cell_of d2 1
  have q21 := froz_of d2 1
  have r22 : w2.cell? ⟨w.heap.size + 1 + 1, 2, none⟩ = some (.int .i64 0) := cell_of d2 2
  have q22 := froz_of d2 2
  have r23 : w2.cell? ⟨w.heap.size + 1 + 1, 3, none⟩ = some (.int .u64 0) := cell_of d2 3
  have q23 := froz_of d2 3
  clear d1 d2
  have k1 : ∀ (o : Obj) (i : Nat), (w2.alloc o).cell? ⟨w.heap.size + 1, i, none⟩ = w2.cell? ⟨w.heap.size + 1, i, none⟩ := fun o i => calloc (by omega) o i
  have k2 : ∀ (o : Obj) (i : Nat), (w2.alloc o).cell? ⟨w.heap.size + 1 + 1, i, none⟩ = w2.cell? ⟨w.heap.size + 1 + 1, i, none⟩ := fun o i => calloc (by omega) o i
  have k3 : ∀ (o : Obj) (i : Nat), (w2.alloc o).frozen? ⟨w.heap.size + 1, i, none⟩ = w2.frozen? ⟨w.heap.size + 1, i, none⟩ := fun o i => falloc (by omega) o i
  have k4 : ∀ (o : Obj) (i : Nat), (w2.alloc o).frozen? ⟨w.heap.size + 1 + 1, i, none⟩ = w2.frozen? ⟨w.heap.size + 1 + 1, i, none⟩ := fun o i => falloc (by omega) o i
  go_wp2
  refine bodyPost_ret (v := .tuple #[.agg #[.int .i64 0, .bool false, .int .i64 0, .int .u64 0], .agg #[.int .i64 0, .bool false, .int .i64 0, .int .u64 0], .int .i64 1]) (by simp [results, Try.results63, go_sem, r10, r11, r12, r13, r20, r21, r22, r23, k1, k2]) rfl ?_
  exact ret_close rfl (by repeat (first | (with_reducible exact hB2) | refine Below.setCell ?_ (by simp <;> omega) _ | refine Below.alloc ?_ (by omega) _))
theorem two_bad (m x : Int) (a b : Nat) (ha : a < 2^64) (hb : b < 2^64) (h : ∀ M X : Nat, m = M → x = X → Okf M X → ¬ (a < 2^(1+X+M) ∧ b < 2^(1+X+M))) (w : World) :
    Calls Try.prog 63 #[.agg #[.int .i64 m, .int .i64 x], .int .u64 a, .int .u64 b] w (Ret (.tuple #[.agg #[.int .i64 0, .bool false, .int .i64 0, .int .u64 0], .agg #[.int .i64 0, .bool false, .int .i64 0, .int .u64 0], .int .i64 1]) w) := by
  by_cases c : ∀ M X : Nat, m = M → x = X → Okf M X → 2^(1+X+M) ≤ a
  · exact two_bad1 m x a b ha c w
  · obtain ⟨M, X, rfl, rfl, hf, hl⟩ : ∃ M X : Nat, m = M ∧ x = X ∧ Okf M X ∧ a < 2^(1+X+M) := by
      refine Classical.byContradiction fun hc => c fun M X h1 h2 h3 => ?_
      rcases Nat.lt_or_ge a (2^(1+X+M)) with h4 | h4
      · exact absurd ⟨M, X, h1, h2, h3, h4⟩ hc
      · exact h4
    have hge : 2^(1+X+M) ≤ b := by
      rcases Nat.lt_or_ge b (2^(1+X+M)) with h4 | h4
      · exact absurd ⟨hl, h4⟩ (h M X rfl rfl hf)
      · exact h4
    exact two_bad2 hf a b hl hb hge w
end Go.Proofs.Ytpliondhiahhnaa.K
