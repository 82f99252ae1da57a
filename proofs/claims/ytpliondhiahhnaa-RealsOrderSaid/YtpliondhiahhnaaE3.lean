/- grottoref03: whole, Ceil, Floor, Whole, Add, Sub, Convert: contracts. -/
import Derived.Test.YtpliondhiahhnaaE2
set_option linter.unusedVariables false
namespace Go.Proofs.Ytpliondhiahhnaa.K
open Sx Fl Go Go.RowKit
set_option maxRecDepth 100000
variable {M X a b : Nat}
theorem oneD_cn : Cp 75 [] (.n (dig 1)) := by rw [dig_one]; exact one_cn
theorem bl1 : bl 1 = 1 := by decide
/-! ### whole -/
def wq (y : Nat) (e : Int) (near : Bool) : Nat := if 0 ≤ e then y * 2^e.toNat else y / 2^(-e).toNat + if near = true ∧ 2^(-e).toNat ≤ 2 * (y % 2^(-e).toNat) then 1 else 0
def wm (y : Nat) (e : Int) : Bool := if 0 ≤ e then false else decide (y % 2^(-e).toNat ≠ 0)
theorem bl_gt0 (n : Nat) : decide (((bl n : Nat) : Int) > 0) = decide (n ≠ 0) := by
  rw [Bool.eq_iff_iff]
  simp only [decide_eq_true_eq]
  constructor
  · intro h e; subst e; exact absurd h (by decide)
  · intro h; have := bl_pos h; omega
theorem wholeRF_cn (k : Int) (n near : Bool) {e : Int} {y : Nat} (hy : y < 2^64) (h1 : -2000 ≤ e) (h2 : e ≤ 2000) : Cp 96 [PL k n e y, LB near] (.tup [.s (.n (dig (wq y e near))), ab (wm y e)]) := by
  obtain ⟨N, hN⟩ := nf_ex
  have hb := bl_up hy
  refine cp_of (t96 N k e y n near) ?_
  unfold wq wm
  refine brD (fun h => ?_) (fun h => ?_)
  · obtain ⟨u, rfl⟩ : ∃ u : Nat, e = u := ⟨e.toNat, by omega⟩
    rw [if_pos (by omega), if_pos (by omega), hN.n, hN.U]
    exact ⟨natof_cn hy, up_cn (by omega), rfl⟩
  · obtain ⟨u, rfl⟩ : ∃ u : Nat, e = -(u : Int) := ⟨(-e).toNat, by omega⟩
    rw [if_neg (show ¬ 0 ≤ -(u : Int) by omega), if_neg (show ¬ 0 ≤ -(u : Int) by omega), i64_in (n := 0 - -(u : Int)) (by omega) (by omega), show (0 : Int) - -(u : Int) = u by omega, show (- -(u : Int)).toNat = u by omega, ← dig_one, hN.U, Nat.one_mul, hN.n, hN.Q, hN.R]
    have hp := two_pow_pos u
    have hm := Nat.mod_lt y hp
    have b1 : bl (y / 2^u) ≤ 64 := Nat.le_trans (bl_mono (Nat.div_le_self _ _)) hb
    have b2 : bl (y % 2^u) ≤ 64 := Nat.le_trans (bl_mono (Nat.mod_le _ _)) hb
    have b3 := bl_two u
    have q := quo_cn (n := y) (m := 2^u) (by omega) (by omega) hp
    have hup : Cp 91 [.n (dig 1), LI u] (.n (dig (2^u))) := by rw [dig_one]; exact up1_cn (by omega)
    have hU1 : N.U (dig (y % 2^u)) 1 = dig (y % 2^u * 2^1) := hN.U _ 1
    rw [hU1, hN.C, hN.P, hN.B, bl_gt0]
    have b4 := bl_mul2 (y % 2^u) 1
    have b5 := bl_add (y / 2^u) 1 64 b1 (by rw [bl1]; decide)
    have cm : Cp 97 [.n (dig (y % 2^u * 2^1)), .n (dig (2^u))] (LI (cmpZ (y % 2^u * 2^1) (2^u))) := cmp_nat (by omega) (by omega)
    refine ⟨oneD_cn, hup, natof_cn hy, q, WT.br (fun h => ⟨up_cn (n := y % 2^u) (K := 1) (by omega), cm, brD (fun h3 => ?_) (fun h3 => ?_)⟩) (fun h => ?_)⟩
    · have h3 := (cmpZ_ge _ _).1 h3
      rw [if_pos ⟨h, by omega⟩]
      exact ⟨oneD_cn, plus_cn (by omega) (by rw [bl1]; decide), bits_cn (by omega), rfl⟩
    · have h3 : ¬ 2^u ≤ y % 2^u * 2^1 := fun c => h3 ((cmpZ_ge _ _).2 c)
      rw [if_neg (fun c => h3 (by omega)), Nat.add_zero]
      exact ⟨bits_cn (by omega), rfl⟩
    · rw [if_neg (fun c => by rw [h] at c; exact absurd c.1 (by decide)), Nat.add_zero]
      exact ⟨bits_cn (by omega), rfl⟩
/-! ### step, Ceil, Floor -/
theorem near_up0 {m : Nat} {u : Nat} (hM : 0 < M) : near M X (m * 2^u) 1 0 = near M X m 1 u := by
  have := near_scale (M := M) (X := X) (N := m) (D := 1) (e := (u : Int)) hM (by decide) u
  rw [show (u : Int) - u = 0 by omega] at this; exact this
theorem mn0 (h : kd M X a = 1) : mn M X a = 0 := mn_zero (by omega)
theorem stepR_cn (hf : Okf M X) (ha : a < 2^(1+X+M)) (up : Bool) : Cp 92 [FM M X, LU a, LB up] (.tup [au (stepN M X a up : Nat), ai 0]) := by
  obtain ⟨N, hN⟩ := nf_ex
  have hm1 := hf.m1
  obtain ⟨b1, b2⟩ := ex_bounds hf.ok a
  have hma := mn_lt53 (a := a) hf.ok
  have hself : kd M X a = 2 → sgn M X (ng M X a) + near M X (mn M X a) 1 (ex M X a) = a := fun h => self_fin hf.ok ha h
  have hw := wholeRF_cn (kd M X a : Nat) (ng M X a) false (e := ex M X a) (y := mn M X a) (by omega) (by omega) (by omega)
  have ht := t92 N (fun z => (kd M X z.toNat : Nat)) (fun z => ex M X z.toNat) (fun z => (mn M X z.toNat : Nat)) (fun _ => 0) (fun z => ng M X z.toNat) M X a up (dig (wq (mn M X a) (ex M X a) false)) (wm (mn M X a) (ex M X a))
  refine cp_of ht ⟨openR_cn hf ha, WT.br (fun h => absurd h (by decide)) (fun _ => ?_)⟩
  unfold stepN
  rw [show ((a : Int)).toNat = a from rfl]
  have bw : bl (wq (mn M X a) (ex M X a) false) ≤ 5000 := by
    unfold wq
    have := bl_mul2 (mn M X a) (ex M X a).toNat
    have h53 : bl (mn M X a) ≤ 64 := bl_up (by omega)
    split
    · omega
    · rw [if_neg (by simp), Nat.add_zero]
      exact Nat.le_trans (bl_mono (Nat.div_le_self _ _)) (by omega)
  have bw1 := bl_add (wq (mn M X a) (ex M X a) false) 1 5000 bw (by rw [bl1]; decide)
  rw [hN.na, ← dig_one, hN.P, hN.nr, hN.nr]
  refine WT.br (fun h => ?_) (fun h4 => WT.br (fun h => ?_) (fun h2 => ?_))
  · rw [if_pos (by have : (kd M X a : Int) = 4 := by simpa using h
                   omega)]
    exact ⟨nanR_cn hf, rfl⟩
  · have h : kd M X a ≠ 2 := by intro e; rw [e] at h; exact absurd h (by decide)
    have h4 : kd M X a ≠ 4 := by intro e; rw [e] at h4; exact absurd h4 (by decide)
    rw [if_neg h4, if_pos (.inl h)]; rfl
  have h2 : kd M X a = 2 := by have : (kd M X a : Int) = 2 := by simpa using h2
                               omega
  rw [if_neg (show ¬ kd M X a = 4 by omega)]
  have hself := hself h2
  refine ⟨hw, ?_⟩
  have fin : ∀ {n : Nat} {R : Nat}, bl n ≤ 6000 → R = sgn M X (ng M X a) + near M X n 1 0 → Wt (.tup [au R, ai 0]) (.call 75 [] (.n (dig 1)) (.call 72 [FM M X, LB (ng M X a), .n (dig n), .n (dig 1), LI 0] (LU (sgn M X (ng M X a) + near M X n 1 0 : Nat)) (.ret (.tup [au (sgn M X (ng M X a) + near M X n 1 0 : Nat), ai 0])))) := by
    rintro n R h rfl
    exact ⟨oneD_cn, nearR_cn hf _ (by omega) (by rw [bl1]; decide) (by decide) (by omega) (by omega), rfl⟩
  by_cases he : 0 ≤ ex M X a
  · rw [if_pos (.inr he)]
    have hwm : wm (mn M X a) (ex M X a) = false := by unfold wm; rw [if_pos he]
    have hwq : sgn M X (ng M X a) + near M X (wq (mn M X a) (ex M X a) false) 1 0 = a := by
      unfold wq
      rw [if_pos he, near_up0 (by omega), show ((ex M X a).toNat : Int) = ex M X a by omega, hself]
    rw [hwm]
    exact WT.br (fun h => absurd h (by decide)) (fun _ => fin (by omega) hwq.symm)
  · have hwm : wm (mn M X a) (ex M X a) = decide (mn M X a % 2^(-ex M X a).toNat ≠ 0) := by unfold wm; rw [if_neg he]
    have hwq : wq (mn M X a) (ex M X a) false = mn M X a / 2^(-ex M X a).toNat := by
      unfold wq
      rw [if_neg he, if_neg (by simp), Nat.add_zero]
    rw [if_neg (by omega), hwm]
    rw [hwq] at bw bw1 ⊢
    refine brD (fun h => WT.br (fun h3 => ?_) (fun h3 => ?_)) (fun h => ?_)
    · have h3 : ng M X a ≠ up := by intro e; subst e; cases ng M X a <;> simp at h3
      rw [if_pos ⟨h, h3⟩]
      exact ⟨oneD_cn, plus_cn (by omega) (by rw [bl1]; decide), fin (by omega) rfl⟩
    · have h3 : ng M X a = up := by cases hn : ng M X a <;> cases up <;> simp_all
      rw [if_neg (fun c => c.2 h3), Nat.add_zero]
      exact fin (by omega) rfl
    · rw [if_neg (fun c => h c.1), Nat.add_zero]
      exact fin (by omega) rfl
theorem t92b (m x a : Int) (up : Bool) : tree Try.prog 3 [(31, fun _ => some (.tup [PA 0 false 0 0, ai 1]))] 92 [FM m x, LU a, LB up] =
    .call 31 [FM m x, LU a] (.tup [PA 0 false 0 0, ai 1]) (.ret (.tup [au 0, ai 1])) := by kernel_rfl
theorem stepR_bad {m x : Int} (ha : a < 2^64) (h : Bad m x a) (up : Bool) : Cp 92 [FM m x, LU a, LB up] (.tup [au 0, ai 1]) := cp_of (t92b m x a up) ⟨openRbad_cn ha h, rfl⟩
theorem ceilR_cn (hf : Okf M X) (ha : a < 2^(1+X+M)) : Cp 35 [FM M X, LU a] (.tup [au (stepN M X a true : Nat), ai 0]) := cp_of (t35 M X a _ 0) ⟨stepR_cn hf ha true, rfl⟩
theorem floorR_cn (hf : Okf M X) (ha : a < 2^(1+X+M)) : Cp 36 [FM M X, LU a] (.tup [au (stepN M X a false : Nat), ai 0]) := cp_of (t36 M X a _ 0) ⟨stepR_cn hf ha false, rfl⟩
theorem ceilR_bad {m x : Int} (ha : a < 2^64) (h : Bad m x a) : Cp 35 [FM m x, LU a] (.tup [au 0, ai 1]) := cp_of (t35 m x a _ 1) ⟨stepR_bad ha h true, rfl⟩
theorem floorR_bad {m x : Int} (ha : a < 2^64) (h : Bad m x a) : Cp 36 [FM m x, LU a] (.tup [au 0, ai 1]) := cp_of (t36 m x a _ 1) ⟨stepR_bad ha h false, rfl⟩
/-! ### Whole -/
theorem cmpZ_gt (n m : Nat) : cmpZ n m > 0 ↔ m < n := by
  unfold cmpZ; split
  · constructor
    · intro h; exact absurd h (by decide)
    · intro h; omega
  · split
    · constructor
      · intro; omega
      · intro; decide
    · constructor
      · intro h; exact absurd h (by decide)
      · intro; omega
theorem whole_spec (near : Bool) (h : fin12 M X a) : wholeN M X a near = min (wq (mn M X a) (ex M X a) near) mx40 := by
  unfold wholeN wq
  rcases h with h | h
  · have e0 : ex M X a = 0 := by unfold ex; rw [if_neg (by omega)]
    rw [if_pos h, e0, if_pos (by omega), mn0 h, Nat.zero_mul]; rfl
  · rw [if_neg (by omega)]
    by_cases c : 40 < ex M X a
    · rw [if_pos (.inr c), if_pos (by omega)]
      have h1 := mn_pos h
      have h2 : 2^40 ≤ 2^(ex M X a).toNat := pow_le (by omega)
      have h3 : 1 * 2^(ex M X a).toNat ≤ mn M X a * 2^(ex M X a).toNat := Nat.mul_le_mul_right _ h1
      unfold mx40
      have : (2:Nat)^40 = 1099511627776 := rfl
      omega
    · rw [if_neg (by omega)]
      split <;> rfl
theorem WholeR_cn (hf : Okf M X) (ha : a < 2^(1+X+M)) (near : Bool) : Cp 38 [FM M X, LU a, LB near] (.tup [au (wholeN M X a near : Nat), ab (ng M X a), ai 0]) := by
  obtain ⟨N, hN⟩ := nf_ex
  obtain ⟨b1, b2⟩ := ex_bounds hf.ok a
  have hma := mn_lt53 (a := a) hf.ok
  have hw := wholeRF_cn (kd M X a : Nat) (ng M X a) near (e := ex M X a) (y := mn M X a) (by omega) (by omega) (by omega)
  have ht := t38 N (fun z => (kd M X z.toNat : Nat)) (fun z => ex M X z.toNat) (fun z => (mn M X z.toNat : Nat)) (fun _ => 0) (fun z => ng M X z.toNat) M X a near (dig (wq (mn M X a) (ex M X a) near)) (wm (mn M X a) (ex M X a))
  refine cp_of ht ⟨openR_cn hf ha, WT.br (fun h => absurd h (by decide)) (fun _ => ?_)⟩
  rw [show ((a : Int)).toNat = a from rfl]
  have hU : N.U (dig 1) 40 = dig (1 * 2^40) := hN.U 1 40
  rw [← dig_one, hU, Nat.one_mul, hN.S, hN.C, hN.S]
  have hup : Cp 91 [.n (dig 1), LI 40] (.n (dig (2^40))) := by rw [dig_one]; exact up1_cn (K := 40) (by decide)
  have hsm : Cp 95 [.n (dig (2^40))] (LU (2^40 : Nat)) := small_cn (by decide)
  have ck := kd_cases M X a
  have top : kd M X a ≠ 1 → kd M X a ≠ 2 → wholeN M X a near = 2^40 := fun h1 h2 => by unfold wholeN; rw [if_neg h1, if_pos (.inl h2)]; rfl
  refine ⟨oneD_cn, hup, WT.br (fun h => ?_) (fun h4 => WT.br (fun h => ?_) (fun h3 => ?_))⟩
  · have h : kd M X a = 4 := by have : (kd M X a : Int) = 4 := by simpa using h
                                omega
    rw [top (by omega) (by omega)]
    exact ⟨hsm, rfl⟩
  · have h : kd M X a = 3 := by have : (kd M X a : Int) = 3 := by simpa using h
                                omega
    rw [top (by omega) (by omega)]
    exact ⟨hsm, rfl⟩
  · have h4 : kd M X a ≠ 4 := by intro e; rw [e] at h4; exact absurd h4 (by decide)
    have h3 : kd M X a ≠ 3 := by intro e; rw [e] at h3; exact absurd h3 (by decide)
    rw [whole_spec near (by unfold fin12; omega)]
    have e40 : mx40 = 2^40 := rfl
    have b40 := bl_two 40
    have bw : bl (wq (mn M X a) (ex M X a) near) ≤ 5001 := by
      unfold wq
      have := bl_mul2 (mn M X a) (ex M X a).toNat
      have h53 : bl (mn M X a) ≤ 64 := bl_up (by omega)
      split
      · omega
      · refine bl_add _ _ 5000 (Nat.le_trans (bl_mono (Nat.div_le_self _ _)) (by omega)) ?_
        split
        · rw [bl1]; decide
        · decide
    refine ⟨hw, cmp_nat (by omega) (by omega), brD (fun h => ?_) (fun h => ?_)⟩
    · have h := (cmpZ_gt _ _).1 h
      rw [Nat.min_eq_right (by omega)]
      exact ⟨hsm, rfl⟩
    · have h : ¬ 2^40 < wq (mn M X a) (ex M X a) near := fun c => h ((cmpZ_gt _ _).2 c)
      rw [Nat.min_eq_left (by omega)]
      exact ⟨small_cn (by omega), rfl⟩
theorem t38b (m x a : Int) (near : Bool) : tree Try.prog 3 [(31, fun _ => some (.tup [PA 0 false 0 0, ai 1]))] 38 [FM m x, LU a, LB near] =
    .call 31 [FM m x, LU a] (.tup [PA 0 false 0 0, ai 1]) (.ret (.tup [au 0, ab false, ai 1])) := by kernel_rfl
theorem WholeR_bad {m x : Int} (ha : a < 2^64) (h : Bad m x a) (near : Bool) : Cp 38 [FM m x, LU a, LB near] (.tup [au 0, ab false, ai 1]) := cp_of (t38b m x a near) ⟨openRbad_cn ha h, rfl⟩
/-! ### Convert -/
theorem convR_cn {M2 X2 : Nat} (hf : Okf M X) (hg : Okf M2 X2) (ha : a < 2^(1+X+M)) : Cp 117 [FM M X, FM M2 X2, LU a] (.tup [au (convN M X M2 X2 a : Nat), ai 0]) := by
  obtain ⟨N, hN⟩ := nf_ex
  obtain ⟨b1, b2⟩ := ex_bounds hf.ok a
  have hma := mn_lt53 (a := a) hf.ok
  have ht := t117 N (fun z => (kd M X z.toNat : Nat)) (fun z => ex M X z.toNat) (fun z => (mn M X z.toNat : Nat)) (fun _ => 0) (fun z => ng M X z.toNat) M X M2 X2 a 0
  refine cp_of ht ⟨openR_cn hf ha, WT.br (fun h => absurd h (by decide)) (fun _ => ⟨checkR_cn hg, WT.br (fun h => absurd h (by decide)) (fun _ => ?_)⟩)⟩
  rw [show ((a : Int)).toNat = a from rfl]
  unfold convN
  rw [hN.na, hN.inf, hN.n, ← dig_one, hN.nr]
  refine WT.br (fun h => ?_) (fun h4 => WT.br (fun h => ?_) (fun h3 => ?_))
  · rw [if_pos (by have : (kd M X a : Int) = 4 := by simpa using h
                   omega)]
    exact ⟨nanR_cn hg, rfl⟩
  · have h4 : kd M X a ≠ 4 := by intro e; rw [e] at h4; exact absurd h4 (by decide)
    rw [if_neg h4, if_pos (by have : (kd M X a : Int) = 3 := by simpa using h
                              omega)]
    exact ⟨infR_cn hg _, rfl⟩
  · have h4 : kd M X a ≠ 4 := by intro e; rw [e] at h4; exact absurd h4 (by decide)
    have h3 : kd M X a ≠ 3 := by intro e; rw [e] at h3; exact absurd h3 (by decide)
    rw [if_neg h4, if_neg h3]
    have : bl (mn M X a) ≤ 64 := bl_up (by omega)
    exact ⟨natof_cn (by omega), oneD_cn, nearR_cn hg _ (by omega) (by rw [bl1]; decide) (by decide) (by omega) (by omega), rfl⟩
/-! ### Add, Sub -/
theorem sum_pl (na nb : Bool) (e : Int) {A B : Nat} (h : A + B ≠ 0) : (if plA (sI na) (sI nb) A B = 0 then sgn M X false else sgn M X (decide (plS (sI na) (sI nb) A B < 0)) + near M X (plA (sI na) (sI nb) A B) 1 e) = sumR M X na nb e A B := by
  unfold sumR plA plS sI
  rcases Nat.lt_trichotomy A B with h1 | h1 | h1
  · have c1 : ¬ B ≤ A := by omega
    have c2 : ¬ B < A := by omega
    have c3 : B - A ≠ 0 := by omega
    have c4 : ¬ A = B := by omega
    cases na <;> cases nb <;> simp only [cond_true, cond_false, if_true, if_false, c1, c2, c3, c4, h, reduceCtorEq] <;> rfl
  · subst h1
    cases na <;> cases nb <;> simp only [cond_true, cond_false, if_true, if_false, h, reduceCtorEq, Nat.le_refl, Nat.sub_self, ite_self] <;> rfl
  · have c1 : B ≤ A := by omega
    have c3 : A - B ≠ 0 := by omega
    have c4 : ¬ A = B := by omega
    cases na <;> cases nb <;> simp only [cond_true, cond_false, if_true, if_false, c1, c3, c4, h1, h, reduceCtorEq] <;> rfl
theorem sum_left (na nb : Bool) (e : Int) {B : Nat} (h : B ≠ 0) : sumR M X na nb e 0 B = sgn M X nb + near M X B 1 e := by
  unfold sumR
  by_cases c : na = nb
  · subst c; rw [if_pos rfl, Nat.zero_add]
  · rw [if_neg c, if_neg (by omega), if_neg (by omega), Nat.sub_zero]
theorem upA_near {m : Nat} {e e2 : Int} (hM : 0 < M) : near M X (upA m e e2) 1 (min e e2) = near M X m 1 e := by
  unfold upA
  have := near_scale (M := M) (X := X) (N := m) (D := 1) (e := e) hM (by decide) (e - min e e2).toNat
  rw [show e - ((e - min e e2).toNat : Int) = min e e2 by omega] at this
  exact this
theorem upA_zero (e1 e2 : Int) : upA 0 e1 e2 = 0 := by unfold upA; rw [Nat.zero_mul]
theorem upA_pos {m : Nat} (h : 0 < m) (e1 e2 : Int) : upA m e1 e2 ≠ 0 := by
  unfold upA; have := Nat.mul_pos h (two_pow_pos (e1 - min e1 e2).toNat); omega
theorem addR_cn (hf : Okf M X) (ha : a < 2^(1+X+M)) (hb : b < 2^(1+X+M)) : Cp 103 [FM M X, LU a, LU b] (.tup [au (addN M X a b : Nat), ai 0]) := by
  obtain ⟨N, hN⟩ := nf_ex
  have hm1 := hf.m1
  obtain ⟨a1, a2⟩ := ex_bounds hf.ok a
  obtain ⟨b1, b2⟩ := ex_bounds hf.ok b
  have hma := mn_lt53 (a := a) hf.ok
  have hmb := mn_lt53 (a := b) hf.ok
  have ub := bl_add (upA (mn M X a) (ex M X a) (ex M X b)) (upA (mn M X b) (ex M X b) (ex M X a)) 5000 (upA_bl (by omega) (by omega) (by omega) (by omega) (by omega)) (upA_bl (by omega) (by omega) (by omega) (by omega) (by omega))
  have hplus := plusR_cn (sI (ng M X a)) (sI (ng M X b)) (e1 := ex M X a) (e2 := ex M X b) (a := mn M X a) (b := mn M X b) (by omega) (by omega) (by omega) (by omega) (by omega) (by omega)
  have x1 := exact_cn (kd M X a : Nat) (ex M X a) (ng M X a) (y := mn M X a) (by omega)
  have x2 := exact_cn (kd M X b : Nat) (ex M X b) (ng M X b) (y := mn M X b) (by omega)
  have iA : kd M X a = 3 → a = infc M X + sgn M X (ng M X a) := fun h => self_inf ha h
  have iB : kd M X b = 3 → b = infc M X + sgn M X (ng M X b) := fun h => self_inf hb h
  have pA : kd M X a = 2 → 0 < mn M X a := fun h => mn_pos h
  have pB : kd M X b = 2 → 0 < mn M X b := fun h => mn_pos h
  have zA : kd M X a = 1 → mn M X a = 0 := fun h => mn0 h
  have zB : kd M X b = 1 → mn M X b = 0 := fun h => mn0 h
  have fA : kd M X a = 2 → sgn M X (ng M X a) + near M X (mn M X a) 1 (ex M X a) = a := fun h => self_fin hf.ok ha h
  have fB : kd M X b = 2 → sgn M X (ng M X b) + near M X (mn M X b) 1 (ex M X b) = b := fun h => self_fin hf.ok hb h
  have htwo := twoR_cn hf ha hb
  have ht := t103 N M X a b (kd M X a : Nat) (kd M X b : Nat) (ex M X a) (ex M X b) (mn M X a) (mn M X b) (ng M X a) (ng M X b) 0 (plS (sI (ng M X a)) (sI (ng M X b)) (upA (mn M X a) (ex M X a) (ex M X b)) (upA (mn M X b) (ex M X b) (ex M X a))) (min (ex M X a) (ex M X b)) (dig (plA (sI (ng M X a)) (sI (ng M X b)) (upA (mn M X a) (ex M X a) (ex M X b)) (upA (mn M X b) (ex M X b) (ex M X a))))
  refine cp_of ht ⟨htwo, WT.br (fun h => absurd h (by decide)) (fun _ => ?_)⟩
  clear ht htwo
  rw [hN.n, hN.n, hN.B, hN.na, hN.inf, hN.inf, hN.inf, hN.ze, hN.ze, ← dig_one, hN.nr, bl_eq0]
  -- the sum of two that are not both zero
  have sum : (kd M X a = 1 ∨ kd M X a = 2) → (kd M X b = 1 ∨ kd M X b = 2) → ¬ (kd M X a = 1 ∧ kd M X b = 1) → addN M X a b = sumR M X (ng M X a) (ng M X b) (min (ex M X a) (ex M X b)) (upA (mn M X a) (ex M X a) (ex M X b)) (upA (mn M X b) (ex M X b) (ex M X a)) := by
    intro h1 h2 h3
    unfold addN addS
    rcases h1 with h1 | h1 <;> rcases h2 with h2 | h2 <;> simp only [h1, h2]
    · exact absurd ⟨h1, h2⟩ h3
    · rw [if_neg (by omega), if_neg (by omega), if_pos (by omega), zA h1, upA_zero, sum_left _ _ _ (upA_pos (pB h2) _ _), Int.min_comm, upA_near (by omega), fB h2]
    · rw [if_neg (by omega), if_pos (by omega), zB h2, upA_zero, sumR_comm, sum_left _ _ _ (upA_pos (pA h1) _ _), upA_near (by omega), fA h1]
    · rw [if_neg (by omega), if_neg (by omega), if_neg (by omega), if_neg (by omega)]
      unfold sumP upA
      rw [show min (ex M X b) (ex M X a) = min (ex M X a) (ex M X b) by omega]
  have ne : (kd M X a = 1 ∨ kd M X a = 2) → (kd M X b = 1 ∨ kd M X b = 2) → ¬ (kd M X a = 1 ∧ kd M X b = 1) → upA (mn M X a) (ex M X a) (ex M X b) + upA (mn M X b) (ex M X b) (ex M X a) ≠ 0 := by
    intro h1 h2 h3
    rcases h1 with h1 | h1
    · rcases h2 with h2 | h2
      · exact absurd ⟨h1, h2⟩ h3
      · have := upA_pos (pB h2) (ex M X b) (ex M X a); omega
    · have := upA_pos (pA h1) (ex M X a) (ex M X b); omega
  have hpl : ∀ s t : Int, plA s t (upA (mn M X a) (ex M X a) (ex M X b)) (upA (mn M X b) (ex M X b) (ex M X a)) ≤ upA (mn M X a) (ex M X a) (ex M X b) + upA (mn M X b) (ex M X b) (ex M X a) := fun s t => by
    unfold plA; split
    · omega
    · split <;> omega
  have hbl := fun s t => Nat.le_trans (bl_mono (hpl s t)) ub
  have tail : (kd M X a = 1 ∨ kd M X a = 2) → (kd M X b = 1 ∨ kd M X b = 2) → ¬ (kd M X a = 1 ∧ kd M X b = 1) → ∀ {S : Int} {L : Nat} {E : Int}, S = plS (sI (ng M X a)) (sI (ng M X b)) (upA (mn M X a) (ex M X a) (ex M X b)) (upA (mn M X b) (ex M X b) (ex M X a)) → L = plA (sI (ng M X a)) (sI (ng M X b)) (upA (mn M X a) (ex M X a) (ex M X b)) (upA (mn M X b) (ex M X b) (ex M X a)) → E = min (ex M X a) (ex M X b) →
      Wt (.tup [au (addN M X a b : Nat), ai 0]) (.call 84 [.n (dig L)] (LI (bl L : Nat)) (br (decide (L = 0)) (.call 43 [FM M X, LB false] (LU (sgn M X false : Nat)) (.ret (.tup [au (sgn M X false : Nat), ai 0]))) (.call 75 [] (.n (dig 1)) (.call 72 [FM M X, LB (decide (S < 0)), .n (dig L), .n (dig 1), LI E] (LU (sgn M X (decide (S < 0)) + near M X L 1 E : Nat)) (.ret (.tup [au (sgn M X (decide (S < 0)) + near M X L 1 E : Nat), ai 0])))))) := by
    rintro h1 h2 h3 S L E rfl rfl rfl
    rw [sum h1 h2 h3, ← sum_pl _ _ _ (ne h1 h2 h3)]
    refine ⟨bits_cn (by have := hbl (sI (ng M X a)) (sI (ng M X b)); omega), brD (fun h => ?_) (fun h => ?_)⟩
    · rw [if_pos h]; exact ⟨zeroR_cn hf _, rfl⟩
    · rw [if_neg h]
      exact ⟨oneD_cn, nearR_cn hf _ (by have := hbl (sI (ng M X a)) (sI (ng M X b)); omega) (by rw [bl1]; decide) (by decide) (by omega) (by omega), rfl⟩
  have ca := kd_cases M X a
  have cb := kd_cases M X b
  clear sum ne hpl hbl fA fB pA pB zA zB ub a1 a2 b1 b2 hma hmb
  generalize plS (sI (ng M X a)) (sI (ng M X b)) (upA (mn M X a) (ex M X a) (ex M X b)) (upA (mn M X b) (ex M X b) (ex M X a)) = S at *
  generalize plA (sI (ng M X a)) (sI (ng M X b)) (upA (mn M X a) (ex M X a) (ex M X b)) (upA (mn M X b) (ex M X b) (ex M X a)) = L at *
  generalize min (ex M X a) (ex M X b) = E at *
  have spec : addN M X a b = addS M X a b (kd M X a : Nat) (ng M X a) (kd M X b : Nat) (ng M X b) (sumP M X (ng M X a) (ex M X a) (mn M X a) (ng M X b) (ex M X b) (mn M X b)) := rfl
  generalize addN M X a b = V at *
  generalize sumP M X (ng M X a) (ex M X a) (mn M X a) (ng M X b) (ex M X b) (mn M X b) = V2 at *
  generalize kd M X a = ka at *
  generalize kd M X b = kb at *
  generalize ng M X a = na at *
  generalize ng M X b = nb at *
  generalize mn M X a = ma at *
  generalize mn M X b = mb at *
  generalize ex M X a = ea at *
  generalize ex M X b = eb at *
  have nn : V = nanc M X → Wt (.tup [au V, ai 0]) (.call 28 [FM M X] (LU (nanc M X : Nat)) (.ret (.tup [au (nanc M X : Nat), ai 0]))) := by
    rintro rfl; exact ⟨nanR_cn hf, rfl⟩
  have ii : ∀ s : Bool, V = infc M X + sgn M X s → Wt (.tup [au V, ai 0]) (.call 71 [FM M X, LB s] (LU (infc M X + sgn M X s : Nat)) (.ret (.tup [au (infc M X + sgn M X s : Nat), ai 0]))) := by
    rintro s rfl; exact ⟨infR_cn hf s, rfl⟩
  have zz : ∀ s : Bool, V = sgn M X s → Wt (.tup [au V, ai 0]) (.call 43 [FM M X, LB s] (LU (sgn M X s : Nat)) (.ret (.tup [au (sgn M X s : Nat), ai 0]))) := by
    rintro s rfl; exact ⟨zeroR_cn hf s, rfl⟩
  rcases ca with rfl | rfl | rfl | rfl <;> rcases cb with rfl | rfl | rfl | rfl <;> cases na <;> cases nb
  all_goals (try have iA := iA rfl)
  all_goals (try have iB := iB rfl)
  all_goals (simp [addS] at spec)
  all_goals
    repeat' first
      | exact absurd h (by decide)
      | exact x1
      | exact x2
      | exact hplus
      | exact nn spec
      | exact ii _ (spec.trans iA)
      | exact ii _ (spec.trans iB)
      | exact zz _ spec
      | exact tail (by omega) (by omega) (by omega) rfl rfl rfl
      | (refine WT.br (fun h => ?_) (fun h => ?_))
      | (refine And.intro ?_ ?_)
theorem t103b (m x a b : Int) : tree Try.prog 3 [(70, fun _ => some (.tup [PA 0 false 0 0, PA 0 false 0 0, ai 1]))] 103 [FM m x, LU a, LU b] =
    .call 70 [FM m x, LU a, LU b] (.tup [PA 0 false 0 0, PA 0 false 0 0, ai 1]) (.ret (.tup [au 0, ai 1])) := by kernel_rfl
theorem addR_bad {m x : Int} (ha : a < 2^64) (hb : b < 2^64) (h : Bad m x a ∨ Bad m x b) : Cp 103 [FM m x, LU a, LU b] (.tup [au 0, ai 1]) :=
  cp_of (t103b m x a b) ⟨twoRbad_cn ha hb h, rfl⟩
theorem subR_cn (hf : Okf M X) (ha : a < 2^(1+X+M)) (hb : b < 2^(1+X+M)) : Cp 104 [FM M X, LU a, LU b] (.tup [au (subN M X a b : Nat), ai 0]) := by
  obtain ⟨N, hN⟩ := nf_ex
  have ht := t104 N (fun z => (kd M X z.toNat : Nat)) (fun z => ex M X z.toNat) (fun z => (mn M X z.toNat : Nat)) (fun _ => 0) (fun z => ng M X z.toNat) M X a b (turnN M X b : Nat) (subN M X a b : Nat)
  exact cp_of ht ⟨openR_cn hf hb, WT.br (fun h => absurd h (by decide)) (fun _ => ⟨turnR_cn hf hb, addR_cn hf ha (turn_lt hb), rfl⟩)⟩
theorem t104b (m x a b : Int) : tree Try.prog 3 [(31, fun _ => some (.tup [PA 0 false 0 0, ai 1]))] 104 [FM m x, LU a, LU b] =
    .call 31 [FM m x, LU b] (.tup [PA 0 false 0 0, ai 1]) (.ret (.tup [au 0, ai 1])) := by kernel_rfl
theorem t104c (m x a b k e y t : Int) (n : Bool) : tree Try.prog 3 [(31, fun _ => some (.tup [PA k n e y, ai 0])), (42, fun _ => some (LU t)), (103, fun _ => some (.tup [au 0, ai 1]))] 104 [FM m x, LU a, LU b] =
    .call 31 [FM m x, LU b] (.tup [PA k n e y, ai 0]) (.call 42 [FM m x, LU b] (LU t) (.call 103 [FM m x, LU a, LU t] (.tup [au 0, ai 1]) (.ret (.tup [au 0, ai 1])))) := by kernel_rfl
theorem subR_bad {m x : Int} (ha : a < 2^64) (hb : b < 2^64) (h : Bad m x a ∨ Bad m x b) : Cp 104 [FM m x, LU a, LU b] (.tup [au 0, ai 1]) := by
  by_cases hbad : Bad m x b
  · exact cp_of (t104b m x a b) ⟨openRbad_cn hb hbad, rfl⟩
  · obtain ⟨M, X, rfl, rfl, hf, hlt⟩ := (bad_or m x b).resolve_left hbad
    exact cp_of (t104c M X a b _ _ _ _ _) ⟨openR_cn hf hlt, turnR_cn hf hlt, addR_bad ha (Fl.a64 hf.ok (turn_lt hlt)) (.inl (h.resolve_right hbad)), rfl⟩
theorem t117b (m x m2 x2 a : Int) : tree Try.prog 3 [(31, fun _ => some (.tup [PA 0 false 0 0, ai 1]))] 117 [FM m x, FM m2 x2, LU a] =
    .call 31 [FM m x, LU a] (.tup [PA 0 false 0 0, ai 1]) (.ret (.tup [au 0, ai 1])) := by kernel_rfl
theorem convR_bad {m x m2 x2 : Int} (ha : a < 2^64) (h : Bad m x a) : Cp 117 [FM m x, FM m2 x2, LU a] (.tup [au 0, ai 1]) := cp_of (t117b m x m2 x2 a) ⟨openRbad_cn ha h, rfl⟩
end Go.Proofs.Ytpliondhiahhnaa.K
