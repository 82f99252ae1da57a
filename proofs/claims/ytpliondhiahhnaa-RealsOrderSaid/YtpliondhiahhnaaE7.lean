/- SoftBetween: the law as a contract. -/
import Derived.Test.YtpliondhiahhnaaE6
set_option linter.unusedVariables false
namespace Go.Proofs.Ytpliondhiahhnaa.K
open Sx Fl Go Go.RowKit
set_option maxRecDepth 100000
variable {M X : Nat} {m x : Int} {a b c : Nat}
theorem packOne_cn (hf : Okf M X) : Cp 34 [FM M X, LB false, LU 0, LU 1, LI 0, LB false] (.tup [au (near M X 1 1 0 : Nat), ai 0]) := by
  obtain ⟨N, hN⟩ := nf_ex
  have hm := hf.m1
  refine cp_of (t34 N M X 0 0 1 0 false false) ?_
  have n0 : N.N 0 = dig 0 := hN.n 0
  have n1 : N.N 1 = dig 1 := hN.n 1
  have u64 : N.U (dig 0) 64 = dig (0 * 2^64) := hN.U 0 64
  have u1 : N.U (dig (0 * 2^64 + 1)) 1 = dig ((0 * 2^64 + 1) * 2^1) := hN.U _ 1
  rw [n0, n1, u64, hN.P, u1, ← dig_one, show IntKind.i64.wrap (0 - 1) = -1 from rfl, hN.nr]
  have e : near M X ((0 * 2^64 + 1) * 2^1) 1 (-1) = near M X 1 1 0 := by
    have := near_scale (M := M) (X := X) (N := 1) (D := 1) (e := 0) (by omega) (by decide) 1
    exact this
  rw [e, show sgn M X false + near M X 1 1 0 = near M X 1 1 0 by rw [sgn_false, Nat.zero_add]]
  have hn := nearR_cn hf false (a := (0 * 2^64 + 1) * 2^1) (b := 1) (e := -1) (by decide) (by decide) (by decide) (by decide) (by decide)
  rw [e, show sgn M X false + near M X 1 1 0 = near M X 1 1 0 by rw [sgn_false, Nat.zero_add]] at hn
  exact ⟨checkR_cn hf, natof_cn (n := 0) (by decide), up_cn (n := 0) (K := 64) (by decide), natof_cn (n := 1) (by decide), plus_cn (n := 0 * 2^64) (m := 1) (by decide) (by decide), up_cn (n := 0 * 2^64 + 1) (K := 1) (by decide), hn, rfl⟩
/-- whole numbers below a power are values -/
theorem val_ex (m : Nat) : ∀ (s c : Nat), c < 2^(m+1) → ∃ p, val m p = 2 * c * 2^s
  | 0, c, h => ⟨0 * 2^m + c, val_code (Nat.le_of_lt h) (.inl rfl)⟩
  | s + 1, c, h => by
    by_cases hc : 2^m ≤ c
    · exact ⟨(s + 1) * 2^m + c, val_code (Nat.le_of_lt h) (.inr hc)⟩
    · obtain ⟨p, hp⟩ := val_ex m s (2 * c) (by rw [Nat.pow_succ]; omega)
      exact ⟨p, by rw [hp, Nat.pow_succ]; simp only [Nat.mul_assoc, Nat.mul_left_comm, Nat.mul_comm]⟩
theorem val_infc (hf : Okf M X) : val M (infc M X) = 2^(M + 1 + (2^X - 2)) := by
  have hx := hf.x1
  have h4 : 2^2 ≤ 2^X := pow_le hx
  have e : infc M X = (2^X - 2) * 2^M + 2^M := by
    rw [infc_eq, ← Nat.succ_mul]; congr 1; omega
  have := val_code (m := M) (s := 2^X - 2) (q := 2^M) (pow_le (by omega)) (.inr (Nat.le_refl _))
  rw [e, this, Nat.pow_add, Nat.pow_succ, Nat.mul_comm 2]
theorem int_rep (hf : Okf M X) (hb : M < bia X) {n : Nat} (hn : n ≤ 2^M) : ∃ p, p < infc M X ∧ near M X n 1 0 = p ∧ val M p = n * 2^(bs M X) := by
  have hm := hf.m1
  have hp2 : 2^M < 2^(M+1) := pow_lt (by omega)
  obtain ⟨t, ht⟩ : ∃ t, bs M X = t + 1 := ⟨bs M X - 1, by rw [bs_eq]; omega⟩
  obtain ⟨p, hp⟩ := val_ex M t n (by omega)
  have hv : val M p = n * 2^(bs M X) := by rw [hp, ht, Nat.pow_succ]; simp only [Nat.mul_assoc, Nat.mul_comm]
  have hlt : p < infc M X := by
    rw [← val_lt_iff (m := M), hv, val_infc hf]
    have hX := pow_X hf.ok
    have h1 : n * 2^(bs M X) ≤ 2^M * 2^(bs M X) := Nat.mul_le_mul_right _ hn
    rw [← Nat.pow_add] at h1
    have h2 : 2^(M + bs M X) < 2^(M + 1 + (2^X - 2)) := pow_lt (by rw [bs_eq]; omega)
    omega
  refine ⟨p, hlt, ?_, hv⟩
  rw [near_one (by omega), show ((0 : Int) + (bs M X : Int)).toNat = bs M X by omega, ← hv]
  have := rnd_val (m := M) (inf := infc M X) (D := 1) (p := p) (by omega) (by decide) (Nat.le_of_lt hlt)
  rwa [Nat.mul_one] at this
theorem fin12_lt (h : mg M X a < infc M X) : fin12 M X a := by
  have := kd_cases M X a
  rcases this with k | k | k | k
  · exact .inl k
  · exact .inr k
  · have := mg_inf k; omega
  · have := mg_nan k; omega
theorem mg_small (s : Bool) {p : Nat} (h : p < 2^(X+M)) : mg M X (sgn M X s + p) = p := by
  have h1 := mg_split (made_lt s h)
  rw [ng_made s h] at h1
  omega
/-- a whole number as a pattern -/
theorem int_sv (hf : Okf M X) (hb : M < bia X) (s : Bool) {n : Nat} (hn : n ≤ 2^M) : sgn M X s + near M X n 1 0 < 2^(1+X+M) ∧ fin12 M X (sgn M X s + near M X n 1 0) ∧ va M X (sgn M X s + near M X n 1 0) = n * 2^(bs M X) ∧ sv M X (sgn M X s + near M X n 1 0) = sg s (n * 2^(bs M X)) := by
  obtain ⟨p, h1, h2, h3⟩ := int_rep hf hb hn
  have hlt : p < 2^(X+M) := Nat.lt_trans h1 (infc_lt' M X)
  rw [h2]
  have hf12 : fin12 M X (sgn M X s + p) := fin12_lt (by rw [mg_small s hlt]; exact h1)
  have hva : va M X (sgn M X s + p) = n * 2^(bs M X) := by rw [va_mg hf12, mg_small s hlt, h3]
  refine ⟨made_lt s hlt, hf12, hva, ?_⟩
  unfold sv; rw [hva, ng_made s hlt]
theorem step_same (h : kd M X a ≠ 4) (k : kd M X a ≠ 2 ∨ 0 ≤ ex M X a) (u : Bool) : stepN M X a u = a := by
  unfold stepN; rw [if_neg h, if_pos k]
theorem step_whole (hf : Okf M X) (ha : a < 2^(1+X+M)) (h : fin12 M X a) {n : Nat} (hv : va M X a = n * 2^(bs M X)) (u : Bool) : stepN M X a u = a := by
  have hm := hf.m1
  rcases h with h | h
  · exact step_same (by omega) (.inl (by omega)) u
  · by_cases he : 0 ≤ ex M X a
    · exact step_same (by omega) (.inr he) u
    · have hbs := ex_bs (.inr h : fin12 M X a)
      obtain ⟨k, hk⟩ : ∃ k : Nat, ex M X a = -(k : Int) := ⟨(-ex M X a).toNat, by omega⟩
      have e1 : (ex M X a + (bs M X : Int)).toNat = bs M X - k := by omega
      have hmn : mn M X a = n * 2^k := by
        unfold va at hv
        rw [e1] at hv
        have : 2^(bs M X) = 2^k * 2^(bs M X - k) := by rw [← Nat.pow_add]; congr 1; omega
        rw [this, ← Nat.mul_assoc] at hv
        exact Nat.eq_of_mul_eq_mul_right (two_pow_pos _) hv
      unfold stepN
      rw [if_neg (by omega), if_neg (by omega), hk, show (- -(k : Int)).toNat = k by omega, hmn, Nat.mul_mod_left, Nat.mul_div_cancel _ (two_pow_pos k), if_neg (fun c => c.1 rfl), Nat.add_zero]
      have := self_fin hf.ok ha h
      rw [hmn, hk] at this
      have e2 := near_scale (M := M) (X := X) (N := n) (D := 1) (e := 0) (by omega) (by decide) k
      rw [show (0 : Int) - (k : Int) = -(k : Int) by omega] at e2
      rw [← e2]; exact this
theorem sg_le {s : Bool} {p q : Nat} : (s = false → p ≤ q) → (s = true → q ≤ p) → sg s p ≤ sg s q := by
  intro h1 h2
  unfold sg
  cases s
  · have := h1 rfl; rw [if_neg (by decide), if_neg (by decide)]; omega
  · have := h2 rfl; rw [if_pos rfl, if_pos rfl]; omega
/-- what SoftBetween says of a number -/
theorem between (hf : Okf M X) (hb : M < bia X) (ha : a < 2^(1+X+M)) (h4 : kd M X a ≠ 4) : stepN M X a false < 2^(1+X+M) ∧ stepN M X a true < 2^(1+X+M) ∧ stepN M X (stepN M X a false) false = stepN M X a false ∧ stepN M X (stepN M X a true) true = stepN M X a true ∧
    plc M X (stepN M X a false) ≤ plc M X a ∧ plc M X a ≤ plc M X (stepN M X a true) ∧
    ((stepN M X a false = a ∧ stepN M X a true = a) ∨ plc M X (addN M X (stepN M X a false) (near M X 1 1 0)) = plc M X (stepN M X a true)) := by
  have hm := hf.m1
  by_cases hs : kd M X a ≠ 2 ∨ 0 ≤ ex M X a
  · rw [step_same h4 hs, step_same h4 hs, step_same h4 hs, step_same h4 hs]
    exact ⟨ha, ha, rfl, rfl, Int.le_refl _, Int.le_refl _, .inl ⟨rfl, rfl⟩⟩
  · have h2 : kd M X a = 2 := by
      rcases Classical.em (kd M X a = 2) with h | h
      · exact h
      · exact absurd (.inl h) hs
    have he : ¬ 0 ≤ ex M X a := fun h => hs (.inr h)
    have f12 : fin12 M X a := .inr h2
    have hbs := ex_bs f12
    obtain ⟨k, hk⟩ : ∃ k : Nat, ex M X a = -(k : Int) := ⟨(-ex M X a).toNat, by omega⟩
    have hk1 : 1 ≤ k := by omega
    have e1 : (ex M X a + (bs M X : Int)).toNat = bs M X - k := by omega
    have hkb : k ≤ bs M X := by omega
    have hpk := two_pow_pos k
    have hdm := Nat.div_add_mod (mn M X a) (2^k)
    have hml := mn_lt M X a
    have hrk := Nat.mod_lt (mn M X a) hpk
    by_cases hr : mn M X a % 2^k = 0
    · have hw : ∀ u, stepN M X a u = a := fun u => step_whole hf ha f12 (n := mn M X a / 2^k) (by
        unfold va
        rw [e1]
        have : 2^(bs M X) = 2^k * 2^(bs M X - k) := by rw [← Nat.pow_add]; congr 1; omega
        rw [this, ← Nat.mul_assoc]
        congr 1
        rw [Nat.mul_comm]; omega) u
      rw [hw, hw, hw, hw]
      exact ⟨ha, ha, rfl, rfl, Int.le_refl _, Int.le_refl _, .inl ⟨rfl, rfl⟩⟩
    · generalize hq : mn M X a / 2^k = q at *
      generalize hrr : mn M X a % 2^k = r at *
      have hq1 : q + 1 ≤ 2^M := by
        have h3 : 2^k * q < 2^(M+1) := by omega
        have h5 : 2^1 ≤ 2^k := pow_le hk1
        have h6 : 2 * q ≤ 2^k * q := Nat.mul_le_mul_right q h5
        rw [Nat.pow_succ] at h3; omega
      have st : ∀ u, stepN M X a u = sgn M X (ng M X a) + near M X (q + if ng M X a ≠ u then 1 else 0) 1 0 := fun u => by
        unfold stepN
        rw [if_neg (by omega), if_neg hs, hk, show (- -(k : Int)).toNat = k by omega, hq, hrr]
        congr 2
        by_cases c : ng M X a ≠ u
        · rw [if_pos c, if_pos ⟨hr, c⟩]
        · rw [if_neg c, if_neg (fun h => c h.2)]
      have b1 : ∀ u, (q + if ng M X a ≠ u then 1 else 0) ≤ 2^M := fun u => by split <;> omega
      have iv := fun u => int_sv hf hb (ng M X a) (b1 u)
      have hva : va M X a = q * 2^(bs M X) + r * 2^(bs M X - k) := by
        unfold va
        rw [e1, ← hdm]
        have : 2^(bs M X) = 2^k * 2^(bs M X - k) := by rw [← Nat.pow_add]; congr 1; omega
        rw [this, Nat.add_mul, ← Nat.mul_assoc, Nat.mul_comm q]
      have hlo : q * 2^(bs M X) ≤ va M X a := by rw [hva]; omega
      have hhi : va M X a ≤ (q + 1) * 2^(bs M X) := by
        rw [hva, Nat.add_mul, Nat.one_mul]
        have : 2^(bs M X) = 2^k * 2^(bs M X - k) := by rw [← Nat.pow_add]; congr 1; omega
        have h7 : r * 2^(bs M X - k) ≤ 2^k * 2^(bs M X - k) := Nat.mul_le_mul_right _ (by omega)
        omega
      have cmpS : ∀ {p t : Nat}, p < 2^(1+X+M) → t < 2^(1+X+M) → fin12 M X p → fin12 M X t → sv M X p ≤ sv M X t → plc M X p ≤ plc M X t := fun {p t} hp ht fp ft h => by
        rcases Int.lt_or_le (plc M X t) (plc M X p) with l | l
        · have := (plc_lt_iff ht hp ft fp).1 l; omega
        · exact l
      have one := int_sv hf hb false (n := 1) (two_pow_pos M)
      rw [sgn_false, Nat.zero_add] at one
      have lx := (iv false).1
      have ly := (iv true).1
      rw [st false, st true]
      refine ⟨lx, ly, step_whole hf lx (iv false).2.1 (iv false).2.2.1 _, step_whole hf ly (iv true).2.1 (iv true).2.2.1 _, ?_, ?_, .inr ?_⟩
      · refine cmpS lx ha (iv false).2.1 f12 ?_
        rw [(iv false).2.2.2]
        refine sg_le (fun h => ?_) (fun h => ?_)
        · rw [h, if_neg (by decide), Nat.add_zero]; exact hlo
        · rw [h, if_pos (by decide)]; exact hhi
      · refine cmpS ha ly f12 (iv true).2.1 ?_
        rw [(iv true).2.2.2]
        refine sg_le (fun h => ?_) (fun h => ?_)
        · rw [h, if_pos (by decide)]; exact hhi
        · rw [h, if_neg (by decide), Nat.add_zero]; exact hlo
      · rw [add_plc hf lx one.1 (iv false).2.1 one.2.1, ← rz_sv hf ly (iv true).2.1, (iv false).2.2.2, (iv true).2.2.2, one.2.2.2]
        congr 1
        have e0 : (q + 0) * 2^(bs M X) = q * 2^(bs M X) := rfl
        have e2 : (q + 1) * 2^(bs M X) = q * 2^(bs M X) + 1 * 2^(bs M X) := Nat.add_mul ..
        unfold sg
        cases ng M X a
        · simp only [if_neg (show ¬ (false = true) by decide), if_neg (show ¬ (false ≠ false) by decide), if_pos (show false ≠ true by decide)]
          rw [e0, e2]; omega
        · rw [if_pos rfl, if_pos rfl, if_neg (show ¬ (true ≠ true) by decide), if_pos (show true ≠ false by decide), if_neg (show ¬ (false = true) by decide), e0, e2]; omega
theorem okB_fmt (h : ¬ ∃ M X : Nat, m = M ∧ x = X ∧ Okf M X) (a : Nat) : okB m x a = false := by
  cases k : okB m x a with
  | false => rfl
  | true =>
    obtain ⟨M, X, h1, h2, h3, _⟩ := okB_ok k
    exact absurd ⟨M, X, h1, h2, h3⟩ h
theorem law_between (m x : Int) {a : Nat} (ha : a < 2^64) : Cp 6 [FM m x, LU a] (LB true) := by
  obtain ⟨L, hL⟩ := lf_ex
  refine cp_of (t6 L m x a) ?_
  have lv : Wt (LB true) (.call 24 [] (LB true) (.ret (LB true))) := ⟨live3_cn, rfl⟩
  by_cases hfm : ∃ M X : Nat, m = M ∧ x = X ∧ Okf M X
  · obtain ⟨M, X, rfl, rfl, hf⟩ := hfm
    simp only [hL.st, hL.e1, hL.kd, hL.neg, hL.ex, hL.mn, hL.live, hL.chk M X hf, hL.bias, hL.nan, hL.one, hL.add, hL.e2, hL.cmp, hL.cok, brt, show ((0 : Int) == 0) = true from rfl]
    refine ⟨checkR_cn hf, bias_cn hf, brD (fun _ => lv) (fun hb => ?_)⟩
    have hb : M < bia X := by omega
    refine ⟨open_all ha, floor_all ha, ceil_all ha, ?_⟩
    cases ka : okB M X a with
    | false =>
      simp only [er1_no ka, tot1_no ka, n10, e11, brt, show (((0 : Nat) : Int) == 0) = true from rfl]
      exact ⟨num3_cn _, num3_cn _, lv⟩
    | true =>
    have la := (okB_lt hf).1 ka
    simp only [er1_ok ka, n00, brf, tot1_ok ka]
    have ez : ∀ (n : Nat) (z : Nat), (((n : Nat) : Int) == (z : Int)) = decide (n = z) := fun n z => by rw [Bool.eq_iff_iff, beq_iff_eq, decide_eq_true_eq]; omega
    have en : ∀ (n : Nat) (z : Nat), (((n : Nat) : Int) != (z : Int)) = decide (n ≠ z) := fun n z => by rw [Bool.eq_iff_iff, bne_iff_ne, decide_eq_true_eq]; omega
    have e4 : ∀ n : Nat, ((n : Int) == 4) = decide (n = 4) := fun n => ez n 4
    rw [e4]
    refine brD (fun h4 => ?_) (fun h4 => ?_)
    · have hs : ∀ u, stepN M X a u = nanc M X := fun u => by unfold stepN; rw [if_pos h4]
      simp only [hs, beq_same, brt, w00]
      exact ⟨nanR_cn hf, num3_cn _, num3_cn _, lv⟩
    · obtain ⟨lx, ly, zx, wy, c1, c2, c3⟩ := between hf hb la h4
      have l1 : near M X 1 1 0 < 2^(1+X+M) := by have := near_lt M X 1 1 0; rw [pw2]; omega
      have lu := add_lt hf lx l1
      have kx := (okB_lt hf).2 lx
      have ky := (okB_lt hf).2 ly
      have k1 := (okB_lt hf).2 l1
      have ku := (okB_lt hf).2 lu
      have q1 := cmp_all (m := M) (x := X) (Fl.a64 hf.ok lx) (Fl.a64 hf.ok la)
      have q2 := cmp_all (m := M) (x := X) (Fl.a64 hf.ok la) (Fl.a64 hf.ok ly)
      have q3 := floor_all (m := M) (x := X) (Fl.a64 hf.ok lx)
      have q4 := ceil_all (m := M) (x := X) (Fl.a64 hf.ok ly)
      have q5 := add_all (m := M) (x := X) (Fl.a64 hf.ok lx) (Fl.a64 hf.ok l1)
      have q6 := cmp_all (m := M) (x := X) (Fl.a64 hf.ok lu) (Fl.a64 hf.ok ly)
      rw [totc_ok kx ka, toto_ok kx ka, er2_ok kx ka] at q1
      rw [totc_ok ka ky, toto_ok ka ky, er2_ok ka ky] at q2
      rw [tot1_ok kx, er1_ok kx, zx] at q3
      rw [tot1_ok ky, er1_ok ky, wy] at q4
      rw [tot2_ok kx k1, er2_ok kx k1] at q5
      rw [totc_ok ku ky, toto_ok ku ky, er2_ok ku ky] at q6
      simp only [totc_ok kx ka, toto_ok kx ka, er2_ok kx ka, totc_ok ka ky, toto_ok ka ky, er2_ok ka ky, tot1_ok kx, er1_ok kx, zx, tot1_ok ky, er1_ok ky, wy, tot2_ok kx k1, er2_ok kx k1, totc_ok ku ky, toto_ok ku ky, er2_ok ku ky,
        show IntKind.i64.wrap (IntKind.i64.wrap (IntKind.i64.wrap (IntKind.i64.wrap (IntKind.i64.wrap (IntKind.i64.wrap (0 + 0) + 0) + 0) + 0) + 0) + 0) = 0 from rfl, brf, show ∀ n : Int, (n != n) = false from fun n => by simp, ez]
      have cle : ∀ {p q : Nat}, plc M X p ≤ plc M X q → ¬ cmpN M X p q > 0 := fun {p q} h => by
        unfold cmpN cmpI; split
        · decide
        · split
          · decide
          · split
            · omega
            · decide
      refine ⟨q1, q2, q3, q4, packOne_cn hf, q5, num3_cn _, num3_cn _, num3_cn _, num3_cn _, num3_cn _, num3_cn _, num3_cn _, brF (cle c1) (brF (cle c2) ⟨q6, ?_⟩)⟩
      have fin : ∀ {t : Tr}, (stepN M X a false = stepN M X a true → stepN M X a false ≠ a → Wt (LB true) (br (cmpN M X (addN M X (stepN M X a false) (near M X 1 1 0)) (stepN M X a true) == 0) (.call 24 [] (LB true) (.ret (LB true))) (.ret (LB false)))) := fun {t} _ _ => by
        rcases c3 with ⟨h1, h2⟩ | h
        · contradiction
        · have : cmpN M X (addN M X (stepN M X a false) (near M X 1 1 0)) (stepN M X a true) = 0 := by
            unfold cmpN cmpI; rw [h]; split
            · rfl
            · rw [if_neg (by omega), if_neg (by omega)]
          rw [this]; exact lv
      refine brD (fun h1 => brD (fun _ => lv) (fun h2 => fin (t := .bad) h1 h2)) (fun h1 => ?_)
      rcases c3 with ⟨h3, h5⟩ | h
      · exact absurd (h3.trans h5.symm) h1
      · have : cmpN M X (addN M X (stepN M X a false) (near M X 1 1 0)) (stepN M X a true) = 0 := by
          unfold cmpN cmpI; rw [h]; split
          · rfl
          · rw [if_neg (by omega), if_neg (by omega)]
        rw [this]; exact lv
  · have ka := okB_fmt hfm a
    have hq : ¬ (2 ≤ m ∧ m ≤ 52 ∧ 2 ≤ x ∧ x ≤ 11) := fun ⟨h1, h2, h3, h4⟩ => hfm ⟨m.toNat, x.toNat, by omega, by omega, by omega, by omega, by omega, by omega⟩
    simp only [hL.st, hL.e1, hL.live, hL.chkb m x hfm, hL.kd, hL.neg, hL.ex, hL.mn, er1_no ka, tot1_no ka, n10, e11, show ((1 : Int) == 0) = false from rfl, brt, brf, show (((0 : Nat) : Int) == 0) = true from rfl]
    have o := open_all (m := m) (x := x) ha
    have f := floor_all (m := m) (x := x) ha
    have c := ceil_all (m := m) (x := x) ha
    rw [tot1_no ka, er1_no ka, tot1_no ka] at o
    rw [tot1_no ka, er1_no ka] at f c
    exact ⟨checkRbad_cn hq, o, f, c, num3_cn _, num3_cn _, lv⟩
end Go.Proofs.Ytpliondhiahhnaa.K
