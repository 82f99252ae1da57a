/- reals: what holds; the page's examples; RealsSingles, RealsDoubles, RealsInts, RealsChanges, RealsHolds. -/
import Derived.Test.YtpliondhiahhnaaF2
set_option linter.unusedVariables false
namespace Go.Proofs.Ytpliondhiahhnaa.K
open Sx Fl Go Go.RowKit
set_option maxRecDepth 100000
variable {M X : Nat} {a b t : Nat}
theorem andnot {d k : Nat} (hd : d < 2^(k+1)) (hk : k < 64) : IntKind.u64.wrap (((BitVec.ofInt IntKind.u64.bits (d : Int) &&& ~~~BitVec.ofInt IntKind.u64.bits ((2^k : Nat) : Int)).toNat : Nat) : Int) = ((d % 2^k : Nat) : Int) := by
  have h : (BitVec.ofInt IntKind.u64.bits (d : Int) &&& ~~~BitVec.ofInt IntKind.u64.bits ((2^k : Nat) : Int)).toNat = d % 2^k := by
    apply Nat.eq_of_testBit_eq
    intro i
    rw [BitVec.testBit_toNat, BitVec.getLsbD_and, BitVec.getLsbD_not, BitVec.ofInt_natCast, BitVec.ofInt_natCast, BitVec.getLsbD_ofNat, BitVec.getLsbD_ofNat, Nat.testBit_mod_two_pow, Nat.testBit_two_pow]
    show (decide (i < 64) && d.testBit i && (decide (i < 64) && !(decide (i < 64) && decide (k = i)))) = (decide (i < k) && d.testBit i)
    by_cases h1 : i < k
    · have h2 : i < 64 := by omega
      have h3 : ¬ k = i := by omega
      simp [h1, h2, h3]
    · by_cases h2 : k = i
      · subst h2; simp
      · have : d.testBit i = false := Nat.testBit_lt_two_pow (Nat.lt_of_lt_of_le hd (pow_le (by omega)))
        simp [this]
  rw [h]
  refine u64_nat (Nat.lt_of_lt_of_le (Nat.mod_lt _ (two_pow_pos k)) (pow_le (by omega)))
theorem mg_mod (ha : a < 2^(1+X+M)) : a % 2^(X+M) = mg M X a := by
  have h := mg_split ha
  have h2 := mg_lt M X a
  obtain ⟨k, e, _⟩ := sgn_mul M X (ng M X a)
  have e2 : sgn M X (ng M X a) = 2^(X+M) * k := by rw [e, Nat.pow_add]; ac_rfl
  rw [e2] at h
  have e3 : (2^(X+M) * k + mg M X a) % 2^(X+M) = mg M X a := by rw [Nat.mul_add_mod, Nat.mod_eq_of_lt h2]
  rwa [← h] at e3
theorem mask_top (hf : Okf M X) (ha : a < 2^(1+X+M)) : IntKind.u64.wrap (((BitVec.ofInt IntKind.u64.bits (a : Int) &&& ~~~BitVec.ofInt IntKind.u64.bits ((sgn M X true : Nat) : Int)).toNat : Nat) : Int) = ((mg M X a : Nat) : Int) := by
  have := hf.m2; have := hf.x2
  rw [sgn_true, andnot (by rw [show X + M + 1 = 1 + X + M by omega]; exact ha) (by omega), mg_mod ha]
theorem mg_pat : mg M X a < 2^(1+X+M) := by have := mg_lt M X a; rw [pw2]; omega
theorem kd_mg (ha : a < 2^(1+X+M)) : kd M X (mg M X a) = kd M X a := by
  have h := mg_split ha
  have e := kd_made (M := M) (X := X) (ng M X a) (mg M X a)
  rw [← h] at e; exact e.symm
theorem plc_mgp : plc M X (mg M X a) = mg M X a := by
  have h := plc_made (M := M) (X := X) false (mg_lt M X a)
  rw [sgn_false, Nat.zero_add] at h; rw [h]; rfl
theorem oddN_of (h : kd M X a ≠ 4) (k : kd M X b ≠ 4) : oddN M X a b = false := notodd h k
theorem cmp_mg {d : Nat} (hd : d < 2^(1+X+M)) (ht : t < 2^(1+X+M)) (k1 : kd M X d ≠ 4) (k2 : kd M X t ≠ 4) : oddN M X (mg M X d) (mg M X t) = false ∧ (cmpN M X (mg M X d) (mg M X t) ≤ 0 ↔ mg M X d ≤ mg M X t) := by
  have ho := notodd (M := M) (X := X) (a := mg M X d) (b := mg M X t) (by rw [kd_mg hd]; exact k1) (by rw [kd_mg ht]; exact k2)
  refine ⟨ho, ?_⟩
  rw [cmpN_of ho, plc_mgp, plc_mgp]
  unfold cmpI; split
  · constructor
    · intro; omega
    · intro; decide
  · split
    · constructor
      · intro h; exact absurd h (by decide)
      · intro; omega
    · constructor
      · intro; omega
      · intro; decide
theorem sub_not4 (hf : Okf M X) (ha : a < 2^(1+X+M)) (hb : b < 2^(1+X+M)) (ka : kd M X a ≠ 4) (kb : kd M X b ≠ 4) (h3 : ¬ (kd M X a = 3 ∧ kd M X b = 3)) : kd M X (subN M X a b) ≠ 4 := by
  by_cases a3 : kd M X a = 3
  · have b3 : kd M X b ≠ 3 := fun e => h3 ⟨a3, e⟩
    rw [sub_inf1 a3 (fin12_of kb b3) hb]; exact ka
  · by_cases b3 : kd M X b = 3
    · rw [sub_inf2 b3 (fin12_of ka a3) hb, kd_turn hb]; exact kb
    · have hp := sub_plc hf ha hb (fin12_of ka a3) (fin12_of kb b3)
      have hz := rz_bounds M X (sv M X a - sv M X b)
      intro e
      have h1 := mg_nan e
      rw [plc_sg (sub_lt hf ha hb)] at hp
      unfold sg at hp
      split at hp <;> omega
theorem kind_cn (hf : Okf M X) (ha : a < 2^(1+X+M)) : Cp 132 [FM M X, LU a] (LI (kd M X a : Nat)) := by
  obtain ⟨L, hL⟩ := lg_ex
  obtain ⟨R, hR⟩ := rg_ex
  refine cp_of (t132 R L M X a) ?_
  rw [hL.kd, hL.neg, hL.ex, hL.mn, hL.e1]
  exact ⟨open_cn hf a ha, rfl⟩
theorem kindR_cn (hf : Okf M X) (ha : a < 2^(1+X+M)) : Cp 110 [FM M X, LU a] (LI (kd M X a : Nat)) := by
  obtain ⟨L, hL⟩ := lg_ex
  obtain ⟨R, hR⟩ := rg_ex
  refine cp_of (t110 R L M X a) ?_
  rw [hL.kd, hL.neg, hL.ex, hL.mn, hL.e1]
  exact ⟨openR_cn hf ha, rfl⟩
theorem bare_cn (hf : Okf M X) (ha : a < 2^(1+X+M)) : Cp 111 [FM M X, LU a] (LU (mg M X a : Nat)) := by
  obtain ⟨L, hL⟩ := lg_ex
  obtain ⟨R, hR⟩ := rg_ex
  have h := mg_split ha
  refine cp_of (t111 R L M X a) ?_
  rw [hL.kd, hL.neg, hL.ex, hL.mn, hL.e1, hL.tu]
  refine ⟨openR_cn hf ha, WT.br (fun hn => ?_) (fun hn => ?_)⟩
  · have e : turnN M X a = mg M X a := by
      have := turn_made (M := M) (X := X) (ng M X a) (mg_lt M X a)
      rw [← h, hn] at this; rw [this]; show sgn M X false + _ = _; rw [sgn_false, Nat.zero_add]
    have ht := turnR_cn hf ha
    rw [e] at ht ⊢
    exact ⟨ht, rfl⟩
  · rw [hn, sgn_false, Nat.zero_add] at h
    rw [← h]; rfl
theorem eqn (p q : Nat) : ((p : Int) == (q : Int)) = decide (p = q) := by rw [Bool.eq_iff_iff, beq_iff_eq, decide_eq_true_eq]; omega
theorem near_cn (hf : Okf M X) (ha : a < 2^(1+X+M)) (hb : b < 2^(1+X+M)) (ht : t < 2^(1+X+M)) : Cp 131 [FM M X, LU a, LU b, LU t] (LB (sub' M X a b t)) := by
  obtain ⟨L, hL⟩ := lg_ex
  obtain ⟨R, hR⟩ := rg_ex
  refine cp_of (t131 R L M X a b t) ?_
  have e4 : ∀ n : Nat, ((n : Int) == 4) = decide (n = 4) := fun n => eqn n 4
  have e3 : ∀ n : Nat, ((n : Int) == 3) = decide (n = 3) := fun n => eqn n 3
  have hd := sub_lt hf ha hb
  simp only [hR.kd, hL.sub, hL.ze, mask_top hf hd, mask_top hf ht, hL.cmp, hL.cok, hL.e2, e4, e3]
  have ka := kind_cn hf ha
  have kb := kind_cn hf hb
  have kt := kind_cn hf ht
  have z := zero_cn hf true
  have sb := sub_cn hf ha hb
  have cm := cmp_cn hf (mg_pat (M := M) (X := X) (a := subN M X a b)) (mg_pat (M := M) (X := X) (a := t))
  have hs : sub' M X a b t = if kd M X a = 4 ∨ kd M X b = 4 ∨ kd M X t = 4 then false else if kd M X a = 3 ∧ kd M X b = 3 then (a : Int) == b else decide (mg M X (subN M X a b) ≤ mg M X t) := rfl
  have fl : kd M X a = 4 ∨ kd M X b = 4 ∨ kd M X t = 4 → Wt (LB (sub' M X a b t)) (.ret (LB false)) := fun h => by rw [hs, if_pos h]; rfl
  refine ⟨ka, brD (fun h => fl (.inl h)) (fun a4 => ⟨kb, brD (fun h => fl (.inr (.inl h))) (fun b4 => ⟨kt, brD (fun h => fl (.inr (.inr h))) (fun t4 => ⟨ka, ?_⟩)⟩)⟩)⟩
  have hn : ¬ (kd M X a = 4 ∨ kd M X b = 4 ∨ kd M X t = 4) := by omega
  have tail : ¬ (kd M X a = 3 ∧ kd M X b = 3) → oddN M X (mg M X (subN M X a b)) (mg M X t) = false ∧ sub' M X a b t = decide (cmpN M X (mg M X (subN M X a b)) (mg M X t) ≤ 0) := fun h => by
    obtain ⟨c1, c2⟩ := cmp_mg hd ht (sub_not4 hf ha hb a4 b4 h) t4
    refine ⟨c1, ?_⟩
    rw [hs, if_neg hn, if_neg h]
    exact (decide_eq_decide.2 c2).symm
  refine brD (fun a3 => ⟨kb, brD (fun b3 => ?_) (fun b3 => ?_)⟩) (fun a3 => ?_)
  · rw [hs, if_neg hn, if_pos ⟨a3, b3⟩]; rfl
  · obtain ⟨c1, c2⟩ := tail (fun h => b3 h.2)
    rw [c1] at cm ⊢
    rw [c2]
    exact ⟨z, sb, cm, ret_wt _⟩
  · obtain ⟨c1, c2⟩ := tail (fun h => a3 h.1)
    rw [c1] at cm ⊢
    rw [c2]
    exact ⟨z, sb, cm, ret_wt _⟩
/-! ### holds -/
theorem hd_eq (M X : Nat) (c : Int) (a b t : Nat) : hdN M X c a b t = if c = 1 then sub' M X a b t else if c = 2 then !sub' M X a b t else if c = 3 then !oddN M X a b && decide (cmpN M X a b < 0) else if c = 4 then !oddN M X a b && decide (cmpN M X a b ≤ 0) else if c = 5 then !oddN M X a b && decide (cmpN M X a b > 0) else if c = 6 then !oddN M X a b && decide (cmpN M X a b ≥ 0) else if c = 7 then decide (kd M X a = 4) else if c = 8 then decide (kd M X a = 3) else false := rfl
theorem holds64 (hf : Okf M X) (c : Int) (ha : a < 2^(1+X+M)) (hb : b < 2^(1+X+M)) (ht : t < 2^(1+X+M)) : Cp 112 [FM M X, LI c, LU a, LU b, LU t] (LB (hdN M X c a b t)) := by
  obtain ⟨L, hL⟩ := lg_ex
  obtain ⟨R, hR⟩ := rg_ex
  refine cp_of (t112 R L M X c a b t) ?_
  have e4 : ∀ n : Nat, ((n : Int) == 4) = decide (n = 4) := fun n => eqn n 4
  have e3 : ∀ n : Nat, ((n : Int) == 3) = decide (n = 3) := fun n => eqn n 3
  rw [hd_eq]
  have nr := near_cn hf ha hb ht
  have ka := kind_cn hf ha
  have cm := cmp_cn hf ha hb
  simp only [hR.nr, hR.kd, hL.cmp, hL.cok, hL.e2, e4, e3]
  refine ⟨cm, ?_⟩
  clear cm
  generalize sub' M X a b t = s at *
  generalize cmpN M X a b = z at *
  generalize oddN M X a b = o at *
  generalize kd M X a = k at *
  simp only [eqd]
  refine brD (fun h => ?_) (fun h1 => brD (fun h => ?_) (fun h2 => brD (fun h => ?_) (fun h3 => brD (fun h => ?_) (fun h4 => brD (fun h => ?_) (fun h5 => brD (fun h => ?_) (fun h6 => brD (fun h => ?_) (fun h7 => brD (fun h => ?_) (fun h8 => ?_))))))))
  · rw [if_pos h]
    exact ⟨nr, ret_wt _⟩
  · rw [if_neg h1, if_pos h]
    exact ⟨nr, ret_wt _⟩
  · rw [if_neg h1, if_neg h2, if_pos h]
    cases o
    · exact ret_wt _
    · exact ret_wt _
  · rw [if_neg h1, if_neg h2, if_neg h3, if_pos h]
    cases o
    · exact ret_wt _
    · exact ret_wt _
  · rw [if_neg h1, if_neg h2, if_neg h3, if_neg h4, if_pos h]
    cases o
    · exact ret_wt _
    · exact ret_wt _
  · rw [if_neg h1, if_neg h2, if_neg h3, if_neg h4, if_neg h5, if_pos h]
    cases o
    · exact ret_wt _
    · exact ret_wt _
  · rw [if_neg h1, if_neg h2, if_neg h3, if_neg h4, if_neg h5, if_neg h6, if_pos h]
    exact ⟨ka, ret_wt _⟩
  · rw [if_neg h1, if_neg h2, if_neg h3, if_neg h4, if_neg h5, if_neg h6, if_neg h7, if_pos h]
    exact ⟨ka, ret_wt _⟩
  · rw [if_neg h1, if_neg h2, if_neg h3, if_neg h4, if_neg h5, if_neg h6, if_neg h7, if_neg h8]
    exact ret_wt _
theorem holds32 (hf : Okf M X) (c : Int) (ha : a < 2^(1+X+M)) (hb : b < 2^(1+X+M)) (ht : t < 2^(1+X+M)) : Cp 109 [FM M X, LI c, LW a, LW b, LW t] (LB (hdN M X c a b t)) := by
  obtain ⟨L, hL⟩ := lg_ex
  obtain ⟨R, hR⟩ := rg_ex
  refine cp_of (t109 R L M X c a b t) ?_
  have e4 : ∀ n : Nat, ((n : Int) == 4) = decide (n = 4) := fun n => eqn n 4
  have e3 : ∀ n : Nat, ((n : Int) == 3) = decide (n = 3) := fun n => eqn n 3
  rw [hd_eq]
  have nr := near_cn hf ha hb ht
  have ka := kind_cn hf ha
  have cm := cmp_cn hf ha hb
  simp only [u64_nat (Fl.a64 hf.ok ha), u64_nat (Fl.a64 hf.ok hb), u64_nat (Fl.a64 hf.ok ht), hR.nr, hR.kd, hL.cmp, hL.cok, hL.e2, e4, e3]
  refine ⟨cm, ?_⟩
  clear cm
  generalize sub' M X a b t = s at *
  generalize cmpN M X a b = z at *
  generalize oddN M X a b = o at *
  generalize kd M X a = k at *
  simp only [eqd]
  refine brD (fun h => ?_) (fun h1 => brD (fun h => ?_) (fun h2 => brD (fun h => ?_) (fun h3 => brD (fun h => ?_) (fun h4 => brD (fun h => ?_) (fun h5 => brD (fun h => ?_) (fun h6 => brD (fun h => ?_) (fun h7 => brD (fun h => ?_) (fun h8 => ?_))))))))
  · rw [if_pos h]
    exact ⟨nr, ret_wt _⟩
  · rw [if_neg h1, if_pos h]
    exact ⟨nr, ret_wt _⟩
  · rw [if_neg h1, if_neg h2, if_pos h]
    cases o
    · exact ret_wt _
    · exact ret_wt _
  · rw [if_neg h1, if_neg h2, if_neg h3, if_pos h]
    cases o
    · exact ret_wt _
    · exact ret_wt _
  · rw [if_neg h1, if_neg h2, if_neg h3, if_neg h4, if_pos h]
    cases o
    · exact ret_wt _
    · exact ret_wt _
  · rw [if_neg h1, if_neg h2, if_neg h3, if_neg h4, if_neg h5, if_pos h]
    cases o
    · exact ret_wt _
    · exact ret_wt _
  · rw [if_neg h1, if_neg h2, if_neg h3, if_neg h4, if_neg h5, if_neg h6, if_pos h]
    exact ⟨ka, ret_wt _⟩
  · rw [if_neg h1, if_neg h2, if_neg h3, if_neg h4, if_neg h5, if_neg h6, if_neg h7, if_pos h]
    exact ⟨ka, ret_wt _⟩
  · rw [if_neg h1, if_neg h2, if_neg h3, if_neg h4, if_neg h5, if_neg h6, if_neg h7, if_neg h8]
    exact ret_wt _
theorem singleHolds_cn (c : Int) (ha : a < 2^32) (hb : b < 2^32) (ht : t < 2^32) : Cp 49 [LI c, LW a, LW b, LW t] (LB (hdN 23 8 c a b t)) := by
  obtain ⟨L, hL⟩ := lg_ex
  obtain ⟨R, hR⟩ := rg_ex
  refine cp_of (t49 R L c a b t) ?_
  have e : R.hd 23 8 c a b t = hdN 23 8 c a b t := hR.hd 23 8 c a b t
  rw [e]
  exact ⟨single_f, holds32 ok32 c (p32 ha) (p32 hb) (p32 ht), ret_wt _⟩
theorem doubleHolds_cn (c : Int) (ha : a < 2^64) (hb : b < 2^64) (ht : t < 2^64) : Cp 51 [LI c, LU a, LU b, LU t] (LB (hdN 52 11 c a b t)) := by
  obtain ⟨L, hL⟩ := lg_ex
  obtain ⟨R, hR⟩ := rg_ex
  refine cp_of (t51 R L c a b t) ?_
  have e : R.hd 52 11 c a b t = hdN 52 11 c a b t := hR.hd 52 11 c a b t
  rw [e]
  exact ⟨double_f, holds64 ok64 c (p64 ha) (p64 hb) (p64 ht), ret_wt _⟩
theorem holdsR1 (w : Bool) {M X : Nat} (hM : fmN w = M) (hX : fxN w = X) (c : Int) (hc : c ≠ 2 ∨ Cp 50 [LB w, LI 1, LU a, LU b, LU t] (LB (hdN M X 1 a b t))) (ha : a < 2^(1+X+M)) (hb : b < 2^(1+X+M)) (ht : t < 2^(1+X+M)) : Cp 50 [LB w, LI c, LU a, LU b, LU t] (LB (hdN M X c a b t)) := by
  obtain ⟨L, hL⟩ := lg_ex
  obtain ⟨R, hR⟩ := rg_ex
  refine cp_of (t50 R L w c a b t) ?_
  have e4 : ∀ n : Nat, ((n : Int) == 4) = decide (n = 4) := fun n => eqn n 4
  have e3 : ∀ n : Nat, ((n : Int) == 3) = decide (n = 3) := fun n => eqn n 3
  have hf := okw w
  have fw := format_f w
  have rcu := hc
  rw [hM, hX] at hf fw
  have ka := kindR_cn hf ha
  have kb := kindR_cn hf hb
  have kt := kindR_cn hf ht
  have cm := cmpR_cn hf ha hb
  have hd := sub_lt hf ha hb
  have sb := subR_cn hf ha hb
  have ba1 := bare_cn hf hd
  have ba2 := bare_cn hf ht
  have cm2 := cmpR_cn hf (mg_pat (M := M) (X := X) (a := subN M X a b)) (mg_pat (M := M) (X := X) (a := t))
  have hw1 := hR.hw w 1 a b t
  rw [hM, hX] at hw1
  simp only [hw1, hR.fm, hR.fx, hM, hX, hR.kd, hR.ba, hL.sub, hL.cmp, hL.cok, hL.e2, e4, e3]
  rw [hd_eq]
  refine ⟨fw, cm, ?_⟩
  clear cm
  have hs : sub' M X a b t = if kd M X a = 4 ∨ kd M X b = 4 ∨ kd M X t = 4 then false else if kd M X a = 3 ∧ kd M X b = 3 then (a : Int) == b else decide (mg M X (subN M X a b) ≤ mg M X t) := rfl
  have hc1 : hdN M X 1 a b t = sub' M X a b t := by rw [hd_eq, if_pos rfl]
  rw [hc1] at rcu ⊢
  simp only [eqd]
  refine brD (fun h => ?_) (fun h1 => brD (fun h => ?_) (fun h2 => ?_))
  · rw [if_pos h, Bool.not_not]
    have fl : kd M X a = 4 ∨ kd M X b = 4 ∨ kd M X t = 4 → Wt (LB (sub' M X a b t)) (.ret (LB false)) := fun h => by rw [hs, if_pos h]; rfl
    refine WT.br (fun ho => fl ?_) (fun ho => ⟨kt, brD (fun h => fl (.inr (.inr h))) (fun t4 => ⟨ka, ?_⟩)⟩)
    · rcases odd_true ho with h | h
      · exact .inl h
      · exact .inr (.inl h)
    obtain ⟨a4, b4⟩ := odd_false ho
    have hn : ¬ (kd M X a = 4 ∨ kd M X b = 4 ∨ kd M X t = 4) := by omega
    have tail : ¬ (kd M X a = 3 ∧ kd M X b = 3) → sub' M X a b t = decide (cmpN M X (mg M X (subN M X a b)) (mg M X t) ≤ 0) := fun h => by
      obtain ⟨c1, c2⟩ := cmp_mg hd ht (sub_not4 hf ha hb a4 b4 h) t4
      rw [hs, if_neg hn, if_neg h]
      exact (decide_eq_decide.2 c2).symm
    refine brD (fun a3 => ⟨kb, brD (fun b3 => ?_) (fun b3 => ?_)⟩) (fun a3 => ?_)
    · rw [hs, if_neg hn, if_pos ⟨a3, b3⟩, eqd]; exact ret_wt _
    · rw [tail (fun h => b3 h.2)]
      exact ⟨sb, ba1, ba2, cm2, ret_wt _⟩
    · rw [tail (fun h => a3 h.1)]
      exact ⟨sb, ba1, ba2, cm2, ret_wt _⟩
  · rw [if_neg h1, if_pos h]
    exact ⟨rcu.resolve_left (fun k => k h), ret_wt _⟩
  clear hs hc1 rcu hw1 sb ba1 ba2 cm2
  generalize cmpN M X a b = z at *
  generalize oddN M X a b = o at *
  generalize kd M X a = k at *
  refine brD (fun h => ?_) (fun h3 => brD (fun h => ?_) (fun h4 => brD (fun h => ?_) (fun h5 => brD (fun h => ?_) (fun h6 => brD (fun h => ?_) (fun h7 => brD (fun h => ?_) (fun h8 => ?_))))))
  · rw [if_neg h1, if_neg h2, if_pos h]
    cases o
    · exact ret_wt _
    · exact ret_wt _
  · rw [if_neg h1, if_neg h2, if_neg h3, if_pos h]
    cases o
    · exact ret_wt _
    · exact ret_wt _
  · rw [if_neg h1, if_neg h2, if_neg h3, if_neg h4, if_pos h]
    cases o
    · exact ret_wt _
    · exact ret_wt _
  · rw [if_neg h1, if_neg h2, if_neg h3, if_neg h4, if_neg h5, if_pos h]
    cases o
    · exact ret_wt _
    · exact ret_wt _
  · rw [if_neg h1, if_neg h2, if_neg h3, if_neg h4, if_neg h5, if_neg h6, if_pos h]
    exact ⟨ka, ret_wt _⟩
  · rw [if_neg h1, if_neg h2, if_neg h3, if_neg h4, if_neg h5, if_neg h6, if_neg h7, if_pos h]
    exact ⟨ka, ret_wt _⟩
  · rw [if_neg h1, if_neg h2, if_neg h3, if_neg h4, if_neg h5, if_neg h6, if_neg h7, if_neg h8]
    exact ret_wt _
theorem holdsR_cn (w : Bool) (c : Int) (ha : a < 2^(1+fxN w+fmN w)) (hb : b < 2^(1+fxN w+fmN w)) (ht : t < 2^(1+fxN w+fmN w)) : Cp 50 [LB w, LI c, LU a, LU b, LU t] (LB (hdN (fmN w) (fxN w) c a b t)) := by
  have h1 := holdsR1 (a := a) (b := b) (t := t) w rfl rfl 1 (.inl (by decide)) ha hb ht
  exact holdsR1 w rfl rfl c (.inr h1) ha hb ht
/-! ### the page's examples -/
theorem live4_cn : Cp 47 [] (LB true) := by
  obtain ⟨L, hL⟩ := lg_ex
  obtain ⟨R, hR⟩ := rg_ex
  have v1 : rkN 23 8 1 1065353216 1065353216 = 1073741824 := by decide +kernel
  have v2 : rkN 52 11 3 4613937818241073152 13835058055282163712 = 13841813454723219456 := by decide +kernel
  have v3 : ofN 23 8 4294967295 = 3212836864 := by decide +kernel
  have v4 : itN 23 8 3223322624 true = 4294967293 := by decide +kernel
  have v5 : itN 23 8 4286578688 false = 2147483648 := by decide +kernel
  have v6 : convN 23 8 52 11 1065353216 = 4607182418800017408 := by decide +kernel
  have v7 : hdN 23 8 1 1065353216 1069547520 3204448256 = true := by decide +kernel
  have c1 := single_cn' (a := 1065353216) (b := 1065353216) 1 (by decide) (by decide)
  have c2 := double_cn' (a := 4613937818241073152) (b := 13835058055282163712) 3 (by decide) (by decide)
  have c3 := singleOf_cn (n := 4294967295) (by decide)
  have c4 := singleInt_cn (a := 3223322624) (by decide) true
  have c5 := singleInt_cn (a := 4286578688) (by decide) false
  have c6 := widen_cn (a := 1065353216) (by decide)
  have c7 := singleHolds_cn (a := 1065353216) (b := 1069547520) (t := 3204448256) 1 (by decide) (by decide) (by decide)
  have w1 : R.rk 23 8 1 1065353216 1065353216 = (rkN 23 8 1 1065353216 1065353216 : Nat) := hR.rk 23 8 1 1065353216 1065353216
  have w2 : R.rk 52 11 3 4613937818241073152 13835058055282163712 = (rkN 52 11 3 4613937818241073152 13835058055282163712 : Nat) := hR.rk 52 11 3 4613937818241073152 13835058055282163712
  have w3 : R.of 23 8 4294967295 = (ofN 23 8 4294967295 : Nat) := hR.of 23 8 4294967295
  have w4 : R.it 23 8 3223322624 true = (itN 23 8 3223322624 true : Nat) := hR.it 23 8 3223322624 true
  have w5 : R.it 23 8 4286578688 false = (itN 23 8 4286578688 false : Nat) := hR.it 23 8 4286578688 false
  have w6 : R.wi 1065353216 = (convN 23 8 52 11 1065353216 : Nat) := hR.wi 1065353216
  have w7 : R.hd 23 8 1 1065353216 1069547520 3204448256 = hdN 23 8 1 1065353216 1069547520 3204448256 := hR.hd 23 8 1 1065353216 1069547520 3204448256
  rw [v1] at c1 w1
  rw [v2] at c2 w2
  rw [v3] at c3 w3
  rw [v4] at c4 w4
  rw [v5] at c5 w5
  rw [v6] at c6 w6
  rw [v7] at c7 w7
  have r1 : R.re 1 = 0 := hR.re 1
  have r3 : R.re 3 = 0 := hR.re 3
  have l := t47 R L 0
  rw [w1, w2, w3, w4, w5, w6, w7, r1, r3] at l
  exact cp_of l ⟨c1, c2, num4_cn 0, num4_cn 0, c3, c4, c5, c6, c7, ret_wt _⟩
theorem lv4 : Wt (LB true) (.call 47 [] (LB true) (.ret (LB true))) := ⟨live4_cn, rfl⟩
theorem law_singles (o : Int) (ha : a < 2^32) (hb : b < 2^32) : Cp 10 [LI o, LW a, LW b] (LB true) := by
  obtain ⟨L, hL⟩ := lg_ex
  obtain ⟨R, hR⟩ := rg_ex
  refine cp_of (t10 R L o a b) ?_
  have e1 : R.rk 23 8 o a b = (rkN 23 8 o a b : Nat) := hR.rk 23 8 o a b
  have e2 : R.rw false o a b = (rkN 23 8 o a b : Nat) := hR.rw false o a b
  have hl := rk_lt ok32 o (p32 ha) (p32 hb)
  rw [u64_nat (n := a) (by omega), u64_nat (n := b) (by omega), e1, e2, hR.re, u64_nat (Fl.a64 ok32.ok hl), hL.live]
  simp only [beq_same, brt]
  exact ⟨single_cn' o ha hb, reckonR false o ha hb, num4_cn _, lv4⟩
theorem law_doubles (o : Int) (ha : a < 2^64) (hb : b < 2^64) : Cp 11 [LI o, LU a, LU b] (LB true) := by
  obtain ⟨L, hL⟩ := lg_ex
  obtain ⟨R, hR⟩ := rg_ex
  refine cp_of (t11 R L o a b) ?_
  have e1 : R.rk 52 11 o a b = (rkN 52 11 o a b : Nat) := hR.rk 52 11 o a b
  have e2 : R.rw true o a b = (rkN 52 11 o a b : Nat) := hR.rw true o a b
  rw [e1, e2, hR.re, hL.live]
  simp only [beq_same, brt]
  exact ⟨double_cn' o ha hb, reckonR true o ha hb, num4_cn _, lv4⟩
theorem law_holds (c : Int) {a b t a2 b2 t2 : Nat} (ha : a < 2^32) (hb : b < 2^32) (ht : t < 2^32) (ha2 : a2 < 2^64) (hb2 : b2 < 2^64) (ht2 : t2 < 2^64) : Cp 12 [LI c, LW a, LW b, LW t, LU a2, LU b2, LU t2] (LB true) := by
  obtain ⟨L, hL⟩ := lg_ex
  obtain ⟨R, hR⟩ := rg_ex
  refine cp_of (t12 R L c a b t a2 b2 t2) ?_
  have e1 : R.hd 23 8 c a b t = hdN 23 8 c a b t := hR.hd 23 8 c a b t
  have e2 : R.hw false c a b t = hdN 23 8 c a b t := hR.hw false c a b t
  have e3 : R.hd 52 11 c a2 b2 t2 = hdN 52 11 c a2 b2 t2 := hR.hd 52 11 c a2 b2 t2
  have e4 : R.hw true c a2 b2 t2 = hdN 52 11 c a2 b2 t2 := hR.hw true c a2 b2 t2
  rw [u64_nat (n := a) (by omega), u64_nat (n := b) (by omega), u64_nat (n := t) (by omega), e1, e2, e3, e4, hL.live]
  simp only [beqb_same, brt]
  exact ⟨singleHolds_cn c ha hb ht, holdsR_cn false c ha hb ht, doubleHolds_cn c ha2 hb2 ht2, holdsR_cn true c ha2 hb2 ht2, lv4⟩
theorem law_ints (w : Bool) {n x y : Nat} (hn : n < 2^32) (hx : x < 2^32) (hy : y < 2^64) : Cp 14 [LW n, LW x, LU y, LB w] (LB true) := by
  obtain ⟨L, hL⟩ := lg_ex
  obtain ⟨R, hR⟩ := rg_ex
  refine cp_of (t14 R L n x y w) ?_
  have e1 : R.of 23 8 n = (ofN 23 8 n : Nat) := hR.of 23 8 n
  have e2 : R.of 52 11 n = (ofN 52 11 n : Nat) := hR.of 52 11 n
  have e3 : R.ow false n = (ofN 23 8 n : Nat) := hR.ow false n
  have e4 : R.ow true n = (ofN 52 11 n : Nat) := hR.ow true n
  have e5 : R.it 23 8 x w = (itN 23 8 x w : Nat) := hR.it 23 8 x w
  have e6 : R.it 52 11 y w = (itN 52 11 y w : Nat) := hR.it 52 11 y w
  have e7 : R.iw false x w = (itN 23 8 x w : Nat) := hR.iw false x w
  have e8 : R.iw true y w = (itN 52 11 y w : Nat) := hR.iw true y w
  have hl := of_lt (M := 23) (X := 8) n
  rw [u64_nat (n := x) (by omega), e1, e2, e3, e4, e5, e6, e7, e8, u64_nat (Fl.a64 ok32.ok hl), hL.live]
  simp only [beq_same, brt]
  exact ⟨singleOf_cn hn, ofR_cn false hn, doubleOf_cn hn, ofR_cn true hn, singleInt_cn hx w, intR_cn false w hx, doubleInt_cn hy w, intR_cn true w hy, lv4⟩
theorem law_changes {x y : Nat} (hx : x < 2^32) (hy : y < 2^64) : Cp 17 [LW x, LU y] (LB true) := by
  obtain ⟨L, hL⟩ := lg_ex
  obtain ⟨R, hR⟩ := rg_ex
  refine cp_of (t17 R L x y) ?_
  have e1 : R.wi x = (convN 23 8 52 11 x : Nat) := hR.wi x
  have e2 : R.ch true x = (convN 23 8 52 11 x : Nat) := hR.ch true x
  have e3 : R.na y = (convN 52 11 23 8 y : Nat) := hR.na y
  have e4 : R.ch false y = (convN 52 11 23 8 y : Nat) := hR.ch false y
  have hl := conv_lt (M := 52) (X := 11) (a := y) ok32
  have j := hR.jo (y / 2^32) (y % 2^32)
  have ej : y / 2^32 * 2^32 + y % 2^32 = y := by omega
  rw [ej] at j
  have d1 : ((y : Int)).tdiv 4294967296 = ((y / 2^32 : Nat) : Int) := rfl
  have d2 : ((y : Int)).tmod 4294967296 = ((y % 2^32 : Nat) : Int) := rfl
  have jn := join_cn (a := y / 2^32) (b := y % 2^32) (by omega) (by omega)
  rw [ej] at jn
  rw [u64_nat (n := x) (by omega), e1, e2, e3, e4, u64_nat (Fl.a64 ok32.ok hl), hR.hi, hR.lo, d1, d2, u64_nat (n := y / 2^32) (by omega), u64_nat (n := y % 2^32) (by omega), j, hL.live]
  simp only [beq_same, brt]
  exact ⟨split_cn hy, widen_cn hx, change_cn true hx, narrow_cn hy, change_cn false hy, jn, lv4⟩
end Go.Proofs.Ytpliondhiahhnaa.K
