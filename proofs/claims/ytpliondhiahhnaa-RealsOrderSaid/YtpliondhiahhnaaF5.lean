/- RealsBack, RealsCounts: the laws as contracts. -/
import Derived.Test.YtpliondhiahhnaaF4
set_option linter.unusedVariables false
namespace Go.Proofs.Ytpliondhiahhnaa.K
open Sx Fl Go Go.RowKit
set_option maxRecDepth 100000
variable {M X : Nat} {a b : Nat}
variable {M' X' c : Nat}
theorem back_num (h : W2 M X M' X' c) (hx : a < 2^(1+X+M)) (k : kd M X a ≠ 4) : convN M' X' M X (convN M X M' X' a) = a := back_Wg h hx k
theorem back_nan (h : W2 M X M' X' c) (k : kd M X a = 4) : convN M' X' M X (convN M X M' X' a) = nanc M X := by
  have q1 : convN M X M' X' a = nanc M' X' := cv_nang k
  rw [q1]; exact nan_Wg h
theorem nan23 : nanc 23 8 = 2143289344 := by decide
theorem law_back {x : Nat} (hx : x < 2^32) : Cp 15 [LW x] (LB true) := by
  obtain ⟨L, hL⟩ := lg_ex
  obtain ⟨R, hR⟩ := rg_ex
  refine cp_of (t15 R L x) ?_
  have hy : convN 23 8 52 11 x < 2^64 := conv_lt (M := 23) (X := 8) (a := x) ok64
  have e1 : R.wi x = (convN 23 8 52 11 x : Nat) := hR.wi x
  have e2 : R.na (convN 23 8 52 11 x : Nat) = (convN 52 11 23 8 (convN 23 8 52 11 x) : Nat) := hR.na _
  have e3 : R.hd 23 8 7 x 0 0 = hdN 23 8 7 x 0 0 := hR.hd 23 8 7 x 0 0
  have e4 : hdN 23 8 7 x 0 0 = decide (kd 23 8 x = 4) := by rw [hd_eq, if_neg (by decide), if_neg (by decide), if_neg (by decide), if_neg (by decide), if_neg (by decide), if_neg (by decide), if_pos rfl]
  have ch := singleHolds_cn (a := x) (b := 0) (t := 0) 7 hx (by decide) (by decide)
  rw [e4] at ch
  rw [e1, e2, e3, e4, shl1, twice_mg hx, hL.live]
  have hn4 : kd 23 8 x = 4 → 2139095040 < mg 23 8 x := fun h => by have := mg_nan h; rwa [infc23] at this
  have hn0 : kd 23 8 x ≠ 4 → mg 23 8 x ≤ 2139095040 := fun h => by have := mg_le_inf (M := 23) (X := 8) (a := x) (by decide) h; rwa [infc23] at this
  have wc := widen_cn hx
  have nc := narrow_cn hy
  have bk : kd 23 8 x ≠ 4 → convN 52 11 23 8 (convN 23 8 52 11 x) = x := fun h => back_num w23 (p32 hx) h
  have bn : kd 23 8 x = 4 → convN 52 11 23 8 (convN 23 8 52 11 x) = 2143289344 := fun h => (back_nan w23 h).trans nan23
  clear e1 e2 e3 e4 hL hR hy
  generalize convN 52 11 23 8 (convN 23 8 52 11 x) = V at *
  generalize convN 23 8 52 11 x = W at *
  generalize kd 23 8 x = k at *
  generalize mg 23 8 x = g at *
  refine ⟨wc, ?_⟩
  refine ⟨nc, ?_⟩
  refine ⟨ch, ?_⟩
  refine brD (fun h => ?_) (fun h => ?_)
  · have h1 := hn4 h
    have eb : (((2143289344 : Nat) : Int) == 2143289344) = true := by rw [eqd]; exact decide_eq_true rfl
    rw [bn h, eb, brt]
    have q : ((2 * g : Nat) : Int) > 4278190080 := by omega
    rw [decide_eq_true q, brt]
    exact lv4
  · have h1 := hn0 h
    rw [bk h, beq_same, brt]
    have q : ((2 * g : Nat) : Int) ≤ 4278190080 := by omega
    rw [decide_eq_true q, brt]
    exact lv4
/-! ### integers as patterns -/
theorem int_rep2 (hf : Okf M X) (hb : M < bia X) {n : Nat} (hn : n ≤ 2^(M+1)) : ∃ p, p < infc M X ∧ near M X n 1 0 = p ∧ val M p = n * 2^(bs M X) := by
  have hm := hf.m1
  obtain ⟨t, ht⟩ : ∃ t, bs M X = t + 1 := ⟨bs M X - 1, by rw [bs_eq]; omega⟩
  have hp : ∃ p, val M p = n * 2^(bs M X) := by
    rcases Nat.lt_or_eq_of_le hn with h | h
    · obtain ⟨p, hp⟩ := val_ex M t n h
      exact ⟨p, by rw [hp, ht, Nat.pow_succ]; ac_rfl⟩
    · exact ⟨bs M X * 2^M + 2^M, by rw [val_code (pow_le (by omega)) (.inr (Nat.le_refl _)), h, Nat.pow_succ]; ac_rfl⟩
  obtain ⟨p, hv⟩ := hp
  have hlt : p < infc M X := by
    rw [← val_lt_iff (m := M), hv, val_infc hf]
    have hX := pow_X hf.ok
    have h1 : n * 2^(bs M X) ≤ 2^(M+1) * 2^(bs M X) := Nat.mul_le_mul_right _ hn
    rw [← Nat.pow_add] at h1
    have h2 : 2^(M + 1 + bs M X) < 2^(M + 1 + (2^X - 2)) := pow_lt (by rw [bs_eq]; omega)
    omega
  refine ⟨p, hlt, ?_, hv⟩
  rw [near_one (by omega), show ((0 : Int) + (bs M X : Int)).toNat = bs M X by omega, ← hv]
  have := rnd_val (m := M) (inf := infc M X) (D := 1) (p := p) (by omega) (by decide) (Nat.le_of_lt hlt)
  rwa [Nat.mul_one] at this
theorem int_sv2 (hf : Okf M X) (hb : M < bia X) (s : Bool) {n : Nat} (hn : n ≤ 2^(M+1)) : fin12 M X (sgn M X s + near M X n 1 0) ∧ va M X (sgn M X s + near M X n 1 0) = n * 2^(bs M X) ∧ sv M X (sgn M X s + near M X n 1 0) = sg s (n * 2^(bs M X)) := by
  obtain ⟨p, h1, h2, h3⟩ := int_rep2 hf hb hn
  have hlt : p < 2^(X+M) := Nat.lt_trans h1 (infc_lt' M X)
  rw [h2]
  have hf12 : fin12 M X (sgn M X s + p) := fin12_lt (by rw [mg_small s hlt]; exact h1)
  have hva : va M X (sgn M X s + p) = n * 2^(bs M X) := by rw [va_mg hf12, mg_small s hlt, h3]
  refine ⟨hf12, hva, ?_⟩
  unfold sv; rw [hva, ng_made s hlt]
theorem whole_int (hf : Okf M X) (f : fin12 M X a) {n : Nat} (hv : va M X a = n * 2^(bs M X)) (u : Bool) : wholeN M X a u = min n mx40 := by
  have hbs := ex_bs f
  rw [whole_spec u f]
  congr 1
  unfold va at hv
  unfold wq
  by_cases h : 0 ≤ ex M X a
  · rw [if_pos h]
    rw [show (ex M X a + (bs M X : Int)).toNat = (ex M X a).toNat + bs M X by omega, Nat.pow_add, ← Nat.mul_assoc] at hv
    exact Nat.eq_of_mul_eq_mul_right (two_pow_pos _) hv
  · rw [if_neg h]
    obtain ⟨k, hk⟩ : ∃ k : Nat, ex M X a = -(k : Int) := ⟨(-ex M X a).toNat, by omega⟩
    have e1 : (ex M X a + (bs M X : Int)).toNat = bs M X - k := by omega
    have e2 : 2^(bs M X) = 2^k * 2^(bs M X - k) := by rw [← Nat.pow_add]; congr 1; omega
    rw [e1, e2, ← Nat.mul_assoc] at hv
    have hmn : mn M X a = n * 2^k := Nat.eq_of_mul_eq_mul_right (two_pow_pos _) hv
    have hpk := two_pow_pos k
    rw [hk, show (- -(k : Int)).toNat = k by omega, hmn, Nat.mul_mod_left, Nat.mul_div_cancel _ hpk, if_neg (by omega), Nat.add_zero]
/-- an integer's sign and size -/
def s32 (n : Nat) : Int := if 2^31 ≤ n then (n : Int) - 2^32 else n
def ab32 (n : Nat) : Nat := if 2^31 ≤ n then 2^32 - n else n
theorem of_form (M X n : Nat) : ofN M X n = sgn M X (decide (2^31 ≤ n)) + near M X (ab32 n) 1 0 := by
  unfold ofN ab32; split
  · rename_i h; rw [decide_eq_true h]
  · rename_i h; rw [decide_eq_false h]
theorem ab_le {n : Nat} (h : n < 2^32) : ab32 n ≤ 2^31 := by unfold ab32; split <;> omega
theorem sg_ab {n : Nat} (h : n < 2^32) : sg (decide (2^31 ≤ n)) (ab32 n) = s32 n := by
  unfold sg ab32 s32
  by_cases c : 2^31 ≤ n
  · rw [decide_eq_true c, if_pos rfl, if_pos c, if_pos c]; omega
  · rw [decide_eq_false c, if_neg (by decide), if_neg c, if_neg c]
theorem it_int (hf : Okf M X) (hb : M < bia X) (s : Bool) {k : Nat} (hk : k ≤ 2^(M+1)) (hk2 : k ≤ 2^33) (u : Bool) : itN M X (sgn M X s + near M X k 1 0) u = if s = true then (2^32 - min k (2^31)) % 2^32 else min k (2^31 - 1) := by
  obtain ⟨f, hv, _⟩ := int_sv2 hf hb s hk
  have hw := whole_int hf f hv u
  have hn : ng M X (sgn M X s + near M X k 1 0) = s := ng_made s (near_lt ..)
  have e40 : mx40 = 2^40 := rfl
  unfold itN
  rw [hw, hn, Nat.min_eq_left (show k ≤ mx40 by rw [e40]; exact Nat.le_trans hk2 (pow_le (by decide)))]
theorem it_of (hf : Okf M X) (hb : M < bia X) {n : Nat} (h : n < 2^32) (hk : ab32 n ≤ 2^(M+1)) (u : Bool) : itN M X (ofN M X n) u = n := by
  have ha := ab_le h
  rw [of_form, it_int hf hb _ hk (Nat.le_trans ha (by decide))]
  unfold ab32 at *
  by_cases c : 2^31 ≤ n
  · rw [if_pos (decide_eq_true c), if_pos c]; omega
  · rw [if_neg (by rw [decide_eq_false c]; decide), if_neg c]; omega
theorem conv_int {M' X' c : Nat} (h : W2 M X M' X' c) (s : Bool) {n : Nat} (hn : n < 2^(M'+1)) : convN M' X' M X (sgn M' X' s + near M' X' n 1 0) = sgn M X s + near M X n 1 0 := by
  have hm := h.f.m1; have hmg1 := h.g.m1
  have hb1 : 1 ≤ bs M' X' := by have := h.bs; have := h.c1; omega
  obtain ⟨p, hp⟩ := val_Wg (M' := M') hn hb1
  rw [near_uv (M := M') (u := bs M' X') (v := 0) (by omega) (by decide) (by omega), near_uv (M := M) (u := bs M' X') (v := c + (M+3)) (by omega) (by decide) (by have := h.bs; omega), Nat.pow_zero, Nat.mul_one]
  exact conv_valg h _ (by decide) hp
theorem narrow_of {M' X' c : Nat} (h : W2 M X M' X' c) (h32 : 31 ≤ M') {n : Nat} (hn : n < 2^32) : convN M' X' M X (ofN M' X' n) = ofN M X n := by
  rw [of_form, of_form]
  refine conv_int h _ (Nat.lt_of_le_of_lt (ab_le hn) (pow_lt (by omega)))
theorem sv_of (hf : Okf M X) (hb : M < bia X) (h30 : 30 ≤ M) {n : Nat} (h : n < 2^32) : fin12 M X (ofN M X n) ∧ sv M X (ofN M X n) = s32 n * (2^(bs M X) : Nat) := by
  have ha : ab32 n ≤ 2^(M+1) := Nat.le_trans (ab_le h) (pow_le (by omega))
  obtain ⟨f, _, hs⟩ := int_sv2 hf hb (decide (2^31 ≤ n)) ha
  rw [← of_form] at f hs
  exact ⟨f, by rw [hs, sg_mul, sg_ab h]⟩
/-- what the sum of two integers' patterns is as an integer -/
theorem sum_of (hf : Okf M X) (hb : M < bia X) (h31 : 31 ≤ M) {n m : Nat} (hn : n < 2^32) (hm : m < 2^32) (u : Bool) :
    itN M X (addN M X (ofN M X n) (ofN M X m)) u = if s32 n + s32 m < 0 then (2^32 - min (s32 n + s32 m).natAbs (2^31)) % 2^32 else min (s32 n + s32 m).natAbs (2^31 - 1) := by
  have hm1 := hf.m1
  obtain ⟨f1, v1⟩ := sv_of hf hb (by omega) hn
  obtain ⟨f2, v2⟩ := sv_of hf hb (by omega) hm
  have l1 := of_lt (M := M) (X := X) n
  have l2 := of_lt (M := M) (X := X) m
  have hs := add_plc hf l1 l2 f1 f2
  have hlt := add_lt hf l1 l2
  rw [v1, v2, ← Int.add_mul] at hs
  have b1 : -2^31 ≤ s32 n ∧ s32 n ≤ 2^31 := by unfold s32; split <;> omega
  have b2 : -2^31 ≤ s32 m ∧ s32 m ≤ 2^31 := by unfold s32; split <;> omega
  have bS : -2^32 ≤ s32 n + s32 m ∧ s32 n + s32 m ≤ 2^32 := by omega
  generalize addN M X (ofN M X n) (ofN M X m) = z at *
  generalize s32 n + s32 m = S at *
  obtain ⟨t, j, hj, hS, htt⟩ : ∃ t j, j = S.natAbs ∧ S = sg t j ∧ (t = true ↔ S < 0) := by
    by_cases c : S < 0
    · exact ⟨true, S.natAbs, rfl, by unfold sg; rw [if_pos rfl]; omega, by simp [c]⟩
    · exact ⟨false, S.natAbs, rfl, by unfold sg; rw [if_neg (by decide)]; omega, by simp [c]⟩
  have hj2 : j ≤ 2^32 := by omega
  have hjM : j ≤ 2^(M+1) := Nat.le_trans hj2 (pow_le (by omega))
  have e : plc M X z = plc M X (sgn M X t + near M X j 1 0) := by
    rw [hs, plc_near (by omega) t (by omega), hS, ← sg_mul]; congr 3
    rw [show ((0 : Int) + (bs M X : Int)).toNat = bs M X by omega]
  rw [← hj]
  by_cases h0 : j = 0
  · have hp0 : plc M X z = 0 := by
      rw [e, h0, near_zero, Nat.add_zero]
      have := plc_made (M := M) (X := X) t (n := 0) (two_pow_pos _)
      rw [Nat.add_zero] at this; rw [this, sg_zero]
    have hmg := (plc_zero_iff hlt).1 hp0
    have hk : kd M X z = 1 := by
      rcases kd_cases M X z with k | k | k | k
      · exact k
      · exact absurd hmg (mg_pos2 k)
      · rw [mg_inf k] at hmg; have := infc_pos (M := M) (X := X) (by have := hf.x1; omega); omega
      · have := mg_nan k; omega
    have hw : wholeN M X z u = 0 := by unfold wholeN; rw [if_pos hk]
    unfold itN
    rw [hw, h0]
    split
    · split <;> omega
    · split <;> omega
  · have hne : plc M X z ≠ 0 := by
      rw [e, plc_near (by omega) t (by omega), rz_sg (by omega)]
      have := near_pos hf (n := j) (e := 0) (by omega) (by rw [bs_eq]; omega)
      rw [near_one (by omega)] at this
      unfold sg; split <;> omega
    have ez := plc_inj hlt (made_lt t (near_lt ..)) e hne
    rw [ez, it_int hf hb t hjM (by omega)]
    by_cases c : S < 0
    · rw [if_pos c, if_pos (htt.2 c)]
    · rw [if_neg c, if_neg (fun h => c (htt.1 h))]
theorem lt_of_of (hf : Okf M X) (hb : M < bia X) (h31 : 31 ≤ M) {n m : Nat} (hn : n < 2^32) (hm : m < 2^32) (t : Nat) : hdN M X 3 (ofN M X n) (ofN M X m) t = decide (s32 n < s32 m) := by
  obtain ⟨f1, v1⟩ := sv_of hf hb (by omega) hn
  obtain ⟨f2, v2⟩ := sv_of hf hb (by omega) hm
  have l1 := of_lt (M := M) (X := X) n
  have l2 := of_lt (M := M) (X := X) m
  have ho := notodd (M := M) (X := X) (a := ofN M X n) (b := ofN M X m) (by unfold fin12 at f1; omega) (by unfold fin12 at f2; omega)
  have i1 := plc_lt_iff l1 l2 f1 f2
  rw [v1, v2] at i1
  have hP : (0 : Int) < ((2^(bs M X) : Nat) : Int) := by have := two_pow_pos (bs M X); omega
  have m1 : s32 n * ((2^(bs M X) : Nat) : Int) < s32 m * ((2^(bs M X) : Nat) : Int) ↔ s32 n < s32 m := ⟨fun h => Int.lt_of_mul_lt_mul_right h (by omega), fun h => Int.mul_lt_mul_of_pos_right h hP⟩
  rw [m1] at i1
  rw [hd_eq, if_neg (by decide), if_neg (by decide), if_pos rfl, ho, cmpN_of ho]
  rw [Bool.not_false, Bool.true_and, decide_eq_decide, ← i1]
  unfold cmpI; split
  · rename_i h; exact ⟨fun _ => h, fun _ => by decide⟩
  · rename_i h; split
    · exact ⟨fun h2 => absurd h2 (by decide), fun h2 => absurd h2 h⟩
    · exact ⟨fun h2 => absurd h2 (by decide), fun h2 => absurd h2 h⟩
theorem i32w {n : Nat} (h : n < 2^32) : IntKind.i32.wrap (n : Int) = s32 n := by
  unfold s32; split
  · rw [IntKind.wrap_i32]; omega
  · rw [IntKind.wrap_i32]; omega
theorem u32i (z : Int) : IntKind.u32.wrap z = z % 4294967296 := by simp [IntKind.wrap, IntKind.bits, IntKind.signed]
theorem clampW (S : Int) (h1 : -2^33 ≤ S) (h2 : S ≤ 2^33) : IntKind.u32.wrap (if -2147483648 > if 2147483647 < S then 2147483647 else S then -2147483648 else if 2147483647 < S then 2147483647 else S) = ((if S < 0 then (2^32 - min S.natAbs (2^31)) % 2^32 else min S.natAbs (2^31 - 1) : Nat) : Int) := by
  rw [u32i]
  by_cases c : S < 0
  · rw [if_pos c]
    by_cases d : S < -2147483648
    · rw [if_neg (show ¬ 2147483647 < S by omega), if_pos (by omega), Nat.min_eq_right (by omega)]; rfl
    · rw [if_neg (show ¬ 2147483647 < S by omega), if_neg (by omega), Nat.min_eq_left (by omega)]; omega
  · rw [if_neg c]
    by_cases d : 2147483647 < S
    · rw [if_pos d, if_neg (by omega), Nat.min_eq_right (by omega)]; rfl
    · rw [if_neg d, if_neg (by omega), Nat.min_eq_left (by omega)]; omega
theorem law_counts (w : Bool) {n m : Nat} (hn : n < 2^32) (hm : m < 2^32) : Cp 18 [LW n, LW m, LB w] (LB true) := by
  obtain ⟨L, hL⟩ := lg_ex
  obtain ⟨R, hR⟩ := rg_ex
  refine cp_of (t18 R L n m w) ?_
  obtain ⟨V, hV⟩ : ∃ V : Int, V = IntKind.u32.wrap ((n : Int) + 16777216) := ⟨_, rfl⟩
  rw [← hV]
  have b64 : 52 < bia 11 := by decide
  have b32 : 23 < bia 8 := by decide
  have lx : ofN 52 11 n < 2^64 := of_lt (M := 52) (X := 11) n
  have ly : ofN 52 11 m < 2^64 := of_lt (M := 52) (X := 11) m
  have lz : ofN 23 8 n < 2^32 := of_lt (M := 23) (X := 8) n
  have ls : rkN 52 11 1 (ofN 52 11 n) (ofN 52 11 m) < 2^64 := rk_lt ok64 1 (p64 lx) (p64 ly)
  have rk1 : rkN 52 11 1 (ofN 52 11 n) (ofN 52 11 m) = addN 52 11 (ofN 52 11 n) (ofN 52 11 m) := by unfold rkN; rw [if_pos rfl]
  have i1 : itN 52 11 (ofN 52 11 n) w = n := it_of ok64 b64 hn (Nat.le_trans (ab_le hn) (pow_le (by decide))) w
  have nr : convN 52 11 23 8 (ofN 52 11 n) = ofN 23 8 n := narrow_of w23 (by decide) hn
  have sm := sum_of ok64 b64 (by decide) hn hm w
  have lt := lt_of_of ok64 b64 (by decide) hn hm 0
  have c1 := doubleOf_cn hn
  have c2 := doubleOf_cn hm
  have c3 := doubleInt_cn lx w
  have c4 := singleOf_cn hn
  have c5 := narrow_cn lx
  have c6 := singleInt_cn lz w
  have c7 := double_cn' 1 lx ly
  have c8 := doubleInt_cn ls w
  have c9 := doubleHolds_cn (t := 0) 3 lx ly (by decide)
  have in1 : ab32 n ≤ 2^24 → itN 23 8 (ofN 23 8 n) w = n := fun h => it_of ok32 b32 hn h w
  rw [rk1] at c7 c8
  rw [i1] at c3
  rw [nr] at c5
  rw [lt] at c9
  rw [sm] at c8
  have r1 : reI 1 = 0 := rfl
  rw [r1] at c7
  have e1 : R.of 52 11 n = (ofN 52 11 n : Nat) := hR.of 52 11 n
  have e2 : R.of 52 11 m = (ofN 52 11 m : Nat) := hR.of 52 11 m
  have e3 : R.of 23 8 n = (ofN 23 8 n : Nat) := hR.of 23 8 n
  have e4 : R.it 52 11 (ofN 52 11 n : Nat) w = (n : Nat) := (hR.it 52 11 (ofN 52 11 n) w).trans (congrArg Nat.cast i1)
  have e5 : R.na (ofN 52 11 n : Nat) = (ofN 23 8 n : Nat) := (hR.na (ofN 52 11 n)).trans (congrArg Nat.cast nr)
  have e6 : R.it 23 8 (ofN 23 8 n : Nat) w = (itN 23 8 (ofN 23 8 n) w : Nat) := hR.it 23 8 _ w
  have e7 : R.rk 52 11 1 (ofN 52 11 n : Nat) (ofN 52 11 m : Nat) = (addN 52 11 (ofN 52 11 n) (ofN 52 11 m) : Nat) := (hR.rk 52 11 1 _ _).trans (congrArg Nat.cast rk1)
  have e8 : R.it 52 11 (addN 52 11 (ofN 52 11 n) (ofN 52 11 m) : Nat) w = (itN 52 11 (addN 52 11 (ofN 52 11 n) (ofN 52 11 m)) w : Nat) := hR.it 52 11 _ w
  have e9 : R.hd 52 11 3 (ofN 52 11 n : Nat) (ofN 52 11 m : Nat) 0 = decide (s32 n < s32 m) := (hR.hd 52 11 3 _ _ 0).trans lt
  have r2 : R.re 1 = 0 := hR.re 1
  have d1 : -2^31 ≤ s32 n ∧ s32 n < 2^31 := by unfold s32; split <;> omega
  have d2 : -2^31 ≤ s32 m ∧ s32 m < 2^31 := by unfold s32; split <;> omega
  rw [e1, e2, e3, e4, e5, e6, e7, e8, e9, r2, sm, i32w hn, i32w hm, i64_in (n := s32 n) (by omega) (by omega), i64_in (n := s32 m) (by omega) (by omega), i64_in (n := s32 n + s32 m) (by omega) (by omega), clampW _ (by omega) (by omega), hL.live]
  have rng : V ≤ 33554432 → ab32 n ≤ 2^24 := fun h => by
    rw [hV, u32i] at h
    unfold ab32; split <;> omega
  clear hV e1 e2 e3 e4 e5 e6 e7 e8 e9 r2 sm lt rk1 i1 nr hR hL
  generalize addN 52 11 (ofN 52 11 n) (ofN 52 11 m) = S at *
  generalize itN 23 8 (ofN 23 8 n) w = T at *
  generalize ofN 52 11 n = x at *
  generalize ofN 52 11 m = y at *
  generalize ofN 23 8 n = z at *
  generalize (if s32 n + s32 m < 0 then (2^32 - min (s32 n + s32 m).natAbs (2^31)) % 2^32 else min (s32 n + s32 m).natAbs (2^31 - 1)) = Q at *
  generalize decide (s32 n < s32 m) = B at *
  have bn : ∀ k : Int, (k != k) = false := fun k => by simp
  have z00 : ((0 : Int) == 0) = true := rfl
  rw [bn, brf, bn, brf, z00, brt, beq_same, brt, beqb_same, brt]
  refine ⟨c1, c2, c3, c4, c5, ?_⟩
  have tail : Wt (LB true) (.call 47 [] (LB true) (.ret (LB true))) := lv4
  rcases Int.lt_or_le 33554432 V with h | h
  · rw [decide_eq_false (Int.not_le.2 h), brf]
    exact ⟨c7, num4_cn 0, c8, c9, lv4⟩
  · rw [decide_eq_true h, brt]
    have hT := in1 (rng h)
    rw [hT] at c6 ⊢
    rw [bn, brf]
    exact ⟨c4, c6, c7, num4_cn 0, c8, c9, lv4⟩
end Go.Proofs.Ytpliondhiahhnaa.K
