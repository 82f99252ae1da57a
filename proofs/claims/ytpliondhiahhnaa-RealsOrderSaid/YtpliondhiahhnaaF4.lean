/- Reckoned in any format that is wide enough and converted back: singles in doubles. -/
import Derived.Test.YtpliondhiahhnaaF3
set_option linter.unusedVariables false
namespace Go.Proofs.Ytpliondhiahhnaa.K
open Sx Fl Go Go.RowKit
set_option maxRecDepth 100000
variable {M X M' X' c : Nat} {a b : Nat}
theorem off_G {M M' c I I' N D : Nat} (hMM : 2*M+4 ≤ M') (hc : 1 ≤ c) (hbig : ∀ q, q < I → mhi M c q < val M' I') (h : Off M c I N D) :
    ∀ q, q < I → N = mid M q * 2^(c + (M + 3)) * D ∨ (∃ p, N ≤ val M' p * D ∧ val M' p < mid M q * 2^(c + (M + 3))) ∨ (∃ p, p ≤ I' ∧ mid M q * 2^(c + (M + 3)) < val M' p ∧ val M' p * D ≤ N) := by
  intro q hq
  obtain ⟨b1, b2⟩ := mid_between M c q
  have hp := two_pow_pos (ge M q + c)
  have ho := odd_lt M q
  have hJ := two_pow_pos (M+3)
  have hmul : (2 * sig M q + 1) * 2^(M+3) + 2^(M+3) ≤ 2^(M'+1) := by
    have := Nat.mul_le_mul_right (2^(M+3)) ho
    rw [← Nat.pow_add, Nat.add_mul (2 * sig M q + 1) 1, Nat.one_mul] at this
    exact Nat.le_trans this (pow_le (by omega))
  have hJ2 : 2^1 ≤ 2^(M+3) := pow_le (by omega)
  obtain ⟨t, ht⟩ : ∃ t, ge M q + c = t + 1 := ⟨ge M q + c - 1, by omega⟩
  have ex1 : ∀ w : Nat, w < 2^(M'+1) → ∃ p, val M' p = w * 2^(ge M q + c) := fun w hw => by
    obtain ⟨p, hp⟩ := val_ex M' t w hw
    exact ⟨p, by rw [hp, ht, Nat.pow_succ]; ac_rfl⟩
  rcases h q hq with h | h | h
  · exact .inl h
  · obtain ⟨p, e⟩ := ex1 ((2 * sig M q + 1) * 2^(M+3) - 1) (by omega)
    refine .inr (.inl ⟨p, ?_, ?_⟩)
    · rw [e]; exact h
    · rw [e]; show mlo M c q < _; omega
  · obtain ⟨p, e⟩ := ex1 ((2 * sig M q + 1) * 2^(M+3) + 1) (by omega)
    refine .inr (.inr ⟨p, ?_, ?_, ?_⟩)
    · have := hbig q hq
      have e2 : val M' p = mhi M c q := e
      rw [← e2] at this
      exact Nat.le_of_lt (val_lt_iff.1 this)
    · rw [e]; show _ < mhi M c q; omega
    · rw [e]; exact h
/-- a format that is wide enough behind another -/
structure W2 (M X M' X' c : Nat) : Prop where
  f : Okf M X
  g : Okf M' X'
  hm : 2*M+4 ≤ M'
  bs : Fl.bs M' X' = Fl.bs M X + (c + (M+3))
  c1 : 1 ≤ c
  m23 : M ≤ 23
  big : 2^X + c + 2*M + 5 ≤ M' + 2^X'
  lo : 2 * (bia X + M) ≤ Fl.bs M' X'
theorem big_Wg (h : W2 M X M' X' c) : ∀ q, q < infc M X → mhi M c q < val M' (infc M' X') := by
  intro q hq
  obtain ⟨b1, b2⟩ := mid_between M c q
  rw [b2, val_infc h.g]
  have h1 : mid M q < val M (infc M X) := Nat.lt_of_lt_of_le (mid_lt_val_succ M q) (val_le hq)
  rw [val_infc h.f] at h1
  have h2 : mid M q * 2^(c + (M+3)) < 2^(M + 1 + (2^X - 2)) * 2^(c + (M+3)) := Nat.mul_lt_mul_of_pos_right h1 (two_pow_pos _)
  have h3 : 2^(ge M q + c) ≤ mid M q * 2^(c + (M+3)) := by
    rw [Nat.pow_add]
    exact Nat.mul_le_mul (pow_ge_mid M q) (pow_le (by omega))
  have hx2 := two_pow_pos X
  have hx4 : 2^2 ≤ 2^X := pow_le h.f.x1
  have hx5 : 2^2 ≤ 2^X' := pow_le h.g.x1
  have hbig := h.big
  have h4 : 2 * (2^(M + 1 + (2^X - 2)) * 2^(c + (M+3))) ≤ 2^(M'+1 + (2^X' - 2)) := by
    rw [← Nat.pow_add, ← Nat.pow_succ']
    exact pow_le (by omega)
  omega
theorem rep_Wg (h : W2 M X M' X' c) : ∀ q, q < infc M X → ∃ p, p < infc M' X' ∧ mid M q * 2^(c + (M+3)) = val M' p := by
  intro q hq
  have hb := big_Wg h q hq
  obtain ⟨b1, b2⟩ := mid_between M c q
  have ho := odd_lt M q
  obtain ⟨t, ht⟩ : ∃ t, ge M q + c = t + 1 := ⟨ge M q + c - 1, by have := h.c1; omega⟩
  have hmul : (2 * sig M q + 1) * 2^(M+3) < 2^(M'+1) := by
    have h1 : (2 * sig M q + 1) * 2^(M+3) < 2^(M+2) * 2^(M+3) := Nat.mul_lt_mul_of_pos_right (by omega) (two_pow_pos _)
    rw [← Nat.pow_add] at h1
    exact Nat.lt_of_lt_of_le h1 (pow_le (by have := h.hm; omega))
  obtain ⟨p, hp⟩ := val_ex M' t _ hmul
  have e : mid M q * 2^(c + (M+3)) = val M' p := by rw [hp, mid_mul, ht, Nat.pow_succ 2 t]; ac_rfl
  refine ⟨p, ?_, e⟩
  rw [← val_lt_iff (m := M'), ← e]
  have := two_pow_pos (ge M q + c)
  omega
theorem conv_rg (h : W2 M X M' X' c) (s : Bool) {r : Nat} (hr : r ≤ infc M' X') : convN M' X' M X (sgn M' X' s + r) = sgn M X s + rnd M (infc M X) (val M' r) (2^(c + (M+3))) := by
  have hm := h.f.m1; have hmg1 := h.g.m1; have hmm := h.hm
  have hlt : r < 2^(X'+M') := Nat.lt_of_le_of_lt hr (infc_lt' _ _)
  have hn := ng_made (M := M') (X := X') s hlt
  have hG := two_pow_pos (c + (M+3))
  rcases Nat.lt_or_eq_of_le hr with l | l
  · have hmg := mg_small (M := M') (X := X') s hlt
    have f12 : fin12 M' X' (sgn M' X' s + r) := fin12_lt (by rw [hmg]; exact l)
    have hva := va_mg f12
    rw [hmg] at hva
    have hbs := ex_bs f12
    unfold convN
    unfold fin12 at f12
    rw [if_neg (by omega), if_neg (by omega), hn]
    congr 1
    rw [near_uv (u := (ex M' X' (sgn M' X' s + r) + (bs M' X' : Int)).toNat) (v := c + (M+3)) (by omega) (by decide) (by have := h.bs; omega), Nat.one_mul]
    congr 1
  · have hT : To M (infc M X) (val M' (infc M' X')) (2^(c + (M+3))) (infc M X) := by
      refine ⟨Nat.le_refl _, fun h => absurd h (Nat.lt_irrefl _), fun j hj => .inl ?_⟩
      obtain ⟨p, h1, h2⟩ := rep_Wg h j (by omega)
      rw [h2]; exact val_mono h1
    have e : rnd M (infc M X) (val M' (infc M' X')) (2^(c + (M+3))) = infc M X := (rnd_to M (infc M X) _ _ (by omega) hG).uniq hG hG hT rfl
    have hk := kd_infc h.g s
    rw [← l] at e hk
    unfold convN
    rw [hk, if_neg (by decide), if_pos rfl, hn, e, Nat.add_comm]
theorem conv_rndg (h : W2 M X M' X' c) (s : Bool) {N D : Nat} (hD : 0 < D) (H : ∀ q, q < infc M X → N = mid M q * 2^(c + (M+3)) * D ∨ (∃ p, N ≤ val M' p * D ∧ val M' p < mid M q * 2^(c + (M+3))) ∨ (∃ p, p ≤ infc M' X' ∧ mid M q * 2^(c + (M+3)) < val M' p ∧ val M' p * D ≤ N)) :
    convN M' X' M X (sgn M' X' s + rnd M' (infc M' X') N D) = sgn M X s + rnd M (infc M X) N (D * 2^(c + (M+3))) := by
  have hm := h.f.m1; have hmg1 := h.g.m1; have hmm := h.hm
  rw [conv_rg h s (rnd_le ..), dround (by omega) (by omega) hD (two_pow_pos _) (rep_Wg h) H]
theorem conv_offg (h : W2 M X M' X' c) (s : Bool) {N D : Nat} (hD : 0 < D) (H : Off M c (infc M X) N D) : convN M' X' M X (sgn M' X' s + rnd M' (infc M' X') N D) = sgn M X s + rnd M (infc M X) N (D * 2^(c + (M+3))) :=
  conv_rndg h s hD (off_G h.hm h.c1 (big_Wg h) H)
theorem conv_valg (h : W2 M X M' X' c) (s : Bool) {N D p : Nat} (hD : 0 < D) (e : N = val M' p * D) : convN M' X' M X (sgn M' X' s + rnd M' (infc M' X') N D) = sgn M X s + rnd M (infc M X) N (D * 2^(c + (M+3))) := by
  refine conv_rndg h s hD (fun q hq => ?_)
  obtain ⟨p0, h1, h2⟩ := rep_Wg h q hq
  rcases Nat.lt_trichotomy p p0 with l | l | l
  · exact .inr (.inl ⟨p, Nat.le_of_eq e, by rw [h2]; exact val_mono l⟩)
  · left; rw [e, l, h2]
  · right; right
    by_cases hp : p ≤ infc M' X'
    · exact ⟨p, hp, by rw [h2]; exact val_mono l, Nat.le_of_eq e.symm⟩
    · exact ⟨infc M' X', Nat.le_refl _, by rw [h2]; exact val_mono h1, by rw [e]; exact Nat.mul_le_mul_right _ (val_le (by omega))⟩
/-- a whole multiple as a value of the wider format -/
theorem val_Wg {n u : Nat} (hn : n < 2^(M'+1)) (hu : 1 ≤ u) : ∃ p, n * 2^u = val M' p * 1 := by
  obtain ⟨t, rfl⟩ : ∃ t, u = t + 1 := ⟨u - 1, by omega⟩
  obtain ⟨p, hp⟩ := val_ex M' t n hn
  exact ⟨p, by rw [hp, Nat.pow_succ, Nat.mul_one]; ac_rfl⟩
/-- the pattern in the wider format -/
def cv2 (M X M' X' a : Nat) : Nat := convN M X M' X' a
theorem cv_fing (h : W2 M X M' X' c) (ha : fin12 M X a) : ∃ p, p < infc M' X' ∧ cv2 M X M' X' a = sgn M' X' (ng M X a) + p ∧ val M' p = mn M X a * 2^(ex M X a + (bs M' X' : Int)).toNat := by
  have hm := h.f.m1; have hmg1 := h.g.m1; have hmm := h.hm; have hx := h.f.x1
  have hbs := ex_bs ha
  have hg := h.bs
  obtain ⟨p, hp⟩ := val_Wg (M' := M') (n := mn M X a) (u := (ex M X a + (bs M' X' : Int)).toNat) (Nat.lt_of_lt_of_le (mn_lt M X a) (pow_le (by omega))) (by omega)
  rw [Nat.mul_one] at hp
  have hva : val M' p = val M (mg M X a) * 2^(c + (M+3)) := by
    rw [← hp, ← va_mg ha]; unfold va; rw [Nat.mul_assoc, ← Nat.pow_add]; congr 2; omega
  have hlt : p < infc M' X' := by
    have h1 := mg_lt_inf (show 1 ≤ X by omega) ha
    obtain ⟨p0, h2, h3⟩ := rep_Wg h _ h1
    refine Nat.lt_trans ?_ h2
    rw [← val_lt_iff (m := M'), hva, ← h3]
    exact Nat.mul_lt_mul_of_pos_right (val_lt_mid M _) (two_pow_pos _)
  refine ⟨p, hlt, ?_, hp.symm⟩
  unfold cv2 convN
  unfold fin12 at ha
  rw [if_neg (by omega), if_neg (by omega)]
  congr 1
  rw [near_uv (u := (ex M X a + (bs M' X' : Int)).toNat) (v := 0) (by omega) (by decide) (by omega), hp, Nat.pow_zero, Nat.mul_one]
  have := rnd_val (m := M') (inf := infc M' X') (D := 1) (p := p) (by omega) (by decide) (Nat.le_of_lt hlt)
  rwa [Nat.mul_one] at this
theorem cv_infg (h : kd M X a = 3) : cv2 M X M' X' a = sgn M' X' (ng M X a) + infc M' X' := by
  unfold cv2 convN; rw [if_neg (by omega), if_pos h, Nat.add_comm]
theorem cv_nang (h : kd M X a = 4) : cv2 M X M' X' a = nanc M' X' := by
  unfold cv2 convN; rw [if_pos h]
theorem cv_ltg (h : W2 M X M' X' c) : cv2 M X M' X' a < 2^(1+X'+M') := by
  have hm := h.f.m1; have hmg1 := h.g.m1; have hmm := h.hm
  have key : ∀ {s : Bool} {p : Nat}, p ≤ infc M' X' → sgn M' X' s + p < 2^(1+X'+M') := fun {s p} hp => made_lt s (Nat.lt_of_le_of_lt hp (infc_lt' _ _))
  rcases kd_cases M X a with k | k | k | k
  · obtain ⟨p, h1, h2, _⟩ := cv_fing h (.inl k); rw [h2]; exact key (Nat.le_of_lt h1)
  · obtain ⟨p, h1, h2, _⟩ := cv_fing h (.inr k); rw [h2]; exact key (Nat.le_of_lt h1)
  · rw [cv_infg k]; exact key (Nat.le_refl _)
  · rw [cv_nang k]
    have := nanc_lt (M := M') (X := X') (by omega)
    rw [pw2]; omega
theorem kd_cvg (h : W2 M X M' X' c) : kd M' X' (cv2 M X M' X' a) = kd M X a := by
  have fin : ∀ (f : fin12 M X a), kd M' X' (cv2 M X M' X' a) = kd M X a := fun f => by
    obtain ⟨p, h1, h2, h3⟩ := cv_fing h f
    have hlt : p < 2^(X'+M') := Nat.lt_trans h1 (infc_lt' _ _)
    have hmg := mg_small (M := M') (X := X') (ng M X a) hlt
    rw [h2]
    have f12 : fin12 M' X' (sgn M' X' (ng M X a) + p) := fin12_lt (by rw [hmg]; exact h1)
    rcases f with k | k
    · have hp : p = 0 := by
        have : val M' p = val M' 0 := by rw [h3, mn0 k, Nat.zero_mul, val_zero]
        exact val_inj this
      rw [hp, Nat.add_zero (sgn M' X' (ng M X a)), kd_sgn h.g, k]
    · rcases f12 with q | q
      · exfalso
        have hp := mg_zero q
        rw [hmg] at hp
        rw [hp, val_zero] at h3
        have := Nat.mul_pos (mn_pos k) (two_pow_pos (ex M X a + (bs M' X' : Int)).toNat)
        omega
      · rw [q, k]
  rcases kd_cases M X a with k | k | k | k
  · exact fin (.inl k)
  · exact fin (.inr k)
  · rw [cv_infg k, kd_infc h.g, k]
  · rw [cv_nang k, kd_nanc h.g, k]
theorem ng_cvg (h : W2 M X M' X' c) (k : kd M X a ≠ 4) : ng M' X' (cv2 M X M' X' a) = ng M X a := by
  by_cases k3 : kd M X a = 3
  · rw [cv_infg k3]; exact ng_made _ (infc_lt' _ _)
  · obtain ⟨p, h1, h2, h3⟩ := cv_fing h (fin12_of k k3)
    rw [h2]; exact ng_made _ (Nat.lt_trans h1 (infc_lt' _ _))
theorem va_cvg (h : W2 M X M' X' c) (f : fin12 M X a) : va M' X' (cv2 M X M' X' a) = mn M X a * 2^(ex M X a + (bs M' X' : Int)).toNat := by
  obtain ⟨p, h1, h2, h3⟩ := cv_fing h f
  have hlt : p < 2^(X'+M') := Nat.lt_trans h1 (infc_lt' _ _)
  have hmg := mg_small (M := M') (X := X') (ng M X a) hlt
  have f12 : fin12 M' X' (cv2 M X M' X' a) := by rw [h2]; exact fin12_lt (by rw [hmg]; exact h1)
  rw [va_mg f12, h2, hmg, h3]
theorem back_Wg (h : W2 M X M' X' c) (ha : a < 2^(1+X+M)) (k : kd M X a ≠ 4) : convN M' X' M X (cv2 M X M' X' a) = a := by
  have hm := h.f.m1; have hmg1 := h.g.m1; have hmm := h.hm
  have k1 := kd_cvg h (a := a)
  have n1 := ng_cvg h k
  by_cases k3 : kd M X a = 3
  · unfold convN
    rw [k1, if_neg k, if_pos k3, n1]; exact (self_inf ha k3).symm
  · have f := fin12_of k k3
    obtain ⟨p, h1, h2, h3⟩ := cv_fing h f
    rw [h2, conv_rg h _ (Nat.le_of_lt h1), h3]
    have hbs := ex_bs f
    have hg := h.bs
    have e : near M X (mn M X a) 1 (ex M X a) = rnd M (infc M X) (mn M X a * 2^(ex M X a + (bs M' X' : Int)).toNat) (1 * 2^(c + (M+3))) := near_uv (by omega) (by decide) (by omega)
    rw [Nat.one_mul] at e
    rw [← e]
    rcases f with q | q
    · rw [mn0 q, near_zero, Nat.add_zero]; exact (self_zero ha q).symm
    · exact self_fin h.f.ok ha q
theorem nan_Wg (h : W2 M X M' X' c) : convN M' X' M X (nanc M' X') = nanc M X := by
  unfold convN; rw [if_pos (kd_nanc h.g)]
theorem zero_Wg (h : W2 M X M' X' c) (s : Bool) : convN M' X' M X (sgn M' X' s) = sgn M X s := by
  have := conv_rg h s (r := 0) (Nat.zero_le _)
  rw [Nat.add_zero (sgn M' X' s), val_zero] at this
  rw [this]
  have hm := h.f.m1; have hmg1 := h.g.m1; have hmm := h.hm
  have hG := two_pow_pos (c + (M+3))
  have e := rnd_val (m := M) (inf := infc M X) (D := 2^(c + (M+3))) (p := 0) (by omega) hG (Nat.zero_le _)
  rw [val_zero, Nat.zero_mul] at e
  rw [e, Nat.add_zero]
theorem inf_Wg (h : W2 M X M' X' c) (s : Bool) : convN M' X' M X (infc M' X' + sgn M' X' s) = infc M X + sgn M X s := by
  unfold convN
  rw [Nat.add_comm (infc M' X'), kd_infc h.g, if_neg (by decide), if_pos rfl, ng_made s (infc_lt' _ _)]
/-! ### sums -/
theorem va_Wg (h : W2 M X M' X' c) (f : fin12 M X a) : va M' X' (cv2 M X M' X' a) = va M X a * 2^(c + (M+3)) := by
  rw [va_cvg h f]
  have hbs := ex_bs f
  have hg := h.bs
  unfold va; rw [Nat.mul_assoc, ← Nat.pow_add]; congr 2; omega
theorem sum_Wg (h : W2 M X M' X' c) (na nb : Bool) (f : fin12 M X a) (k : fin12 M X b) : convN M' X' M X (sumV M' X' na nb (va M' X' (cv2 M X M' X' a)) (va M' X' (cv2 M X M' X' b))) = sumV M X na nb (va M X a) (va M X b) := by
  have hm := h.f.m1; have hmg1 := h.g.m1; have hmm := h.hm
  rw [va_Wg h f, va_Wg h k]
  have hG := two_pow_pos (c + (M+3))
  have one : ∀ (s : Bool) (V W : Nat), W = V * 2^(c + (M+3)) → V ≤ va M X a + va M X b → va M X a ≤ V + va M X b → va M X b ≤ V + va M X a → (∀ P, P ∣ va M X a → P ∣ va M X b → P ∣ V) →
      convN M' X' M X (sgn M' X' s + rnd M' (infc M' X') W 1) = sgn M X s + rnd M (infc M X) V 1 := fun s V W e h1 h2 h3 h4 => by
    subst e
    rw [conv_offg h s (by decide) (off_sum f k h1 h2 h3 h4)]
    congr 1
    exact rnd_ratio (by omega) (Nat.mul_pos (by decide) hG) (by decide) (by rw [Nat.mul_one, Nat.one_mul])
  unfold sumV
  have e1 : (va M X a * 2^(c + (M+3)) = va M X b * 2^(c + (M+3))) ↔ va M X a = va M X b := ⟨fun h => Nat.eq_of_mul_eq_mul_right hG h, fun h => by rw [h]⟩
  have e2 : (va M X b * 2^(c + (M+3)) < va M X a * 2^(c + (M+3))) ↔ va M X b < va M X a := ⟨fun h => Nat.lt_of_mul_lt_mul_right h, fun h => Nat.mul_lt_mul_of_pos_right h hG⟩
  by_cases c : na = nb
  · rw [if_pos c, if_pos c]
    exact one _ _ _ (Nat.add_mul ..).symm (Nat.le_refl _) (by omega) (by omega) (fun P h1 h2 => Nat.dvd_add h1 h2)
  · rw [if_neg c, if_neg c]
    by_cases d : va M X a = va M X b
    · rw [if_pos (e1.2 d), if_pos d]; exact zero_Wg h false
    · rw [if_neg (fun x => d (e1.1 x)), if_neg d]
      by_cases l : va M X b < va M X a
      · rw [if_pos (e2.2 l), if_pos l]
        exact one _ _ _ (Nat.sub_mul ..).symm (by omega) (by omega) (by omega) (fun P h1 h2 => Nat.dvd_sub h1 h2)
      · rw [if_neg (fun x => l (e2.1 x)), if_neg l]
        exact one _ _ _ (Nat.sub_mul ..).symm (by omega) (by omega) (by omega) (fun P h1 h2 => Nat.dvd_sub h2 h1)
theorem fin12_cvg (h : W2 M X M' X' c) (f : fin12 M X a) : fin12 M' X' (cv2 M X M' X' a) := by unfold fin12 at *; rw [kd_cvg h]; exact f
theorem add_Wg (h : W2 M X M' X' c) (ha : a < 2^(1+X+M)) (hb : b < 2^(1+X+M)) : convN M' X' M X (addN M' X' (cv2 M X M' X' a) (cv2 M X M' X' b)) = addN M X a b := by
  by_cases a4 : kd M X a = 4
  · rw [add_nan1 a4, add_nan1 (by rw [kd_cvg h]; exact a4), nan_Wg h]
  by_cases b4 : kd M X b = 4
  · rw [add_nan2 b4, add_nan2 (by rw [kd_cvg h]; exact b4), nan_Wg h]
  have ba := back_Wg h ha a4
  have bb := back_Wg h hb b4
  unfold addN addS
  rw [kd_cvg h, kd_cvg h, ng_cvg h a4, ng_cvg h b4]
  split
  · exact nan_Wg h
  · split
    · exact ba
    · split
      · exact bb
      · split
        · exact zero_Wg h _
        · have fa : fin12 M X a := by
            have := kd_cases M X a; unfold fin12; omega
          have fb : fin12 M X b := by
            have := kd_cases M X b; unfold fin12; omega
          have e := sumP_V (fin12_cvg h fa) (fin12_cvg h fb)
          rw [ng_cvg h a4, ng_cvg h b4] at e
          rw [e, sum_Wg h _ _ fa fb, sumP_V fa fb]
theorem cv_turng (h : W2 M X M' X' c) (ha : a < 2^(1+X+M)) (k : kd M X a ≠ 4) : cv2 M X M' X' (turnN M X a) = turnN M' X' (cv2 M X M' X' a) := by
  have e : cv2 M X M' X' (turnN M X a) = (if kd M X a = 3 then infc M' X' + sgn M' X' (!ng M X a) else sgn M' X' (!ng M X a) + near M' X' (mn M X a) 1 (ex M X a)) := by
    unfold cv2 convN
    rw [kd_turn ha, if_neg k, ng_turn ha, mn_turn ha, ex_turn ha]
  rw [e]
  unfold cv2 convN
  rw [if_neg k]
  by_cases k3 : kd M X a = 3
  · rw [if_pos k3, if_pos k3, Nat.add_comm _ (sgn M' X' (ng M X a)), turn_made _ (infc_lt' _ _), Nat.add_comm]
  · rw [if_neg k3, if_neg k3, turn_made _ (near_lt ..)]
theorem sub_Wg (h : W2 M X M' X' c) (ha : a < 2^(1+X+M)) (hb : b < 2^(1+X+M)) : convN M' X' M X (subN M' X' (cv2 M X M' X' a) (cv2 M X M' X' b)) = subN M X a b := by
  unfold subN
  by_cases b4 : kd M X b = 4
  · rw [add_nan2 (M := M) (b := turnN M X b) (by rw [kd_turn hb]; exact b4), add_nan2 (M := M') (b := turnN M' X' (cv2 M X M' X' b)) (by rw [kd_turn (cv_ltg h), kd_cvg h]; exact b4), nan_Wg h]
  · rw [← cv_turng h hb b4, add_Wg h ha (turn_lt hb)]
/-! ### products, quotients -/
theorem mn_cvg (h : W2 M X M' X' c) (f : fin12 M X a) : mn M' X' (cv2 M X M' X' a) * 2^(ex M' X' (cv2 M X M' X' a) + (bs M' X' : Int)).toNat = mn M X a * 2^(ex M X a + (bs M' X' : Int)).toNat := va_cvg h f
theorem mul_Wg (h : W2 M X M' X' c) (ha : a < 2^(1+X+M)) (hb : b < 2^(1+X+M)) : convN M' X' M X (mulN M' X' (cv2 M X M' X' a) (cv2 M X M' X' b)) = mulN M X a b := by
  by_cases h4 : kd M X a = 4 ∨ kd M X b = 4
  · rw [mul_nan h4, mul_nan (by rw [kd_cvg h, kd_cvg h]; exact h4), nan_Wg h]
  have a4 : kd M X a ≠ 4 := fun e => h4 (.inl e)
  have b4 : kd M X b ≠ 4 := fun e => h4 (.inr e)
  unfold mulN mulP
  rw [kd_cvg h, kd_cvg h, ng_cvg h a4, ng_cvg h b4]
  split
  · exact nan_Wg h
  · split
    · exact inf_Wg h _
    · split
      · exact zero_Wg h _
      · have fa : fin12 M X a := by have := kd_cases M X a; unfold fin12; omega
        have fb : fin12 M X b := by have := kd_cases M X b; unfold fin12; omega
        have ka : kd M X a = 2 := by unfold fin12 at fa; omega
        have kb : kd M X b = 2 := by unfold fin12 at fb; omega
        have hm := h.f.m1; have hmg1 := h.g.m1; have hmm := h.hm
        have hg := h.bs
        have l1 := ex_lo ka
        have l2 := ex_lo kb
        have q1 := ex_bs (fin12_cvg h fa)
        have q2 := ex_bs (fin12_cvg h fb)
        have hbs := bs_eq M X
        have hlo := h.lo
        rw [packN_f, packN_f]
        have e1 := mn_cvg h fa
        have e2 := mn_cvg h fb
        generalize mn M' X' (cv2 M X M' X' a) = mx at *
        generalize mn M' X' (cv2 M X M' X' b) = my at *
        generalize ex M' X' (cv2 M X M' X' a) = xx at *
        generalize ex M' X' (cv2 M X M' X' b) = xy at *
        have same : near M' X' (mx * my) 1 (xx + xy) = near M' X' (mn M X a * mn M X b) 1 (ex M X a + ex M X b) := by
          refine near_eq (K := 2 * bs M' X') (by omega) (by decide) (by decide) (by omega) (by omega) ?_
          rw [Nat.mul_one, Nat.mul_one]
          have s1 : (xx + xy + ((2 * bs M' X' : Nat) : Int)).toNat = (xx + (bs M' X' : Int)).toNat + (xy + (bs M' X' : Int)).toNat := by omega
          have s2 : (ex M X a + ex M X b + ((2 * bs M' X' : Nat) : Int)).toNat = (ex M X a + (bs M' X' : Int)).toNat + (ex M X b + (bs M' X' : Int)).toNat := by omega
          rw [s1, s2, Nat.pow_add, Nat.pow_add, Nat.mul_mul_mul_comm, e1, e2, Nat.mul_mul_mul_comm]
        rw [same]
        obtain ⟨w, hw⟩ : ∃ w : Nat, ex M X a + ex M X b + bs M' X' = w := ⟨(ex M X a + ex M X b + bs M' X').toNat, by omega⟩
        have hprod : mn M X a * mn M X b < 2^(M'+1) := by
          have := Nat.mul_lt_mul'' (mn_lt M X a) (mn_lt M X b)
          rw [← Nat.pow_add] at this
          exact Nat.lt_of_lt_of_le this (pow_le (by omega))
        obtain ⟨p, hp⟩ := val_Wg hprod (show 1 ≤ w by omega)
        rw [near_uv (u := w) (v := 0) (by omega) (by decide) (by omega), near_uv (M := M) (u := w) (v := c + (M+3)) (by omega) (by decide) (by omega), Nat.pow_zero, Nat.mul_one]
        exact conv_valg h _ (by decide) hp
theorem div_Wg (h : W2 M X M' X' c) (ha : a < 2^(1+X+M)) (hb : b < 2^(1+X+M)) : convN M' X' M X (divN M' X' (cv2 M X M' X' a) (cv2 M X M' X' b)) = divN M X a b := by
  by_cases h4 : kd M X a = 4 ∨ kd M X b = 4
  · rw [div_nan h4, div_nan (by rw [kd_cvg h, kd_cvg h]; exact h4), nan_Wg h]
  have a4 : kd M X a ≠ 4 := fun e => h4 (.inl e)
  have b4 : kd M X b ≠ 4 := fun e => h4 (.inr e)
  unfold divN divP
  rw [kd_cvg h, kd_cvg h, ng_cvg h a4, ng_cvg h b4]
  split
  · exact nan_Wg h
  · split
    · exact inf_Wg h _
    · split
      · exact zero_Wg h _
      · have fa : fin12 M X a := by have := kd_cases M X a; unfold fin12; omega
        have fb : fin12 M X b := by have := kd_cases M X b; unfold fin12; omega
        have ka : kd M X a = 2 := by unfold fin12 at fa; omega
        have kb : kd M X b = 2 := by unfold fin12 at fb; omega
        have hm := h.f.m1; have hmg1 := h.g.m1; have hmm := h.hm
        have hg := h.bs
        have l1 := ex_lo ka
        have l2 := ex_hi h.f.ok kb
        have l3 := ex_lo kb
        have l4 := ex_hi h.f.ok ka
        have q1 := ex_bs (fin12_cvg h fa)
        have q2 := ex_bs (fin12_cvg h fb)
        have q3 := (ex_bounds h.g.ok (cv2 M X M' X' b))
        have q4 := (ex_bounds h.g.ok (cv2 M X M' X' a))
        have hbs := bs_eq M X
        have hlo := h.lo
        have pb := mn_pos kb
        have pb2 : 0 < mn M' X' (cv2 M X M' X' b) := mn_pos (by rw [kd_cvg h]; exact kb)
        have e1 := mn_cvg h fa
        have e2 := mn_cvg h fb
        generalize mn M' X' (cv2 M X M' X' a) = mx at *
        generalize mn M' X' (cv2 M X M' X' b) = my at *
        generalize ex M' X' (cv2 M X M' X' a) = xx at *
        generalize ex M' X' (cv2 M X M' X' b) = xy at *
        have same : near M' X' mx my (xx - xy) = near M' X' (mn M X a) (mn M X b) (ex M X a - ex M X b) := by
          refine near_eq (K := 6000) (by omega) pb2 pb (by omega) (by have := Fl.bia_le h.f.ok; have := h.f.m2; omega) ?_
          have hb1 := Fl.bia_le h.f.ok
          have hm2 := h.f.m2
          generalize bs M' X' = B at *
          refine Nat.eq_of_mul_eq_mul_right (two_pow_pos ((xy + (B : Int)).toNat + (ex M X b + (B : Int)).toNat)) ?_
          have s1 : (xx - xy + ((6000 : Nat) : Int)).toNat + (xy + (B : Int)).toNat = (xx + (B : Int)).toNat + 6000 := by omega
          have s2 : (ex M X a - ex M X b + ((6000 : Nat) : Int)).toNat + (ex M X b + (B : Int)).toNat = (ex M X a + (B : Int)).toNat + 6000 := by omega
          have t1 : mx * 2^(xx - xy + ((6000 : Nat) : Int)).toNat * mn M X b * 2^((xy + (B : Int)).toNat + (ex M X b + (B : Int)).toNat) = mx * 2^(xx + (B : Int)).toNat * (mn M X b * 2^(ex M X b + (B : Int)).toNat) * 2^6000 := by
            have : 2^(xx - xy + ((6000 : Nat) : Int)).toNat * 2^(xy + (B : Int)).toNat = 2^(xx + (B : Int)).toNat * 2^6000 := by rw [← Nat.pow_add, s1, Nat.pow_add]
            rw [Nat.pow_add 2 (xy + (B : Int)).toNat]
            calc _ = mx * (2^(xx - xy + ((6000 : Nat) : Int)).toNat * 2^(xy + (B : Int)).toNat) * mn M X b * 2^(ex M X b + (B : Int)).toNat := by ac_rfl
              _ = _ := by rw [this]; ac_rfl
          have t2 : mn M X a * 2^(ex M X a - ex M X b + ((6000 : Nat) : Int)).toNat * my * 2^((xy + (B : Int)).toNat + (ex M X b + (B : Int)).toNat) = mn M X a * 2^(ex M X a + (B : Int)).toNat * (my * 2^(xy + (B : Int)).toNat) * 2^6000 := by
            have : 2^(ex M X a - ex M X b + ((6000 : Nat) : Int)).toNat * 2^(ex M X b + (B : Int)).toNat = 2^(ex M X a + (B : Int)).toNat * 2^6000 := by rw [← Nat.pow_add, s2, Nat.pow_add]
            rw [Nat.pow_add 2 (xy + (B : Int)).toNat]
            calc _ = mn M X a * (2^(ex M X a - ex M X b + ((6000 : Nat) : Int)).toNat * 2^(ex M X b + (B : Int)).toNat) * my * 2^(xy + (B : Int)).toNat := by ac_rfl
              _ = _ := by rw [this]; ac_rfl
          rw [t1, t2, e1, e2]
        rw [same]
        obtain ⟨w, hw⟩ : ∃ w : Nat, ex M X a - ex M X b + bs M' X' = w := ⟨(ex M X a - ex M X b + bs M' X').toNat, by omega⟩
        rw [near_uv (u := w) (v := 0) (by omega) pb (by omega), near_uv (M := M) (u := w) (v := c + (M+3)) (by omega) pb (by omega), Nat.pow_zero, Nat.mul_one]
        exact conv_offg h _ pb (off_div (mn_lt M X a) (mn_lt M X b) pb)
/-! ### roots -/
theorem sqrt_Wg (h : W2 M X M' X' c) (ha : a < 2^(1+X+M)) : convN M' X' M X (sqrtN M' X' (cv2 M X M' X' a)) = sqrtN M X a := by
  by_cases a4 : kd M X a = 4
  · have e1 : sqrtN M X a = nanc M X := by unfold sqrtN; rw [a4, if_neg (by omega), if_pos (.inl rfl)]
    have e2 : sqrtN M' X' (cv2 M X M' X' a) = nanc M' X' := by unfold sqrtN; rw [kd_cvg h, a4, if_neg (by omega), if_pos (.inl rfl)]
    rw [e1, e2, nan_Wg h]
  have ba := back_Wg h ha a4
  unfold sqrtN
  rw [kd_cvg h, ng_cvg h a4]
  split
  · exact ba
  · rename_i c1
    split
    · exact nan_Wg h
    · rename_i c2
      have ck := kd_cases M X a
      have ka : kd M X a = 2 := by
        rcases ck with k | k | k | k
        · exact absurd (.inl k) c1
        · exact k
        · cases hn : ng M X a
          · exact absurd (.inr ⟨k, hn⟩) c1
          · exact absurd (.inr hn) c2
        · exact absurd k a4
      have fa : fin12 M X a := .inr ka
      have pa := mn_pos ka
      have pa2 : 0 < mn M' X' (cv2 M X M' X' a) := mn_pos (by rw [kd_cvg h]; exact ka)
      have q1 := ex_bs (fin12_cvg h fa)
      have l1 := ex_lo ka
      have l2 := ex_hi h.f.ok ka
      have hb := Fl.bia_le h.f.ok
      have hm := h.f.m1; have hmg1 := h.g.m1; have hmm := h.hm
      have hm2 := h.m23
      have hg := h.bs
      have hbs := bs_eq M X
      have hlo := h.lo
      have b53 := bl53 (mn_lt53 (a := a) h.f.ok)
      have b53' := bl53 (mn_lt53 (a := cv2 M X M' X' a) h.g.ok)
      have e1 := mn_cvg h fa
      rw [sqN_same (M := M') (X := X') (B := bs M' X') pa2 pa (by omega) (by omega) q1 (by omega) e1]
      obtain ⟨s1, s2, s3⟩ := sqS_even (ex M X a) pa (by omega)
      have nb := norm_bounds pa (show mn M X a < 2^64 by have := mn_lt53 (a := a) h.f.ok; omega)
      have fit := isq_fit (ea := ex M X a) pa (mn_lt53 (a := a) h.f.ok)
      obtain ⟨r1, r2⟩ := isq_spec fit
      have hlo : 2^62 ≤ mn M X a * 2^(sqS (ex M X a) (mn M X a)) := by
        have h1 := bl_le (a := mn M X a) (by omega)
        have h2 : 2^(bl (mn M X a) - 1) * 2^(sqS (ex M X a) (mn M X a)) ≤ mn M X a * 2^(sqS (ex M X a) (mn M X a)) := Nat.mul_le_mul_right _ h1
        rw [← Nat.pow_add] at h2
        exact Nat.le_trans (pow_le (by omega)) h2
      unfold sqN
      generalize hS : sqS (ex M X a) (mn M X a) = s at *
      have hb2 := isq_bounds hlo (Nat.lt_of_mul_lt_mul_right (a := 2^64) (by rw [show (2:Nat)^64 * 2^64 = 2^128 from rfl]; exact fit)) r1 r2
      generalize hR : isq (mn M X a * 2^s * 2^64) = R at *
      obtain ⟨e0, he0⟩ : ∃ e0 : Int, ex M X a - (s : Int) - 64 = 2 * e0 := ⟨(ex M X a - (s : Int) - 64) / 2, by omega⟩
      rw [he0, show 2 * e0 / 2 = e0 by omega]
      obtain ⟨y, hy⟩ : ∃ y : Nat, ex M X a + 2 * bs M' X' = y := ⟨(ex M X a + 2 * bs M' X').toNat, by omega⟩
      obtain ⟨V, hV⟩ : ∃ V : Nat, V = 4000 := ⟨_, rfl⟩
      obtain ⟨u, hu⟩ : ∃ u : Nat, e0 + bs M' X' + V = u := ⟨(e0 + bs M' X' + V).toNat, by omega⟩
      have off := off_sqrt (M := M) (c := c) (I := infc M X) (m := mn M X a) (y := y) (R := R) (Q := mn M X a * 2^s * 2^64) (u := u) (v := V) (mn_lt M X a) (by
        have : 2^(2*M+6) ≤ 2^52 := pow_le (by omega)
        omega) r1 r2 (by
        rw [Nat.mul_assoc, Nat.mul_assoc, Nat.mul_assoc, ← Nat.pow_add, ← Nat.pow_add, ← Nat.pow_add]; congr 2; omega)
      unfold packN
      by_cases hex : R * R = mn M X a * 2^s * 2^64
      · rw [if_neg (by simp [hex]), if_neg (by simp [hex])]
        rw [near_uv (u := u) (v := V) (by omega) (by decide) (by omega), near_uv (M := M) (u := u) (v := V + (c + (M+3))) (by omega) (by decide) (by omega), Nat.one_mul, Nat.one_mul, Nat.pow_add]
        exact conv_offg h _ (two_pow_pos _) (off.1 hex)
      · rw [if_pos (by simp [hex]), if_pos (by simp [hex])]
        obtain ⟨u', hu'⟩ : ∃ u', u = u' + 1 := ⟨u - 1, by omega⟩
        rw [near_uv (u := u') (v := V) (by omega) (by decide) (by omega), near_uv (M := M) (u := u') (v := V + (c + (M+3))) (by omega) (by decide) (by omega), Nat.one_mul, Nat.one_mul, Nat.pow_add]
        exact conv_offg h _ (two_pow_pos _) (off.2 hex u' hu')
/-! ### whole numbers, rests -/
theorem step_val (hf : Okf M X) (ha : a < 2^(1+X+M)) (f : fin12 M X a) (u : Bool) : stepN M X a u = (if va M X a % 2^(bs M X) = 0 then a else sgn M X (ng M X a) + near M X (va M X a / 2^(bs M X) + if ng M X a ≠ u then 1 else 0) 1 0) ∧ (va M X a % 2^(bs M X) ≠ 0 → va M X a / 2^(bs M X) < 2^(M+1)) := by
  have hbs := ex_bs f
  have hpb := two_pow_pos (bs M X)
  by_cases hw : va M X a % 2^(bs M X) = 0
  · refine ⟨?_, fun h => absurd hw h⟩
    rw [if_pos hw]
    refine step_whole hf ha f (n := va M X a / 2^(bs M X)) ?_ u
    have := Nat.div_add_mod (va M X a) (2^(bs M X))
    rw [hw, Nat.add_zero, Nat.mul_comm] at this; exact this.symm
  · rw [if_neg hw]
    have h2 : kd M X a = 2 := by
      rcases f with k | k
      · exfalso; apply hw; unfold va; rw [mn0 k, Nat.zero_mul, Nat.zero_mod]
      · exact k
    have he : ¬ 0 ≤ ex M X a := fun h => by
      apply hw
      unfold va
      rw [show (ex M X a + (bs M X : Int)).toNat = (ex M X a).toNat + bs M X by omega, Nat.pow_add, ← Nat.mul_assoc, Nat.mul_mod_left]
    obtain ⟨k, hk⟩ : ∃ k : Nat, ex M X a = -(k : Int) := ⟨(-ex M X a).toNat, by omega⟩
    have e1 : va M X a = mn M X a * 2^(bs M X - k) := by
      unfold va; congr 2; omega
    have e2 : 2^(bs M X) = 2^k * 2^(bs M X - k) := by rw [← Nat.pow_add]; congr 1; omega
    have hp2 := two_pow_pos (bs M X - k)
    have q : va M X a / 2^(bs M X) = mn M X a / 2^k := by rw [e1, e2, Nat.mul_div_mul_right _ _ hp2]
    have r : va M X a % 2^(bs M X) = mn M X a % 2^k * 2^(bs M X - k) := by rw [e1, e2, Nat.mul_mod_mul_right]
    have hr : mn M X a % 2^k ≠ 0 := fun h => by apply hw; rw [r, h, Nat.zero_mul]
    refine ⟨?_, fun _ => by rw [q]; exact Nat.lt_of_le_of_lt (Nat.div_le_self _ _) (mn_lt M X a)⟩
    rw [q]
    unfold stepN
    rw [if_neg (by omega), if_neg (by omega), hk, show (- -(k : Int)).toNat = k by omega]
    congr 2
    by_cases c : ng M X a ≠ u
    · rw [if_pos c, if_pos ⟨hr, c⟩]
    · rw [if_neg c, if_neg (fun h => c h.2)]
theorem step_Wg (h : W2 M X M' X' c) (ha : a < 2^(1+X+M)) (u : Bool) : convN M' X' M X (stepN M' X' (cv2 M X M' X' a) u) = stepN M X a u := by
  have hm := h.f.m1; have hmg1 := h.g.m1; have hmm := h.hm
  by_cases a4 : kd M X a = 4
  · have e1 : stepN M X a u = nanc M X := by unfold stepN; rw [if_pos a4]
    have e2 : stepN M' X' (cv2 M X M' X' a) u = nanc M' X' := by unfold stepN; rw [if_pos (by rw [kd_cvg h]; exact a4)]
    rw [e1, e2, nan_Wg h]
  by_cases a3 : kd M X a = 3
  · rw [step_same a4 (.inl (by omega)), step_same (by rw [kd_cvg h]; exact a4) (.inl (by rw [kd_cvg h]; omega)), back_Wg h ha a4]
  have f := fin12_of a4 a3
  obtain ⟨s1, b1⟩ := step_val h.f ha f u
  obtain ⟨s2, _⟩ := step_val h.g (cv_ltg h (a := a)) (fin12_cvg h f) u
  have hd := two_pow_pos (c + (M+3))
  have e1 : va M' X' (cv2 M X M' X' a) % 2^(bs M' X') = va M X a % 2^(bs M X) * 2^(c + (M+3)) := by rw [va_Wg h f, h.bs, Nat.pow_add 2 (bs M X), Nat.mul_mod_mul_right]
  have e2 : va M' X' (cv2 M X M' X' a) / 2^(bs M' X') = va M X a / 2^(bs M X) := by rw [va_Wg h f, h.bs, Nat.pow_add 2 (bs M X), Nat.mul_div_mul_right _ _ hd]
  rw [s1, s2, e1, e2, ng_cvg h a4]
  by_cases hw : va M X a % 2^(bs M X) = 0
  · rw [if_pos hw, if_pos (by rw [hw, Nat.zero_mul]), back_Wg h ha a4]
  · have hw2 : va M X a % 2^(bs M X) * 2^(c + (M+3)) ≠ 0 := by
      have := Nat.mul_pos (Nat.pos_of_ne_zero hw) hd; omega
    rw [if_neg hw, if_neg hw2]
    have bq := b1 hw
    have hp : 2^(M+1) < 2^(M'+1) := pow_lt (by omega)
    generalize hn : (va M X a / 2^(bs M X) + if ng M X a ≠ u then 1 else 0) = n
    have hnl : n < 2^(M'+1) := by rw [← hn]; split <;> omega
    have hb1 : 1 ≤ bs M' X' := by have := h.bs; have := h.c1; omega
    obtain ⟨p, hp⟩ := val_Wg (M' := M') hnl hb1
    rw [near_uv (M := M') (u := bs M' X') (v := 0) (by omega) (by decide) (by omega), near_uv (M := M) (u := bs M' X') (v := c + (M+3)) (by omega) (by decide) (by have := h.bs; omega), Nat.pow_zero, Nat.mul_one]
    exact conv_valg h _ (by decide) hp
theorem upA_va (f : fin12 M X a) (k : fin12 M X b) : va M X a = upA (mn M X a) (ex M X a) (ex M X b) * 2^(min (ex M X a) (ex M X b) + (bs M X : Int)).toNat := by
  have h1 := ex_bs f
  have h2 := ex_bs k
  unfold va upA; rw [Nat.mul_assoc, ← Nat.pow_add]; congr 2; omega
theorem rest_lt (M X a b : Nat) (hb : 0 < mn M X b) : upA (mn M X a) (ex M X a) (ex M X b) % upA (mn M X b) (ex M X b) (ex M X a) < 2^(M+1) := by
  rcases Int.le_total (ex M X a) (ex M X b) with h | h
  · refine Nat.lt_of_le_of_lt (Nat.mod_le _ _) ?_
    unfold upA
    rw [show (ex M X a - min (ex M X a) (ex M X b)).toNat = 0 by omega, Nat.pow_zero, Nat.mul_one]; exact mn_lt M X a
  · have e : upA (mn M X b) (ex M X b) (ex M X a) = mn M X b := by
      unfold upA; rw [show (ex M X b - min (ex M X b) (ex M X a)).toNat = 0 by omega, Nat.pow_zero, Nat.mul_one]
    rw [e]
    exact Nat.lt_trans (Nat.mod_lt _ hb) (mn_lt M X b)
theorem mod_Wg (h : W2 M X M' X' c) (ha : a < 2^(1+X+M)) (hb : b < 2^(1+X+M)) : convN M' X' M X (modr M' X' (cv2 M X M' X' a) (cv2 M X M' X' b)) = modr M X a b := by
  have hm := h.f.m1; have hmg1 := h.g.m1; have hmm := h.hm
  by_cases a4 : kd M X a = 4
  · have e1 : modr M X a b = nanc M X := by unfold modr modR; rw [if_pos (.inl (by omega))]
    have e2 : modr M' X' (cv2 M X M' X' a) (cv2 M X M' X' b) = nanc M' X' := by unfold modr modR; rw [if_pos (.inl (by rw [kd_cvg h]; omega))]
    rw [e1, e2, nan_Wg h]
  have back := back_Wg h ha a4
  unfold modr modR
  rw [kd_cvg h, kd_cvg h, ng_cvg h a4]
  split
  · exact nan_Wg h
  · rename_i c1
    split
    · exact back
    · rename_i c2
      have ca := kd_cases M X a
      have cb := kd_cases M X b
      have ka : kd M X a = 2 := by omega
      have kb : kd M X b = 2 := by omega
      have fa : fin12 M X a := .inr ka
      have fb : fin12 M X b := .inr kb
      have l1 := ex_lo ka
      have l2 := ex_lo kb
      have hbs := bs_eq M X
      have hd := two_pow_pos (c + (M+3))
      show convN M' X' M X (sgn M' X' (ng M X a) + near M' X' (upA (mn M' X' (cv2 M X M' X' a)) (ex M' X' (cv2 M X M' X' a)) (ex M' X' (cv2 M X M' X' b)) % upA (mn M' X' (cv2 M X M' X' b)) (ex M' X' (cv2 M X M' X' b)) (ex M' X' (cv2 M X M' X' a))) 1 (min (ex M' X' (cv2 M X M' X' a)) (ex M' X' (cv2 M X M' X' b)))) = sgn M X (ng M X a) + near M X (upA (mn M X a) (ex M X a) (ex M X b) % upA (mn M X b) (ex M X b) (ex M X a)) 1 (min (ex M X a) (ex M X b))
      have v1 := upA_va (M := M') (fin12_cvg h fa) (fin12_cvg h fb)
      have v2 := upA_va (M := M') (fin12_cvg h fb) (fin12_cvg h fa)
      have v3 := upA_va fa fb
      have v4 := upA_va fb fa
      rw [Int.min_comm] at v2 v4
      have q1 := ex_bs (fin12_cvg h fa)
      have q2 := ex_bs (fin12_cvg h fb)
      have rl := rest_lt M X a b (mn_pos kb)
      rw [near_one (M := M') (by omega), near_one (M := M) (by omega), ← Nat.mul_mod_mul_right, ← v1, ← v2, va_Wg h fa, va_Wg h fb, Nat.mul_mod_mul_right, ← Nat.mul_mod_mul_right (2^(min (ex M X a) (ex M X b) + (bs M X : Int)).toNat), ← v3, ← v4]
      have e5 : va M X a % va M X b = (upA (mn M X a) (ex M X a) (ex M X b) % upA (mn M X b) (ex M X b) (ex M X a)) * 2^(min (ex M X a) (ex M X b) + (bs M X : Int)).toNat := by rw [v3, v4, Nat.mul_mod_mul_right]
      obtain ⟨p, hp⟩ := val_Wg (M' := M') (n := upA (mn M X a) (ex M X a) (ex M X b) % upA (mn M X b) (ex M X b) (ex M X a)) (u := (min (ex M X a) (ex M X b) + (bs M X : Int)).toNat + (c + (M+3))) (Nat.lt_of_lt_of_le rl (pow_le (by omega))) (by omega)
      rw [Nat.pow_add, ← Nat.mul_assoc, ← e5] at hp
      rw [conv_valg h _ (by decide) hp, Nat.one_mul]
      congr 1
      exact rnd_ratio (by omega) hd (by decide) (by rw [Nat.mul_one])
/-! ### singles in doubles -/
theorem w23 : W2 23 8 52 11 899 := ⟨ok32, ok64, by decide, by decide, by decide, by decide, by decide, by decide⟩
theorem rk_agree (o : Int) (h1 : 1 ≤ o) (h9 : o ≤ 9) (h6 : o ≠ 6) (ha : a < 2^32) (hb : b < 2^32) : convN 52 11 23 8 (rkN 52 11 o (convN 23 8 52 11 a) (convN 23 8 52 11 b)) = rkN 23 8 o a b := by
  have r : ∀ (M X a b : Nat), rkN M X o a b = if o = 1 then addN M X a b else if o = 2 then subN M X a b else if o = 3 then mulN M X a b else if o = 4 then divN M X a b else if o = 5 then modr M X a b else if o = 6 then modq M X a b else if o = 7 then sqrtN M X a else if o = 8 then stepN M X a true else if o = 9 then stepN M X a false else 0 := fun _ _ _ _ => rfl
  rw [r, r]
  have pa := p32 ha
  have pb := p32 hb
  by_cases e1 : o = 1
  · rw [if_pos e1, if_pos e1]; exact add_Wg w23 pa pb
  rw [if_neg e1, if_neg e1]
  by_cases e2 : o = 2
  · rw [if_pos e2, if_pos e2]; exact sub_Wg w23 pa pb
  rw [if_neg e2, if_neg e2]
  by_cases e3 : o = 3
  · rw [if_pos e3, if_pos e3]; exact mul_Wg w23 pa pb
  rw [if_neg e3, if_neg e3]
  by_cases e4 : o = 4
  · rw [if_pos e4, if_pos e4]; exact div_Wg w23 pa pb
  rw [if_neg e4, if_neg e4]
  by_cases e5 : o = 5
  · rw [if_pos e5, if_pos e5]; exact mod_Wg w23 pa pb
  rw [if_neg e5, if_neg e5, if_neg h6, if_neg h6]
  by_cases e7 : o = 7
  · rw [if_pos e7, if_pos e7]; exact sqrt_Wg w23 pa
  rw [if_neg e7, if_neg e7]
  by_cases e8 : o = 8
  · rw [if_pos e8, if_pos e8]; exact step_Wg w23 pa true
  rw [if_neg e8, if_neg e8]
  by_cases e9 : o = 9
  · rw [if_pos e9, if_pos e9]; exact step_Wg w23 pa false
  omega
theorem shl1 {n : Nat} : shl .u32 (n : Int) 1 = ((n * 2 % 2^32 : Nat) : Int) := by
  unfold shl
  rw [show ((1 : Int).toNat) = 1 from rfl, show IntKind.u32.bits = 32 from rfl, show min 1 32 = 1 from rfl, show (2 : Int)^1 = ((2 : Nat) : Int) from rfl, ← Int.natCast_mul, u32_mod]
theorem twice_mg (ha : a < 2^32) : a * 2 % 2^32 = 2 * mg 23 8 a := by
  have h := mg_mod (M := 23) (X := 8) (p32 ha)
  have e : (2 : Nat)^(8+23) = 2147483648 := rfl
  rw [e] at h
  rw [← h]; omega
theorem infc23 : infc 23 8 = 2139095040 := by decide
theorem law_agree (o : Int) (ha : a < 2^32) (hb : b < 2^32) : Cp 16 [LI o, LW a, LW b] (LB true) := by
  obtain ⟨L, hL⟩ := lg_ex
  obtain ⟨R, hR⟩ := rg_ex
  refine cp_of (t16 R L o a b) ?_
  have hy1 : convN 23 8 52 11 a < 2^64 := conv_lt (M := 23) (X := 8) (a := a) ok64
  have hy2 : convN 23 8 52 11 b < 2^64 := conv_lt (M := 23) (X := 8) (a := b) ok64
  have e1 : R.wi a = (convN 23 8 52 11 a : Nat) := hR.wi a
  have e2 : R.wi b = (convN 23 8 52 11 b : Nat) := hR.wi b
  have e3 : R.rk 23 8 o a b = (rkN 23 8 o a b : Nat) := hR.rk 23 8 o a b
  have e4 : R.rk 52 11 o (convN 23 8 52 11 a : Nat) (convN 23 8 52 11 b : Nat) = (rkN 52 11 o (convN 23 8 52 11 a) (convN 23 8 52 11 b) : Nat) := hR.rk 52 11 o _ _
  have hr : rkN 52 11 o (convN 23 8 52 11 a) (convN 23 8 52 11 b) < 2^64 := rk_lt ok64 o (p64 hy1) (p64 hy2)
  have e5 : R.na (rkN 52 11 o (convN 23 8 52 11 a) (convN 23 8 52 11 b) : Nat) = (convN 52 11 23 8 (rkN 52 11 o (convN 23 8 52 11 a) (convN 23 8 52 11 b)) : Nat) := hR.na _
  rw [e1, e2, e3, e4, e5, hR.re, hL.live]
  refine ⟨single_cn' o ha hb, widen_cn ha, widen_cn hb, double_cn' o hy1 hy2, ?_⟩
  have out : ¬ (1 ≤ o ∧ o ≤ 9) → reI o = 1 ∧ (∀ M X a b : Nat, rkN M X o a b = 0) := fun h => by
    refine ⟨by unfold reI; rw [if_neg h], fun M X a b => ?_⟩
    unfold rkN
    rw [if_neg (by omega), if_neg (by omega), if_neg (by omega), if_neg (by omega), if_neg (by omega), if_neg (by omega), if_neg (by omega), if_neg (by omega), if_neg (by omega)]
  have bad : ¬ (1 ≤ o ∧ o ≤ 9) → Wt (LB true) (.call 46 [LI (reI o)] (LI (reI o)) (br (reI o == 1) (.call 46 [LI (reI o)] (LI (reI o)) (br (reI o == 1) (br (((rkN 23 8 o a b : Nat) : Int) == 0) (br (((rkN 52 11 o (convN 23 8 52 11 a) (convN 23 8 52 11 b) : Nat) : Int) == 0) (.call 47 [] (LB true) (.ret (LB true))) (.ret (LB false))) (.ret (LB false))) (.ret (LB false)))) (.ret (LB false)))) := fun h => by
    obtain ⟨h1, h2⟩ := out h
    rw [h1, h2, h2]
    exact ⟨num4_cn _, num4_cn _, lv4⟩
  refine brD (fun h => bad (by omega)) (fun h1 => brD (fun h => bad (by omega)) (fun h9 => ?_))
  have hre : reI o = 0 := by unfold reI; rw [if_pos (by omega)]
  rw [hre]
  refine ⟨num4_cn _, num4_cn _, ?_⟩
  rw [show (IntKind.i64.wrap (0 + 0) == 0) = true from rfl, brt, eqd]
  refine brD (fun _ => lv4) (fun h6 => ⟨narrow_cn hr, ?_⟩)
  rw [rk_agree o (by omega) (by omega) h6 ha hb]
  simp only [beq_same, brt]
  exact lv4
end Go.Proofs.Ytpliondhiahhnaa.K
