/- SoftWider: reckoned in the wider format and converted back; the plain part. -/
import Derived.Test.YtpliondhiahhnaaE8
set_option linter.unusedVariables false
namespace Go.Proofs.Ytpliondhiahhnaa.K
open Sx Fl Go Go.RowKit
set_option maxRecDepth 100000
variable {M X : Nat} {a b : Nat}
theorem near_uv {M X N D u v : Nat} {e : Int} (hM : 0 < M) (hD : 0 < D) (h : (u : Int) - v = e + bs M X) : near M X N D e = rnd M (infc M X) (N * 2^u) (D * 2^v) := by
  unfold near
  refine rnd_ratio hM (Nat.mul_pos hD (two_pow_pos _)) (Nat.mul_pos hD (two_pow_pos _)) ?_
  have e1 : N * 2^(e + (bs M X : Int)).toNat * (D * 2^v) = N * D * 2^((e + (bs M X : Int)).toNat + v) := by rw [Nat.pow_add]; ac_rfl
  have e2 : N * 2^u * (D * 2^(-(e + (bs M X : Int))).toNat) = N * D * 2^(u + (-(e + (bs M X : Int))).toNat) := by rw [Nat.pow_add]; ac_rfl
  rw [e1, e2]; congr 2; omega
/-- how much finer the wider format's unit is -/
def cW (X : Nat) : Nat := 3 * bia X + 4
structure Wd (M X : Nat) : Prop where
  f : Okf M X
  m : M ≤ 23
  x : X ≤ 9
theorem Wd.g (h : Wd M X) : Okf (2*M+4) (X+2) := ⟨by have := h.f.m1; omega, by have := h.m; omega, by have := h.f.x1; omega, by have := h.x; omega⟩
theorem bia_g (h : Wd M X) : bia (X+2) = 4 * bia X + 3 := by
  have h1 := pow_X h.f.ok
  have h2 := pow_X h.g.ok
  have : 2^(X+2) = 4 * 2^X := by rw [Nat.pow_add, Nat.mul_comm]
  omega
theorem bs_g (h : Wd M X) : bs (2*M+4) (X+2) = bs M X + (cW X + (M+3)) := by
  rw [bs_eq, bs_eq, bia_g h]; unfold cW; omega
theorem pow_ge_mid (M q : Nat) : 2^(ge M q) ≤ mid M q := by
  unfold mid; exact Nat.le_mul_of_pos_left _ (by omega)
theorem big_W (h : Wd M X) : ∀ q, q < infc M X → mhi M (cW X) q < val (2*M+4) (infc (2*M+4) (X+2)) := by
  intro q hq
  obtain ⟨b1, b2⟩ := mid_between M (cW X) q
  rw [b2, val_infc h.g]
  have h1 : mid M q < val M (infc M X) := Nat.lt_of_lt_of_le (mid_lt_val_succ M q) (val_le hq)
  rw [val_infc h.f] at h1
  have h2 : mid M q * 2^(cW X + (M+3)) < 2^(M + 1 + (2^X - 2)) * 2^(cW X + (M+3)) := Nat.mul_lt_mul_of_pos_right h1 (two_pow_pos _)
  have h3 : 2^(ge M q + cW X) ≤ mid M q * 2^(cW X + (M+3)) := by
    rw [Nat.pow_add]
    exact Nat.mul_le_mul (pow_ge_mid M q) (pow_le (by omega))
  have hX := pow_X h.f.ok
  have hX2 : 2^(X+2) = 4 * 2^X := by rw [Nat.pow_add, Nat.mul_comm]
  have h4 : 2 * (2^(M + 1 + (2^X - 2)) * 2^(cW X + (M+3))) ≤ 2^(2*M+4+1 + (2^(X+2) - 2)) := by
    rw [← Nat.pow_add, ← Nat.pow_succ']
    refine pow_le ?_
    have hb := bia_ge h.f.ok
    unfold cW; omega
  omega
theorem rep_W (h : Wd M X) : ∀ q, q < infc M X → ∃ p, p < infc (2*M+4) (X+2) ∧ mid M q * 2^(cW X + (M+3)) = val (2*M+4) p := by
  intro q hq
  have hb := big_W h q hq
  obtain ⟨b1, b2⟩ := mid_between M (cW X) q
  have ho := odd_lt M q
  obtain ⟨t, ht⟩ : ∃ t, ge M q + cW X = t + 1 := ⟨ge M q + cW X - 1, by unfold cW; omega⟩
  have hmul : (2 * sig M q + 1) * 2^(M+3) < 2^(2*M+4+1) := by
    have h1 : (2 * sig M q + 1) * 2^(M+3) < 2^(M+2) * 2^(M+3) := Nat.mul_lt_mul_of_pos_right (by omega) (two_pow_pos _)
    rw [← Nat.pow_add] at h1
    rw [show 2*M+4+1 = M+2+(M+3) by omega]; exact h1
  obtain ⟨p, hp⟩ := val_ex (2*M+4) t _ hmul
  have e : mid M q * 2^(cW X + (M+3)) = val (2*M+4) p := by rw [hp, mid_mul, ht, Nat.pow_succ 2 t]; ac_rfl
  refine ⟨p, ?_, e⟩
  rw [← val_lt_iff (m := 2*M+4), ← e]
  have := two_pow_pos (ge M q + cW X)
  omega
theorem kd_infc (hf : Okf M X) (s : Bool) : kd M X (sgn M X s + infc M X) = 3 := by
  have hx := two_pow_pos X
  rw [kd_made]
  have e1 : fr M (infc M X) = 0 := by unfold fr; rw [infc_eq, Nat.mul_mod_left]
  have e2 : fd M X (infc M X) = 2^X - 1 := by
    unfold fd; rw [infc_eq, Nat.mul_div_cancel _ (two_pow_pos M), Nat.mod_eq_of_lt (by omega)]
  unfold kd; rw [e1, e2, if_pos rfl, if_pos rfl]
theorem conv_r (h : Wd M X) (s : Bool) {r : Nat} (hr : r ≤ infc (2*M+4) (X+2)) : convN (2*M+4) (X+2) M X (sgn (2*M+4) (X+2) s + r) = sgn M X s + rnd M (infc M X) (val (2*M+4) r) (2^(cW X + (M+3))) := by
  have hm := h.f.m1
  have hlt : r < 2^(X+2+(2*M+4)) := Nat.lt_of_le_of_lt hr (infc_lt' _ _)
  have hn := ng_made (M := 2*M+4) (X := X+2) s hlt
  have hG := two_pow_pos (cW X + (M+3))
  rcases Nat.lt_or_eq_of_le hr with l | l
  · have hmg := mg_small (M := 2*M+4) (X := X+2) s hlt
    have f12 : fin12 (2*M+4) (X+2) (sgn (2*M+4) (X+2) s + r) := fin12_lt (by rw [hmg]; exact l)
    have hva := va_mg f12
    rw [hmg] at hva
    have hbs := ex_bs f12
    unfold convN
    unfold fin12 at f12
    rw [if_neg (by omega), if_neg (by omega), hn]
    congr 1
    rw [near_uv (u := (ex (2*M+4) (X+2) (sgn (2*M+4) (X+2) s + r) + (bs (2*M+4) (X+2) : Int)).toNat) (v := cW X + (M+3)) (by omega) (by decide) (by have := bs_g h; omega), Nat.one_mul]
    congr 1
  · have hT : To M (infc M X) (val (2*M+4) (infc (2*M+4) (X+2))) (2^(cW X + (M+3))) (infc M X) := by
      refine ⟨Nat.le_refl _, fun h => absurd h (Nat.lt_irrefl _), fun j hj => .inl ?_⟩
      obtain ⟨p, h1, h2⟩ := rep_W h j (by omega)
      rw [h2]; exact val_mono h1
    have e : rnd M (infc M X) (val (2*M+4) (infc (2*M+4) (X+2))) (2^(cW X + (M+3))) = infc M X := (rnd_to M (infc M X) _ _ (by omega) hG).uniq hG hG hT rfl
    have hk := kd_infc h.g s
    rw [← l] at e hk
    unfold convN
    rw [hk, if_neg (by decide), if_pos rfl, hn, e, Nat.add_comm]
theorem conv_rnd (h : Wd M X) (s : Bool) {N D : Nat} (hD : 0 < D) (H : ∀ q, q < infc M X → N = mid M q * 2^(cW X + (M+3)) * D ∨ (∃ p, N ≤ val (2*M+4) p * D ∧ val (2*M+4) p < mid M q * 2^(cW X + (M+3))) ∨ (∃ p, p ≤ infc (2*M+4) (X+2) ∧ mid M q * 2^(cW X + (M+3)) < val (2*M+4) p ∧ val (2*M+4) p * D ≤ N)) :
    convN (2*M+4) (X+2) M X (sgn (2*M+4) (X+2) s + rnd (2*M+4) (infc (2*M+4) (X+2)) N D) = sgn M X s + rnd M (infc M X) N (D * 2^(cW X + (M+3))) := by
  have hm := h.f.m1
  rw [conv_r h s (rnd_le ..), dround (by omega) (by omega) hD (two_pow_pos _) (rep_W h) H]
theorem conv_off (h : Wd M X) (s : Bool) {N D : Nat} (hD : 0 < D) (H : Off M (cW X) (infc M X) N D) : convN (2*M+4) (X+2) M X (sgn (2*M+4) (X+2) s + rnd (2*M+4) (infc (2*M+4) (X+2)) N D) = sgn M X s + rnd M (infc M X) N (D * 2^(cW X + (M+3))) :=
  conv_rnd h s hD (off_H (by unfold cW; omega) (big_W h) H)
theorem conv_val (h : Wd M X) (s : Bool) {N D p : Nat} (hD : 0 < D) (e : N = val (2*M+4) p * D) : convN (2*M+4) (X+2) M X (sgn (2*M+4) (X+2) s + rnd (2*M+4) (infc (2*M+4) (X+2)) N D) = sgn M X s + rnd M (infc M X) N (D * 2^(cW X + (M+3))) := by
  refine conv_rnd h s hD (fun q hq => ?_)
  obtain ⟨p0, h1, h2⟩ := rep_W h q hq
  rcases Nat.lt_trichotomy p p0 with l | l | l
  · exact .inr (.inl ⟨p, Nat.le_of_eq e, by rw [h2]; exact val_mono l⟩)
  · left; rw [e, l, h2]
  · right; right
    by_cases hp : p ≤ infc (2*M+4) (X+2)
    · exact ⟨p, hp, by rw [h2]; exact val_mono l, Nat.le_of_eq e.symm⟩
    · exact ⟨infc (2*M+4) (X+2), Nat.le_refl _, by rw [h2]; exact val_mono h1, by rw [e]; exact Nat.mul_le_mul_right _ (val_le (by omega))⟩
/-- a whole multiple as a value of the wider format -/
theorem val_W {n u : Nat} (hn : n < 2^(2*M+4+1)) (hu : 1 ≤ u) : ∃ p, n * 2^u = val (2*M+4) p * 1 := by
  obtain ⟨t, rfl⟩ : ∃ t, u = t + 1 := ⟨u - 1, by omega⟩
  obtain ⟨p, hp⟩ := val_ex (2*M+4) t n hn
  exact ⟨p, by rw [hp, Nat.pow_succ, Nat.mul_one]; ac_rfl⟩
theorem mn_ltW (M X a : Nat) : mn M X a < 2^(2*M+4+1) := Nat.lt_of_lt_of_le (mn_lt M X a) (pow_le (by omega))
/-- the pattern in the wider format -/
def cv (M X a : Nat) : Nat := convN M X (2*M+4) (X+2) a
theorem cv_fin (h : Wd M X) (ha : fin12 M X a) : ∃ p, p < infc (2*M+4) (X+2) ∧ cv M X a = sgn (2*M+4) (X+2) (ng M X a) + p ∧ val (2*M+4) p = mn M X a * 2^(ex M X a + (bs (2*M+4) (X+2) : Int)).toNat := by
  have hm := h.f.m1; have hx := h.f.x1
  have hbs := ex_bs ha
  have hg := bs_g h
  obtain ⟨p, hp⟩ := val_W (M := M) (n := mn M X a) (u := (ex M X a + (bs (2*M+4) (X+2) : Int)).toNat) (mn_ltW M X a) (by omega)
  rw [Nat.mul_one] at hp
  have hva : val (2*M+4) p = val M (mg M X a) * 2^(cW X + (M+3)) := by
    rw [← hp, ← va_mg ha]; unfold va; rw [Nat.mul_assoc, ← Nat.pow_add]; congr 2; omega
  have hlt : p < infc (2*M+4) (X+2) := by
    have h1 := mg_lt_inf (show 1 ≤ X by omega) ha
    obtain ⟨p0, h2, h3⟩ := rep_W h _ h1
    refine Nat.lt_trans ?_ h2
    rw [← val_lt_iff (m := 2*M+4), hva, ← h3]
    exact Nat.mul_lt_mul_of_pos_right (val_lt_mid M _) (two_pow_pos _)
  refine ⟨p, hlt, ?_, hp.symm⟩
  unfold cv convN
  unfold fin12 at ha
  rw [if_neg (by omega), if_neg (by omega)]
  congr 1
  rw [near_uv (u := (ex M X a + (bs (2*M+4) (X+2) : Int)).toNat) (v := 0) (by omega) (by decide) (by omega), hp, Nat.pow_zero, Nat.mul_one]
  have := rnd_val (m := 2*M+4) (inf := infc (2*M+4) (X+2)) (D := 1) (p := p) (by omega) (by decide) (Nat.le_of_lt hlt)
  rwa [Nat.mul_one] at this
theorem cv_inf (h : kd M X a = 3) : cv M X a = sgn (2*M+4) (X+2) (ng M X a) + infc (2*M+4) (X+2) := by
  unfold cv convN; rw [if_neg (by omega), if_pos h, Nat.add_comm]
theorem cv_nan (h : kd M X a = 4) : cv M X a = nanc (2*M+4) (X+2) := by
  unfold cv convN; rw [if_pos h]
theorem cv_lt (h : Wd M X) : cv M X a < 2^(1+(X+2)+(2*M+4)) := by
  have hm := h.f.m1
  have key : ∀ {s : Bool} {p : Nat}, p ≤ infc (2*M+4) (X+2) → sgn (2*M+4) (X+2) s + p < 2^(1+(X+2)+(2*M+4)) := fun {s p} hp => made_lt s (Nat.lt_of_le_of_lt hp (infc_lt' _ _))
  rcases kd_cases M X a with k | k | k | k
  · obtain ⟨p, h1, h2, _⟩ := cv_fin h (.inl k); rw [h2]; exact key (Nat.le_of_lt h1)
  · obtain ⟨p, h1, h2, _⟩ := cv_fin h (.inr k); rw [h2]; exact key (Nat.le_of_lt h1)
  · rw [cv_inf k]; exact key (Nat.le_refl _)
  · rw [cv_nan k]
    have := nanc_lt (M := 2*M+4) (X := X+2) (by omega)
    rw [pw2]; omega
theorem kd_cv (h : Wd M X) : kd (2*M+4) (X+2) (cv M X a) = kd M X a := by
  have fin : ∀ (f : fin12 M X a), kd (2*M+4) (X+2) (cv M X a) = kd M X a := fun f => by
    obtain ⟨p, h1, h2, h3⟩ := cv_fin h f
    have hlt : p < 2^(X+2+(2*M+4)) := Nat.lt_trans h1 (infc_lt' _ _)
    have hmg := mg_small (M := 2*M+4) (X := X+2) (ng M X a) hlt
    rw [h2]
    have f12 : fin12 (2*M+4) (X+2) (sgn (2*M+4) (X+2) (ng M X a) + p) := fin12_lt (by rw [hmg]; exact h1)
    rcases f with k | k
    · have hp : p = 0 := by
        have : val (2*M+4) p = val (2*M+4) 0 := by rw [h3, mn0 k, Nat.zero_mul, val_zero]
        exact val_inj this
      rw [hp, Nat.add_zero (sgn (2*M+4) (X+2) (ng M X a)), kd_sgn h.g, k]
    · rcases f12 with q | q
      · exfalso
        have hp := mg_zero q
        rw [hmg] at hp
        rw [hp, val_zero] at h3
        have := Nat.mul_pos (mn_pos k) (two_pow_pos (ex M X a + (bs (2*M+4) (X+2) : Int)).toNat)
        omega
      · rw [q, k]
  rcases kd_cases M X a with k | k | k | k
  · exact fin (.inl k)
  · exact fin (.inr k)
  · rw [cv_inf k, kd_infc h.g, k]
  · rw [cv_nan k, kd_nanc h.g, k]
theorem ng_cv (h : Wd M X) (k : kd M X a ≠ 4) : ng (2*M+4) (X+2) (cv M X a) = ng M X a := by
  by_cases k3 : kd M X a = 3
  · rw [cv_inf k3]; exact ng_made _ (infc_lt' _ _)
  · obtain ⟨p, h1, h2, h3⟩ := cv_fin h (fin12_of k k3)
    rw [h2]; exact ng_made _ (Nat.lt_trans h1 (infc_lt' _ _))
theorem va_cv (h : Wd M X) (f : fin12 M X a) : va (2*M+4) (X+2) (cv M X a) = mn M X a * 2^(ex M X a + (bs (2*M+4) (X+2) : Int)).toNat := by
  obtain ⟨p, h1, h2, h3⟩ := cv_fin h f
  have hlt : p < 2^(X+2+(2*M+4)) := Nat.lt_trans h1 (infc_lt' _ _)
  have hmg := mg_small (M := 2*M+4) (X := X+2) (ng M X a) hlt
  have f12 : fin12 (2*M+4) (X+2) (cv M X a) := by rw [h2]; exact fin12_lt (by rw [hmg]; exact h1)
  rw [va_mg f12, h2, hmg, h3]
theorem back_W (h : Wd M X) (ha : a < 2^(1+X+M)) (k : kd M X a ≠ 4) : convN (2*M+4) (X+2) M X (cv M X a) = a := by
  have hm := h.f.m1
  have k1 := kd_cv h (a := a)
  have n1 := ng_cv h k
  by_cases k3 : kd M X a = 3
  · unfold convN
    rw [k1, if_neg k, if_pos k3, n1]; exact (self_inf ha k3).symm
  · have f := fin12_of k k3
    obtain ⟨p, h1, h2, h3⟩ := cv_fin h f
    rw [h2, conv_r h _ (Nat.le_of_lt h1), h3]
    have hbs := ex_bs f
    have hg := bs_g h
    have e : near M X (mn M X a) 1 (ex M X a) = rnd M (infc M X) (mn M X a * 2^(ex M X a + (bs (2*M+4) (X+2) : Int)).toNat) (1 * 2^(cW X + (M+3))) := near_uv (by omega) (by decide) (by omega)
    rw [Nat.one_mul] at e
    rw [← e]
    rcases f with q | q
    · rw [mn0 q, near_zero, Nat.add_zero]; exact (self_zero ha q).symm
    · exact self_fin h.f.ok ha q
theorem nan_W (h : Wd M X) : convN (2*M+4) (X+2) M X (nanc (2*M+4) (X+2)) = nanc M X := by
  unfold convN; rw [if_pos (kd_nanc h.g)]
theorem zero_W (h : Wd M X) (s : Bool) : convN (2*M+4) (X+2) M X (sgn (2*M+4) (X+2) s) = sgn M X s := by
  have := conv_r h s (r := 0) (Nat.zero_le _)
  rw [Nat.add_zero (sgn (2*M+4) (X+2) s), val_zero] at this
  rw [this]
  have hm := h.f.m1
  have hG := two_pow_pos (cW X + (M+3))
  have e := rnd_val (m := M) (inf := infc M X) (D := 2^(cW X + (M+3))) (p := 0) (by omega) hG (Nat.zero_le _)
  rw [val_zero, Nat.zero_mul] at e
  rw [e, Nat.add_zero]
theorem inf_W (h : Wd M X) (s : Bool) : convN (2*M+4) (X+2) M X (infc (2*M+4) (X+2) + sgn (2*M+4) (X+2) s) = infc M X + sgn M X s := by
  unfold convN
  rw [Nat.add_comm (infc (2*M+4) (X+2)), kd_infc h.g, if_neg (by decide), if_pos rfl, ng_made s (infc_lt' _ _)]
/-! ### sums -/
/-- the sum of two values in halves of the least unit -/
def sumV (M X : Nat) (na nb : Bool) (P Q : Nat) : Nat :=
  if na = nb then sgn M X na + rnd M (infc M X) (P + Q) 1 else if P = Q then sgn M X false else if Q < P then sgn M X na + rnd M (infc M X) (P - Q) 1 else sgn M X nb + rnd M (infc M X) (Q - P) 1
theorem sumR_V {na nb : Bool} {e : Int} {A B : Nat} (h : 0 ≤ e + bs M X) : sumR M X na nb e A B = sumV M X na nb (A * 2^(e + bs M X).toNat) (B * 2^(e + bs M X).toNat) := by
  unfold sumR sumV
  rw [near_one h, near_one h, near_one h, Nat.add_mul, Nat.sub_mul, Nat.sub_mul]
  have hp := two_pow_pos (e + (bs M X : Int)).toNat
  generalize 2^(e + (bs M X : Int)).toNat = k at *
  have e1 : (A * k = B * k) ↔ A = B := ⟨fun h => Nat.eq_of_mul_eq_mul_right hp h, fun h => by rw [h]⟩
  have e2 : (B * k < A * k) ↔ B < A := ⟨fun h => Nat.lt_of_mul_lt_mul_right h, fun h => Nat.mul_lt_mul_of_pos_right h hp⟩
  simp only [e1, e2]
theorem sumP_V (h : fin12 M X a) (k : fin12 M X b) : sumP M X (ng M X a) (ex M X a) (mn M X a) (ng M X b) (ex M X b) (mn M X b) = sumV M X (ng M X a) (ng M X b) (va M X a) (va M X b) := by
  have h1 := ex_bs h
  have h2 := ex_bs k
  unfold sumP
  rw [sumR_V (by omega)]
  unfold va
  have lift : ∀ {n : Nat} {e : Int}, min (ex M X a) (ex M X b) ≤ e → n * 2^(e - min (ex M X a) (ex M X b)).toNat * 2^(min (ex M X a) (ex M X b) + (bs M X : Int)).toNat = n * 2^(e + (bs M X : Int)).toNat := fun {n e} h => by
    rw [Nat.mul_assoc, ← Nat.pow_add]; congr 2; omega
  rw [lift (by omega), lift (by omega)]
theorem va_W (h : Wd M X) (f : fin12 M X a) : va (2*M+4) (X+2) (cv M X a) = va M X a * 2^(cW X + (M+3)) := by
  rw [va_cv h f]
  have hbs := ex_bs f
  have hg := bs_g h
  unfold va; rw [Nat.mul_assoc, ← Nat.pow_add]; congr 2; omega
theorem sum_W (h : Wd M X) (na nb : Bool) (f : fin12 M X a) (k : fin12 M X b) : convN (2*M+4) (X+2) M X (sumV (2*M+4) (X+2) na nb (va (2*M+4) (X+2) (cv M X a)) (va (2*M+4) (X+2) (cv M X b))) = sumV M X na nb (va M X a) (va M X b) := by
  have hm := h.f.m1
  rw [va_W h f, va_W h k]
  have hG := two_pow_pos (cW X + (M+3))
  have one : ∀ (s : Bool) (V W : Nat), W = V * 2^(cW X + (M+3)) → V ≤ va M X a + va M X b → va M X a ≤ V + va M X b → va M X b ≤ V + va M X a → (∀ P, P ∣ va M X a → P ∣ va M X b → P ∣ V) →
      convN (2*M+4) (X+2) M X (sgn (2*M+4) (X+2) s + rnd (2*M+4) (infc (2*M+4) (X+2)) W 1) = sgn M X s + rnd M (infc M X) V 1 := fun s V W e h1 h2 h3 h4 => by
    subst e
    rw [conv_off h s (by decide) (off_sum f k h1 h2 h3 h4)]
    congr 1
    exact rnd_ratio (by omega) (Nat.mul_pos (by decide) hG) (by decide) (by rw [Nat.mul_one, Nat.one_mul])
  unfold sumV
  have e1 : (va M X a * 2^(cW X + (M+3)) = va M X b * 2^(cW X + (M+3))) ↔ va M X a = va M X b := ⟨fun h => Nat.eq_of_mul_eq_mul_right hG h, fun h => by rw [h]⟩
  have e2 : (va M X b * 2^(cW X + (M+3)) < va M X a * 2^(cW X + (M+3))) ↔ va M X b < va M X a := ⟨fun h => Nat.lt_of_mul_lt_mul_right h, fun h => Nat.mul_lt_mul_of_pos_right h hG⟩
  by_cases c : na = nb
  · rw [if_pos c, if_pos c]
    exact one _ _ _ (Nat.add_mul ..).symm (Nat.le_refl _) (by omega) (by omega) (fun P h1 h2 => Nat.dvd_add h1 h2)
  · rw [if_neg c, if_neg c]
    by_cases d : va M X a = va M X b
    · rw [if_pos (e1.2 d), if_pos d]; exact zero_W h false
    · rw [if_neg (fun x => d (e1.1 x)), if_neg d]
      by_cases l : va M X b < va M X a
      · rw [if_pos (e2.2 l), if_pos l]
        exact one _ _ _ (Nat.sub_mul ..).symm (by omega) (by omega) (by omega) (fun P h1 h2 => Nat.dvd_sub h1 h2)
      · rw [if_neg (fun x => l (e2.1 x)), if_neg l]
        exact one _ _ _ (Nat.sub_mul ..).symm (by omega) (by omega) (by omega) (fun P h1 h2 => Nat.dvd_sub h2 h1)
theorem fin12_cv (h : Wd M X) (f : fin12 M X a) : fin12 (2*M+4) (X+2) (cv M X a) := by unfold fin12 at *; rw [kd_cv h]; exact f
theorem add_W (h : Wd M X) (ha : a < 2^(1+X+M)) (hb : b < 2^(1+X+M)) : convN (2*M+4) (X+2) M X (addN (2*M+4) (X+2) (cv M X a) (cv M X b)) = addN M X a b := by
  by_cases a4 : kd M X a = 4
  · rw [add_nan1 a4, add_nan1 (by rw [kd_cv h]; exact a4), nan_W h]
  by_cases b4 : kd M X b = 4
  · rw [add_nan2 b4, add_nan2 (by rw [kd_cv h]; exact b4), nan_W h]
  have ba := back_W h ha a4
  have bb := back_W h hb b4
  unfold addN addS
  rw [kd_cv h, kd_cv h, ng_cv h a4, ng_cv h b4]
  split
  · exact nan_W h
  · split
    · exact ba
    · split
      · exact bb
      · split
        · exact zero_W h _
        · have fa : fin12 M X a := by
            have := kd_cases M X a; unfold fin12; omega
          have fb : fin12 M X b := by
            have := kd_cases M X b; unfold fin12; omega
          have e := sumP_V (fin12_cv h fa) (fin12_cv h fb)
          rw [ng_cv h a4, ng_cv h b4] at e
          rw [e, sum_W h _ _ fa fb, sumP_V fa fb]
theorem cv_turn (h : Wd M X) (ha : a < 2^(1+X+M)) (k : kd M X a ≠ 4) : cv M X (turnN M X a) = turnN (2*M+4) (X+2) (cv M X a) := by
  have e : cv M X (turnN M X a) = (if kd M X a = 3 then infc (2*M+4) (X+2) + sgn (2*M+4) (X+2) (!ng M X a) else sgn (2*M+4) (X+2) (!ng M X a) + near (2*M+4) (X+2) (mn M X a) 1 (ex M X a)) := by
    unfold cv convN
    rw [kd_turn ha, if_neg k, ng_turn ha, mn_turn ha, ex_turn ha]
  rw [e]
  unfold cv convN
  rw [if_neg k]
  by_cases k3 : kd M X a = 3
  · rw [if_pos k3, if_pos k3, Nat.add_comm _ (sgn (2*M+4) (X+2) (ng M X a)), turn_made _ (infc_lt' _ _), Nat.add_comm]
  · rw [if_neg k3, if_neg k3, turn_made _ (near_lt ..)]
theorem sub_W (h : Wd M X) (ha : a < 2^(1+X+M)) (hb : b < 2^(1+X+M)) : convN (2*M+4) (X+2) M X (subN (2*M+4) (X+2) (cv M X a) (cv M X b)) = subN M X a b := by
  unfold subN
  by_cases b4 : kd M X b = 4
  · rw [add_nan2 (M := M) (b := turnN M X b) (by rw [kd_turn hb]; exact b4), add_nan2 (M := 2*M+4) (b := turnN (2*M+4) (X+2) (cv M X b)) (by rw [kd_turn (cv_lt h), kd_cv h]; exact b4), nan_W h]
  · rw [← cv_turn h hb b4, add_W h ha (turn_lt hb)]
/-! ### products, quotients -/
theorem mn_cv (h : Wd M X) (f : fin12 M X a) : mn (2*M+4) (X+2) (cv M X a) * 2^(ex (2*M+4) (X+2) (cv M X a) + (bs (2*M+4) (X+2) : Int)).toNat = mn M X a * 2^(ex M X a + (bs (2*M+4) (X+2) : Int)).toNat := va_cv h f
theorem mul_W (h : Wd M X) (ha : a < 2^(1+X+M)) (hb : b < 2^(1+X+M)) : convN (2*M+4) (X+2) M X (mulN (2*M+4) (X+2) (cv M X a) (cv M X b)) = mulN M X a b := by
  by_cases h4 : kd M X a = 4 ∨ kd M X b = 4
  · rw [mul_nan h4, mul_nan (by rw [kd_cv h, kd_cv h]; exact h4), nan_W h]
  have a4 : kd M X a ≠ 4 := fun e => h4 (.inl e)
  have b4 : kd M X b ≠ 4 := fun e => h4 (.inr e)
  unfold mulN mulP
  rw [kd_cv h, kd_cv h, ng_cv h a4, ng_cv h b4]
  split
  · exact nan_W h
  · split
    · exact inf_W h _
    · split
      · exact zero_W h _
      · have fa : fin12 M X a := by have := kd_cases M X a; unfold fin12; omega
        have fb : fin12 M X b := by have := kd_cases M X b; unfold fin12; omega
        have ka : kd M X a = 2 := by unfold fin12 at fa; omega
        have kb : kd M X b = 2 := by unfold fin12 at fb; omega
        have hm := h.f.m1
        have hg := bs_g h
        have l1 := ex_lo ka
        have l2 := ex_lo kb
        have q1 := ex_bs (fin12_cv h fa)
        have q2 := ex_bs (fin12_cv h fb)
        have hbs := bs_eq M X
        have hX : cW X = 3 * bia X + 4 := rfl
        rw [packN_f, packN_f]
        have e1 := mn_cv h fa
        have e2 := mn_cv h fb
        generalize mn (2*M+4) (X+2) (cv M X a) = mx at *
        generalize mn (2*M+4) (X+2) (cv M X b) = my at *
        generalize ex (2*M+4) (X+2) (cv M X a) = xx at *
        generalize ex (2*M+4) (X+2) (cv M X b) = xy at *
        have same : near (2*M+4) (X+2) (mx * my) 1 (xx + xy) = near (2*M+4) (X+2) (mn M X a * mn M X b) 1 (ex M X a + ex M X b) := by
          refine near_eq (K := 2 * bs (2*M+4) (X+2)) (by omega) (by decide) (by decide) (by omega) (by omega) ?_
          rw [Nat.mul_one, Nat.mul_one]
          have s1 : (xx + xy + ((2 * bs (2*M+4) (X+2) : Nat) : Int)).toNat = (xx + (bs (2*M+4) (X+2) : Int)).toNat + (xy + (bs (2*M+4) (X+2) : Int)).toNat := by omega
          have s2 : (ex M X a + ex M X b + ((2 * bs (2*M+4) (X+2) : Nat) : Int)).toNat = (ex M X a + (bs (2*M+4) (X+2) : Int)).toNat + (ex M X b + (bs (2*M+4) (X+2) : Int)).toNat := by omega
          rw [s1, s2, Nat.pow_add, Nat.pow_add, Nat.mul_mul_mul_comm, e1, e2, Nat.mul_mul_mul_comm]
        rw [same]
        obtain ⟨w, hw⟩ : ∃ w : Nat, ex M X a + ex M X b + bs (2*M+4) (X+2) = w := ⟨(ex M X a + ex M X b + bs (2*M+4) (X+2)).toNat, by omega⟩
        have hprod : mn M X a * mn M X b < 2^(2*M+4+1) := by
          have := Nat.mul_lt_mul'' (mn_lt M X a) (mn_lt M X b)
          rw [← Nat.pow_add] at this
          exact Nat.lt_of_lt_of_le this (pow_le (by omega))
        obtain ⟨p, hp⟩ := val_W hprod (show 1 ≤ w by omega)
        rw [near_uv (u := w) (v := 0) (by omega) (by decide) (by omega), near_uv (M := M) (u := w) (v := cW X + (M+3)) (by omega) (by decide) (by omega), Nat.pow_zero, Nat.mul_one]
        exact conv_val h _ (by decide) hp
theorem div_nan (h : kd M X a = 4 ∨ kd M X b = 4) : divN M X a b = nanc M X := by
  unfold divN divP; rw [if_pos (by omega)]
theorem div_W (h : Wd M X) (ha : a < 2^(1+X+M)) (hb : b < 2^(1+X+M)) : convN (2*M+4) (X+2) M X (divN (2*M+4) (X+2) (cv M X a) (cv M X b)) = divN M X a b := by
  by_cases h4 : kd M X a = 4 ∨ kd M X b = 4
  · rw [div_nan h4, div_nan (by rw [kd_cv h, kd_cv h]; exact h4), nan_W h]
  have a4 : kd M X a ≠ 4 := fun e => h4 (.inl e)
  have b4 : kd M X b ≠ 4 := fun e => h4 (.inr e)
  unfold divN divP
  rw [kd_cv h, kd_cv h, ng_cv h a4, ng_cv h b4]
  split
  · exact nan_W h
  · split
    · exact inf_W h _
    · split
      · exact zero_W h _
      · have fa : fin12 M X a := by have := kd_cases M X a; unfold fin12; omega
        have fb : fin12 M X b := by have := kd_cases M X b; unfold fin12; omega
        have ka : kd M X a = 2 := by unfold fin12 at fa; omega
        have kb : kd M X b = 2 := by unfold fin12 at fb; omega
        have hm := h.f.m1
        have hg := bs_g h
        have l1 := ex_lo ka
        have l2 := ex_hi h.f.ok kb
        have l3 := ex_lo kb
        have l4 := ex_hi h.f.ok ka
        have q1 := ex_bs (fin12_cv h fa)
        have q2 := ex_bs (fin12_cv h fb)
        have q3 := (ex_bounds h.g.ok (cv M X b))
        have q4 := (ex_bounds h.g.ok (cv M X a))
        have hbs := bs_eq M X
        have hX : cW X = 3 * bia X + 4 := rfl
        have pb := mn_pos kb
        have pb2 : 0 < mn (2*M+4) (X+2) (cv M X b) := mn_pos (by rw [kd_cv h]; exact kb)
        have e1 := mn_cv h fa
        have e2 := mn_cv h fb
        generalize mn (2*M+4) (X+2) (cv M X a) = mx at *
        generalize mn (2*M+4) (X+2) (cv M X b) = my at *
        generalize ex (2*M+4) (X+2) (cv M X a) = xx at *
        generalize ex (2*M+4) (X+2) (cv M X b) = xy at *
        have same : near (2*M+4) (X+2) mx my (xx - xy) = near (2*M+4) (X+2) (mn M X a) (mn M X b) (ex M X a - ex M X b) := by
          refine near_eq (K := 6000) (by omega) pb2 pb (by omega) (by have := Fl.bia_le h.f.ok; have := h.f.m2; omega) ?_
          have hb1 := Fl.bia_le h.f.ok
          have hm2 := h.f.m2
          generalize bs (2*M+4) (X+2) = B at *
          refine Nat.eq_of_mul_eq_mul_right (two_pow_pos ((xy + (B : Int)).toNat + (ex M X b + (B : Int)).toNat)) ?_
          have s1 : (xx - xy + ((6000 : Nat) : Int)).toNat + (xy + (B : Int)).toNat = (xx + (B : Int)).toNat + 6000 := by omega
          have s2 : (ex M X a - ex M X b + ((6000 : Nat) : Int)).toNat + (ex M X b + (B : Int)).toNat = (ex M X a + (B : Int)).toNat + 6000 := by omega
          have t1 : mx * 2^(xx - xy + ((6000 : Nat) : Int)).toNat * mn M X b * 2^((xy + (B : Int)).toNat + (ex M X b + (B : Int)).toNat) = mx * 2^(xx + (B : Int)).toNat * (mn M X b * 2^(ex M X b + (B : Int)).toNat) * 2^6000 := by
            have : 2^(xx - xy + ((6000 : Nat) : Int)).toNat * 2^(xy + (B : Int)).toNat = 2^(xx + (B : Int)).toNat * 2^6000 := by rw [← Nat.pow_add, s1, Nat.pow_add]
            rw [Nat.pow_add 2 (xy + (B : Int)).toNat]
            calc _ = mx * (2^(xx - xy + ((6000 : Nat) : Int)).toNat * 2^(xy + (B : Int)).toNat) * mn M X b * 2^(ex M X b + (B : Int)).toNat := by ac_rfl
              _ = _ := by rw [this]; ac_rfl
          have t2 : mn M X a * 2^(ex M X a - ex M X b + ((6000 : Nat) : Int)).toNat * my * 2^((xy + (B : Int)).toNat + (ex M X b + (B : Int)).toNat) = mn M X a * 2^(ex M X a + (B : Int)).toNat * (my * 2^(xy + (B : Int)).toNat) * 2^6000 := by
            have : 2^(ex M X a - ex M X b + ((6000 : Nat) : Int)).toNat * 2^(ex M X b + (B : Int)).toNat = 2^(ex M X a + (B : Int)).toNat * 2^6000 := by rw [← Nat.pow_add, s2, Nat.pow_add]
            rw [Nat.pow_add 2 (xy + (B : Int)).toNat]
            calc _ = mn M X a * (2^(ex M X a - ex M X b + ((6000 : Nat) : Int)).toNat * 2^(ex M X b + (B : Int)).toNat) * my * 2^(xy + (B : Int)).toNat := by ac_rfl
              _ = _ := by rw [this]; ac_rfl
          rw [t1, t2, e1, e2]
        rw [same]
        obtain ⟨w, hw⟩ : ∃ w : Nat, ex M X a - ex M X b + bs (2*M+4) (X+2) = w := ⟨(ex M X a - ex M X b + bs (2*M+4) (X+2)).toNat, by omega⟩
        rw [near_uv (u := w) (v := 0) (by omega) pb (by omega), near_uv (M := M) (u := w) (v := cW X + (M+3)) (by omega) pb (by omega), Nat.pow_zero, Nat.mul_one]
        exact conv_off h _ pb (off_div (mn_lt M X a) (mn_lt M X b) pb)
/-! ### roots -/
theorem bl_mulpow {n : Nat} (h : 0 < n) (t : Nat) : bl (n * 2^t) = bl n + t := by
  have h1 := bl_le (a := n) (by omega)
  have h2 := bl_lt n
  have hp := bl_pos (a := n) (by omega)
  have hk := two_pow_pos t
  rw [bl_uniq (k := bl n - 1 + t) (by have := Nat.mul_pos h hk; omega) (by rw [Nat.pow_add]; exact Nat.mul_le_mul_right _ h1) (by
    rw [show bl n - 1 + t + 1 = bl n + t by omega, Nat.pow_add]; exact Nat.mul_lt_mul_of_pos_right h2 hk)]
  omega
theorem sqS_shift {m t : Nat} {e : Int} (h : 0 < m) (hb : bl m + t ≤ 62) : sqS (e - t) (m * 2^t) + t = sqS e m := by
  have hbm := bl_pos (a := m) (by omega)
  unfold sqS
  rw [bl_mulpow h, show e - (t : Int) - ((64 - (bl m + t) : Nat) : Int) = e - ((64 - bl m : Nat) : Int) by omega]
  split <;> omega
theorem sqN_shift {m t : Nat} {e : Int} (h : 0 < m) (hb : bl m + t ≤ 62) : sqN M X (e - t) (m * 2^t) = sqN M X e m := by
  have hs := sqS_shift (e := e) h hb
  unfold sqN
  have e1 : m * 2^t * 2^(sqS (e - t) (m * 2^t)) = m * 2^(sqS e m) := by rw [Nat.mul_assoc, ← Nat.pow_add, ← hs]; congr 2; omega
  rw [e1, show e - (t : Int) - (sqS (e - t) (m * 2^t) : Int) - 64 = e - (sqS e m : Int) - 64 by omega]
/-- two numbers of one value have one root -/
theorem sqN_same {m n : Nat} {e d : Int} {B : Nat} (hm : 0 < m) (hn : 0 < n) (bm : bl m ≤ 62) (bn : bl n ≤ 62) (h1 : 0 ≤ e + B) (h2 : 0 ≤ d + B) (h : m * 2^(e + B).toNat = n * 2^(d + B).toNat) : sqN M X e m = sqN M X d n := by
  have hl := congrArg bl h
  rw [bl_mulpow hm, bl_mulpow hn] at hl
  rcases Int.le_total e d with l | l
  · obtain ⟨t, rfl⟩ : ∃ t : Nat, d = e + t := ⟨(d - e).toNat, by omega⟩
    have e1 : m = n * 2^t := by
      refine Nat.eq_of_mul_eq_mul_right (two_pow_pos (e + (B : Int)).toNat) ?_
      rw [h, Nat.mul_assoc, ← Nat.pow_add]; congr 2; omega
    have := sqN_shift (M := M) (X := X) (m := n) (t := t) (e := e + t) hn (by omega)
    rw [← e1, show e + (t : Int) - t = e by omega] at this; exact this
  · obtain ⟨t, rfl⟩ : ∃ t : Nat, e = d + t := ⟨(e - d).toNat, by omega⟩
    have e1 : n = m * 2^t := by
      refine Nat.eq_of_mul_eq_mul_right (two_pow_pos (d + (B : Int)).toNat) ?_
      rw [← h, Nat.mul_assoc, ← Nat.pow_add]; congr 2; omega
    have := sqN_shift (M := M) (X := X) (m := m) (t := t) (e := d + t) hm (by omega)
    rw [← e1, show d + (t : Int) - t = d by omega] at this; exact this.symm
theorem sqS_even (e : Int) {m : Nat} (h : 0 < m) (hb : bl m ≤ 62) : (e - sqS e m) % 2 = 0 ∧ sqS e m + bl m ≤ 64 ∧ 63 ≤ sqS e m + bl m := by
  have hbm := bl_pos (a := m) (by omega)
  unfold sqS
  split
  · rename_i c; refine ⟨by omega, by omega, by omega⟩
  · rename_i c; refine ⟨by omega, by omega, by omega⟩
theorem sqrt_W (h : Wd M X) (ha : a < 2^(1+X+M)) : convN (2*M+4) (X+2) M X (sqrtN (2*M+4) (X+2) (cv M X a)) = sqrtN M X a := by
  by_cases a4 : kd M X a = 4
  · have e1 : sqrtN M X a = nanc M X := by unfold sqrtN; rw [a4, if_neg (by omega), if_pos (.inl rfl)]
    have e2 : sqrtN (2*M+4) (X+2) (cv M X a) = nanc (2*M+4) (X+2) := by unfold sqrtN; rw [kd_cv h, a4, if_neg (by omega), if_pos (.inl rfl)]
    rw [e1, e2, nan_W h]
  have ba := back_W h ha a4
  unfold sqrtN
  rw [kd_cv h, ng_cv h a4]
  split
  · exact ba
  · rename_i c1
    split
    · exact nan_W h
    · rename_i c2
      have ck := kd_cases M X a
      have ka : kd M X a = 2 := by
        rcases ck with k | k | k | k
        · exact absurd (.inl k) c1
        · exact k
        · cases hn : ng M X a
          · exact absurd (.inr ⟨k, hn⟩) c1
          · exact absurd (.inr hn) c2
        · exact absurd k a4
      have fa : fin12 M X a := .inr ka
      have pa := mn_pos ka
      have pa2 : 0 < mn (2*M+4) (X+2) (cv M X a) := mn_pos (by rw [kd_cv h]; exact ka)
      have q1 := ex_bs (fin12_cv h fa)
      have l1 := ex_lo ka
      have l2 := ex_hi h.f.ok ka
      have hb := Fl.bia_le h.f.ok
      have hm := h.f.m1
      have hm2 := h.m
      have hg := bs_g h
      have hbs := bs_eq M X
      have hc : cW X = 3 * bia X + 4 := rfl
      have b53 := bl53 (mn_lt53 (a := a) h.f.ok)
      have b53' := bl53 (mn_lt53 (a := cv M X a) h.g.ok)
      have e1 := mn_cv h fa
      rw [sqN_same (M := 2*M+4) (X := X+2) (B := bs (2*M+4) (X+2)) pa2 pa (by omega) (by omega) q1 (by omega) e1]
      obtain ⟨s1, s2, s3⟩ := sqS_even (ex M X a) pa (by omega)
      have nb := norm_bounds pa (show mn M X a < 2^64 by have := mn_lt53 (a := a) h.f.ok; omega)
      have fit := isq_fit (ea := ex M X a) pa (mn_lt53 (a := a) h.f.ok)
      obtain ⟨r1, r2⟩ := isq_spec fit
      have hlo : 2^62 ≤ mn M X a * 2^(sqS (ex M X a) (mn M X a)) := by
        have h1 := bl_le (a := mn M X a) (by omega)
        have h2 : 2^(bl (mn M X a) - 1) * 2^(sqS (ex M X a) (mn M X a)) ≤ mn M X a * 2^(sqS (ex M X a) (mn M X a)) := Nat.mul_le_mul_right _ h1
        rw [← Nat.pow_add] at h2
        exact Nat.le_trans (pow_le (by omega)) h2
      unfold sqN
      generalize hS : sqS (ex M X a) (mn M X a) = s at *
      have hb2 := isq_bounds hlo (Nat.lt_of_mul_lt_mul_right (a := 2^64) (by rw [show (2:Nat)^64 * 2^64 = 2^128 from rfl]; exact fit)) r1 r2
      generalize hR : isq (mn M X a * 2^s * 2^64) = R at *
      obtain ⟨e0, he0⟩ : ∃ e0 : Int, ex M X a - (s : Int) - 64 = 2 * e0 := ⟨(ex M X a - (s : Int) - 64) / 2, by omega⟩
      rw [he0, show 2 * e0 / 2 = e0 by omega]
      obtain ⟨y, hy⟩ : ∃ y : Nat, ex M X a + 2 * bs (2*M+4) (X+2) = y := ⟨(ex M X a + 2 * bs (2*M+4) (X+2)).toNat, by omega⟩
      obtain ⟨V, hV⟩ : ∃ V : Nat, V = 4000 := ⟨_, rfl⟩
      obtain ⟨u, hu⟩ : ∃ u : Nat, e0 + bs (2*M+4) (X+2) + V = u := ⟨(e0 + bs (2*M+4) (X+2) + V).toNat, by omega⟩
      have off := off_sqrt (M := M) (c := cW X) (I := infc M X) (m := mn M X a) (y := y) (R := R) (Q := mn M X a * 2^s * 2^64) (u := u) (v := V) (mn_lt M X a) (by
        have : 2^(2*M+6) ≤ 2^52 := pow_le (by omega)
        omega) r1 r2 (by
        rw [Nat.mul_assoc, Nat.mul_assoc, Nat.mul_assoc, ← Nat.pow_add, ← Nat.pow_add, ← Nat.pow_add]; congr 2; omega)
      unfold packN
      by_cases hex : R * R = mn M X a * 2^s * 2^64
      · rw [if_neg (by simp [hex]), if_neg (by simp [hex])]
        rw [near_uv (u := u) (v := V) (by omega) (by decide) (by omega), near_uv (M := M) (u := u) (v := V + (cW X + (M+3))) (by omega) (by decide) (by omega), Nat.one_mul, Nat.one_mul, Nat.pow_add]
        exact conv_off h _ (two_pow_pos _) (off.1 hex)
      · rw [if_pos (by simp [hex]), if_pos (by simp [hex])]
        obtain ⟨u', hu'⟩ : ∃ u', u = u' + 1 := ⟨u - 1, by omega⟩
        rw [near_uv (u := u') (v := V) (by omega) (by decide) (by omega), near_uv (M := M) (u := u') (v := V + (cW X + (M+3))) (by omega) (by decide) (by omega), Nat.one_mul, Nat.one_mul, Nat.pow_add]
        exact conv_off h _ (two_pow_pos _) (off.2 hex u' hu')
end Go.Proofs.Ytpliondhiahhnaa.K
