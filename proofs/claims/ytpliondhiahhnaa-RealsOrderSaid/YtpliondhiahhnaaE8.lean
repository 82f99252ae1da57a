/- PLAIN: a result that is rounded twice, first in a format more than twice as wide. -/
import Derived.Test.YtpliondhiahhnaaE7
set_option linter.unusedVariables false
namespace Go.Proofs.Ytpliondhiahhnaa.K
open Sx Fl Go Go.RowKit
theorem dround {M M' I I' G N D : Nat} (hM : 0 < M) (hM' : 0 < M') (hD : 0 < D) (hG : 0 < G) (R : ∀ q, q < I → ∃ p, p < I' ∧ mid M q * G = val M' p)
    (H : ∀ q, q < I → N = mid M q * G * D ∨ (∃ p, N ≤ val M' p * D ∧ val M' p < mid M q * G) ∨ (∃ p, p ≤ I' ∧ mid M q * G < val M' p ∧ val M' p * D ≤ N)) : rnd M I (val M' (rnd M' I' N D)) G = rnd M I N (D * G) := by
  have hT := rnd_to M I N (D * G) hM (Nat.mul_pos hD hG)
  generalize rnd M I N (D * G) = p at *
  have hr : ∀ {r : Nat}, r ≤ I' → rnd M' I' (val M' r * D) D = r := fun h => rnd_val hM' hD h
  have key : ∀ q, q < I → (N < mid M q * (D * G) → val M' (rnd M' I' N D) < mid M q * G) ∧ (N = mid M q * (D * G) → val M' (rnd M' I' N D) = mid M q * G) ∧ (mid M q * (D * G) < N → mid M q * G < val M' (rnd M' I' N D)) := fun q hq => by
    obtain ⟨p0, hp0, e0⟩ := R q hq
    have em : mid M q * (D * G) = mid M q * G * D := by rw [Nat.mul_assoc, Nat.mul_comm D]
    rw [em]
    have hlt : ∀ {x y : Nat}, x < y → x * D < y * D := fun h => Nat.mul_lt_mul_of_pos_right h hD
    rcases H q hq with h | ⟨r, h1, h2⟩ | ⟨r, h1, h2, h3⟩
    · refine ⟨fun h' => by omega, fun _ => ?_, fun h' => by omega⟩
      rw [h, e0, hr (Nat.le_of_lt hp0)]
    · have h4 := hlt h2
      refine ⟨fun _ => ?_, fun h' => by omega, fun h' => by omega⟩
      have hrp : r < p0 := by rw [e0] at h2; exact val_lt_iff.1 h2
      have h5 : rnd M' I' N D ≤ r := by
        have := rnd_mono (m := M') (inf := I') (N := N) (D := D) (N' := val M' r * D) (D' := D) hM' hD hD (Nat.mul_le_mul_right D h1)
        rwa [hr (by omega)] at this
      exact Nat.lt_of_le_of_lt (val_le h5) h2
    · have h4 := hlt h2
      refine ⟨fun h' => by omega, fun h' => by omega, fun _ => ?_⟩
      have h5 : r ≤ rnd M' I' N D := by
        have := rnd_mono (m := M') (inf := I') (N := val M' r * D) (D := D) (N' := N) (D' := D) hM' hD hD (Nat.mul_le_mul_right D h3)
        rwa [hr h1] at this
      exact Nat.lt_of_lt_of_le h2 (val_le h5)
  have hT2 : To M I (val M' (rnd M' I' N D)) G p := by
    refine ⟨hT.le, fun hp => ?_, fun j hj => ?_⟩
    · obtain ⟨k1, k2, k3⟩ := key p hp
      rcases hT.hi hp with h | ⟨h, h'⟩
      · exact .inl (k1 h)
      · exact .inr ⟨k2 h, h'⟩
    · obtain ⟨k1, k2, k3⟩ := key j (by have := hT.le; omega)
      rcases hT.lo j hj with h | ⟨h, h'⟩
      · exact .inl (k3 h)
      · exact .inr ⟨(k2 h.symm).symm, h'⟩
  exact (rnd_to M I _ G hM hG).uniq hG hG hT2 rfl
/-- the neighbours of a midpoint -/
def mlo (M c q : Nat) : Nat := ((2 * sig M q + 1) * 2^(M+3) - 1) * 2^(ge M q + c)
def mhi (M c q : Nat) : Nat := ((2 * sig M q + 1) * 2^(M+3) + 1) * 2^(ge M q + c)
theorem mid_mul (M c q : Nat) : mid M q * 2^(c + (M + 3)) = (2 * sig M q + 1) * 2^(M+3) * 2^(ge M q + c) := by
  unfold mid; rw [Nat.pow_add 2 c, Nat.pow_add 2 (ge M q)]; ac_rfl
theorem mid_between (M c q : Nat) : mlo M c q + 2^(ge M q + c) = mid M q * 2^(c + (M + 3)) ∧ mhi M c q = mid M q * 2^(c + (M + 3)) + 2^(ge M q + c) := by
  rw [mid_mul]
  unfold mlo mhi
  have h1 : 0 < (2 * sig M q + 1) * 2^(M+3) := Nat.mul_pos (by omega) (two_pow_pos _)
  constructor
  · rw [Nat.sub_mul, Nat.one_mul]
    have : 1 * 2^(ge M q + c) ≤ (2 * sig M q + 1) * 2^(M+3) * 2^(ge M q + c) := Nat.mul_le_mul_right _ h1
    omega
  · rw [Nat.add_mul, Nat.one_mul]
/-- away from each midpoint, or on it -/
def Off (M c I N D : Nat) : Prop := ∀ q, q < I → N = mid M q * 2^(c + (M + 3)) * D ∨ N ≤ mlo M c q * D ∨ mhi M c q * D ≤ N
theorem odd_lt (M q : Nat) : 2 * sig M q + 1 + 1 ≤ 2^(M+2) := by
  have := sig_lt M q
  have e : 2^(M+2) = 2 * 2^(M+1) := by rw [Nat.pow_succ 2 (M+1)]; omega
  omega
theorem off_H {M c I I' N D : Nat} (hc : 1 ≤ c) (hbig : ∀ q, q < I → mhi M c q < val (2*M+4) I') (h : Off M c I N D) :
    ∀ q, q < I → N = mid M q * 2^(c + (M + 3)) * D ∨ (∃ p, N ≤ val (2*M+4) p * D ∧ val (2*M+4) p < mid M q * 2^(c + (M + 3))) ∨ (∃ p, p ≤ I' ∧ mid M q * 2^(c + (M + 3)) < val (2*M+4) p ∧ val (2*M+4) p * D ≤ N) := by
  intro q hq
  obtain ⟨b1, b2⟩ := mid_between M c q
  have hp := two_pow_pos (ge M q + c)
  have ho := odd_lt M q
  have hJ := two_pow_pos (M+3)
  have hmul : (2 * sig M q + 1) * 2^(M+3) + 2^(M+3) ≤ 2^(2*M+4+1) := by
    have := Nat.mul_le_mul_right (2^(M+3)) ho
    rw [← Nat.pow_add, Nat.add_mul (2 * sig M q + 1) 1, Nat.one_mul] at this
    rw [show 2*M+4+1 = M+2+(M+3) by omega]; exact this
  have hJ2 : 2^1 ≤ 2^(M+3) := pow_le (by omega)
  obtain ⟨t, ht⟩ : ∃ t, ge M q + c = t + 1 := ⟨ge M q + c - 1, by omega⟩
  have ex1 : ∀ w : Nat, w < 2^(2*M+4+1) → ∃ p, val (2*M+4) p = w * 2^(ge M q + c) := fun w hw => by
    obtain ⟨p, hp⟩ := val_ex (2*M+4) t w hw
    exact ⟨p, by rw [hp, ht, Nat.pow_succ]; ac_rfl⟩
  rcases h q hq with h | h | h
  · exact .inl h
  · obtain ⟨p, e⟩ := ex1 ((2 * sig M q + 1) * 2^(M+3) - 1) (by omega)
    refine .inr (.inl ⟨p, ?_, ?_⟩)
    · rw [e]; exact h
    · rw [e]; show mlo M c q < _; omega
  · obtain ⟨p, e⟩ := ex1 ((2 * sig M q + 1) * 2^(M+3) + 1) (by omega)
    refine .inr (.inr ⟨p, ?_, ?_, ?_⟩)
    · have := hbig q hq
      have e2 : val (2*M+4) p = mhi M c q := e
      rw [← e2] at this
      exact Nat.le_of_lt (val_lt_iff.1 this)
    · rw [e]; show _ < mhi M c q; omega
    · rw [e]; exact h
/-- a quotient -/
theorem off_div {M c I A C u : Nat} (hA : A < 2^(M+1)) (hC : C < 2^(M+1)) (hC0 : 0 < C) : Off M c I (A * 2^u) C := by
  intro q _
  have ho : 1 ≤ 2 * sig M q + 1 := by omega
  obtain ⟨b1, b2⟩ := mid_between M c q
  have hmm := mid_mul M c q
  generalize 2 * sig M q + 1 = o at *
  generalize hV : 2^(ge M q + c) = V at *
  have hV0 : 0 < V := by rw [← hV]; exact two_pow_pos _
  generalize hJ : 2^(M+3) = J at *
  have hJ4 : J = 4 * 2^(M+1) := by rw [← hJ, show M+3 = M+1+2 by omega, Nat.pow_add, Nat.mul_comm]
  -- the three of them times C
  suffices h : A * 2^u = o * J * V * C ∨ A * 2^u + C * V ≤ o * J * V * C ∨ o * J * V * C + C * V ≤ A * 2^u by
    rw [hmm]
    have e1 : mlo M c q * C + C * V = o * J * V * C := by rw [← hmm, ← b1, Nat.add_mul, Nat.mul_comm V]
    have e2 : mhi M c q * C = o * J * V * C + C * V := by rw [b2, hmm, Nat.add_mul, Nat.mul_comm V]
    rcases h with h | h | h
    · exact .inl h
    · right; left; omega
    · right; right; omega
  rcases Nat.le_total (ge M q + c + (M+3)) u with hu | hu
  · obtain ⟨d, rfl⟩ : ∃ d, u = ge M q + c + (M+3) + d := ⟨u - (ge M q + c + (M+3)), by omega⟩
    have e : A * 2^(ge M q + c + (M+3) + d) = (A * 2^d) * (J * V) := by rw [Nat.pow_add, Nat.pow_add 2 (ge M q + c), hV, hJ]; ac_rfl
    have e2 : o * J * V * C = (o * C) * (J * V) := by ac_rfl
    have e3 : C * V ≤ J * V := Nat.mul_le_mul_right _ (by omega)
    rw [e, e2]
    generalize A * 2^d = x
    generalize o * C = y
    rcases Nat.lt_trichotomy x y with h | h | h
    · right; left
      have := Nat.mul_le_mul_right (J * V) (show x + 1 ≤ y from h)
      rw [Nat.add_mul, Nat.one_mul] at this; omega
    · subst h; exact .inl rfl
    · right; right
      have := Nat.mul_le_mul_right (J * V) (show y + 1 ≤ x from h)
      rw [Nat.add_mul, Nat.one_mul] at this; omega
  · obtain ⟨d, hd⟩ : ∃ d, ge M q + c + (M+3) = u + d := ⟨ge M q + c + (M+3) - u, by omega⟩
    have eJV : J * V = 2^u * 2^d := by rw [← Nat.pow_add, ← hd, Nat.pow_add 2 (ge M q + c), hV, hJ, Nat.mul_comm]
    generalize hY : C * 2^d = Y
    have e2 : o * J * V * C = (o * Y) * 2^u := by rw [Nat.mul_assoc o, eJV, ← hY]; ac_rfl
    -- C·V ≤ δ·2^u if Y ≤ δ·J
    have hCV : ∀ δ : Nat, Y ≤ δ * J → C * V ≤ δ * 2^u := fun δ h => by
      have : C * V * J ≤ δ * 2^u * J := by
        have e : C * V * J = Y * 2^u := by rw [← hY, Nat.mul_assoc, Nat.mul_comm V, eJV]; ac_rfl
        rw [e]
        have := Nat.mul_le_mul_right (2^u) h
        have e3 : δ * J * 2^u = δ * 2^u * J := Nat.mul_right_comm ..
        omega
      exact Nat.le_of_mul_le_mul_right this (by omega)
    have hYo : Y ≤ o * Y := Nat.le_mul_of_pos_left Y ho
    have hY0 : 0 < Y := by rw [← hY]; exact Nat.mul_pos hC0 (two_pow_pos _)
    rw [e2]
    rcases Nat.lt_trichotomy A (o * Y) with h | h | h
    · right; left
      have hq : Y ≤ (o * Y - A) * J := by
        rcases Nat.lt_or_ge J Y with l | l
        · have h1 : Y ≤ 2 * (o * Y - A) := by omega
          have h2 : (o * Y - A) * 2 ≤ (o * Y - A) * J := Nat.mul_le_mul_left _ (by have := two_pow_pos (M+1); omega)
          omega
        · have h2 : 1 * J ≤ (o * Y - A) * J := Nat.mul_le_mul_right _ (by omega)
          omega
      have := hCV _ hq
      have e3 : A * 2^u + (o * Y - A) * 2^u = o * Y * 2^u := by rw [← Nat.add_mul]; congr 1; omega
      omega
    · left; rw [h]
    · right; right
      have hq : Y ≤ (A - o * Y) * J := by
        have h2 : 1 * J ≤ (A - o * Y) * J := Nat.mul_le_mul_right _ (by omega)
        omega
      have := hCV _ hq
      have e3 : o * Y * 2^u + (A - o * Y) * 2^u = A * 2^u := by rw [← Nat.add_mul]; congr 1; omega
      omega
/-! ### sums -/
theorem mid_far (M : Nat) (p q : Nat) : val M p + 2^(ge M q) ≤ mid M q ∨ mid M q + 2^(ge M q) ≤ val M p := by
  obtain ⟨h1, h2⟩ := val_succ M q
  rcases Nat.lt_or_ge q p with h | h
  · right
    have := val_le (m := M) (show q + 1 ≤ p from h)
    omega
  · left
    have := val_le (m := M) h
    omega
theorem va_parts {M X a : Nat} : ∃ u, va M X a = mn M X a * 2^u ∧ mn M X a < 2^(M+1) := ⟨_, rfl, mn_lt M X a⟩
theorem sum_core {M X a b V q : Nat} (ha : fin12 M X a) (hb : fin12 M X b) (h1 : V ≤ va M X a + va M X b) (h2 : va M X a ≤ V + va M X b) (h3 : va M X b ≤ V + va M X a) (hd : ∀ P, P ∣ va M X a → P ∣ va M X b → P ∣ V) :
    V = mid M q ∨ V * 2^(M+3) + 2^(ge M q) ≤ mid M q * 2^(M+3) ∨ mid M q * 2^(M+3) + 2^(ge M q) ≤ V * 2^(M+3) := by
  have fa := mid_far M (mg M X a) q
  have fb := mid_far M (mg M X b) q
  rw [← va_mg ha] at fa
  rw [← va_mg hb] at fb
  obtain ⟨u, eu, mu⟩ := va_parts (M := M) (X := X) (a := a)
  obtain ⟨w, ew, mw⟩ := va_parts (M := M) (X := X) (a := b)
  have hmid : mid M q = (2 * sig M q + 1) * 2^(ge M q) := rfl
  have hJ : 2^3 ≤ 2^(M+3) := pow_le (by omega)
  generalize ge M q = k at *
  have hk0 := two_pow_pos k
  -- apart by z, which times J is 2^k or more
  have fin : ∀ z : Nat, 2^k ≤ z * 2^(M+3) → (V + z ≤ mid M q ∨ mid M q + z ≤ V) → V * 2^(M+3) + 2^k ≤ mid M q * 2^(M+3) ∨ mid M q * 2^(M+3) + 2^k ≤ V * 2^(M+3) := fun z hz h => by
    rcases h with h | h
    · left
      have := Nat.mul_le_mul_right (2^(M+3)) h
      rw [Nat.add_mul] at this; omega
    · right
      have := Nat.mul_le_mul_right (2^(M+3)) h
      rw [Nat.add_mul] at this; omega
  rcases Nat.lt_trichotomy V (mid M q) with hlt | heq | hgt
  · right
    by_cases hk : k ≤ M + 3
    · exact fin 1 (by rw [Nat.one_mul]; exact pow_le hk) (by omega)
    · obtain ⟨t, ht⟩ : ∃ t, k = t + (M + 3) := ⟨k - (M+3), by omega⟩
      have ek : 2^k = 2^t * 2^(M+3) := by rw [ht, Nat.pow_add]
      by_cases hu : t ≤ u
      · by_cases hw : t ≤ w
        · have dV : 2^t ∣ V := hd _ (by rw [eu]; exact Nat.dvd_trans (Nat.pow_dvd_pow 2 hu) (Nat.dvd_mul_left ..)) (by rw [ew]; exact Nat.dvd_trans (Nat.pow_dvd_pow 2 hw) (Nat.dvd_mul_left ..))
          have dm : 2^t ∣ mid M q := by rw [hmid]; exact Nat.dvd_trans (Nat.pow_dvd_pow 2 (by omega)) (Nat.dvd_mul_left ..)
          refine fin (2^t) (Nat.le_of_eq ek) (.inl ?_)
          obtain ⟨x, hx⟩ := dV
          obtain ⟨y, hy⟩ := dm
          rw [hx, hy] at hlt ⊢
          have := Nat.lt_of_mul_lt_mul_left hlt
          have := Nat.mul_le_mul_left (2^t) (show x + 1 ≤ y from this)
          rw [Nat.mul_add, Nat.mul_one] at this; exact this
        · have sb : 8 * va M X b ≤ 2^k := by
            rw [ew]
            have g1 : mn M X b * 2^w ≤ 2^(M+1) * 2^w := Nat.mul_le_mul_right _ (Nat.le_of_lt mw)
            have g2 : 2^(M+1) * 2^w ≤ 2^(k-3) := by rw [← Nat.pow_add]; exact pow_le (by omega)
            have g3 : 2^k = 8 * 2^(k-3) := by rw [show (8 : Nat) = 2^3 from rfl, ← Nat.pow_add]; congr 1; omega
            omega
          have hz : 2^k ≤ (2^k - va M X b) * 2^(M+3) := by
            have := Nat.mul_le_mul_left (2^k - va M X b) hJ
            omega
          exact fin (2^k - va M X b) hz (by omega)
      · have sa : 8 * va M X a ≤ 2^k := by
          rw [eu]
          have g1 : mn M X a * 2^u ≤ 2^(M+1) * 2^u := Nat.mul_le_mul_right _ (Nat.le_of_lt mu)
          have g2 : 2^(M+1) * 2^u ≤ 2^(k-3) := by rw [← Nat.pow_add]; exact pow_le (by omega)
          have g3 : 2^k = 8 * 2^(k-3) := by rw [show (8 : Nat) = 2^3 from rfl, ← Nat.pow_add]; congr 1; omega
          omega
        have hz : 2^k ≤ (2^k - va M X a) * 2^(M+3) := by
          have := Nat.mul_le_mul_left (2^k - va M X a) hJ
          omega
        exact fin (2^k - va M X a) hz (by omega)
  · exact .inl heq
  · right
    by_cases hk : k ≤ M + 3
    · exact fin 1 (by rw [Nat.one_mul]; exact pow_le hk) (by omega)
    · obtain ⟨t, ht⟩ : ∃ t, k = t + (M + 3) := ⟨k - (M+3), by omega⟩
      have ek : 2^k = 2^t * 2^(M+3) := by rw [ht, Nat.pow_add]
      by_cases hu : t ≤ u
      · by_cases hw : t ≤ w
        · have dV : 2^t ∣ V := hd _ (by rw [eu]; exact Nat.dvd_trans (Nat.pow_dvd_pow 2 hu) (Nat.dvd_mul_left ..)) (by rw [ew]; exact Nat.dvd_trans (Nat.pow_dvd_pow 2 hw) (Nat.dvd_mul_left ..))
          have dm : 2^t ∣ mid M q := by rw [hmid]; exact Nat.dvd_trans (Nat.pow_dvd_pow 2 (by omega)) (Nat.dvd_mul_left ..)
          refine fin (2^t) (Nat.le_of_eq ek) (.inr ?_)
          obtain ⟨x, hx⟩ := dV
          obtain ⟨y, hy⟩ := dm
          rw [hx, hy] at hgt ⊢
          have := Nat.lt_of_mul_lt_mul_left hgt
          have := Nat.mul_le_mul_left (2^t) (show y + 1 ≤ x from this)
          rw [Nat.mul_add, Nat.mul_one] at this; exact this
        · have sb : 8 * va M X b ≤ 2^k := by
            rw [ew]
            have g1 : mn M X b * 2^w ≤ 2^(M+1) * 2^w := Nat.mul_le_mul_right _ (Nat.le_of_lt mw)
            have g2 : 2^(M+1) * 2^w ≤ 2^(k-3) := by rw [← Nat.pow_add]; exact pow_le (by omega)
            have g3 : 2^k = 8 * 2^(k-3) := by rw [show (8 : Nat) = 2^3 from rfl, ← Nat.pow_add]; congr 1; omega
            omega
          have hz : 2^k ≤ (2^k - va M X b) * 2^(M+3) := by
            have := Nat.mul_le_mul_left (2^k - va M X b) hJ
            omega
          exact fin (2^k - va M X b) hz (by omega)
      · have sa : 8 * va M X a ≤ 2^k := by
          rw [eu]
          have g1 : mn M X a * 2^u ≤ 2^(M+1) * 2^u := Nat.mul_le_mul_right _ (Nat.le_of_lt mu)
          have g2 : 2^(M+1) * 2^u ≤ 2^(k-3) := by rw [← Nat.pow_add]; exact pow_le (by omega)
          have g3 : 2^k = 8 * 2^(k-3) := by rw [show (8 : Nat) = 2^3 from rfl, ← Nat.pow_add]; congr 1; omega
          omega
        have hz : 2^k ≤ (2^k - va M X a) * 2^(M+3) := by
          have := Nat.mul_le_mul_left (2^k - va M X a) hJ
          omega
        exact fin (2^k - va M X a) hz (by omega)
theorem off_sum {M X a b V c I : Nat} (ha : fin12 M X a) (hb : fin12 M X b) (h1 : V ≤ va M X a + va M X b) (h2 : va M X a ≤ V + va M X b) (h3 : va M X b ≤ V + va M X a) (hd : ∀ P, P ∣ va M X a → P ∣ va M X b → P ∣ V) : Off M c I (V * 2^(c + (M+3))) 1 := by
  intro q _
  obtain ⟨b1, b2⟩ := mid_between M c q
  have core := sum_core (q := q) ha hb h1 h2 h3 hd
  rw [Nat.mul_one, Nat.mul_one, Nat.mul_one]
  have e : ∀ x : Nat, x * 2^(c + (M+3)) = x * 2^(M+3) * 2^c := fun x => by rw [Nat.pow_add]; ac_rfl
  rw [Nat.pow_add 2 (ge M q)] at b1 b2
  rw [e] at b1 b2 ⊢
  rw [e]
  rcases core with h | h | h
  · left; rw [h]
  · right; left
    have := Nat.mul_le_mul_right (2^c) h
    rw [Nat.add_mul] at this; omega
  · right; right
    have := Nat.mul_le_mul_right (2^c) h
    rw [Nat.add_mul] at this; omega
/-! ### roots -/
theorem sq_off {M m o y t : Nat} (hm : m < 2^(M+1)) (ho1 : 1 ≤ o) (ho : o + 1 ≤ 2^(M+2)) :
    m * 2^y = (o * 2^(M+3)) * (o * 2^(M+3)) * 2^(2*t) ∨ m * 2^y ≤ (o * 2^(M+3) - 1) * (o * 2^(M+3) - 1) * 2^(2*t) ∨ (o * 2^(M+3) + 1) * (o * 2^(M+3) + 1) * 2^(2*t) ≤ m * 2^y := by
  generalize hS : 2^(2*t) = S
  have hS0 : 0 < S := by rw [← hS]; exact two_pow_pos _
  generalize hJ : 2^(M+3) = J
  have eJ1 : J = 4 * 2^(M+1) := by rw [← hJ, show M+3 = M+1+2 by omega, Nat.pow_add, Nat.mul_comm]
  have eJ2 : J = 2 * 2^(M+2) := by rw [← hJ, show M+3 = M+2+1 by omega, Nat.pow_add, Nat.mul_comm]
  have hJ8 : 8 ≤ J := by rw [← hJ]; exact pow_le (a := 3) (by omega)
  obtain ⟨p, hp⟩ : ∃ p, o * J = p + 1 := ⟨o * J - 1, by have := Nat.mul_pos ho1 (show 0 < J by omega); omega⟩
  have hpp : (p + 1) * (p + 1) = p * p + 2 * p + 1 := by rw [Nat.add_mul, Nat.mul_add]; omega
  have hpq : (p + 1 + 1) * (p + 1 + 1) = (p + 1) * (p + 1) + 2 * (p + 1) + 1 := by rw [Nat.add_mul (p+1), Nat.mul_add (p+1)]; omega
  have hJo : 2 * (p + 1) + 2 * J ≤ J * J := by
    have h1 : (2 * (o + 1)) * J ≤ J * J := Nat.mul_le_mul_right J (by omega)
    rw [Nat.mul_assoc, Nat.add_mul, Nat.one_mul, hp] at h1; omega
  have hoo : (p + 1) * (p + 1) = o * o * (J * J) := by rw [← hp]; ac_rfl
  rw [hp, Nat.add_sub_cancel]
  rcases Nat.le_total (2*t + 2*(M+3)) y with hy | hy
  · obtain ⟨z, rfl⟩ : ∃ z, y = 2*t + 2*(M+3) + z := ⟨y - (2*t + 2*(M+3)), by omega⟩
    have e : m * 2^(2*t + 2*(M+3) + z) = (m * 2^z) * (J * J) * S := by rw [Nat.pow_add, Nat.pow_add 2 (2*t), hS, show 2*(M+3) = (M+3) + (M+3) by omega, Nat.pow_add 2 (M+3), hJ]; ac_rfl
    rw [e]
    generalize m * 2^z = x
    rcases Nat.lt_trichotomy x (o * o) with h | h | h
    · right; left
      refine Nat.mul_le_mul_right S ?_
      have := Nat.mul_le_mul_right (J * J) (show x + 1 ≤ o * o from h)
      rw [Nat.add_mul, Nat.one_mul, ← hoo, hpp] at this
      omega
    · left; rw [h, hoo]
    · right; right
      refine Nat.mul_le_mul_right S ?_
      have := Nat.mul_le_mul_right (J * J) (show o * o + 1 ≤ x from h)
      rw [Nat.add_mul, Nat.one_mul, ← hoo] at this
      rw [hpq]
      omega
  · obtain ⟨d, hd⟩ : ∃ d, 2*t + 2*(M+3) = y + d := ⟨2*t + 2*(M+3) - y, by omega⟩
    have eJS : J * J * S = 2^y * 2^d := by rw [← Nat.pow_add, ← hd, Nat.pow_add 2 (2*t), hS, show 2*(M+3) = (M+3) + (M+3) by omega, Nat.pow_add 2 (M+3), hJ]; ac_rfl
    generalize hT : o * o * 2^d = T
    have eT : (p + 1) * (p + 1) * S = T * 2^y := by rw [hoo, Nat.mul_assoc, eJS, ← hT]; ac_rfl
    have hd0 := two_pow_pos d
    have hTd : o * 2^d ≤ T := by rw [← hT, Nat.mul_assoc]; exact Nat.le_mul_of_pos_left _ ho1
    have hdd : 2^d ≤ o * 2^d := Nat.le_mul_of_pos_left _ ho1
    -- w·S ≤ δ·2^y if w·2^d ≤ δ·J·J
    have cut : ∀ w δ : Nat, w * 2^d ≤ δ * (J * J) → w * S ≤ δ * 2^y := fun w δ h => by
      refine Nat.le_of_mul_le_mul_right (c := J * J) ?_ (Nat.mul_pos (by omega) (by omega))
      have e1 : w * S * (J * J) = w * 2^d * 2^y := by rw [Nat.mul_assoc, Nat.mul_comm S, eJS]; ac_rfl
      have e2 : δ * 2^y * (J * J) = δ * (J * J) * 2^y := Nat.mul_right_comm ..
      rw [e1, e2]; exact Nat.mul_le_mul_right _ h
    rcases Nat.lt_trichotomy m T with h | h | h
    · right; left
      have hw : (2 * p + 1) * 2^d ≤ (T - m) * (J * J) := by
        have h1 : (2 * p + 1) * 2^d ≤ 2 * (o * 2^d) * J := by
          have : 2 * p + 1 ≤ 2 * (o * J) := by omega
          have := Nat.mul_le_mul_right (2^d) this
          have e : 2 * (o * J) * 2^d = 2 * (o * 2^d) * J := by ac_rfl
          omega
        have h2 : 2 * (o * 2^d) ≤ (T - m) * J := by
          rcases Nat.lt_or_ge T (2 * m) with l | l
          · have : 1 * J ≤ (T - m) * J := Nat.mul_le_mul_right _ (by omega)
            omega
          · have : (T - m) * 8 ≤ (T - m) * J := Nat.mul_le_mul_left _ hJ8
            omega
        have h3 := Nat.mul_le_mul_right J h2
        rw [Nat.mul_assoc (T - m)] at h3
        omega
      have := cut _ _ hw
      have e1 : (p + 1) * (p + 1) * S = p * p * S + (2 * p + 1) * S := by rw [hpp, Nat.add_assoc, Nat.add_mul]
      have e2 : m * 2^y + (T - m) * 2^y = T * 2^y := by rw [← Nat.add_mul]; congr 1; omega
      omega
    · left; rw [h, eT]
    · right; right
      have hw : (2 * (p + 1) + 1) * 2^d ≤ (m - T) * (J * J) := by
        have h1 : (2 * (p + 1) + 1) * 2^d ≤ 3 * J * T := by
          have a1 : 2 * (p + 1) + 1 ≤ 3 * (o * J) := by omega
          have a2 := Nat.mul_le_mul_right (2^d) a1
          have e : 3 * (o * J) * 2^d = 3 * J * (o * 2^d) := by ac_rfl
          have a3 : 3 * J * (o * 2^d) ≤ 3 * J * T := Nat.mul_le_mul_left _ hTd
          omega
        have h2 : 3 * J * T ≤ J * J := by
          have : 4 * T ≤ J := by omega
          have := Nat.mul_le_mul_left J this
          have e : J * (4 * T) = 4 * (J * T) := by ac_rfl
          have e2 : 3 * J * T = 3 * (J * T) := Nat.mul_assoc ..
          omega
        have h3 : 1 * (J * J) ≤ (m - T) * (J * J) := Nat.mul_le_mul_right _ (by omega)
        omega
      have := cut _ _ hw
      rw [hpq, Nat.add_assoc, Nat.add_mul, eT]
      have e2 : T * 2^y + (m - T) * 2^y = m * 2^y := by rw [← Nat.add_mul]; congr 1; omega
      omega
/-- a number of few bits is not within a unit of a number of many -/
theorem gap {R u w T : Nat} (hw : w ≤ R) : w * 2^T ≤ R * 2^u ∨ (R + 1) * 2^u ≤ w * 2^T := by
  rcases Nat.lt_or_ge (R * 2^u) (w * 2^T) with h | h
  · right
    rcases Nat.le_total T u with l | l
    · have h1 : w * 2^T ≤ R * 2^u := Nat.mul_le_mul hw (pow_le l)
      omega
    · obtain ⟨d, rfl⟩ : ∃ d, T = u + d := ⟨T - u, by omega⟩
      have e : w * 2^(u + d) = w * 2^d * 2^u := by rw [Nat.pow_add]; ac_rfl
      rw [e] at h ⊢
      exact Nat.mul_le_mul_right _ (Nat.lt_of_mul_lt_mul_right h)
  · exact .inl h
theorem root_cmp {R Q u w T : Nat} (r1 : R * R ≤ Q) (r2 : Q < (R + 1) * (R + 1)) (hw : w ≤ R) :
    (Q * 2^(2*u) ≤ w * w * 2^(2*T) → R * 2^u ≤ w * 2^T ∧ (R * R < Q → (R + 1) * 2^u ≤ w * 2^T)) ∧ (w * w * 2^(2*T) ≤ Q * 2^(2*u) → w * 2^T ≤ R * 2^u) := by
  have sq : ∀ x k : Nat, (x * 2^k) * (x * 2^k) = x * x * 2^(2*k) := fun x k => by rw [show 2*k = k + k by omega, Nat.pow_add]; ac_rfl
  have hu := two_pow_pos (2*u)
  have s1 : (R * 2^u) * (R * 2^u) ≤ Q * 2^(2*u) := by rw [sq]; exact Nat.mul_le_mul_right _ r1
  have s2 : Q * 2^(2*u) < ((R + 1) * 2^u) * ((R + 1) * 2^u) := by rw [sq]; exact Nat.mul_lt_mul_of_pos_right r2 hu
  rw [← sq w T]
  have le_of : ∀ {x y : Nat}, x * x ≤ y * y → x ≤ y := fun {x y} h => by
    rcases Nat.lt_or_ge y x with l | l
    · have := Nat.mul_lt_mul'' l l; omega
    · exact l
  refine ⟨fun h => ⟨le_of (Nat.le_trans s1 h), fun hs => ?_⟩, fun h => ?_⟩
  · rcases gap (R := R) (u := u) (w := w) (T := T) hw with g | g
    · exfalso
      have h1 := Nat.mul_le_mul g g
      have h2 : (R * 2^u) * (R * 2^u) < Q * 2^(2*u) := by rw [sq]; exact Nat.mul_lt_mul_of_pos_right hs hu
      omega
    · exact g
  · rcases gap (R := R) (u := u) (w := w) (T := T) hw with g | g
    · exact g
    · exfalso
      have h1 := Nat.mul_le_mul g g
      omega
theorem off_sqrt {M c I m y R Q u v : Nat} (hm : m < 2^(M+1)) (hR : 2^(2*M+6) ≤ R) (r1 : R * R ≤ Q) (r2 : Q < (R + 1) * (R + 1)) (hQ : Q * 2^(2*u) = m * 2^y * 2^(2*v)) :
    (R * R = Q → Off M c I (R * 2^u) (2^v)) ∧ (R * R ≠ Q → ∀ u', u = u' + 1 → Off M c I ((2 * R + 1) * 2^u') (2^v)) := by
  have main : ∀ q, (R * R = Q ∧ R * 2^u = mid M q * 2^(c + (M+3)) * 2^v) ∨ (R * 2^u ≤ mlo M c q * 2^v ∧ (R * R < Q → (R + 1) * 2^u ≤ mlo M c q * 2^v)) ∨ mhi M c q * 2^v ≤ R * 2^u := fun q => by
    have ho := odd_lt M q
    have hmm := mid_mul M c q
    have hso := sq_off (m := m) (o := 2 * sig M q + 1) (y := y) (t := ge M q + c) hm (by omega) ho
    unfold mlo mhi
    rw [hmm]
    generalize 2 * sig M q + 1 = o at *
    have hJ := two_pow_pos (M+3)
    have hoJ : o * 2^(M+3) + 2^(M+3) ≤ 2^(2*M+6) := by
      have := Nat.mul_le_mul_right (2^(M+3)) ho
      rw [← Nat.pow_add, Nat.add_mul, Nat.one_mul] at this
      have h5 : 2^(M+2+(M+3)) ≤ 2^(2*M+6) := pow_le (by omega)
      omega
    have hmul : ∀ w : Nat, w * 2^(ge M q + c) * 2^v = w * 2^(ge M q + c + v) := fun w => by rw [Nat.mul_assoc, ← Nat.pow_add]
    have hsq : ∀ w : Nat, w * w * 2^(2*(ge M q + c)) * 2^(2*v) = w * w * 2^(2*(ge M q + c + v)) := fun w => by rw [Nat.mul_assoc, ← Nat.pow_add]; congr 2; omega
    rw [hmul, hmul, hmul]
    have rc := fun w (h : w ≤ R) => root_cmp (R := R) (Q := Q) (u := u) (w := w) (T := ge M q + c + v) r1 r2 h
    rcases hso with h | h | h
    · left
      have he : Q * 2^(2*u) = o * 2^(M+3) * (o * 2^(M+3)) * 2^(2*(ge M q + c + v)) := by rw [hQ, h, hsq]
      obtain ⟨g1, g2⟩ := rc (o * 2^(M+3)) (by omega)
      have g3 := (g1 (Nat.le_of_eq he))
      have g4 := g2 (Nat.le_of_eq he.symm)
      refine ⟨?_, by omega⟩
      rcases Nat.lt_or_eq_of_le r1 with l | l
      · have := g3.2 l
        have := two_pow_pos u
        rw [Nat.add_mul] at *; omega
      · exact l
    · right; left
      refine (rc (o * 2^(M+3) - 1) (by omega)).1 ?_
      rw [hQ, ← hsq]; exact Nat.mul_le_mul_right _ h
    · right; right
      refine (rc (o * 2^(M+3) + 1) (by omega)).2 ?_
      rw [hQ, ← hsq]; exact Nat.mul_le_mul_right _ h
  refine ⟨fun he q _ => ?_, fun hne u' hu q _ => ?_⟩
  · rcases main q with ⟨_, h⟩ | ⟨h, _⟩ | h
    · exact .inl h
    · exact .inr (.inl h)
    · exact .inr (.inr h)
  · have hlt : R * R < Q := by omega
    have e1 : (2 * R + 1) * 2^u' = R * 2^u + 2^u' := by rw [hu, Nat.pow_succ, Nat.add_mul, Nat.one_mul]; congr 1; ac_rfl
    have e2 : (R + 1) * 2^u = R * 2^u + 2 * 2^u' := by rw [Nat.add_mul, Nat.one_mul, hu, Nat.pow_succ, Nat.mul_comm 2 (2^u')]
    rcases main q with ⟨h, _⟩ | ⟨_, h⟩ | h
    · exact absurd h hne
    · right; left
      have := h hlt
      omega
    · right; right; omega
end Go.Proofs.Ytpliondhiahhnaa.K
