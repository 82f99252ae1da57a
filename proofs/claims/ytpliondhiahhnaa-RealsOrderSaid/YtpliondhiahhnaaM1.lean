/- PLAIN: rounding of a positive rational (numerator N, denominator D, in units of half the least unit) to patterns, without program. -/
namespace Fl

def sig (m p : Nat) : Nat := if p < 2^m then p else p % 2^m + 2^m
def ge (m p : Nat) : Nat := p / 2^m - 1
def mid (m p : Nat) : Nat := (2 * sig m p + 1) * 2^(ge m p)
def val (m p : Nat) : Nat := 2 * sig m p * 2^(ge m p)

theorem two_pow_pos (n : Nat) : 0 < 2^n := Nat.pow_pos (by decide)

/-- p is s·2^m + q in canonical form. -/
theorem code_sig {m s q : Nat} (hq : q < 2^(m+1)) (h : s = 0 ∨ 2^m ≤ q) : sig m (s*2^m+q) = q ∧ ge m (s*2^m+q) = s := by
  have hp := two_pow_pos m
  have h2 : 2^(m+1) = 2*2^m := by rw [Nat.pow_succ]; omega
  unfold sig ge
  by_cases hlt : q < 2^m
  · have hs : s = 0 := by omega
    subst hs
    simp only [Nat.zero_mul, Nat.zero_add, if_pos hlt, Nat.div_eq_of_lt hlt]
    exact ⟨trivial, trivial⟩
  · obtain ⟨t, rfl⟩ : ∃ t, q = 2^m + t := ⟨q - 2^m, by omega⟩
    have e : s*2^m + (2^m + t) = t + 2^m * (s+1) := by rw [Nat.mul_succ, Nat.mul_comm s]; omega
    have ht : t < 2^m := by omega
    rw [if_neg (by rw [e, Nat.mul_succ]; omega), e, Nat.add_mul_mod_self_left, Nat.mod_eq_of_lt ht, Nat.add_mul_div_left _ _ hp, Nat.div_eq_of_lt ht]
    omega

theorem code_ex (m p : Nat) : ∃ s q, p = s*2^m+q ∧ q < 2^(m+1) ∧ (s = 0 ∨ 2^m ≤ q) := by
  have hp := two_pow_pos m
  have h2 : 2^(m+1) = 2*2^m := by rw [Nat.pow_succ]; omega
  by_cases h : p < 2^m
  · exact ⟨0, p, by omega, by omega, .inl rfl⟩
  · have h1 := Nat.div_add_mod p (2^m)
    have h3 := Nat.mod_lt p hp
    have h4 : 1 ≤ p / 2^m := (Nat.le_div_iff_mul_le hp).2 (by omega)
    refine ⟨p / 2^m - 1, p % 2^m + 2^m, ?_, by omega, .inr (by omega)⟩
    obtain ⟨k, hk⟩ : ∃ k, p / 2^m = k + 1 := ⟨p / 2^m - 1, by omega⟩
    rw [hk] at h1 ⊢
    rw [Nat.mul_succ] at h1
    rw [Nat.add_sub_cancel, Nat.mul_comm]
    omega

theorem val_code {m s q : Nat} (hq : q ≤ 2^(m+1)) (h : s = 0 ∨ 2^m ≤ q) : val m (s*2^m+q) = 2*q*2^s := by
  have h2 : 2^(m+1) = 2*2^m := by rw [Nat.pow_succ]; omega
  unfold val
  by_cases hlt : q < 2^(m+1)
  · rw [(code_sig hlt h).1, (code_sig hlt h).2]
  · have hq' : q = 2^(m+1) := by omega
    subst hq'
    have e : s*2^m + 2^(m+1) = (s+1)*2^m + 2^m := by rw [Nat.succ_mul]; omega
    have hl : 2^m < 2^(m+1) := by have := two_pow_pos m; omega
    rw [e, (code_sig hl (.inr (Nat.le_refl _))).1, (code_sig hl (.inr (Nat.le_refl _))).2]
    rw [Nat.pow_succ 2 s, h2]; ac_rfl

theorem mid_code {m s q : Nat} (hq : q < 2^(m+1)) (h : s = 0 ∨ 2^m ≤ q) : mid m (s*2^m+q) = (2*q+1)*2^s := by
  unfold mid
  rw [(code_sig hq h).1, (code_sig hq h).2]

theorem val_succ (m p : Nat) : val m (p+1) = val m p + 2*2^(ge m p) ∧ mid m p = val m p + 2^(ge m p) := by
  obtain ⟨s, q, rfl, hq, h⟩ := code_ex m p
  have e1 := val_code (Nat.le_of_lt hq) h
  have e2 := val_code (m := m) (s := s) (q := q+1) (by omega) (h.imp id (by omega))
  have e3 := mid_code hq h
  have e4 := (code_sig hq h).2
  rw [show s*2^m+q+1 = s*2^m+(q+1) from rfl, e2, e1, e3, e4]
  constructor
  · rw [← Nat.add_mul]; congr 1; 
  · rw [Nat.add_mul, Nat.one_mul]

theorem mid_lt_val_succ (m p : Nat) : mid m p < val m (p+1) := by
  have := val_succ m p; have := two_pow_pos (ge m p); omega
theorem val_lt_mid (m p : Nat) : val m p < mid m p := by
  have := val_succ m p; have := two_pow_pos (ge m p); omega
theorem mid_lt_succ (m p : Nat) : mid m p < mid m (p+1) := Nat.lt_trans (mid_lt_val_succ m p) (val_lt_mid m (p+1))
theorem mid_mono {m p q : Nat} (h : p < q) : mid m p < mid m q := by
  induction q with
  | zero => omega
  | succ q ih =>
    by_cases e : p = q
    · subst e; exact mid_lt_succ m p
    · exact Nat.lt_trans (ih (by omega)) (mid_lt_succ m q)
theorem val_mono {m p q : Nat} (h : p < q) : val m p < val m q := by
  induction q with
  | zero => omega
  | succ q ih =>
    have h1 := mid_lt_val_succ m q
    have h2 := val_lt_mid m q
    by_cases e : p = q
    · subst e; omega
    · have := ih (by omega); omega
theorem val_le {m p q : Nat} (h : p ≤ q) : val m p ≤ val m q := by
  rcases Nat.lt_or_eq_of_le h with h | rfl
  · exact Nat.le_of_lt (val_mono h)
  · exact Nat.le_refl _
theorem val_inj {m p q : Nat} (h : val m p = val m q) : p = q := by
  rcases Nat.lt_trichotomy p q with h1 | h1 | h1
  · have := val_mono (m := m) h1; omega
  · exact h1
  · have := val_mono (m := m) h1; omega
theorem val_lt_iff {m p q : Nat} : val m p < val m q ↔ p < q := by
  constructor
  · intro h
    rcases Nat.lt_or_ge p q with h1 | h1
    · exact h1
    · have := val_le (m := m) h1; omega
  · exact val_mono

/-- p is the pattern that is nearest to N/D. -/
structure To (m inf N D p : Nat) : Prop where
  le : p ≤ inf
  hi : p < inf → N < mid m p * D ∨ (N = mid m p * D ∧ p % 2 = 0)
  lo : ∀ j, p = j+1 → mid m j * D < N ∨ (mid m j * D = N ∧ p % 2 = 0)

theorem To.mono {m inf N D N' D' p p' : Nat} (hD : 0 < D) (hD' : 0 < D') (h : To m inf N D p) (h' : To m inf N' D' p') (hle : N*D' ≤ N'*D) : p ≤ p' := by
  rcases Nat.lt_or_ge p' p with hlt | hge
  · exfalso
    have hinf := h.le
    obtain ⟨j, rfl⟩ : ∃ j, p = j+1 := ⟨p-1, by omega⟩
    have h1 := h'.hi (by omega)
    have h2 := h.lo j rfl
    have h3 : N' ≤ mid m p' * D' := by omega
    have h4 : mid m j * D ≤ N := by omega
    have h5 : mid m j * D * D' ≤ mid m p' * D' * D := Nat.le_trans (Nat.mul_le_mul_right D' h4) (Nat.le_trans hle (Nat.mul_le_mul_right D h3))
    have h6 : mid m j ≤ mid m p' := by
      rw [Nat.mul_assoc, Nat.mul_assoc, Nat.mul_comm D' D] at h5
      exact Nat.le_of_mul_le_mul_right h5 (Nat.mul_pos hD hD')
    have h7 : j = p' := by
      rcases Nat.lt_or_eq_of_le (show p' ≤ j by omega) with h8 | h8
      · have := mid_mono (m := m) h8; omega
      · exact h8.symm
    subst h7
    have h8 : N*D' = mid m j * D * D' ∧ N' * D = mid m j * D' * D := by
      have := Nat.mul_le_mul_right D' h4
      have := Nat.mul_le_mul_right D h3
      have e : mid m j * D * D' = mid m j * D' * D := Nat.mul_right_comm ..
      omega
    have h9 : N = mid m j * D := Nat.eq_of_mul_eq_mul_right hD' h8.1
    have h10 : N' = mid m j * D' := Nat.eq_of_mul_eq_mul_right hD h8.2
    omega
  · exact hge

theorem To.uniq {m inf N D N' D' p p' : Nat} (hD : 0 < D) (hD' : 0 < D') (h : To m inf N D p) (h' : To m inf N' D' p') (e : N*D' = N'*D) : p = p' :=
  Nat.le_antisymm (h.mono hD hD' h' (Nat.le_of_eq e)) (h'.mono hD' hD h (Nat.le_of_eq e.symm))

/-- To the nearest whole number, of two that are as near the even one. -/
def rne (N D : Nat) : Nat := if D < 2*(N%D) ∨ (2*(N%D) = D ∧ N/D%2 = 1) then N/D+1 else N/D
def sOf (m N D : Nat) : Nat := Nat.log2 (N/D) - (m+1)
def rnd (m inf N D : Nat) : Nat := min inf (sOf m N D * 2^m + rne N (D*2^(sOf m N D+1)))

theorem rne_or (N D : Nat) : rne N D = N/D ∨ rne N D = N/D+1 := by unfold rne; split <;> simp
theorem rne_ratio {N D N' D' : Nat} (hD : 0 < D) (hD' : 0 < D') (e : N*D' = N'*D) : rne N D = rne N' D' := by
  have hdiv : N/D = N'/D' := by
    rw [← Nat.mul_div_mul_right N D hD', ← Nat.mul_div_mul_right N' D' hD, e, Nat.mul_comm D D']
  have h1 := Nat.div_add_mod N D
  have h2 := Nat.div_add_mod N' D'
  have hmod : N%D*D' = N'%D'*D := by
    have a1 : N*D' = D*(N/D)*D' + N%D*D' := by rw [← Nat.add_mul, h1]
    have a2 : N'*D = D'*(N'/D')*D + N'%D'*D := by rw [← Nat.add_mul, h2]
    have a3 : D*(N/D)*D' = D'*(N'/D')*D := by rw [hdiv]; ac_rfl
    omega
  have k1 : D < 2*(N%D) ↔ D' < 2*(N'%D') := by
    constructor <;> intro h
    · have := Nat.mul_lt_mul_of_pos_right h hD'
      have : D'*D < 2*(N'%D')*D := by rw [Nat.mul_assoc 2, ← hmod, ← Nat.mul_assoc 2, Nat.mul_comm D' D]; exact this
      exact Nat.lt_of_mul_lt_mul_right this
    · have := Nat.mul_lt_mul_of_pos_right h hD
      have : D*D' < 2*(N%D)*D' := by rw [Nat.mul_assoc 2, hmod, ← Nat.mul_assoc 2, Nat.mul_comm D D']; exact this
      exact Nat.lt_of_mul_lt_mul_right this
  have k2 : 2*(N%D) = D ↔ 2*(N'%D') = D' := by
    constructor <;> intro h
    · have : 2*(N'%D')*D = D'*D := by rw [Nat.mul_assoc 2, ← hmod, ← Nat.mul_assoc 2, h, Nat.mul_comm D' D]
      exact Nat.eq_of_mul_eq_mul_right hD this
    · have : 2*(N%D)*D' = D*D' := by rw [Nat.mul_assoc 2, hmod, ← Nat.mul_assoc 2, h, Nat.mul_comm D D']
      exact Nat.eq_of_mul_eq_mul_right hD' this
  unfold rne
  simp only [k1, k2, hdiv]

theorem sOf_spec (m N D : Nat) (hD : 0 < D) : N < D*2^(sOf m N D+m+2) ∧ (sOf m N D = 0 ∨ D*2^(sOf m N D+m+1) ≤ N) := by
  have h1 : N/D < 2^(Nat.log2 (N/D)+1) := Nat.lt_log2_self
  have h2 : 2^(Nat.log2 (N/D)+1) ≤ 2^(sOf m N D+m+2) := Nat.pow_le_pow_right (by decide) (by unfold sOf; omega)
  refine ⟨?_, ?_⟩
  · have h3 := (Nat.div_lt_iff_lt_mul hD).1 (Nat.lt_of_lt_of_le h1 h2)
    rw [Nat.mul_comm]; exact h3
  · by_cases h : sOf m N D = 0
    · exact .inl h
    · right
      have h4 : Nat.log2 (N/D) = sOf m N D+m+1 := by unfold sOf at h ⊢; omega
      have h5 : N/D ≠ 0 := by intro e; rw [e] at h4; have h6 : Nat.log2 0 = 0 := by decide
                              omega
      have h6 : 2^(Nat.log2 (N/D)) ≤ N/D := Nat.log2_self_le h5
      rw [h4] at h6
      have := (Nat.le_div_iff_mul_le hD).1 h6
      rw [Nat.mul_comm]; exact this

theorem sOf_uniq {m N D s : Nat} (hD : 0 < D) (h1 : N < D*2^(s+m+2)) (h2 : s = 0 ∨ D*2^(s+m+1) ≤ N) : sOf m N D = s := by
  obtain ⟨g1, g2⟩ := sOf_spec m N D hD
  have key : ∀ a b : Nat, N < D*2^(a+m+2) → (b = 0 ∨ D*2^(b+m+1) ≤ N) → b ≤ a := by
    intro a b ha hb
    rcases hb with hb | hb
    · omega
    · have h3 : D*2^(b+m+1) < D*2^(a+m+2) := Nat.lt_of_le_of_lt hb ha
      have h4 : 2^(b+m+1) < 2^(a+m+2) := Nat.lt_of_mul_lt_mul_left h3
      have := (Nat.pow_lt_pow_iff_right (by decide : 1 < 2)).1 h4
      omega
  exact Nat.le_antisymm (key s _ h1 g2) (key _ s g1 h2)

theorem rnd_eq {m inf N D s : Nat} (hD : 0 < D) (h1 : N < D*2^(s+m+2)) (h2 : s = 0 ∨ D*2^(s+m+1) ≤ N) : rnd m inf N D = min inf (s*2^m + rne N (D*2^(s+1))) := by
  unfold rnd; rw [sOf_uniq hD h1 h2]

theorem rnd_to (m inf N D : Nat) (hm : 0 < m) (hD : 0 < D) : To m inf N D (rnd m inf N D) := by
  obtain ⟨g1, g2⟩ := sOf_spec m N D hD
  unfold rnd
  generalize sOf m N D = s at *
  have hE : 0 < D*2^(s+1) := Nat.mul_pos hD (two_pow_pos _)
  have h2m : 2^(m+1) = 2*2^m := by rw [Nat.pow_succ]; omega
  -- the quotient
  have hN := Nat.div_add_mod N (D*2^(s+1))
  have hr := Nat.mod_lt N hE
  have hq1 : N/(D*2^(s+1)) < 2^(m+1) := by
    rw [Nat.div_lt_iff_lt_mul hE]
    have e : 2^(m+1)*(D*2^(s+1)) = D*2^(s+m+2) := by
      rw [show s+m+2 = (m+1)+(s+1) by omega, Nat.pow_add 2 (m+1) (s+1)]; ac_rfl
    rw [e]; exact g1
  have hq2 : s = 0 ∨ 2^m ≤ N/(D*2^(s+1)) := by
    refine g2.imp id (fun h => ?_)
    rw [Nat.le_div_iff_mul_le hE]
    have e : 2^m*(D*2^(s+1)) = D*2^(s+m+1) := by
      rw [show s+m+1 = m+(s+1) by omega, Nat.pow_add 2 m (s+1)]; ac_rfl
    rw [e]; exact h
  unfold rne
  generalize hqd : N/(D*2^(s+1)) = q at *
  generalize hrd : N%(D*2^(s+1)) = r at *
  have hmid : mid m (s*2^m+q) * D = D*2^(s+1)*q + D*2^s := by
    rw [mid_code hq1 hq2, Nat.add_mul, Nat.one_mul, Nat.pow_succ, Nat.add_mul]
    congr 1
    · ac_rfl
    · ac_rfl
  have h2E : D*2^(s+1) = 2*(D*2^s) := by rw [Nat.pow_succ]; ac_rfl
  have hps : 0 < D*2^s := Nat.mul_pos hD (two_pow_pos _)
  generalize hE' : D*2^s = E at *
  rw [h2E] at hN hr hmid ⊢
  -- the place below
  have hlow : ∀ j, s*2^m+q = j+1 → mid m j * D < 2*E*q ∧ mid m j * D + E ≥ 2*E*q - 0 * E := by
    intro j hj
    have hv := (val_succ m j).1
    have hv2 := (val_succ m j).2
    have hv3 : val m (j+1) = 2*q*2^s := by rw [← hj]; exact val_code (Nat.le_of_lt hq1) hq2
    have hge : ge m j ≤ s := by
      have h1 : ge m (j+1) = s := by rw [← hj]; exact (code_sig hq1 hq2).2
      rw [← h1]; unfold ge
      have : j/2^m ≤ (j+1)/2^m := Nat.div_le_div_right (Nat.le_succ j)
      omega
    have hpg : 2^(ge m j) ≤ 2^s := Nat.pow_le_pow_right (by decide) hge
    have hpg0 := two_pow_pos (ge m j)
    have e1 : mid m j = 2*q*2^s - 2^(ge m j) := by omega
    have e2 : 2*q*2^s*D = 2*E*q := by rw [← hE']; ac_rfl
    have hle : 2^(ge m j) ≤ 2*q*2^s := by omega
    have e3 : mid m j * D + 2^(ge m j) * D = 2*E*q := by
      rw [← Nat.add_mul, e1, Nat.sub_add_cancel hle, e2]
    have e4 : 2^(ge m j) * D ≤ E := by rw [← hE', Nat.mul_comm]; exact Nat.mul_le_mul_left D hpg
    have e5 : 0 < 2^(ge m j) * D := Nat.mul_pos hpg0 hD
    omega
  have hup : mid m (s*2^m+q+1) * D ≥ 2*E*q + 2*E := by
    have h1 := val_lt_mid m (s*2^m+q+1)
    have h2 := val_code (m := m) (s := s) (q := q+1) (by omega) (hq2.imp id (by omega))
    rw [show s*2^m+(q+1) = s*2^m+q+1 from rfl] at h2
    have h3 : 2*(q+1)*2^s*D = 2*E*q+2*E := by
      have e : 2*E*q+2*E = 2*E*(q+1) := by rw [Nat.mul_add, Nat.mul_one]
      rw [e, ← hE']; ac_rfl
    rw [h2] at h1
    have := Nat.mul_le_mul_right D (Nat.le_of_lt h1)
    omega
  have hev : s*2^m % 2 = 0 := by
    obtain ⟨k, rfl⟩ : ∃ k, m = k+1 := ⟨m-1, by omega⟩
    rw [Nat.pow_succ, ← Nat.mul_assoc, Nat.mul_mod_left]
  generalize hc : s*2^m+q = c at *
  have hpar : c % 2 = q % 2 := by omega
  by_cases hup1 : 2*E < 2*r ∨ (2*r = 2*E ∧ q%2=1)
  · rw [if_pos hup1, ← Nat.add_assoc, hc]
    rcases Nat.lt_or_ge c inf with hlt | hge
    · rw [Nat.min_eq_right (by omega)]
      refine ⟨by omega, fun _ => .inl (by omega), fun j hj => ?_⟩
      obtain rfl : c = j := by omega
      omega
    · rw [Nat.min_eq_left (by omega)]
      refine ⟨Nat.le_refl _, fun h => absurd h (Nat.lt_irrefl _), fun j hj => ?_⟩
      have h3 : mid m j ≤ mid m c := by
        rcases Nat.lt_or_eq_of_le (show j ≤ c by omega) with h | h
        · exact Nat.le_of_lt (mid_mono h)
        · rw [h]; exact Nat.le_refl _
      have := Nat.mul_le_mul_right D h3
      rcases Nat.lt_or_eq_of_le (show j ≤ c by omega) with h | h
      · have h4 := mid_mono (m := m) h
        have := Nat.mul_lt_mul_of_pos_right h4 hD
        omega
      · subst h; omega
  · rw [if_neg hup1, hc]
    rcases Nat.lt_or_ge inf c with hlt | hge
    · rw [Nat.min_eq_left (by omega)]
      refine ⟨Nat.le_refl _, fun h => absurd h (Nat.lt_irrefl _), fun j hj => .inl ?_⟩
      obtain ⟨i, rfl⟩ : ∃ i, c = i+1 := ⟨c-1, by omega⟩
      have h5 := (hlow i rfl).1
      have h3 : mid m j ≤ mid m i := by
        rcases Nat.lt_or_eq_of_le (show j ≤ i by omega) with h | h
        · exact Nat.le_of_lt (mid_mono h)
        · rw [h]; exact Nat.le_refl _
      have := Nat.mul_le_mul_right D h3
      omega
    · rw [Nat.min_eq_right (by omega)]
      refine ⟨by omega, fun _ => by omega, fun j hj => .inl ?_⟩
      have := (hlow j hj).1
      omega

theorem rnd_ratio {m inf N D N' D' : Nat} (hm : 0 < m) (hD : 0 < D) (hD' : 0 < D') (e : N*D' = N'*D) : rnd m inf N D = rnd m inf N' D' :=
  (rnd_to m inf N D hm hD).uniq hD hD' (rnd_to m inf N' D' hm hD') e
theorem rnd_mono {m inf N D N' D' : Nat} (hm : 0 < m) (hD : 0 < D) (hD' : 0 < D') (e : N*D' ≤ N'*D) : rnd m inf N D ≤ rnd m inf N' D' :=
  (rnd_to m inf N D hm hD).mono hD hD' (rnd_to m inf N' D' hm hD') e
theorem rnd_le (m inf N D : Nat) : rnd m inf N D ≤ inf := Nat.min_le_left ..
/-- A value of the format is kept. -/
theorem rnd_val {m inf D p : Nat} (hm : 0 < m) (hD : 0 < D) (hp : p ≤ inf) : rnd m inf (val m p * D) D = p := by
  refine (rnd_to m inf _ D hm hD).uniq hD hD ⟨hp, fun _ => .inl ?_, fun j hj => .inl ?_⟩ rfl
  · exact Nat.mul_lt_mul_of_pos_right (val_lt_mid m p) hD
  · subst hj; exact Nat.mul_lt_mul_of_pos_right (mid_lt_val_succ m j) hD


theorem To.of_cmp {m inf N D N' D' p : Nat} (h : To m inf N D p) (c : ∀ q, (N < mid m q * D ↔ N' < mid m q * D') ∧ (mid m q * D < N ↔ mid m q * D' < N')) : To m inf N' D' p := by
  refine ⟨h.le, fun hp => ?_, fun j hj => ?_⟩
  · have h1 := h.hi hp
    have h2 := c p
    rcases Nat.lt_trichotomy N' (mid m p * D') with h3 | h3 | h3
    · exact .inl h3
    · refine .inr ⟨h3, ?_⟩
      have : ¬ N < mid m p * D := fun h4 => by have := h2.1.1 h4; omega
      have : ¬ mid m p * D < N := fun h4 => by have := h2.2.1 h4; omega
      omega
    · have := h2.2.2 h3; omega
  · have h1 := h.lo j hj
    have h2 := c j
    rcases Nat.lt_trichotomy N' (mid m j * D') with h3 | h3 | h3
    · have := h2.1.2 h3; omega
    · refine .inr ⟨h3.symm, ?_⟩
      have : ¬ N < mid m j * D := fun h4 => by have := h2.1.1 h4; omega
      have : ¬ mid m j * D < N := fun h4 => by have := h2.2.1 h4; omega
      omega
    · exact .inl h3

theorem rnd_of_cmp {m inf N D N' D' : Nat} (hm : 0 < m) (hD : 0 < D) (hD' : 0 < D') (c : ∀ q, (N < mid m q * D ↔ N' < mid m q * D') ∧ (mid m q * D < N ↔ mid m q * D' < N')) : rnd m inf N D = rnd m inf N' D' :=
  ((rnd_to m inf N D hm hD).of_cmp c).uniq hD' hD' (rnd_to m inf N' D' hm hD') rfl

theorem sig_lt (m p : Nat) : sig m p < 2^(m+1) := by
  obtain ⟨s, q, rfl, hq, h⟩ := code_ex m p
  rw [(code_sig hq h).1]; exact hq

/-- Between two neighbours n, n+1 (times 2^k/2^j) that have at least m+3 bits: each midpoint is on the same side. -/
theorem side_mid {m n k j N D : Nat} (hn : 2^(m+2) ≤ n) (h1 : n*2^k*D < N*2^j) (h2 : N*2^j < (n+1)*2^k*D) (p : Nat) :
    (mid m p * D < N ∧ mid m p * 2^j ≤ n*2^k) ∨ (N < mid m p * D ∧ (n+1)*2^k ≤ mid m p * 2^j) := by
  have hj := two_pow_pos j
  have ho : 2 * sig m p + 1 < 2^(m+2) := by
    have := sig_lt m p
    have e : 2^(m+2) = 2*2^(m+1) := by rw [Nat.pow_succ 2 (m+1)]; omega
    omega
  have key : mid m p * 2^j ≤ n*2^k ∨ (n+1)*2^k ≤ mid m p * 2^j := by
    unfold mid
    generalize 2*sig m p + 1 = o at *
    generalize ge m p = g
    rw [Nat.mul_assoc, ← Nat.pow_add]
    rcases Nat.lt_or_ge (g+j) k with h | h
    · left
      have a1 : 2^(g+j) ≤ 2^k := Nat.pow_le_pow_right (by decide) (by omega)
      exact Nat.mul_le_mul (by omega) a1
    · obtain ⟨d, hd⟩ : ∃ d, g+j = d+k := ⟨g+j-k, by omega⟩
      rw [hd, Nat.pow_add, ← Nat.mul_assoc]
      rcases Nat.lt_or_ge n (o*2^d) with h3 | h3
      · exact .inr (Nat.mul_le_mul_right _ h3)
      · exact .inl (Nat.mul_le_mul_right _ h3)
  rcases key with h | h
  · refine .inl ⟨?_, h⟩
    have a1 : mid m p * 2^j * D ≤ n*2^k*D := Nat.mul_le_mul_right D h
    have a2 : mid m p * D * 2^j < N * 2^j := by rw [Nat.mul_right_comm]; omega
    exact Nat.lt_of_mul_lt_mul_right a2
  · refine .inr ⟨?_, h⟩
    have a1 : (n+1)*2^k*D ≤ mid m p * 2^j * D := Nat.mul_le_mul_right D h
    have a2 : N * 2^j < mid m p * D * 2^j := by rw [Nat.mul_right_comm (mid m p)]; omega
    exact Nat.lt_of_mul_lt_mul_right a2

theorem rnd_sticky {m inf n k j N D N' D' : Nat} (hm : 0 < m) (hD : 0 < D) (hD' : 0 < D') (hn : 2^(m+2) ≤ n) (h1 : n*2^k*D < N*2^j) (h2 : N*2^j < (n+1)*2^k*D)
    (h1' : n*2^k*D' < N'*2^j) (h2' : N'*2^j < (n+1)*2^k*D') : rnd m inf N D = rnd m inf N' D' := by
  refine rnd_of_cmp hm hD hD' (fun q => ?_)
  have hk := two_pow_pos k
  have hlt : n*2^k < (n+1)*2^k := Nat.mul_lt_mul_of_pos_right (Nat.lt_succ_self n) hk
  have a := side_mid hn h1 h2 q
  have b := side_mid hn h1' h2' q
  omega

/-- bias + Mant: the half of the least unit is 2 to the power -(bs). -/
def bs (M X : Nat) : Nat := 2^(X-1) - 1 + M
def infc (M X : Nat) : Nat := (2^X-1)*2^M
/-- The pattern (without sign) that is nearest to N/D times 2 to the power e. -/
def near (M X N D : Nat) (e : Int) : Nat := rnd M (infc M X) (N * 2^(e + bs M X).toNat) (D * 2^(-(e + bs M X)).toNat)

theorem near_le (M X N D : Nat) (e : Int) : near M X N D e ≤ infc M X := rnd_le ..

/-- Equal values, equal patterns: K lifts both exponents. -/
theorem near_eq {M X N D N' D' : Nat} {e e' : Int} (K : Nat) (hM : 0 < M) (hD : 0 < D) (hD' : 0 < D') (he : 0 ≤ e + K) (he' : 0 ≤ e' + K)
    (h : N * 2^(e+K).toNat * D' = N' * 2^(e'+K).toNat * D) : near M X N D e = near M X N' D' e' := by
  unfold near
  generalize (bs M X : Int) = B
  refine rnd_ratio hM (Nat.mul_pos hD (two_pow_pos _)) (Nat.mul_pos hD' (two_pow_pos _)) ?_
  have key : ∀ a : Int, 0 ≤ a + K → ∃ u v c : Nat, (a + B).toNat = u ∧ (-(a+B)).toNat = v ∧ (a+K).toNat = c ∧ (c : Int) - K + B = u - v := by
    intro a ha
    exact ⟨_, _, _, rfl, rfl, rfl, by omega⟩
  obtain ⟨u, v, c, hu, hv, hc, r⟩ := key e he
  obtain ⟨u', v', c', hu', hv', hc', r'⟩ := key e' he'
  rw [hu, hv, hu', hv']
  rw [hc, hc'] at h
  -- c + v + u' = c' + v' + u
  have hs : c + v + u' = c' + v' + u := by omega
  have hpos : 0 < 2^(c + c') := two_pow_pos _
  have e1 : N * 2^u * (D' * 2^v') * 2^(c+c') = N * 2^c * D' * 2^(u + v' + c') := by
    simp only [Nat.pow_add]; ac_rfl
  have e2 : N' * 2^u' * (D * 2^v) * 2^(c+c') = N' * 2^c' * D * 2^(u' + v + c) := by
    simp only [Nat.pow_add]; ac_rfl
  have e3 : u + v' + c' = u' + v + c := by omega
  exact Nat.eq_of_mul_eq_mul_right hpos (by rw [e1, e2, h, e3])

theorem near_scale {M X N D : Nat} {e : Int} (hM : 0 < M) (hD : 0 < D) (j : Nat) : near M X (N * 2^j) D (e - j) = near M X N D e := by
  refine near_eq (K := e.natAbs + j) hM hD hD (by omega) (by omega) ?_
  rw [show (e + ((e.natAbs + j : Nat) : Int)).toNat = (e - j + ((e.natAbs + j : Nat) : Int)).toNat + j by omega, Nat.pow_add]
  ac_rfl

/-- N1/D1·2^e1 ≤ N2/D2·2^e2 -/
theorem near_mono {M X N D N' D' : Nat} {e e' : Int} (K : Nat) (hM : 0 < M) (hD : 0 < D) (hD' : 0 < D') (he : 0 ≤ e + K) (he' : 0 ≤ e' + K)
    (h : N * 2^(e+K).toNat * D' ≤ N' * 2^(e'+K).toNat * D) : near M X N D e ≤ near M X N' D' e' := by
  unfold near
  generalize (bs M X : Int) = B
  refine rnd_mono hM (Nat.mul_pos hD (two_pow_pos _)) (Nat.mul_pos hD' (two_pow_pos _)) ?_
  have key : ∀ a : Int, 0 ≤ a + K → ∃ u v c : Nat, (a + B).toNat = u ∧ (-(a+B)).toNat = v ∧ (a+K).toNat = c ∧ (c : Int) - K + B = u - v := by
    intro a ha
    exact ⟨_, _, _, rfl, rfl, rfl, by omega⟩
  obtain ⟨u, v, c, hu, hv, hc, r⟩ := key e he
  obtain ⟨u', v', c', hu', hv', hc', r'⟩ := key e' he'
  rw [hu, hv, hu', hv']
  rw [hc, hc'] at h
  have hpos : 0 < 2^(c + c') := two_pow_pos _
  have e1 : N * 2^u * (D' * 2^v') * 2^(c+c') = N * 2^c * D' * 2^(u + v' + c') := by
    simp only [Nat.pow_add]; ac_rfl
  have e2 : N' * 2^u' * (D * 2^v) * 2^(c+c') = N' * 2^c' * D * 2^(u' + v + c) := by
    simp only [Nat.pow_add]; ac_rfl
  have e3 : u + v' + c' = u' + v + c := by omega
  refine Nat.le_of_mul_le_mul_right (c := 2^(c+c')) ?_ hpos
  rw [e1, e2, e3]
  exact Nat.mul_le_mul_right _ h

/-- With something beyond the last bit: n·2^e < N/D·2^e' < (n+1)·2^e (K lifts). -/
theorem near_sticky {M X n N D : Nat} {e e' : Int} (K : Nat) (hM : 0 < M) (hD : 0 < D) (hn : 2^(M+2) ≤ n) (he : 0 ≤ e + K) (he' : 0 ≤ e' + K)
    (h1 : n * 2^(e+K).toNat * D < N * 2^(e'+K).toNat) (h2 : N * 2^(e'+K).toNat < (n+1) * 2^(e+K).toNat * D) : near M X N D e' = near M X (2*n+1) 1 (e-1) := by
  unfold near
  generalize (bs M X : Int) = B
  obtain ⟨k, j, hk, hj, hkj⟩ : ∃ k j : Nat, (e+B).toNat = k ∧ (-(e+B)).toNat = j ∧ (k : Int) - j = e + B := ⟨_, _, rfl, rfl, by omega⟩
  obtain ⟨u, v, hu, hv, huv⟩ : ∃ k j : Nat, (e'+B).toNat = k ∧ (-(e'+B)).toNat = j ∧ (k : Int) - j = e' + B := ⟨_, _, rfl, rfl, by omega⟩
  obtain ⟨u1, v1, hu1, hv1, huv1⟩ : ∃ k j : Nat, (e-1+B).toNat = k ∧ (-(e-1+B)).toNat = j ∧ (k : Int) - j = e-1 + B := ⟨_, _, rfl, rfl, by omega⟩
  rw [hu, hv, hu1, hv1, Nat.one_mul]
  obtain ⟨c, hc⟩ : ∃ c : Nat, (e+K).toNat = c := ⟨_, rfl⟩
  obtain ⟨c', hc'⟩ : ∃ c : Nat, (e'+K).toNat = c := ⟨_, rfl⟩
  rw [hc, hc'] at h1 h2
  have hpos : 0 < 2^(c + c') := two_pow_pos _
  have hs : c + v + j + u + c' = c + c' + (v + j + u) := by omega
  -- everything times 2^(c+c')
  have f1 : ∀ t : Nat, t * 2^k * (D * 2^v) * 2^(c+c') = t * 2^c * D * 2^(k+v+c') := by intro t; simp only [Nat.pow_add]; ac_rfl
  have f2 : N * 2^u * 2^j * 2^(c+c') = N * 2^c' * 2^(k+v+c') := by
    have : u + j + c = k + v + c' := by omega
    rw [← this]; simp only [Nat.pow_add]; ac_rfl
  have hp2 : 0 < 2^(k+v+c') := two_pow_pos _
  refine rnd_sticky (n := n) (k := k) (j := j) hM (Nat.mul_pos hD (two_pow_pos _)) (two_pow_pos _) hn ?_ ?_ ?_ ?_
  · refine Nat.lt_of_mul_lt_mul_right (a := 2^(c+c')) ?_
    rw [f1, f2]; exact Nat.mul_lt_mul_of_pos_right h1 hp2
  · refine Nat.lt_of_mul_lt_mul_right (a := 2^(c+c')) ?_
    rw [f1, f2]; exact Nat.mul_lt_mul_of_pos_right h2 hp2
  all_goals
    have g : 2^k * 2^v1 = 2*(2^u1*2^j) := by
      rw [← Nat.pow_add, ← Nat.pow_add, Nat.mul_comm 2, ← Nat.pow_succ]; congr 1; omega
    have g0 : 0 < 2^u1*2^j := Nat.mul_pos (two_pow_pos _) (two_pow_pos _)
    rw [Nat.mul_assoc _ (2^k), g, Nat.mul_assoc _ (2^u1), ← Nat.mul_assoc _ 2]
    exact Nat.mul_lt_mul_of_pos_right (by omega) g0
end Fl
