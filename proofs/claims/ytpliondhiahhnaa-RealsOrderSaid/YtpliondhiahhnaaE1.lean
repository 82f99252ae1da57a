/- PLAIN: patterns in their order, their values as integers, sums as roundings. -/
import Derived.Test.YtpliondhiahhnaaD3
set_option linter.unusedVariables false
namespace Go.Proofs.Ytpliondhiahhnaa.K
open Sx Fl Go Go.RowKit
variable {M X a b : Nat}
/-- a pattern without its sign -/
def mg (M X a : Nat) : Nat := fd M X a * 2^M + fr M a
theorem mg_split (ha : a < 2^(1+X+M)) : a = sgn M X (ng M X a) + mg M X a := split_a ha
theorem infc_eq (M X : Nat) : infc M X = (2^X - 1) * 2^M := rfl
theorem mg_lt (M X a : Nat) : mg M X a < 2^(X+M) := by
  have h1 := fd_lt M X a
  have h2 := fr_lt M a
  have h3 := infc_succ M X
  have h4 : fd M X a * 2^M ≤ (2^X - 1) * 2^M := Nat.mul_le_mul_right _ (by omega)
  unfold mg; rw [infc_eq] at h3; omega
theorem kd_zero (h : kd M X a = 1) : fd M X a = 0 ∧ fr M a = 0 := by
  unfold kd at h
  split at h
  · split at h <;> omega
  · split at h
    · split at h
      · exact ⟨by assumption, by assumption⟩
      · omega
    · omega
theorem mg_zero (h : kd M X a = 1) : mg M X a = 0 := by
  obtain ⟨h1, h2⟩ := kd_zero h
  unfold mg; rw [h1, h2, Nat.zero_mul]
theorem mg_fin (h : kd M X a = 2) : 0 < mg M X a ∧ mg M X a < infc M X := by
  have h1 := fd_fin h
  have h2 := fd_lt M X a
  have h3 := fr_lt M a
  have hm := two_pow_pos M
  have h4 : fd M X a * 2^M + 2^M ≤ (2^X - 1) * 2^M := by rw [← Nat.succ_mul]; exact Nat.mul_le_mul_right _ (by omega)
  rw [infc_eq]; unfold mg
  refine ⟨?_, by omega⟩
  unfold kd at h
  rw [if_neg h1] at h
  by_cases c : fd M X a = 0
  · rw [if_pos c] at h
    by_cases d : fr M a = 0
    · rw [if_pos d] at h; omega
    · omega
  · have : 1 * 2^M ≤ fd M X a * 2^M := Nat.mul_le_mul_right _ (by omega)
    omega
theorem kd_top (h : kd M X a = 3 ∨ kd M X a = 4) : fd M X a = 2^X - 1 ∧ (kd M X a = 3 → fr M a = 0) ∧ (kd M X a = 4 → fr M a ≠ 0) := by
  unfold kd at *
  by_cases c : fd M X a = 2^X - 1
  · rw [if_pos c] at *
    by_cases d : fr M a = 0
    · rw [if_pos d] at *; exact ⟨c, fun _ => d, fun h => by omega⟩
    · rw [if_neg d] at *; exact ⟨c, fun h => by omega, fun _ => d⟩
  · rw [if_neg c] at h
    split at h
    · split at h <;> omega
    · omega
theorem mg_inf (h : kd M X a = 3) : mg M X a = infc M X := by
  obtain ⟨h1, h2, _⟩ := kd_top (.inl h)
  unfold mg; rw [h1, h2 h, infc_eq]; rfl
theorem mg_nan (h : kd M X a = 4) : infc M X < mg M X a := by
  obtain ⟨h1, _, h2⟩ := kd_top (.inr h)
  have := h2 h
  unfold mg; rw [h1, infc_eq]; omega
/-- numbers: zero or finite -/
def fin12 (M X a : Nat) : Prop := kd M X a = 1 ∨ kd M X a = 2
theorem mg_lt_inf (hX : 1 ≤ X) (h : fin12 M X a) : mg M X a < infc M X := by
  rcases h with h | h
  · rw [mg_zero h, infc_eq]
    have : 2^1 ≤ 2^X := pow_le hX
    exact Nat.mul_pos (by omega) (two_pow_pos _)
  · exact (mg_fin h).2
theorem mg_le_inf (hX : 1 ≤ X) (h : kd M X a ≠ 4) : mg M X a ≤ infc M X := by
  rcases kd_cases M X a with k | k | k | k
  · exact Nat.le_of_lt (mg_lt_inf hX (.inl k))
  · exact Nat.le_of_lt (mg_lt_inf hX (.inr k))
  · exact Nat.le_of_eq (mg_inf k)
  · exact absurd k h
/-- a value in halves of the least unit -/
def va (M X a : Nat) : Nat := mn M X a * 2^(ex M X a + bs M X).toNat
theorem val_zero (M : Nat) : val M 0 = 0 := by
  unfold val sig; rw [if_pos (two_pow_pos M)]; omega
theorem va_mg (h : fin12 M X a) : va M X a = val M (mg M X a) := by
  rcases h with h | h
  · rw [mg_zero h, val_zero]; unfold va mn; rw [if_neg (by omega), Nat.zero_mul]
  · unfold va mg
    have hfr := fr_lt M a
    by_cases c : fd M X a = 0
    · have e1 : (ex M X a + (bs M X : Int)) = 1 := by rw [bs_eq]; unfold ex; rw [if_pos h, if_pos c]; omega
      have e2 : mn M X a = fr M a := by unfold mn; rw [if_pos h, if_pos c]
      rw [e1, e2, c, Nat.zero_mul, Nat.zero_add]
      have := code_sig (m := M) (s := 0) (q := fr M a) (by rw [Nat.pow_succ]; omega) (Or.inl rfl)
      rw [Nat.zero_mul, Nat.zero_add] at this
      unfold val; rw [this.1, this.2]
      show fr M a * 2 = _
      omega
    · have e1 : (ex M X a + (bs M X : Int)) = fd M X a := by rw [bs_eq]; unfold ex; rw [if_pos h, if_neg c]; omega
      have e2 : mn M X a = fr M a + 2^M := by unfold mn; rw [if_pos h, if_neg c]
      have e3 : fd M X a * 2^M + fr M a = (fd M X a - 1) * 2^M + (fr M a + 2^M) := by
        obtain ⟨g, hg⟩ : ∃ g, fd M X a = g + 1 := ⟨fd M X a - 1, by omega⟩
        rw [hg, Nat.add_sub_cancel, Nat.add_mul]; omega
      have := code_sig (m := M) (s := fd M X a - 1) (q := fr M a + 2^M) (by rw [Nat.pow_succ]; omega) (Or.inr (by omega))
      rw [e3]
      unfold val; rw [this.1, this.2, e1, e2]
      rw [show ((fd M X a : Int)).toNat = fd M X a from rfl]
      obtain ⟨g, hg⟩ : ∃ g, fd M X a = g + 1 := ⟨fd M X a - 1, by omega⟩
      rw [hg, Nat.add_sub_cancel, Nat.pow_succ]; ac_rfl
/-! ### the order -/
theorem plc_mg (ha : a < 2^(1+X+M)) : plc M X a = if ng M X a = true then -(mg M X a : Int) else mg M X a := by
  have h := mg_split ha
  unfold plc
  by_cases c : 2^(X+M) ≤ a
  · have n : ng M X a = true := by unfold ng; exact decide_eq_true c
    rw [if_pos c, if_pos n]
    rw [n, sgn_true] at h
    congr 2; omega
  · have n : ng M X a = false := by unfold ng; exact decide_eq_false c
    rw [if_neg c, n, if_neg (by decide)]
    rw [n, sgn_false] at h
    omega
/-- signed -/
def sg (s : Bool) (n : Nat) : Int := if s = true then -(n : Int) else n
theorem sg_abs (s : Bool) (n : Nat) : (sg s n).natAbs = n := by unfold sg; split <;> omega
theorem plc_sg (ha : a < 2^(1+X+M)) : plc M X a = sg (ng M X a) (mg M X a) := plc_mg ha
/-- a signed value in halves of the least unit -/
def sv (M X a : Nat) : Int := sg (ng M X a) (va M X a)
/-- the value of a place -/
def pv' (M : Nat) (p : Int) : Int := if p < 0 then -(val M p.natAbs : Int) else val M p.natAbs
theorem pv_sg (M : Nat) (s : Bool) (n : Nat) : pv' M (sg s n) = sg s (val M n) := by
  unfold pv' sg
  cases s
  · rw [if_neg (show ¬ (false = true) by decide), if_neg (show ¬ (false = true) by decide), if_neg (by omega)]; rfl
  · rw [if_pos rfl, if_pos rfl]
    by_cases c : n = 0
    · subst c; rw [if_neg (by decide)]; show (val M 0 : Int) = -(val M 0 : Int); rw [val_zero]; rfl
    · rw [if_pos (by omega), show (-(n : Int)).natAbs = n by omega]
theorem pv_lt {M : Nat} {p q : Int} (h : p < q) : pv' M p < pv' M q := by
  unfold pv'
  by_cases c : p < 0
  · rw [if_pos c]
    have hp : 0 < val M p.natAbs := by
      have := val_mono (m := M) (show 0 < p.natAbs by omega)
      omega
    by_cases d : q < 0
    · rw [if_pos d]
      have := val_mono (m := M) (show q.natAbs < p.natAbs by omega)
      omega
    · rw [if_neg d]; omega
  · rw [if_neg c, if_neg (by omega)]
    have := val_mono (m := M) (show p.natAbs < q.natAbs by omega)
    omega
theorem pv_lt_iff {M : Nat} {p q : Int} : pv' M p < pv' M q ↔ p < q := by
  constructor
  · intro h
    rcases Int.lt_trichotomy p q with c | c | c
    · exact c
    · subst c; omega
    · have := pv_lt (M := M) c; omega
  · exact pv_lt
theorem sv_plc (ha : a < 2^(1+X+M)) (h : fin12 M X a) : sv M X a = pv' M (plc M X a) := by
  rw [plc_sg ha, pv_sg]; unfold sv; rw [va_mg h]
/-- patterns are compared as their values -/
theorem plc_lt_iff (ha : a < 2^(1+X+M)) (hb : b < 2^(1+X+M)) (h : fin12 M X a) (k : fin12 M X b) : plc M X a < plc M X b ↔ sv M X a < sv M X b := by
  rw [sv_plc ha h, sv_plc hb k]; exact pv_lt_iff.symm
/-! ### rounding of signed values -/
def rz (M X : Nat) (v : Int) : Int := if v < 0 then -(rnd M (infc M X) v.natAbs 1 : Int) else rnd M (infc M X) v.natAbs 1
theorem rnd_zero (hM : 0 < M) (i : Nat) : rnd M i 0 1 = 0 := by
  have := rnd_val (m := M) (inf := i) (D := 1) (p := 0) hM (by decide) (Nat.zero_le _)
  rwa [val_zero, Nat.zero_mul] at this
theorem rz_sg (hM : 0 < M) (s : Bool) (n : Nat) : rz M X (sg s n) = sg s (rnd M (infc M X) n 1) := by
  unfold rz sg
  cases s
  · rw [if_neg (show ¬ (false = true) by decide), if_neg (show ¬ (false = true) by decide), if_neg (by omega)]; rfl
  · rw [if_pos rfl, if_pos rfl]
    by_cases c : n = 0
    · subst c; rw [if_neg (by decide)]; show (rnd M _ 0 1 : Int) = -(rnd M _ 0 1 : Int); rw [rnd_zero hM]; rfl
    · rw [if_pos (by omega), show (-(n : Int)).natAbs = n by omega]
theorem rz_mono (hM : 0 < M) {u v : Int} (h : u ≤ v) : rz M X u ≤ rz M X v := by
  have key : ∀ {m n : Nat}, m ≤ n → rnd M (infc M X) m 1 ≤ rnd M (infc M X) n 1 := fun h => rnd_mono hM (by decide) (by decide) (by omega)
  unfold rz
  by_cases c : u < 0
  · rw [if_pos c]
    by_cases d : v < 0
    · rw [if_pos d]
      have := key (show v.natAbs ≤ u.natAbs by omega)
      omega
    · rw [if_neg d]; omega
  · rw [if_neg c, if_neg (by omega)]
    have := key (show u.natAbs ≤ v.natAbs by omega)
    omega
theorem rz_bounds (M X : Nat) (v : Int) : -(infc M X : Int) ≤ rz M X v ∧ rz M X v ≤ infc M X := by
  have := rnd_le M (infc M X) v.natAbs 1
  unfold rz; split <;> omega
theorem rz_pv (hM : 0 < M) {p : Int} (h1 : -(infc M X : Int) ≤ p) (h2 : p ≤ infc M X) : rz M X (pv' M p) = p := by
  have hp : ∃ s n, p = sg s n ∧ n ≤ infc M X := by
    by_cases c : p < 0
    · exact ⟨true, p.natAbs, by unfold sg; rw [if_pos rfl]; omega, by omega⟩
    · exact ⟨false, p.natAbs, by unfold sg; rw [if_neg (by decide)]; omega, by omega⟩
  obtain ⟨s, n, rfl, hn⟩ := hp
  rw [pv_sg, rz_sg hM]
  have := rnd_val (m := M) (inf := infc M X) (D := 1) hM (by decide) hn
  rw [Nat.mul_one] at this; rw [this]
theorem plc_bounds (hX : 1 ≤ X) (ha : a < 2^(1+X+M)) (h : kd M X a ≠ 4) : -(infc M X : Int) ≤ plc M X a ∧ plc M X a ≤ infc M X := by
  have := mg_le_inf hX h
  rw [plc_sg ha]; unfold sg; split <;> omega
/-- what a sign and a pattern without it say -/
theorem plc_made (s : Bool) {n : Nat} (h : n < 2^(X+M)) : plc M X (sgn M X s + n) = sg s n := by
  unfold plc sg
  cases s
  · rw [sgn_false, Nat.zero_add, if_neg (by omega), if_neg (by decide)]
  · rw [sgn_true, if_pos (by omega), if_pos rfl, Nat.add_sub_cancel_left]
theorem infc_lt' (M X : Nat) : infc M X < 2^(X+M) := by
  have := infc_succ M X; have := two_pow_pos M; omega
theorem near_one {M X n : Nat} {e : Int} (h : 0 ≤ e + bs M X) : near M X n 1 e = rnd M (infc M X) (n * 2^(e + bs M X).toNat) 1 := by
  unfold near
  rw [show (-(e + (bs M X : Int))).toNat = 0 by omega, Nat.pow_zero, Nat.mul_one]
theorem plc_near (hM : 0 < M) (s : Bool) {n : Nat} {e : Int} (h : 0 ≤ e + bs M X) : plc M X (sgn M X s + near M X n 1 e) = rz M X (sg s (n * 2^(e + bs M X).toNat)) := by
  rw [plc_made s (Nat.lt_of_le_of_lt (near_le ..) (infc_lt' M X)), near_one h, rz_sg hM]
/-! ### sums -/
theorem sg_mul (s : Bool) (n k : Nat) : sg s (n * k) = sg s n * k := by
  unfold sg; split <;> simp [Int.neg_mul]
theorem sumR_plc (hM : 0 < M) {na nb : Bool} {e : Int} {A B : Nat} (h : 0 ≤ e + bs M X) : plc M X (sumR M X na nb e A B) = rz M X (sg na (A * 2^(e + bs M X).toNat) + sg nb (B * 2^(e + bs M X).toNat)) := by
  have hz : plc M X 0 = 0 := by unfold plc; rw [if_neg (by have := two_pow_pos (X+M); omega)]; rfl
  have r0 : rz M X 0 = 0 := by unfold rz; rw [if_neg (by decide)]; show (rnd M _ 0 1 : Int) = 0; rw [rnd_zero hM]; rfl
  rw [sg_mul, sg_mul, ← Int.add_mul]
  generalize hk : (e + (bs M X : Int)).toNat = k at *
  unfold sumR
  by_cases c : na = nb
  · subst c
    rw [if_pos rfl, plc_near hM _ h, hk, sg_mul]
    congr 2
    unfold sg; split <;> omega
  · rw [if_neg c]
    by_cases d : A = B
    · subst d
      rw [if_pos rfl, sgn_false, hz]
      have : sg na A + sg nb A = 0 := by unfold sg; cases na <;> cases nb <;> simp at c ⊢ <;> omega
      rw [this, Int.zero_mul, r0]
    · rw [if_neg d]
      by_cases l : B < A
      · rw [if_pos l, plc_near hM _ h, hk, sg_mul]
        congr 2
        unfold sg; cases na <;> cases nb <;> simp at c ⊢ <;> omega
      · rw [if_neg l, plc_near hM _ h, hk, sg_mul]
        congr 2
        unfold sg; cases na <;> cases nb <;> simp at c ⊢ <;> omega
theorem ex_bs (h : fin12 M X a) : 0 ≤ ex M X a + bs M X := by
  rcases h with h | h
  · unfold ex; rw [if_neg (by omega)]; omega
  · have := ex_lo h; rw [bs_eq]; omega
theorem sumP_plc (hM : 0 < M) (h : fin12 M X a) (k : fin12 M X b) : plc M X (sumP M X (ng M X a) (ex M X a) (mn M X a) (ng M X b) (ex M X b) (mn M X b)) = rz M X (sv M X a + sv M X b) := by
  have h1 := ex_bs h
  have h2 := ex_bs k
  unfold sumP
  rw [sumR_plc hM (by omega)]
  unfold sv va
  have lift : ∀ {n : Nat} {e : Int}, min (ex M X a) (ex M X b) ≤ e → n * 2^(e - min (ex M X a) (ex M X b)).toNat * 2^(min (ex M X a) (ex M X b) + (bs M X : Int)).toNat = n * 2^(e + (bs M X : Int)).toNat := fun {n e} h => by
    rw [Nat.mul_assoc, ← Nat.pow_add]; congr 2; omega
  rw [lift (by omega), lift (by omega)]
theorem sg_zero (s : Bool) : sg s 0 = 0 := by unfold sg; split <;> rfl
theorem sv_zero (h : kd M X a = 1) : sv M X a = 0 := by
  unfold sv va; rw [mn_zero (by omega), Nat.zero_mul, sg_zero]
theorem rz_sv (hf : Okf M X) (ha : a < 2^(1+X+M)) (h : fin12 M X a) : rz M X (sv M X a) = plc M X a := by
  have hm := hf.m1; have hx := hf.x1
  obtain ⟨h1, h2⟩ := plc_bounds (by omega) ha (by rcases h with h | h <;> omega)
  rw [sv_plc ha h, rz_pv (by omega) h1 h2]
/-- A sum is the rounding of the exact one. -/
theorem add_plc (hf : Okf M X) (ha : a < 2^(1+X+M)) (hb : b < 2^(1+X+M)) (h : fin12 M X a) (k : fin12 M X b) : plc M X (addN M X a b) = rz M X (sv M X a + sv M X b) := by
  have hm := hf.m1; have hx := hf.x1
  unfold addN addS
  rcases h with h | h <;> rcases k with k | k <;> simp only [h, k]
  · rw [if_neg (by omega), if_neg (by omega), if_neg (by omega), if_pos (by omega), sv_zero h, sv_zero k]
    have r0 : rz M X (0 + 0) = 0 := by unfold rz; rw [if_neg (by decide)]; show (rnd M _ 0 1 : Int) = 0; rw [rnd_zero (by omega)]; rfl
    rw [r0]
    have := plc_made (M := M) (X := X) (ng M X a && ng M X b) (n := 0) (two_pow_pos _)
    rw [Nat.add_zero] at this; rw [this, sg_zero]
  · rw [if_neg (by omega), if_neg (by omega), if_pos (by omega), sv_zero h, Int.zero_add, rz_sv hf hb (.inr k)]
  · rw [if_neg (by omega), if_pos (by omega), sv_zero k, Int.add_zero, rz_sv hf ha (.inr h)]
  · rw [if_neg (by omega), if_neg (by omega), if_neg (by omega), if_neg (by omega)]
    exact sumP_plc (by omega) (.inr h) (.inr k)
end Go.Proofs.Ytpliondhiahhnaa.K
