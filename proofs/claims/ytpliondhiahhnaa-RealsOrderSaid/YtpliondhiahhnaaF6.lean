/- RealsOrder: the law as a contract. -/
import Derived.Test.YtpliondhiahhnaaF5
set_option linter.unusedVariables false
namespace Go.Proofs.Ytpliondhiahhnaa.K
open Sx Fl Go Go.RowKit
set_option maxRecDepth 100000
variable {M X : Nat} {a b t u : Nat}
theorem plc_abs (ha : a < 2^(1+X+M)) : (plc M X a).natAbs = mg M X a := by rw [plc_sg ha, sg_abs]
theorem sub_mg_comm (hf : Okf M X) (ha : a < 2^(1+X+M)) (hb : b < 2^(1+X+M)) (ka : kd M X a ≠ 4) (kb : kd M X b ≠ 4) : mg M X (subN M X b a) = mg M X (subN M X a b) := by
  rcases sub_anti hf ha hb ka kb with ⟨h1, h2⟩ | h
  · rw [h1, h2]
  · rw [← plc_abs (sub_lt hf ha hb), ← plc_abs (sub_lt hf hb ha), h, Int.natAbs_neg]
theorem sub'_comm (hf : Okf M X) (ha : a < 2^(1+X+M)) (hb : b < 2^(1+X+M)) (t : Nat) : sub' M X b a t = sub' M X a b t := by
  unfold sub'
  by_cases h : kd M X a = 4 ∨ kd M X b = 4 ∨ kd M X t = 4
  · rw [if_pos h, if_pos (by omega)]
  · rw [if_neg h, if_neg (by omega), sub_mg_comm hf ha hb (by omega) (by omega)]
    by_cases k : kd M X a = 3 ∧ kd M X b = 3
    · rw [if_pos k, if_pos ⟨k.2, k.1⟩, Bool.eq_iff_iff, beq_iff_eq, beq_iff_eq]; omega
    · rw [if_neg k, if_neg (fun h => k ⟨h.2, h.1⟩)]
theorem sv_even (f : fin12 M X a) : sv M X a % 2 = 0 := by
  unfold sv
  have : va M X a % 2 = 0 := by
    unfold va
    rcases f with k | k
    · rw [mn0 k, Nat.zero_mul]
    · have h1 := ex_lo k
      have hb := bs_eq M X
      obtain ⟨j, hj⟩ : ∃ j, (ex M X a + (bs M X : Int)).toNat = j + 1 := ⟨(ex M X a + (bs M X : Int)).toNat - 1, by omega⟩
      rw [hj, Nat.pow_succ, ← Nat.mul_assoc, Nat.mul_mod_left]
  unfold sg; split <;> omega
theorem rz_zero (hf : Okf M X) {v : Int} (h2 : v % 2 = 0) (h : rz M X v = 0) : v = 0 := by
  have hm := hf.m1; have hx := hf.x1
  rcases Classical.em (v = 0) with e | e
  · exact e
  · exfalso
    have hn : 2 ≤ v.natAbs := by omega
    have hv : val M 1 = 2 := by
      have := val_code (m := M) (s := 0) (q := 1) (two_pow_pos _) (.inl rfl)
      rw [Nat.zero_mul, Nat.zero_add] at this; rw [this]
    have h1 := rnd_val (m := M) (inf := infc M X) (D := 1) (p := 1) (by omega) (by decide) (infc_pos (by omega))
    have h4 := rnd_mono (m := M) (inf := infc M X) (N := val M 1 * 1) (D := 1) (N' := v.natAbs) (D' := 1) (by omega) (by decide) (by decide) (by rw [hv]; omega)
    unfold rz at h
    split at h <;> omega
theorem rz0 (hM : 0 < M) : rz M X 0 = 0 := by unfold rz; rw [if_neg (by decide)]; show (rnd M _ 0 1 : Int) = 0; rw [rnd_zero hM]; rfl
/-- a difference is nothing just if the two are in one place -/
theorem sub_none (hf : Okf M X) (ha : a < 2^(1+X+M)) (hb : b < 2^(1+X+M)) (ka : kd M X a ≠ 4) (kb : kd M X b ≠ 4) (h3 : ¬ (kd M X a = 3 ∧ kd M X b = 3)) : mg M X (subN M X a b) = 0 ↔ plc M X a = plc M X b := by
  have hm := hf.m1; have hx := hf.x1
  have ip := infc_pos (M := M) (show 1 ≤ X by omega)
  have fin : ∀ {d : Nat}, d < 2^(1+X+M) → fin12 M X d → -(infc M X : Int) < plc M X d ∧ plc M X d < infc M X := fun {d} hd h => by
    have := mg_lt_inf (show 1 ≤ X by omega) h
    rw [plc_sg hd]; unfold sg; split <;> omega
  have inf : ∀ {d : Nat}, d < 2^(1+X+M) → kd M X d = 3 → plc M X d = infc M X ∨ plc M X d = -(infc M X : Int) := fun {d} hd h => by
    rw [plc_sg hd, mg_inf h]; unfold sg; split <;> omega
  by_cases a3 : kd M X a = 3
  · have b3 : kd M X b ≠ 3 := fun e => h3 ⟨a3, e⟩
    have f := fin hb (fin12_of kb b3)
    have i := inf ha a3
    rw [sub_inf1 a3 (fin12_of kb b3) hb, mg_inf a3]
    omega
  · by_cases b3 : kd M X b = 3
    · have f := fin ha (fin12_of ka a3)
      have i := inf hb b3
      rw [sub_inf2 b3 (fin12_of ka a3) hb, mg_inf (by rw [kd_turn hb]; exact b3)]
      omega
    · have fa := fin12_of ka a3
      have fb := fin12_of kb b3
      have hp := sub_plc hf ha hb fa fb
      rw [← plc_zero_iff (sub_lt hf ha hb), hp]
      have i1 := plc_lt_iff ha hb fa fb
      have i2 := plc_lt_iff hb ha fb fa
      have ea := sv_even fa
      have eb := sv_even fb
      constructor
      · intro h
        have := rz_zero hf (by omega) h
        omega
      · intro h
        rw [show sv M X a - sv M X b = 0 by omega, rz0 (by omega)]
theorem sub'_zero (hf : Okf M X) (ha : a < 2^(1+X+M)) (hb : b < 2^(1+X+M)) (ka : kd M X a ≠ 4) (kb : kd M X b ≠ 4) : sub' M X a b 0 = decide (plc M X a = plc M X b) := by
  have hx := hf.x1
  have k0 := kd_zero0 hf
  have m0 : mg M X 0 = 0 := mg_zero k0
  unfold sub'
  rw [if_neg (by omega), m0]
  by_cases k : kd M X a = 3 ∧ kd M X b = 3
  · rw [if_pos k, eqn, decide_eq_decide]
    have sa := self_inf ha k.1
    have sb' := self_inf hb k.2
    have pa := plc_sg ha
    have pb := plc_sg hb
    rw [mg_inf k.1] at pa
    rw [mg_inf k.2] at pb
    have ip := infc_pos (M := M) (show 1 ≤ X by omega)
    constructor
    · intro h; rw [h]
    · intro h
      have : ng M X a = ng M X b := by
        unfold sg at pa pb
        cases h1 : ng M X a <;> cases h2 : ng M X b <;> simp [h1, h2] at pa pb <;> first | rfl | omega
      rw [sa, sb', this]
  · rw [if_neg k, decide_eq_decide, ← sub_none hf ha hb ka kb k]; omega
theorem sub'_mono (hf : Okf M X) (ht : t < 2^(1+X+M)) (hu : u < 2^(1+X+M)) (h : sub' M X a b t = true) (h4 : hdN M X 4 (mg M X t) (mg M X u) 0 = true) : sub' M X a b u = true := by
  rw [hd_eq, if_neg (by decide), if_neg (by decide), if_neg (by decide), if_pos rfl] at h4
  simp only [Bool.and_eq_true, Bool.not_eq_true', decide_eq_true_eq] at h4
  obtain ⟨ho, hc⟩ := h4
  have k4 := odd_false ho
  rw [kd_mg ht, kd_mg hu] at k4
  have hle := (cmp_mg ht hu k4.1 k4.2).2.1 hc
  unfold sub' at *
  by_cases n : kd M X a = 4 ∨ kd M X b = 4 ∨ kd M X t = 4
  · rw [if_pos n] at h; cases h
  · rw [if_neg n] at h
    rw [if_neg (by omega)]
    by_cases k : kd M X a = 3 ∧ kd M X b = 3
    · rw [if_pos k] at h ⊢; exact h
    · rw [if_neg k] at h ⊢
      have := of_decide_eq_true h
      exact decide_eq_true (by omega)
theorem low63 (h : t < 2^64) : bits .and .u64 (t : Int) 9223372036854775807 = ((mg 52 11 t : Nat) : Int) := by
  have h1 := and64 (a := t) (b := 2^63 - 1) h (by decide)
  have h2 := mg_mod (M := 52) (X := 11) (p64 h)
  rw [and_mask] at h1
  rw [show ((2^63 - 1 : Nat) : Int) = 9223372036854775807 from rfl] at h1
  rw [h1, ← h2]
theorem trich (M X a b t : Nat) (ha : kd M X a ≠ 4) (hb : kd M X b ≠ 4) : (plc M X a < plc M X b ∧ hdN M X 3 a b t = true ∧ hdN M X 4 a b t = true ∧ hdN M X 5 a b t = false ∧ hdN M X 6 a b t = false) ∨ (plc M X b < plc M X a ∧ hdN M X 3 a b t = false ∧ hdN M X 4 a b t = false ∧ hdN M X 5 a b t = true ∧ hdN M X 6 a b t = true) ∨
    (plc M X a = plc M X b ∧ hdN M X 3 a b t = false ∧ hdN M X 4 a b t = true ∧ hdN M X 5 a b t = false ∧ hdN M X 6 a b t = true) := by
  have ho := notodd ha hb
  have hc := cmpN_of ho
  have h3 : hdN M X 3 a b t = (!oddN M X a b && decide (cmpN M X a b < 0)) := by rw [hd_eq, if_neg (by decide), if_neg (by decide), if_pos rfl]
  have h4 : hdN M X 4 a b t = (!oddN M X a b && decide (cmpN M X a b ≤ 0)) := by rw [hd_eq, if_neg (by decide), if_neg (by decide), if_neg (by decide), if_pos rfl]
  have h5 : hdN M X 5 a b t = (!oddN M X a b && decide (cmpN M X a b > 0)) := by rw [hd_eq, if_neg (by decide), if_neg (by decide), if_neg (by decide), if_neg (by decide), if_pos rfl]
  have h6 : hdN M X 6 a b t = (!oddN M X a b && decide (cmpN M X a b ≥ 0)) := by rw [hd_eq, if_neg (by decide), if_neg (by decide), if_neg (by decide), if_neg (by decide), if_neg (by decide), if_pos rfl]
  rw [h3, h4, h5, h6, ho, hc]
  unfold cmpI
  rcases Int.lt_trichotomy (plc M X a) (plc M X b) with l | l | l
  · left; rw [if_pos l]; exact ⟨l, rfl, rfl, rfl, rfl⟩
  · right; right; rw [if_neg (by omega), if_neg (by omega)]; exact ⟨l, rfl, rfl, rfl, rfl⟩
  · right; left; rw [if_neg (by omega), if_pos l]; exact ⟨l, rfl, rfl, rfl, rfl⟩
theorem nan_none (M X a b t : Nat) (h : kd M X a = 4 ∨ kd M X b = 4) : hdN M X 3 a b t = false ∧ hdN M X 4 a b t = false ∧ hdN M X 5 a b t = false ∧ hdN M X 6 a b t = false ∧ hdN M X 1 a b t = false := by
  have ho := (odd4 (M := M) (X := X) h).1
  have hs : sub' M X a b t = false := by unfold sub'; rw [if_pos (by omega)]
  refine ⟨?_, ?_, ?_, ?_, ?_⟩
  · rw [hd_eq, if_neg (by decide), if_neg (by decide), if_pos rfl, ho]; rfl
  · rw [hd_eq, if_neg (by decide), if_neg (by decide), if_neg (by decide), if_pos rfl, ho]; rfl
  · rw [hd_eq, if_neg (by decide), if_neg (by decide), if_neg (by decide), if_neg (by decide), if_pos rfl, ho]; rfl
  · rw [hd_eq, if_neg (by decide), if_neg (by decide), if_neg (by decide), if_neg (by decide), if_neg (by decide), if_pos rfl, ho]; rfl
  · rw [hd_eq, if_pos rfl, hs]
theorem hd1 (M X a b t : Nat) : hdN M X 1 a b t = sub' M X a b t := by rw [hd_eq, if_pos rfl]
theorem hd2 (M X a b t : Nat) : hdN M X 2 a b t = !sub' M X a b t := by rw [hd_eq, if_neg (by decide), if_pos rfl]
theorem hd7 (M X a b t : Nat) : hdN M X 7 a b t = decide (kd M X a = 4) := by rw [hd_eq, if_neg (by decide), if_neg (by decide), if_neg (by decide), if_neg (by decide), if_neg (by decide), if_neg (by decide), if_pos rfl]
theorem law_order (ha : a < 2^64) (hb : b < 2^64) (ht : t < 2^64) (hu : u < 2^64) : Cp 13 [LU a, LU b, LU t, LU u] (LB true) := by
  obtain ⟨L, hL⟩ := lg_ex
  obtain ⟨R, hR⟩ := rg_ex
  refine cp_of (t13 R L a b t u) ?_
  rw [low63 ht, low63 hu, hL.live]
  have hH : ∀ (c : Int) (p q r : Nat), R.hd 52 11 c p q r = hdN 52 11 c p q r := fun c p q r => hR.hd 52 11 c p q r
  have hH0 : ∀ (c : Int) (p q : Nat), R.hd 52 11 c p q 0 = hdN 52 11 c p q 0 := fun c p q => hR.hd 52 11 c p q 0
  have hH00 : ∀ (c : Int) (p : Nat), R.hd 52 11 c p 0 0 = hdN 52 11 c p 0 0 := fun c p => hR.hd 52 11 c p 0 0
  simp only [hH, hH0, hH00]
  have lmt : mg 52 11 t < 2^64 := mg_pat (M := 52) (X := 11) (a := t)
  have lmu : mg 52 11 u < 2^64 := mg_pat (M := 52) (X := 11) (a := u)
  have c3 := doubleHolds_cn 3 ha hb ht
  have c5 := doubleHolds_cn 5 ha hb ht
  have c4 := doubleHolds_cn 4 ha hb ht
  have c6 := doubleHolds_cn 6 ha hb ht
  have c1 := doubleHolds_cn 1 ha hb ht
  have c2 := doubleHolds_cn 2 ha hb ht
  have c1' := doubleHolds_cn 1 hb ha ht
  have c7 := doubleHolds_cn (b := 0) (t := 0) 7 ha (by decide) (by decide)
  have c7' := doubleHolds_cn (b := 0) (t := 0) 7 hb (by decide) (by decide)
  have cz := doubleHolds_cn (t := 0) 1 ha hb (by decide)
  have ch := doubleHolds_cn (t := 0) 4 lmt lmu (by decide)
  have cu := doubleHolds_cn 1 ha hb hu
  have f2 : hdN 52 11 2 a b t = !hdN 52 11 1 a b t := by rw [hd1, hd2]
  have f1' : hdN 52 11 1 b a t = hdN 52 11 1 a b t := by rw [hd1, hd1]; exact sub'_comm ok64 (p64 ha) (p64 hb) t
  have fm : hdN 52 11 1 a b t = true → hdN 52 11 4 (mg 52 11 t) (mg 52 11 u) 0 = true → hdN 52 11 1 a b u = true := by rw [hd1, hd1]; exact sub'_mono ok64 (p64 ht) (p64 hu)
  have f7 : hdN 52 11 7 a 0 0 = decide (kd 52 11 a = 4) := hd7 ..
  have f7' : hdN 52 11 7 b 0 0 = decide (kd 52 11 b = 4) := hd7 ..
  have fn := nan_none 52 11 a b t
  have ft := trich 52 11 a b t
  have fz : kd 52 11 a ≠ 4 → kd 52 11 b ≠ 4 → hdN 52 11 1 a b 0 = decide (plc 52 11 a = plc 52 11 b) := fun h k => by rw [hd1]; exact sub'_zero ok64 (p64 ha) (p64 hb) h k
  rw [f2] at c2
  rw [f1'] at c1'
  rw [f7] at c7
  rw [f7'] at c7'
  rw [f2, f1', f7, f7']
  clear f2 f1' f7 f7' hH hH0 hH00 hR hL lmt lmu
  generalize hdN 52 11 1 a b t = n1 at *
  generalize hdN 52 11 3 a b t = p3 at *
  generalize hdN 52 11 4 a b t = p4 at *
  generalize hdN 52 11 5 a b t = p5 at *
  generalize hdN 52 11 6 a b t = p6 at *
  generalize hdN 52 11 1 a b 0 = z at *
  generalize hdN 52 11 4 (mg 52 11 t) (mg 52 11 u) 0 = h4 at *
  generalize hdN 52 11 1 a b u = nu at *
  generalize kd 52 11 a = ka at *
  generalize kd 52 11 b = kb at *
  generalize plc 52 11 a = pa at *
  generalize plc 52 11 b = pb at *
  generalize mg 52 11 t = mt at *
  generalize mg 52 11 u = mu at *
  refine ⟨c3, c5, c4, c6, c1, c2, ?_⟩
  have e1 : (n1 == !n1) = false := by cases n1 <;> rfl
  rw [e1, brf]
  refine ⟨c1', ?_⟩
  simp only [brf, beqb_same, Bool.not_true]
  refine ⟨c7, ?_⟩
  by_cases k4 : ka = 4
  · obtain ⟨q3, q4, q5, q6, q1⟩ := fn (.inl k4)
    subst q3 q4 q5 q6 q1
    rw [decide_eq_true k4, brt]
    exact lv4
  rw [decide_eq_false k4, brf]
  refine ⟨c7', ?_⟩
  by_cases k4' : kb = 4
  · obtain ⟨q3, q4, q5, q6, q1⟩ := fn (.inr k4')
    subst q3 q4 q5 q6 q1
    rw [decide_eq_true k4', brt]
    exact lv4
  rw [decide_eq_false k4', brf]
  have ez := fz k4 k4'
  rcases ft k4 k4' with ⟨l, q3, q4, q5, q6⟩ | ⟨l, q3, q4, q5, q6⟩ | ⟨l, q3, q4, q5, q6⟩
  · rw [decide_eq_false (show ¬ pa = pb by omega)] at ez
    subst q3 q4 q5 q6 ez
    cases n1
    · exact ⟨cz, lv4⟩
    · cases h4
      · exact ⟨cz, ch, lv4⟩
      · have e := fm rfl rfl
        subst e
        exact ⟨cz, ch, cu, lv4⟩
  · rw [decide_eq_false (show ¬ pa = pb by omega)] at ez
    subst q3 q4 q5 q6 ez
    cases n1
    · exact ⟨cz, lv4⟩
    · cases h4
      · exact ⟨cz, ch, lv4⟩
      · have e := fm rfl rfl
        subst e
        exact ⟨cz, ch, cu, lv4⟩
  · rw [decide_eq_true l] at ez
    subst q3 q4 q5 q6 ez
    cases n1
    · exact ⟨cz, lv4⟩
    · cases h4
      · exact ⟨cz, ch, lv4⟩
      · have e := fm rfl rfl
        subst e
        exact ⟨cz, ch, cu, lv4⟩
end Go.Proofs.Ytpliondhiahhnaa.K
