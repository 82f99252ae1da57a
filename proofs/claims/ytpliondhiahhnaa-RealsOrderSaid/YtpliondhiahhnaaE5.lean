/- SoftRises: the law as a contract. -/
import Derived.Test.YtpliondhiahhnaaE4
set_option linter.unusedVariables false
namespace Go.Proofs.Ytpliondhiahhnaa.K
open Sx Fl Go Go.RowKit
set_option maxRecDepth 100000
variable {M X : Nat} {m x : Int} {a b c : Nat}
theorem pw2 (M X : Nat) : 2^(1+X+M) = 2 * 2^(X+M) := by rw [show 1+X+M = X+M+1 by omega, Nat.pow_succ']
theorem nanc_lt (hM : 1 ≤ M) : nanc M X < 2^(X+M) := by
  have h1 := infc_succ M X
  have h2 : 2^(M-1) < 2^M := pow_lt (by omega)
  unfold nanc; omega
theorem sgn_le (M X : Nat) (s : Bool) : sgn M X s ≤ 2^(X+M) := by
  unfold sgn; split
  · exact Nat.le_refl _
  · exact Nat.zero_le _
theorem made_lt (s : Bool) {n : Nat} (h : n < 2^(X+M)) : sgn M X s + n < 2^(1+X+M) := by
  have := sgn_le M X s; rw [pw2]; omega
theorem near_lt (M X N D : Nat) (e : Int) : near M X N D e < 2^(X+M) := Nat.lt_of_le_of_lt (near_le ..) (infc_lt' M X)
theorem sumR_lt (na nb : Bool) (e : Int) (A B : Nat) : sumR M X na nb e A B < 2^(1+X+M) := by
  unfold sumR
  split
  · exact made_lt _ (near_lt ..)
  · split
    · exact Nat.lt_of_le_of_lt (Nat.le_of_eq (Nat.add_zero _).symm) (made_lt false (two_pow_pos _))
    · split
      · exact made_lt _ (near_lt ..)
      · exact made_lt _ (near_lt ..)
theorem add_lt (hf : Okf M X) (ha : a < 2^(1+X+M)) (hb : b < 2^(1+X+M)) : addN M X a b < 2^(1+X+M) := by
  have hm := hf.m1
  unfold addN addS
  split
  · have := nanc_lt (M := M) (X := X) (by omega); rw [pw2]; omega
  · split
    · exact ha
    · split
      · exact hb
      · split
        · exact Nat.lt_of_le_of_lt (Nat.le_of_eq (Nat.add_zero _).symm) (made_lt _ (two_pow_pos _))
        · exact sumR_lt ..
theorem add_nan1 (h : kd M X a = 4) : addN M X a b = nanc M X := by
  unfold addN addS; rw [if_pos (by omega)]
theorem add_nan2 (h : kd M X b = 4) : addN M X a b = nanc M X := by
  unfold addN addS; rw [if_pos (by omega)]
theorem add_inf1 (h : kd M X a = 3) (k : fin12 M X b) : addN M X a b = a := by
  unfold fin12 at k
  unfold addN addS; rw [if_neg (by omega), if_pos (by omega)]
theorem add_inf2 (h : kd M X b = 3) (k : fin12 M X a) : addN M X a b = b := by
  unfold fin12 at k
  unfold addN addS; rw [if_neg (by omega), if_neg (by omega), if_pos (by omega)]
theorem kd_nanc (hf : Okf M X) : kd M X (nanc M X) = 4 := by
  have hm := hf.m1
  have hp := two_pow_pos (M-1)
  have hlt : 2^(M-1) < 2^M := pow_lt (by omega)
  have e : nanc M X = 2^(M-1) + 2^M * (2^X - 1) := by unfold nanc; rw [infc_eq, Nat.mul_comm]; omega
  have e1 : fr M (nanc M X) = 2^(M-1) := by unfold fr; rw [e, Nat.add_mul_mod_self_left, Nat.mod_eq_of_lt hlt]
  have e2 : fd M X (nanc M X) = 2^X - 1 := by
    unfold fd; rw [e, Nat.add_mul_div_left _ _ (two_pow_pos M), Nat.div_eq_of_lt hlt, Nat.zero_add, Nat.mod_eq_of_lt (by have := two_pow_pos X; omega)]
  unfold kd; rw [e1, e2, if_pos rfl, if_neg (by omega)]
theorem fin12_of (h4 : kd M X a ≠ 4) (h3 : kd M X a ≠ 3) : fin12 M X a := by
  have := kd_cases M X a; unfold fin12; omega
/-- with a greater summand no sum is smaller -/
theorem add_rise (hf : Okf M X) (ha : a < 2^(1+X+M)) (hb : b < 2^(1+X+M)) (hc : c < 2^(1+X+M)) (ka : kd M X a ≠ 4) (kb : kd M X b ≠ 4) (kc : kd M X c ≠ 4)
    (kx : kd M X (addN M X a c) ≠ 4) (ky : kd M X (addN M X b c) ≠ 4) (h : plc M X a ≤ plc M X b) : plc M X (addN M X a c) ≤ plc M X (addN M X b c) := by
  have hm := hf.m1; have hx := hf.x1
  have hn := kd_nanc hf
  have bx := plc_bounds (by omega) (add_lt hf ha hc) kx
  have by_ := plc_bounds (by omega) (add_lt hf hb hc) ky
  have inf : ∀ {d : Nat}, d < 2^(1+X+M) → kd M X d = 3 → plc M X d = infc M X ∨ plc M X d = -(infc M X : Int) := fun {d} hd h => by
    rw [plc_sg hd, mg_inf h]; unfold sg; split <;> omega
  have fin : ∀ {d : Nat}, d < 2^(1+X+M) → fin12 M X d → -(infc M X : Int) < plc M X d ∧ plc M X d < infc M X := fun {d} hd h => by
    have := mg_lt_inf (show 1 ≤ X by omega) h
    rw [plc_sg hd]; unfold sg; split <;> omega
  by_cases c3 : kd M X c = 3
  · have key : ∀ {d : Nat}, d < 2^(1+X+M) → kd M X d ≠ 4 → kd M X (addN M X d c) ≠ 4 → addN M X d c = c := fun {d} hd h4 hr => by
      by_cases d3 : kd M X d = 3
      · by_cases e : ng M X d = ng M X c
        · have h1 := self_inf hd d3
          have h2 := self_inf hc c3
          unfold addN addS
          have hno : ¬ ((kd M X d : Int) = 4 ∨ (kd M X c : Int) = 4 ∨ ((kd M X d : Int) = 3 ∧ (kd M X c : Int) = 3 ∧ ng M X d ≠ ng M X c)) := by
            rintro (hh | hh | hh)
            · omega
            · omega
            · exact hh.2.2 e
          rw [if_neg hno, if_pos (by omega), h1, h2, e]
        · exfalso
          apply hr
          unfold addN addS
          rw [if_pos (.inr (.inr ⟨by omega, by omega, e⟩))]; exact hn
      · exact add_inf2 c3 (fin12_of h4 d3)
    rw [key ha ka kx, key hb kb ky]
    exact Int.le_refl _
  · have fc := fin12_of kc c3
    by_cases a3 : kd M X a = 3
    · rw [add_inf1 a3 fc] at *
      by_cases b3 : kd M X b = 3
      · rw [add_inf1 b3 fc]; exact h
      · have := fin hb (fin12_of kb b3)
        rcases inf ha a3 with e | e <;> omega
    · have fa := fin12_of ka a3
      by_cases b3 : kd M X b = 3
      · rw [add_inf1 b3 fc] at *
        have := fin ha fa
        rcases inf hb b3 with e | e <;> omega
      · have fb := fin12_of kb b3
        rw [add_plc hf ha hc fa fc, add_plc hf hb hc fb fc]
        refine rz_mono (by omega) ?_
        have : sv M X a ≤ sv M X b := by
          rcases Int.lt_or_le (sv M X b) (sv M X a) with l | l
          · have := (plc_lt_iff hb ha fb fa).2 l; omega
          · exact l
        omega
theorem odd_true (h : oddN M X a b = true) : kd M X a = 4 ∨ kd M X b = 4 := by
  unfold oddN oddB at h
  simp at h; omega
theorem odd_false (h : oddN M X a b = false) : kd M X a ≠ 4 ∧ kd M X b ≠ 4 := by
  unfold oddN oddB at h
  simp at h; omega
theorem cmpN_of (h : oddN M X a b = false) : cmpN M X a b = cmpI (plc M X a) (plc M X b) := by
  unfold cmpN; rw [h, if_neg (by decide)]
theorem n10 : ((1 : Int) != 0) = true := rfl
theorem n00 : ((0 : Int) != 0) = false := rfl
theorem e11 : ((1 : Int) == 1) = true := rfl
theorem e00 : ((0 : Int) == 0) = true := rfl
theorem e01 : ((0 : Int) == 1) = false := rfl
theorem w00 : IntKind.i64.wrap (0 + 0) = 0 := rfl
theorem law_rises (m x : Int) {a b c : Nat} (ha : a < 2^64) (hb : b < 2^64) (hc : c < 2^64) : Cp 5 [FM m x, LU a, LU b, LU c] (LB true) := by
  obtain ⟨L, hL⟩ := lf_ex
  refine cp_of (t5 L m x a b c) ?_
  simp only [hL.add, hL.e2, hL.cmp, hL.cok, hL.live]
  refine ⟨add_all ha hc, add_all hb hc, cmpR_all ha hb, cmpR_all hc hc, ?_⟩
  have lv : Wt (LB true) (.call 24 [] (LB true) (.ret (LB true))) := ⟨live3_cn, rfl⟩
  cases ka : okB m x a with
  | false =>
    simp only [er2_no1 (b := b) ka, er2_no1 (b := c) ka, n10, e11, brt]
    exact ⟨num3_cn _, lv⟩
  | true =>
  cases kb : okB m x b with
  | false =>
    simp only [er2_no2 (a := a) kb, er2_no1 (b := c) kb, n10, e11, brt]
    refine ⟨num3_cn _, WT.br (fun _ => lv) (fun _ => ⟨num3_cn _, lv⟩)⟩
  | true =>
  cases kc : okB m x c with
  | false =>
    simp only [er2_ok ka kb, er2_no2 (a := a) kc, er2_no2 (a := c) kc, n10, n00, e11, brt, brf]
    exact ⟨num3_cn _, lv⟩
  | true =>
  obtain ⟨M, X, rfl, rfl, hf, la⟩ := okB_ok ka
  have lb := (okB_lt hf).1 kb
  have lc := (okB_lt hf).1 kc
  have lx := add_lt hf la lc
  have ly := add_lt hf lb lc
  have kx := (okB_lt hf).2 lx
  have ky := (okB_lt hf).2 ly
  have hcmp := cmp_all (m := M) (x := X) (Fl.a64 hf.ok lx) (Fl.a64 hf.ok ly)
  simp only [tot2_ok ka kc, tot2_ok kb kc, er2_ok ka kb, er2_ok ka kc, er2_ok kb kc, er2_ok kc kc, n00, w00, brf, hL.nan]
  rw [totc_ok ka kb, toto_ok ka kb, toto_ok kc kc, Bool.not_not, Bool.not_not]
  refine ⟨num3_cn _, num3_cn _, ?_⟩
  have nn : addN M X a c = nanc M X ∨ addN M X b c = nanc M X → Wt (LB true) (.call 28 [FM M X] (LU (nanc M X : Nat)) (br (((addN M X a c : Nat) : Int) == (nanc M X : Nat)) (.call 24 [] (LB true) (.ret (LB true))) (.call 28 [FM M X] (LU (nanc M X : Nat)) (br (((addN M X b c : Nat) : Int) == (nanc M X : Nat)) (.call 24 [] (LB true) (.ret (LB true))) (.ret (LB false)))))) := fun h => by
    refine ⟨nanR_cn hf, WT.br (fun _ => lv) (fun h1 => ⟨nanR_cn hf, WT.br (fun _ => lv) (fun h2 => ?_)⟩)⟩
    rcases h with h | h
    · rw [h] at h1; simp at h1
    · rw [h] at h2; simp at h2
  refine WT.br (fun h => nn ?_) (fun hab => WT.br (fun h => nn ?_) (fun hcc => ?_))
  · rcases odd_true h with h | h
    · exact .inl (add_nan1 h)
    · exact .inr (add_nan1 h)
  · rcases odd_true h with h | h <;> exact .inl (add_nan2 h)
  obtain ⟨a4, b4⟩ := odd_false hab
  have c4 := (odd_false hcc).1
  rw [totc_ok kx ky, toto_ok kx ky, er2_ok kx ky] at *
  refine ⟨hcmp, WT.br (fun _ => lv) (fun h => ?_)⟩
  rw [Bool.not_not] at h
  obtain ⟨x4, y4⟩ := odd_false h
  have r1 := add_rise hf la lb lc a4 b4 c4 x4 y4
  have r2 := add_rise hf lb la lc b4 a4 c4 y4 x4
  rw [cmpN_of h, cmpN_of hab]
  generalize plc M X (addN M X a c) = x at *
  generalize plc M X (addN M X b c) = y at *
  generalize plc M X a = p at *
  generalize plc M X b = q at *
  have hz : ∀ u v : Int, (cmpI u v = 0 ∧ u = v) ∨ (cmpI u v = -1 ∧ u < v) ∨ (cmpI u v = 1 ∧ v < u) := fun u v => by
    unfold cmpI; split
    · omega
    · split <;> omega
  have z1 := hz p q
  have z2 := hz x y
  generalize cmpI p q = n at *
  generalize cmpI x y = k at *
  have no : ∀ {P : Prop}, (n = 0 → k ≠ 0) → (n < 0 → ¬ k ≤ 0) → (n > 0 → ¬ k ≥ 0) → P := fun h1 h2 h3 => by exfalso; omega
  have g3 : Wt (LB true) (br (decide (n > 0)) (br (decide (k ≥ 0)) (.call 24 [] (LB true) (.ret (LB true))) (.ret (LB false))) (.ret (LB false))) ∨ ¬ (n > 0 ∧ k ≥ 0) := by
    by_cases hh : n > 0 ∧ k ≥ 0
    · exact .inl (brT hh.1 (brT hh.2 lv))
    · exact .inr hh
  have all : (n = 0 ∧ k = 0) ∨ (n < 0 ∧ k ≤ 0) ∨ (n > 0 ∧ k ≥ 0) := by omega
  have ez : ∀ z : Int, (z == 0) = decide (z = 0) := fun z => by rw [Bool.eq_iff_iff]; simp
  rw [ez, ez]
  refine brD (fun h1 => brD (fun _ => lv) (fun h2 => absurd all (by omega))) (fun h1 => ?_)
  refine brD (fun h2 => brD (fun _ => lv) (fun h3 => absurd all (by omega))) (fun h2 => ?_)
  exact brT (by omega) (brT (by omega) lv)
end Go.Proofs.Ytpliondhiahhnaa.K
