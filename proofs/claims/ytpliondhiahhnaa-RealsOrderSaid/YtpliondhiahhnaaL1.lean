/- The laws of layer 3: SoftMuls and what all use. -/
import Derived.Test.YtpliondhiahhnaaD3
set_option linter.unusedVariables false
namespace Go.Proofs.Ytpliondhiahhnaa.K
open Sx Fl Go Go.RowKit
set_option maxRecDepth 100000
variable {M X : Nat}
theorem t3 (m x a b : Int) (x1 e1 y1 g1 z1 h1 w1 i1 : Int) (v : Bool) : tree Try.prog 3 [(19, fun _ => some (.tup [au x1, ai e1])), (20, fun _ => some (.tup [au y1, ai g1])), (21, fun _ => some (.tup [au z1, ai h1])), (22, fun _ => some (.tup [au w1, ai i1])), (46, fun l => match l with | [.a (.s (.v (.int _ z)))] => some (LI z) | _ => none), (23, fun l => match l with | [.a (.s (.v (.int _ z)))] => some (LI z) | _ => none), (47, fun _ => some (LB v)), (24, fun _ => some (LB v))] 3 [FM m x, LU a, LU b] =
    Tr.call 19 [LV.agg [si m, si x], LU a, LU b] (LV.tup [au x1, ai e1]) (Tr.call 20 [LV.agg [si m, si x], LU a, LU b] (LV.tup [au y1, ai g1]) (Tr.call 21 [LV.agg [si m, si x], LU a,
    LU b] (LV.tup [au z1, ai h1]) (Tr.call 22 [LV.agg [si m, si x], LU a, LU b] (LV.tup [au w1, ai i1]) (br (x1 == y1) (Tr.call 23 [LI e1] (LI e1) (br (e1 == g1) (br (z1 == w1)
    (Tr.call 23 [LI h1] (LI h1) (br (h1 == i1) (Tr.call 24 [] (LB v) (Tr.ret (LB v))) (Tr.ret (LB false)))) (Tr.ret (LB false))) (Tr.ret (LB false)))) (Tr.ret (LB false)))))) := by kernel_rfl

theorem t23 (z : Int) : tree Try.prog 3 [] 23 [LI z] =
    Tr.ret (LI z) := by kernel_rfl

theorem t46 (z : Int) : tree Try.prog 3 [] 46 [LI z] =
    Tr.ret (LI z) := by kernel_rfl

theorem t24 (a b c d x y z : Int) : tree Try.prog 3 [(27, fun _ => some (.tup [au a, ai 0])), (21, fun _ => some (.tup [au b, ai 0])), (41, fun _ => some (.tup [au c, ai 0])), (79, fun _ => some (.tup [au d, au x, ai 0])), (32, fun _ => some (.tup [au y, ai 0])), (33, fun _ => some (.tup [au z, ai 0])), (23, fun l => match l with | [.a (.s (.v (.int _ z)))] => some (LI z) | _ => none), (46, fun l => match l with | [.a (.s (.v (.int _ z)))] => some (LI z) | _ => none), (78, fun _ => some (FM 23 8))] 24 [] =
    Tr.call 78 [] (LV.agg [si 23, si 8]) (Tr.call 27 [LV.agg [si 23, si 8], LU 1065353216, LU 1065353216] (LV.tup [au a, ai 0]) (Tr.call 21 [LV.agg [si 23, si 8], LU 1065353216, LU
    1077936128] (LV.tup [au b, ai 0]) (Tr.call 41 [LV.agg [si 23, si 8], LU 1073741824] (LV.tup [au c, ai 0]) (Tr.call 79 [LV.agg [si 23, si 8], LU 1088421888, LU 3221225472]
    (LV.tup [au d, au x, ai 0]) (Tr.call 32 [LV.agg [si 23, si 8], LU 3204448256] (LV.tup [au y, ai 0]) (Tr.call 33 [LV.agg [si 23, si 8], LU 3204448256] (LV.tup [au z, ai 0])
    (Tr.call 23 [LI 0] (LI 0) (Tr.call 23 [LI 0] (LI 0) (Tr.call 23 [LI 0] (LI 0) (Tr.call 23 [LI 0] (LI 0) (Tr.call 23 [LI 0] (LI 0) (Tr.call 23 [LI 0] (LI 0) (br (a ==
    1073741824) (br (b == 1051372203) (br (c == 1068827891) (br (d == 1065353216) (br (x == 3225419776) (br (y == 3212836864) (Tr.ret (LB (z == 2147483648))) (Tr.ret (LB false)))
    (Tr.ret (LB false))) (Tr.ret (LB false))) (Tr.ret (LB false))) (Tr.ret (LB false))) (Tr.ret (LB false))))))))))))))) := by kernel_rfl

theorem t78 (z : Int) : tree Try.prog 3 [] 78 [] =
    Tr.ret (LV.agg [si 23, si 8]) := by kernel_rfl

theorem t19b (m x a b : Int) : tree Try.prog 3 [(63, fun _ => some (.tup [PA 0 false 0 0, PA 0 false 0 0, ai 1]))] 19 [FM m x, LU a, LU b] =
    Tr.call 63 [LV.agg [si m, si x], LU a, LU b] (LV.tup [AV.agg [si 0, sb false, si 0, su 0], AV.agg [si 0, sb false, si 0, su 0], ai 1]) (Tr.ret (LV.tup [au 0, ai 1])) := by kernel_rfl

theorem t21b (m x a b : Int) : tree Try.prog 3 [(63, fun _ => some (.tup [PA 0 false 0 0, PA 0 false 0 0, ai 1]))] 21 [FM m x, LU a, LU b] =
    Tr.call 63 [LV.agg [si m, si x], LU a, LU b] (LV.tup [AV.agg [si 0, sb false, si 0, su 0], AV.agg [si 0, sb false, si 0, su 0], ai 1]) (Tr.ret (LV.tup [au 0, ai 1])) := by kernel_rfl

theorem mulS_cn (hf : Okf M X) {a b : Nat} (ha : a < 2^(1+X+M)) (hb : b < 2^(1+X+M)) : Cp 19 [FM M X, LU a, LU b] (.tup [au (mulN M X a b : Nat), ai 0]) := by
  obtain ⟨a1, a2⟩ := ex_bounds hf.ok a
  obtain ⟨b1, b2⟩ := ex_bounds hf.ok b
  have hma := mn_lt53 (a := a) hf.ok
  have hmb := mn_lt53 (a := b) hf.ok
  exact Cn.of rfl rfl (fun w => mul_core hf a b _ _ _ _ _ _ _ _ (fun w => Cn.to rfl rfl (two_cn hf a b ha hb) w) (kdi M X a) (kdi M X b) (show mn M X a < 2^64 by omega) (show mn M X b < 2^64 by omega) (by omega) (by omega) (by omega) (by omega) w)
theorem divS_cn (hf : Okf M X) {a b : Nat} (ha : a < 2^(1+X+M)) (hb : b < 2^(1+X+M)) : Cp 21 [FM M X, LU a, LU b] (.tup [au (divN M X a b : Nat), ai 0]) := by
  obtain ⟨a1, a2⟩ := ex_bounds hf.ok a
  obtain ⟨b1, b2⟩ := ex_bounds hf.ok b
  have hma := mn_lt53 (a := a) hf.ok
  have hmb := mn_lt53 (a := b) hf.ok
  exact Cn.of rfl rfl (fun w => div_core hf a b _ _ _ _ _ _ _ _ (fun w => Cn.to rfl rfl (two_cn hf a b ha hb) w) (kdi M X a) (kdi M X b) (show mn M X a < 2^64 by omega) (show mn M X b < 2^64 by omega) (fun h => mn_pos (by omega)) (fun h => mn_pos (by omega)) (by omega) (by omega) (by omega) (by omega) w)
theorem bad2 {m x : Int} {a b : Nat} (h : Bad m x a ∨ Bad m x b) : ∀ M X : Nat, m = M → x = X → Okf M X → ¬ (a < 2^(1+X+M) ∧ b < 2^(1+X+M)) := by
  rintro M X e1 e2 hf ⟨h1, h2⟩
  rcases h with h | h
  · have := h M X e1 e2 hf; omega
  · have := h M X e1 e2 hf; omega
theorem mulS_bad {m x : Int} {a b : Nat} (ha : a < 2^64) (hb : b < 2^64) (h : Bad m x a ∨ Bad m x b) : Cp 19 [FM m x, LU a, LU b] (.tup [au 0, ai 1]) := cp_of (t19b m x a b) ⟨twobad_cn m x a b ha hb (bad2 h), rfl⟩
theorem divS_bad {m x : Int} {a b : Nat} (ha : a < 2^64) (hb : b < 2^64) (h : Bad m x a ∨ Bad m x b) : Cp 21 [FM m x, LU a, LU b] (.tup [au 0, ai 1]) := cp_of (t21b m x a b) ⟨twobad_cn m x a b ha hb (bad2 h), rfl⟩
theorem mulR_bad {m x : Int} {a b : Nat} (ha : a < 2^64) (hb : b < 2^64) (h : Bad m x a ∨ Bad m x b) : Cp 20 [FM m x, LU a, LU b] (.tup [au 0, ai 1]) := by
  obtain ⟨N, hN⟩ := nf_ex
  exact cp_of (t20 N m x a b 0 0 0 0 0 0 false false 1) ⟨twoRbad_cn ha hb h, WT.br (fun _ => rfl) (fun h => absurd h (by decide))⟩
theorem divR_bad {m x : Int} {a b : Nat} (ha : a < 2^64) (hb : b < 2^64) (h : Bad m x a ∨ Bad m x b) : Cp 22 [FM m x, LU a, LU b] (.tup [au 0, ai 1]) := by
  obtain ⟨N, hN⟩ := nf_ex
  exact cp_of (t22 N m x a b 0 0 0 0 0 0 false false 1) ⟨twoRbad_cn ha hb h, WT.br (fun _ => rfl) (fun h => absurd h (by decide))⟩
theorem num3_cn (z : Int) : Cp 23 [LI z] (LI z) := cp_of (t23 z) rfl
theorem num4_cn (z : Int) : Cp 46 [LI z] (LI z) := cp_of (t46 z) rfl
theorem single_cn : Cp 78 [] (FM 23 8) := cp_of (t78 0) rfl
theorem ok32 : Okf 23 8 := ⟨by decide, by decide, by decide, by decide⟩
theorem live3_cn : Cp 24 [] (LB true) := by
  have v1 : addN 23 8 1065353216 1065353216 = 1073741824 := by decide +kernel
  have v2 : divN 23 8 1065353216 1077936128 = 1051372203 := by decide +kernel
  have v3 : sqrtN 23 8 1073741824 = 1068827891 := by decide +kernel
  have v4 : modR 23 8 1088421888 (kd 23 8 1088421888 : Nat) (ng 23 8 1088421888) (ex 23 8 1088421888) (mn 23 8 1088421888) (kd 23 8 3221225472 : Nat) (ex 23 8 3221225472) (mn 23 8 3221225472) = 1065353216 := by decide +kernel
  have v5 : modQ 23 8 (kd 23 8 1088421888 : Nat) (ng 23 8 1088421888) (ex 23 8 1088421888) (mn 23 8 1088421888) (kd 23 8 3221225472 : Nat) (ng 23 8 3221225472) (ex 23 8 3221225472) (mn 23 8 3221225472) = 3225419776 := by decide +kernel
  have v6 : stepN 23 8 3204448256 false = 3212836864 := by decide +kernel
  have v7 : stepN 23 8 3204448256 true = 2147483648 := by decide +kernel
  have c1 := add_cn ok32 (a := 1065353216) (b := 1065353216) (by decide) (by decide)
  have c2 := divS_cn ok32 (a := 1065353216) (b := 1077936128) (by decide) (by decide)
  have c3 := sqrt_cn ok32 (a := 1073741824) (by decide)
  have c4 := mod_cn ok32 (a := 1088421888) (b := 3221225472) (by decide) (by decide)
  have c5 := floor_cn ok32 (a := 3204448256) (by decide)
  have c6 := ceil_cn ok32 (a := 3204448256) (by decide)
  rw [v1] at c1
  rw [v2] at c2
  rw [v3] at c3
  rw [v4, v5] at c4
  rw [v6] at c5
  rw [v7] at c6
  exact cp_of (t24 1073741824 1051372203 1068827891 1065353216 3225419776 3212836864 2147483648) ⟨single_cn, c1, c2, c3, c4, c5, c6, num3_cn 0, num3_cn 0, num3_cn 0, num3_cn 0, num3_cn 0, num3_cn 0, rfl⟩
theorem law_muls (m x : Int) {a b : Nat} (ha : a < 2^64) (hb : b < 2^64) : Cp 3 [FM m x, LU a, LU b] (LB true) := by
  by_cases hab : Bad m x a ∨ Bad m x b
  · exact cp_of (t3 m x a b 0 1 0 1 0 1 0 1 true) ⟨mulS_bad ha hb hab, mulR_bad ha hb hab, divS_bad ha hb hab, divR_bad ha hb hab, num3_cn 1, num3_cn 1, live3_cn, rfl⟩
  · obtain ⟨M, X, rfl, rfl, hf, h1⟩ := (bad_or m x a).resolve_left (fun h => hab (.inl h))
    have h2 : b < 2^(1+X+M) := by
      rcases Nat.lt_or_ge b (2^(1+X+M)) with c | c
      · exact c
      · exact absurd (.inr fun M' X' e1 e2 _ => by
          have e1 : M = M' := by omega
          have e2 : X = X' := by omega
          subst e1; subst e2; exact c) hab
    refine cp_of (t3 M X a b (mulN M X a b : Nat) 0 (mulN M X a b : Nat) 0 (divN M X a b : Nat) 0 (divN M X a b : Nat) 0 true) ⟨mulS_cn hf h1 h2, mulR_cn hf h1 h2, divS_cn hf h1 h2, divR_cn hf h1 h2, ?_⟩
    refine WT.br (fun _ => ⟨num3_cn 0, WT.br (fun _ => WT.br (fun _ => ⟨num3_cn 0, WT.br (fun _ => ⟨live3_cn, rfl⟩) (fun h => absurd h (by decide))⟩) (fun h => ?_)) (fun h => absurd h (by decide))⟩) (fun h => ?_)
    · simp at h
    · simp at h
end Go.Proofs.Ytpliondhiahhnaa.K
