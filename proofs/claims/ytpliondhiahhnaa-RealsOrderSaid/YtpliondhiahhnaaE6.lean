/- SoftTurns: the law as a contract. -/
import Derived.Test.YtpliondhiahhnaaE5
set_option linter.unusedVariables false
namespace Go.Proofs.Ytpliondhiahhnaa.K
open Sx Fl Go Go.RowKit
set_option maxRecDepth 100000
variable {M X : Nat} {m x : Int} {a b c : Nat}
theorem t9 (L : LF) (m x a b : Int) : tree Try.prog 3 (cLF L) 9 [FM m x, LU a, LU b] =
    Tr.call 31 [LV.agg [si m, si x], LU a] (LV.tup [AV.agg [si (L.kd m x a), sb (L.neg m x a), si (L.ex m x a), su (L.mn m x a)], ai (L.e1 m x a)]) (Tr.call 31 [LV.agg [si m, si x], LU
    b] (LV.tup [AV.agg [si (L.kd m x b), sb (L.neg m x b), si (L.ex m x b), su (L.mn m x b)], ai (L.e1 m x b)]) (Tr.call 27 [LV.agg [si m, si x], LU a, LU b] (LV.tup [au (L.add m x
    a b), ai (L.e2 m x a b)]) (Tr.call 27 [LV.agg [si m, si x], LU b, LU a] (LV.tup [au (L.add m x b a), ai (L.e2 m x b a)]) (Tr.call 19 [LV.agg [si m, si x], LU a, LU b] (LV.tup
    [au (L.mul m x a b), ai (L.e2 m x a b)]) (Tr.call 19 [LV.agg [si m, si x], LU b, LU a] (LV.tup [au (L.mul m x b a), ai (L.e2 m x b a)]) (br (L.add m x a b != L.add m x b a)
    (Tr.ret (LB false)) (br (L.e2 m x a b != L.e2 m x b a) (Tr.ret (LB false)) (br (L.mul m x a b != L.mul m x b a) (Tr.ret (LB false)) (br (L.e2 m x a b != L.e2 m x b a) (Tr.ret
    (LB false)) (br (L.e1 m x a != 0) (Tr.call 23 [LI (L.e2 m x a b)] (LI (L.e2 m x a b)) (br (L.e2 m x a b == 1) (Tr.call 23 [LI (L.e2 m x a b)] (LI (L.e2 m x a b)) (br (L.e2 m x
    a b == 1) (br (L.add m x a b == 0) (br (L.mul m x a b == 0) (Tr.call 24 [] (LB L.live) (Tr.ret (LB L.live))) (Tr.ret (LB false))) (Tr.ret (LB false))) (Tr.ret (LB false))))
    (Tr.ret (LB false)))) (br (L.e1 m x b != 0) (Tr.call 23 [LI (L.e2 m x a b)] (LI (L.e2 m x a b)) (br (L.e2 m x a b == 1) (Tr.call 23 [LI (L.e2 m x a b)] (LI (L.e2 m x a b)) (br
    (L.e2 m x a b == 1) (br (L.add m x a b == 0) (br (L.mul m x a b == 0) (Tr.call 24 [] (LB L.live) (Tr.ret (LB L.live))) (Tr.ret (LB false))) (Tr.ret (LB false))) (Tr.ret (LB
    false)))) (Tr.ret (LB false)))) (Tr.call 42 [LV.agg [si m, si x], LU b] (LU (L.tu m x b)) (Tr.call 40 [LV.agg [si m, si x], LU a, LU (L.tu m x b)] (LV.tup [au (L.sub m x a
    (L.tu m x b)), ai (L.e2 m x a (L.tu m x b))]) (Tr.call 40 [LV.agg [si m, si x], LU a, LU b] (LV.tup [au (L.sub m x a b), ai (L.e2 m x a b)]) (Tr.call 40 [LV.agg [si m, si x],
    LU b, LU a] (LV.tup [au (L.sub m x b a), ai (L.e2 m x b a)]) (Tr.call 23 [LI (L.e2 m x a b)] (LI (L.e2 m x a b)) (Tr.call 23 [LI (L.e2 m x a b)] (LI (L.e2 m x a b)) (Tr.call 23
    [LI (L.e2 m x a (L.tu m x b))] (LI (L.e2 m x a (L.tu m x b))) (Tr.call 23 [LI (L.e2 m x a b)] (LI (L.e2 m x a b)) (Tr.call 23 [LI (L.e2 m x b a)] (LI (L.e2 m x b a)) (br
    (IntKind.i64.wrap (IntKind.i64.wrap (IntKind.i64.wrap (IntKind.i64.wrap (L.e2 m x a b + L.e2 m x a b) + L.e2 m x a (L.tu m x b)) + L.e2 m x a b) + L.e2 m x b a) != 0) (Tr.ret
    (LB false)) (br (L.kd m x a == 4) (Tr.call 28 [LV.agg [si m, si x]] (LU (L.nan m x)) (br (L.add m x a b == L.nan m x) (br (L.sub m x a (L.tu m x b) == L.add m x a b) (br (L.sub
    m x a b == L.add m x a b) (br (L.sub m x b a == L.add m x a b) (br (L.mul m x a b == L.add m x a b) (Tr.call 24 [] (LB L.live) (Tr.ret (LB L.live))) (Tr.ret (LB false)))
    (Tr.ret (LB false))) (Tr.ret (LB false))) (Tr.ret (LB false))) (Tr.ret (LB false)))) (br (L.kd m x b == 4) (Tr.call 28 [LV.agg [si m, si x]] (LU (L.nan m x)) (br (L.add m x a b
    == L.nan m x) (br (L.sub m x a (L.tu m x b) == L.add m x a b) (br (L.sub m x a b == L.add m x a b) (br (L.sub m x b a == L.add m x a b) (br (L.mul m x a b == L.add m x a b)
    (Tr.call 24 [] (LB L.live) (Tr.ret (LB L.live))) (Tr.ret (LB false))) (Tr.ret (LB false))) (Tr.ret (LB false))) (Tr.ret (LB false))) (Tr.ret (LB false)))) (br (L.sub m x a
    (L.tu m x b) != L.add m x a b) (Tr.ret (LB false)) (Tr.call 43 [LV.agg [si m, si x], LB false] (LU (L.ze m x false)) (Tr.call 25 [LV.agg [si m, si x], LU (L.sub m x a b), LU
    (L.ze m x false)] (LV.tup [ai (L.cmp m x (L.sub m x a b) (L.ze m x false)), ab (L.cok m x (L.sub m x a b) (L.ze m x false)), ai (L.e2 m x (L.sub m x a b) (L.ze m x false))])
    (br (!L.cok m x (L.sub m x a b) (L.ze m x false)) (br (L.sub m x b a == L.sub m x a b) (Tr.call 24 [] (LB L.live) (Tr.ret (LB L.live))) (Tr.ret (LB false))) (br (L.cmp m x
    (L.sub m x a b) (L.ze m x false) == 0) (br (L.kd m x a != 1) (Tr.call 43 [LV.agg [si m, si x], LB false] (LU (L.ze m x false)) (br (L.sub m x a b == L.ze m x false) (br (L.sub
    m x b a == L.sub m x a b) (Tr.call 24 [] (LB L.live) (Tr.ret (LB L.live))) (Tr.ret (LB false))) (Tr.ret (LB false)))) (br (L.kd m x b != 1) (Tr.call 43 [LV.agg [si m, si x], LB
    false] (LU (L.ze m x false)) (br (L.sub m x a b == L.ze m x false) (br (L.sub m x b a == L.sub m x a b) (Tr.call 24 [] (LB L.live) (Tr.ret (LB L.live))) (Tr.ret (LB false)))
    (Tr.ret (LB false)))) (br (a == b) (Tr.call 43 [LV.agg [si m, si x], LB false] (LU (L.ze m x false)) (br (L.sub m x a b == L.ze m x false) (br (L.sub m x b a == L.sub m x a b)
    (Tr.call 24 [] (LB L.live) (Tr.ret (LB L.live))) (Tr.ret (LB false))) (Tr.ret (LB false)))) (Tr.call 42 [LV.agg [si m, si x], LU (L.sub m x a b)] (LU (L.tu m x (L.sub m x a
    b))) (br (L.sub m x b a == L.tu m x (L.sub m x a b)) (Tr.call 24 [] (LB L.live) (Tr.ret (LB L.live))) (Tr.ret (LB false))))))) (Tr.call 42 [LV.agg [si m, si x], LU (L.sub m x a
    b)] (LU (L.tu m x (L.sub m x a b))) (br (L.sub m x b a == L.tu m x (L.sub m x a b)) (Tr.call 24 [] (LB L.live) (Tr.ret (LB L.live))) (Tr.ret (LB
    false)))))))))))))))))))))))))))))))) := by kernel_rfl


/-! ### a pattern made of a sign and the rest -/
theorem sgn_mul (M X : Nat) (s : Bool) : ∃ k, sgn M X s = 2^M * (2^X * k) ∧ k ≤ 1 := by
  cases s
  · exact ⟨0, by rw [sgn_false]; simp, by decide⟩
  · exact ⟨1, by rw [sgn_true, Nat.pow_add, Nat.mul_one, Nat.mul_comm], by decide⟩
theorem fr_made (s : Bool) (n : Nat) : fr M (sgn M X s + n) = fr M n := by
  obtain ⟨k, e, _⟩ := sgn_mul M X s
  unfold fr; rw [e, Nat.mul_add_mod]
theorem fd_made (s : Bool) (n : Nat) : fd M X (sgn M X s + n) = fd M X n := by
  obtain ⟨k, e, _⟩ := sgn_mul M X s
  unfold fd; rw [e, Nat.mul_add_div (two_pow_pos M), Nat.mul_add_mod]
theorem kd_made (s : Bool) (n : Nat) : kd M X (sgn M X s + n) = kd M X n := by unfold kd; rw [fr_made, fd_made]
theorem mn_made (s : Bool) (n : Nat) : mn M X (sgn M X s + n) = mn M X n := by unfold mn; rw [kd_made, fr_made, fd_made]
theorem ex_made (s : Bool) (n : Nat) : ex M X (sgn M X s + n) = ex M X n := by unfold ex; rw [kd_made, fd_made]
theorem mg_made (s : Bool) (n : Nat) : mg M X (sgn M X s + n) = mg M X n := by unfold mg; rw [fd_made, fr_made]
theorem ng_made (s : Bool) {n : Nat} (h : n < 2^(X+M)) : ng M X (sgn M X s + n) = s := by
  unfold ng
  cases s
  · rw [sgn_false]; exact decide_eq_false (by omega)
  · rw [sgn_true]; exact decide_eq_true (by omega)
theorem turn_made (s : Bool) {n : Nat} (h : n < 2^(X+M)) : turnN M X (sgn M X s + n) = sgn M X (!s) + n := by
  unfold turnN
  cases s
  · rw [sgn_false, if_neg (by omega)]; show _ = sgn M X true + n; rw [sgn_true]; omega
  · rw [sgn_true, if_pos (by omega)]; show _ = sgn M X false + n; rw [sgn_false]; omega
theorem pat_ex (ha : a < 2^(1+X+M)) : ∃ s n, a = sgn M X s + n ∧ n < 2^(X+M) := ⟨_, _, mg_split ha, mg_lt M X a⟩
theorem turn_turn (ha : a < 2^(1+X+M)) : turnN M X (turnN M X a) = a := by
  obtain ⟨s, n, rfl, h⟩ := pat_ex ha
  rw [turn_made s h, turn_made _ h, Bool.not_not]
theorem kd_turn (ha : a < 2^(1+X+M)) : kd M X (turnN M X a) = kd M X a := by
  obtain ⟨s, n, rfl, h⟩ := pat_ex ha
  rw [turn_made s h, kd_made, kd_made]
theorem mn_turn (ha : a < 2^(1+X+M)) : mn M X (turnN M X a) = mn M X a := by
  obtain ⟨s, n, rfl, h⟩ := pat_ex ha
  rw [turn_made s h, mn_made, mn_made]
theorem ex_turn (ha : a < 2^(1+X+M)) : ex M X (turnN M X a) = ex M X a := by
  obtain ⟨s, n, rfl, h⟩ := pat_ex ha
  rw [turn_made s h, ex_made, ex_made]
theorem ng_turn (ha : a < 2^(1+X+M)) : ng M X (turnN M X a) = !ng M X a := by
  obtain ⟨s, n, rfl, h⟩ := pat_ex ha
  rw [turn_made s h, ng_made _ h, ng_made _ h]
theorem sg_not (s : Bool) (n : Nat) : sg (!s) n = -sg s n := by
  unfold sg; cases s <;> simp
theorem plc_turn (ha : a < 2^(1+X+M)) : plc M X (turnN M X a) = -plc M X a := by
  obtain ⟨s, n, rfl, h⟩ := pat_ex ha
  rw [turn_made s h, plc_made _ h, plc_made _ h, sg_not]
theorem sv_turn (ha : a < 2^(1+X+M)) : sv M X (turnN M X a) = -sv M X a := by
  unfold sv va; rw [ng_turn ha, mn_turn ha, ex_turn ha, sg_not]
theorem fin12_turn (ha : a < 2^(1+X+M)) (h : fin12 M X a) : fin12 M X (turnN M X a) := by
  unfold fin12 at *; rw [kd_turn ha]; exact h
/-- a place that is not 0 is of one pattern -/
theorem plc_inj (ha : a < 2^(1+X+M)) (hb : b < 2^(1+X+M)) (h : plc M X a = plc M X b) (h0 : plc M X a ≠ 0) : a = b := by
  obtain ⟨s, n, rfl, hn⟩ := pat_ex ha
  obtain ⟨t, k, rfl, hk⟩ := pat_ex hb
  rw [plc_made s hn] at h h0
  rw [plc_made t hk] at h
  unfold sg at h h0
  cases s <;> cases t <;> simp at h h0 ⊢ <;> omega
theorem add_comm' (ha : a < 2^(1+X+M)) (hb : b < 2^(1+X+M)) : addN M X a b = addN M X b a := by
  unfold addN addS
  rw [sumP_comm M X (ng M X b)]
  have ca := kd_cases M X a
  have cb := kd_cases M X b
  have ia : kd M X a = 3 → a = infc M X + sgn M X (ng M X a) := fun h => self_inf ha h
  have ib : kd M X b = 3 → b = infc M X + sgn M X (ng M X b) := fun h => self_inf hb h
  generalize sumP M X (ng M X a) (ex M X a) (mn M X a) (ng M X b) (ex M X b) (mn M X b) = S
  generalize kd M X a = ka at *
  generalize kd M X b = kb at *
  generalize ng M X a = na at *
  generalize ng M X b = nb at *
  rcases ca with rfl | rfl | rfl | rfl <;> rcases cb with rfl | rfl | rfl | rfl <;> cases na <;> cases nb <;> simp
  · rw [ia rfl, ib rfl]
  · rw [ia rfl, ib rfl]
theorem bne_swap (p q : Bool) : (p != q) = (q != p) := by cases p <;> cases q <;> rfl
theorem mul_comm' : mulN M X a b = mulN M X b a := by
  unfold mulN mulP
  rw [Nat.mul_comm (mn M X b), Int.add_comm (ex M X b), bne_swap (ng M X b)]
  have ca := kd_cases M X a
  have cb := kd_cases M X b
  generalize packN M X (ng M X a != ng M X b) (mn M X a * mn M X b) (ex M X a + ex M X b) false = S
  generalize kd M X a = ka at *
  generalize kd M X b = kb at *
  rcases ca with rfl | rfl | rfl | rfl <;> rcases cb with rfl | rfl | rfl | rfl <;> simp
theorem mul_nan (h : kd M X a = 4 ∨ kd M X b = 4) : mulN M X a b = nanc M X := by
  unfold mulN mulP; rw [if_pos (by omega)]
theorem near_pos (hf : Okf M X) {n : Nat} {e : Int} (hn : 0 < n) (h : 1 ≤ e + bs M X) : 0 < near M X n 1 e := by
  have hm := hf.m1; have hx := hf.x1
  rw [near_one (by omega)]
  have hv : val M 1 = 2 := by
    have := val_code (m := M) (s := 0) (q := 1) (two_pow_pos _) (.inl rfl)
    rw [Nat.zero_mul, Nat.zero_add] at this; rw [this]
  have h1 := rnd_val (m := M) (inf := infc M X) (D := 1) (p := 1) (by omega) (by decide) (infc_pos (by omega))
  have h2 : 2^1 ≤ 2^(e + (bs M X : Int)).toNat := pow_le (by omega)
  have h3 : 1 * 2^(e + (bs M X : Int)).toNat ≤ n * 2^(e + (bs M X : Int)).toNat := Nat.mul_le_mul_right _ hn
  have h4 := rnd_mono (m := M) (inf := infc M X) (N := val M 1 * 1) (D := 1) (N' := n * 2^(e + (bs M X : Int)).toNat) (D' := 1) (by omega) (by decide) (by decide) (by rw [hv]; omega)
  omega
theorem plc_zero_iff (ha : a < 2^(1+X+M)) : plc M X a = 0 ↔ mg M X a = 0 := by
  rw [plc_sg ha]; unfold sg; split <;> omega
theorem mg_near (s : Bool) (N D : Nat) (e : Int) : mg M X (sgn M X s + near M X N D e) = near M X N D e := by
  have h1 := mg_split (made_lt s (near_lt M X N D e))
  rw [ng_made s (near_lt M X N D e)] at h1
  omega
theorem sub_plc (hf : Okf M X) (ha : a < 2^(1+X+M)) (hb : b < 2^(1+X+M)) (h : fin12 M X a) (k : fin12 M X b) : plc M X (subN M X a b) = rz M X (sv M X a - sv M X b) := by
  unfold subN
  rw [add_plc hf ha (turn_lt hb) h (fin12_turn hb k), sv_turn hb]; rfl
theorem rz_neg (hM : 0 < M) (v : Int) : rz M X (-v) = -rz M X v := by
  have : ∃ s n, v = sg s n := by
    by_cases c : v < 0
    · exact ⟨true, v.natAbs, by unfold sg; rw [if_pos rfl]; omega⟩
    · exact ⟨false, v.natAbs, by unfold sg; rw [if_neg (by decide)]; omega⟩
  obtain ⟨s, n, rfl⟩ := this
  rw [← sg_not, rz_sg hM, rz_sg hM, sg_not]
theorem sub_inf1 (h : kd M X a = 3) (k : fin12 M X b) (hb : b < 2^(1+X+M)) : subN M X a b = a := add_inf1 h (fin12_turn hb k)
theorem sub_inf2 (h : kd M X b = 3) (k : fin12 M X a) (hb : b < 2^(1+X+M)) : subN M X a b = turnN M X b := add_inf2 (by rw [kd_turn hb]; exact h) k
theorem add_inf3 (h : kd M X a = 3) (k : kd M X b = 3) : addN M X a b = if ng M X a = ng M X b then a else nanc M X := by
  unfold addN addS
  by_cases c : ng M X a = ng M X b
  · rw [if_pos c, if_neg ?_, if_pos (by omega)]
    rintro (hh | hh | hh)
    · omega
    · omega
    · exact hh.2.2 c
  · rw [if_neg c, if_pos (.inr (.inr ⟨by omega, by omega, c⟩))]
theorem sub_inf3 (h : kd M X a = 3) (k : kd M X b = 3) (hb : b < 2^(1+X+M)) : subN M X a b = if ng M X a = ng M X b then nanc M X else a := by
  unfold subN
  rw [add_inf3 h (by rw [kd_turn hb]; exact k), ng_turn hb]
  cases ng M X a <;> cases ng M X b <;> rfl
/-- a difference, turned round -/
theorem sub_anti (hf : Okf M X) (ha : a < 2^(1+X+M)) (hb : b < 2^(1+X+M)) (ka : kd M X a ≠ 4) (kb : kd M X b ≠ 4) : (subN M X a b = nanc M X ∧ subN M X b a = nanc M X) ∨ plc M X (subN M X b a) = -plc M X (subN M X a b) := by
  have hm := hf.m1
  by_cases a3 : kd M X a = 3
  · by_cases b3 : kd M X b = 3
    · rw [sub_inf3 a3 b3 hb, sub_inf3 b3 a3 ha]
      by_cases e : ng M X a = ng M X b
      · left; rw [if_pos e, if_pos e.symm]; exact ⟨rfl, rfl⟩
      · right
        rw [if_neg e, if_neg (fun h => e h.symm), plc_sg ha, plc_sg hb, mg_inf a3, mg_inf b3]
        unfold sg; cases ha : ng M X a <;> cases hb : ng M X b <;> simp_all
    · right; rw [sub_inf1 a3 (fin12_of kb b3) hb, sub_inf2 a3 (fin12_of kb b3) ha, plc_turn ha]
  · by_cases b3 : kd M X b = 3
    · right; rw [sub_inf1 b3 (fin12_of ka a3) ha, sub_inf2 b3 (fin12_of ka a3) hb, plc_turn hb, Int.neg_neg]
    · right
      rw [sub_plc hf ha hb (fin12_of ka a3) (fin12_of kb b3), sub_plc hf hb ha (fin12_of kb b3) (fin12_of ka a3), ← rz_neg (by omega)]
      congr 1; omega
theorem sub_lt (hf : Okf M X) (ha : a < 2^(1+X+M)) (hb : b < 2^(1+X+M)) : subN M X a b < 2^(1+X+M) := add_lt hf ha (turn_lt hb)
theorem sum_zero (hf : Okf M X) {na nb : Bool} {e : Int} {A B : Nat} (hA : 0 < A) (h : 1 ≤ e + bs M X) (h0 : mg M X (sumR M X na nb e A B) = 0) : sumR M X na nb e A B = 0 := by
  unfold sumR at *
  split at h0
  · rw [mg_near] at h0
    have := near_pos hf (n := A + B) (by omega) h
    omega
  · rename_i c
    rw [if_neg c]
    split at h0
    · rename_i d; rw [if_pos d, sgn_false]
    · split at h0
      · rw [mg_near] at h0
        have := near_pos hf (n := A - B) (by omega) h
        omega
      · rw [mg_near] at h0
        have := near_pos hf (n := B - A) (by omega) h
        omega
theorem mg_pos2 (h : kd M X a = 2) : mg M X a ≠ 0 := by have := (mg_fin h).1; omega
theorem sub_zero (hf : Okf M X) (ha : a < 2^(1+X+M)) (hb : b < 2^(1+X+M)) (h : fin12 M X a) (k : fin12 M X b) (hz : ¬ (kd M X a = 1 ∧ kd M X b = 1)) (h0 : mg M X (subN M X a b) = 0) : subN M X a b = 0 := by
  have hk := kd_turn (M := M) (X := X) hb
  have s12 : kd M X a = 1 → kd M X b = 2 → subN M X a b = turnN M X b := fun h k => by
    unfold subN addN addS
    rw [hk, if_neg (by omega), if_neg (by omega), if_pos (by omega)]
  have s21 : kd M X a = 2 → kd M X b = 1 → subN M X a b = a := fun h k => by
    unfold subN addN addS
    rw [hk, if_neg (by omega), if_pos (by omega)]
  have s22 : kd M X a = 2 → kd M X b = 2 → subN M X a b = sumP M X (ng M X a) (ex M X a) (mn M X a) (ng M X (turnN M X b)) (ex M X (turnN M X b)) (mn M X (turnN M X b)) := fun h k => by
    unfold subN addN addS
    rw [hk, if_neg (by omega), if_neg (by omega), if_neg (by omega), if_neg (by omega)]
  rcases h with h | h <;> rcases k with k | k
  · exact absurd ⟨h, k⟩ hz
  · rw [s12 h k] at h0
    exact absurd h0 (mg_pos2 (by rw [hk]; exact k))
  · rw [s21 h k] at h0
    exact absurd h0 (mg_pos2 h)
  · rw [s22 h k] at h0 ⊢
    have e1 := ex_lo h
    have e2 := ex_lo k
    refine sum_zero hf ?_ ?_ h0
    · exact Nat.mul_pos (mn_pos h) (two_pow_pos _)
    · rw [ex_turn hb, bs_eq]; omega
theorem plc_nat0 : plc M X 0 = 0 := by unfold plc; rw [if_neg (by have := two_pow_pos (X+M); omega)]; rfl
theorem kd_zero0 (hf : Okf M X) : kd M X 0 = 1 := by
  have hx := hf.x1
  have : 2^1 ≤ 2^X := pow_le (by omega)
  have e1 : fd M X 0 = 0 := by unfold fd; simp
  have e2 : fr M 0 = 0 := by unfold fr; simp
  unfold kd; rw [e1, e2, if_neg (by omega), if_pos rfl, if_pos rfl]
theorem kd_sgn (hf : Okf M X) (s : Bool) : kd M X (sgn M X s) = 1 := by
  have := kd_made (M := M) (X := X) s 0
  rw [Nat.add_zero] at this; rw [this]; exact kd_zero0 hf
/-- what a sum of numbers is never -/
theorem kd_rnd (hf : Okf M X) (s : Bool) {n : Nat} (h : n ≤ infc M X) : kd M X (sgn M X s + n) ≠ 4 := by
  rw [kd_made]
  intro e
  have h1 := mg_nan e
  have h2 := mg_split (M := M) (X := X) (a := n) (by rw [pw2]; have := infc_lt' M X; omega)
  have : ng M X n = false := by unfold ng; exact decide_eq_false (by have := infc_lt' M X; omega)
  rw [this, sgn_false] at h2
  omega
theorem sub_fin4 (hf : Okf M X) (ha : a < 2^(1+X+M)) (hb : b < 2^(1+X+M)) (ka : kd M X a ≠ 4) (kb : kd M X b ≠ 4) (h : kd M X (subN M X a b) = 4) : subN M X a b = nanc M X ∧ subN M X b a = nanc M X := by
  have hx := hf.x1
  rcases sub_anti hf ha hb ka kb with h1 | h1
  · exact h1
  · exfalso
    have hkt := kd_turn (M := M) (X := X) hb
    have e1 : kd M X (subN M X a b) ≠ 4 ∨ (kd M X a = 3 ∧ kd M X b = 3 ∧ ng M X a = ng M X b) := by
      unfold subN addN addS
      rw [hkt, ng_turn hb]
      split
      · rename_i hc
        right
        rcases hc with hc | hc | hc
        · omega
        · omega
        · refine ⟨by omega, by omega, ?_⟩
          cases h1 : ng M X a <;> cases h2 : ng M X b <;> simp_all
      · left
        split
        · exact ka
        · split
          · rw [hkt]; exact kb
          · split
            · rw [kd_sgn hf]; decide
            · unfold sumP sumR
              split
              · exact kd_rnd hf _ (near_le ..)
              · split
                · rw [kd_sgn hf]; decide
                · split
                  · exact kd_rnd hf _ (near_le ..)
                  · exact kd_rnd hf _ (near_le ..)
    rcases e1 with e1 | ⟨a3, b3, e⟩
    · exact e1 h
    · rw [sub_inf3 b3 a3 ha, if_pos e.symm] at h1
      rw [sub_inf3 a3 b3 hb, if_pos e] at h1
      have hn := mg_nan (kd_nanc hf)
      have : plc M X (nanc M X) = 0 := by omega
      rw [plc_zero_iff (by have := nanc_lt (M := M) (X := X) (by have := hf.m1; omega); rw [pw2]; omega)] at this
      omega
theorem turnR_all (hf : Okf M X) (ha : a < 2^(1+X+M)) : Cp 42 [FM M X, LU a] (LU (turnN M X a : Nat)) := turnR_cn hf ha
theorem neq_nat {p q : Nat} (h : p = q) : ((p : Int) != q) = false := by subst h; simp
theorem beq_nat {p q : Nat} (h : p = q) : ((p : Int) == q) = true := by subst h; simp
theorem law_turns (m x : Int) {a b : Nat} (ha : a < 2^64) (hb : b < 2^64) : Cp 9 [FM m x, LU a, LU b] (LB true) := by
  obtain ⟨L, hL⟩ := lf_ex
  refine cp_of (t9 L m x a b) ?_
  have lv : Wt (LB true) (.call 24 [] (LB true) (.ret (LB true))) := ⟨live3_cn, rfl⟩
  have lv2 : ∀ {p q : Nat}, p = q → Wt (LB true) (br ((p : Int) == q) (.call 24 [] (LB true) (.ret (LB true))) (.ret (LB false))) := fun {p q} h => by rw [beq_nat h]; exact lv
  simp only [hL.add, hL.mul, hL.e2, hL.e1, hL.kd, hL.neg, hL.ex, hL.mn, hL.live]
  refine ⟨open_all ha, open_all hb, add_all ha hb, add_all hb ha, mul_all ha hb, mul_all hb ha, ?_⟩
  cases ka : okB m x a with
  | false =>
    simp only [er1_no ka, er2_no1 (b := b) ka, er2_no2 (a := b) ka, tot2_no1 (b := b) ka, tot2_no2 (a := b) ka, n10, e11, brt]
    exact ⟨num3_cn _, num3_cn _, lv⟩
  | true =>
  cases kb : okB m x b with
  | false =>
    simp only [er1_ok ka, er1_no kb, er2_no1 (b := a) kb, er2_no2 (a := a) kb, tot2_no1 (b := a) kb, tot2_no2 (a := a) kb, n10, n00, e11, brt, brf]
    exact ⟨num3_cn _, num3_cn _, lv⟩
  | true =>
  obtain ⟨M, X, rfl, rfl, hf, la⟩ := okB_ok ka
  have lb := (okB_lt hf).1 kb
  have hz0 : sgn M X false = 0 := sgn_false M X
  have ltb := turn_lt (M := M) (X := X) lb
  have ktb := (okB_lt hf).2 ltb
  have lm := sub_lt hf la lb
  have lo := sub_lt hf lb la
  have km := (okB_lt hf).2 lm
  have k0 : okB M X 0 = true := (okB_lt hf).2 (two_pow_pos _)
  simp only [hL.tu, hL.sub, hL.e2, hL.nan, hL.ze, hz0, Int.natCast_zero]
  have s0 : ∀ z : Int, L.cmp M X z 0 = L.cmp M X z ((0 : Nat) : Int) ∧ L.cok M X z 0 = L.cok M X z ((0 : Nat) : Int) ∧ L.e2 M X z 0 = L.e2 M X z ((0 : Nat) : Int) := fun z => ⟨rfl, rfl, rfl⟩
  simp only [(s0 _).1, (s0 _).2.1, (s0 _).2.2, hL.cmp, hL.cok, hL.e2]
  have cs := sub_all (m := M) (x := X) (a := a) (Fl.a64 hf.ok la) (Fl.a64 hf.ok ltb)
  have cm := sub_all (m := M) (x := X) (Fl.a64 hf.ok la) (Fl.a64 hf.ok lb)
  have co := sub_all (m := M) (x := X) (Fl.a64 hf.ok lb) (Fl.a64 hf.ok la)
  rw [tot2_ok ka ktb, er2_ok ka ktb] at cs
  rw [tot2_ok ka kb, er2_ok ka kb] at cm
  rw [tot2_ok kb ka, er2_ok kb ka] at co
  have cc := cmp_all (m := M) (x := X) (a := subN M X a b) (b := 0) (Fl.a64 hf.ok lm) (by decide)
  rw [totc_ok km k0, toto_ok km k0, er2_ok km k0] at cc
  have es : subN M X a (turnN M X b) = addN M X a b := by unfold subN; rw [turn_turn lb]
  simp only [tot2_ok ka kb, tot2_ok kb ka, tot2_ok ka ktb, er2_ok ka kb, er2_ok kb ka, er2_ok ka ktb, er1_ok ka, er1_ok kb, tot1_ok ka, tot1_ok kb, es, totc_ok km k0, toto_ok km k0, er2_ok km k0, neq_nat (add_comm' la lb), neq_nat (mul_comm' (M := M) (X := X) (a := a) (b := b)), brf, show ∀ n : Int, (n != n) = false from fun n => by simp, show ∀ n : Int, (n == n) = true from fun n => by simp, brt, show IntKind.i64.wrap (IntKind.i64.wrap (IntKind.i64.wrap (IntKind.i64.wrap (0 + 0) + 0) + 0) + 0) = 0 from rfl]
  rw [es] at cs
  refine ⟨turnR_cn hf lb, cs, cm, co, num3_cn _, num3_cn _, num3_cn _, num3_cn _, num3_cn _, ?_⟩
  have ez : ∀ (n : Nat) (z : Nat), (((n : Nat) : Int) == (z : Int)) = decide (n = z) := fun n z => by rw [Bool.eq_iff_iff, beq_iff_eq, decide_eq_true_eq]; omega
  have e4 : ∀ n : Nat, ((n : Int) == 4) = decide (n = 4) := fun n => ez n 4
  have e1' : ∀ n : Nat, ((n : Int) != 1) = decide (n ≠ 1) := fun n => by rw [Bool.eq_iff_iff, bne_iff_ne, decide_eq_true_eq]; omega
  rw [e4, e4, e1', e1']
  have nan : kd M X a = 4 ∨ kd M X b = 4 → Wt (LB true) (.call 28 [FM M X] (LU (nanc M X : Nat)) (br (((addN M X a b : Nat) : Int) == (nanc M X : Nat)) (br (((subN M X a b : Nat) : Int) == (addN M X a b : Nat)) (br (((subN M X b a : Nat) : Int) == (addN M X a b : Nat)) (br (((mulN M X a b : Nat) : Int) == (addN M X a b : Nat)) (.call 24 [] (LB true) (.ret (LB true))) (.ret (LB false))) (.ret (LB false))) (.ret (LB false))) (.ret (LB false)))) := fun h => by
    have q1 : addN M X a b = nanc M X := h.elim (fun h => add_nan1 h) (fun h => add_nan2 h)
    have q2 : subN M X a b = nanc M X := h.elim (fun h => add_nan1 h) (fun h => add_nan2 (by rw [kd_turn lb]; exact h))
    have q3 : subN M X b a = nanc M X := h.elim (fun h => add_nan2 (by rw [kd_turn la]; exact h)) (fun h => add_nan1 h)
    have q4 : mulN M X a b = nanc M X := mul_nan h
    rw [q1, q2, q3, q4]
    simp only [beq_same, brt]
    exact ⟨nanR_cn hf, lv⟩
  refine brD (fun h => nan (.inl h)) (fun a4 => brD (fun h => nan (.inr h)) (fun b4 => ?_))
  have z0 : Cp 43 [FM M X, LB false] (LU 0) := by have := zeroR_cn hf false; rwa [hz0] at this
  refine ⟨z0, cc, ?_⟩
  have anti := sub_anti hf la lb a4 b4
  have f4 := sub_fin4 hf la lb a4 b4
  rw [Bool.not_not]
  refine WT.br (fun h => ?_) (fun h => ?_)
  · have m4 : kd M X (subN M X a b) = 4 := by
      rcases odd_true h with h | h
      · exact h
      · rw [kd_zero0 hf] at h; omega
    obtain ⟨q1, q2⟩ := f4 m4
    exact lv2 (by rw [q1, q2])
  have m4 := (odd_false h).1
  have hc := cmpN_of h
  rw [plc_nat0] at hc
  have anti : plc M X (subN M X b a) = -plc M X (subN M X a b) := by
    rcases anti with ⟨q1, q2⟩ | q
    · rw [q1] at m4; exact absurd (kd_nanc hf) m4
    · exact q
  have turned : subN M X b a = turnN M X (subN M X a b) → Wt (LB true) (.call 42 [FM M X, LU (subN M X a b : Nat)] (LU (turnN M X (subN M X a b) : Nat)) (br (((subN M X b a : Nat) : Int) == (turnN M X (subN M X a b) : Nat)) (.call 24 [] (LB true) (.ret (LB true))) (.ret (LB false)))) := fun h => ⟨turnR_cn hf lm, lv2 h⟩
  have zed : subN M X a b = 0 → subN M X b a = 0 → Wt (LB true) (.call 43 [FM M X, LB false] (LU 0) (br (((subN M X a b : Nat) : Int) == 0) (br (((subN M X b a : Nat) : Int) == (subN M X a b : Nat)) (.call 24 [] (LB true) (.ret (LB true))) (.ret (LB false))) (.ret (LB false)))) := fun h1 h2 => by
    rw [h1, h2]; exact ⟨z0, lv⟩
  have iz : cmpN M X (subN M X a b) 0 = 0 ↔ plc M X (subN M X a b) = 0 := by
    rw [hc]; unfold cmpI; split
    · omega
    · split <;> omega
  have ec : (cmpN M X (subN M X a b) 0 == 0) = decide (plc M X (subN M X a b) = 0) := by rw [Bool.eq_iff_iff]; simp [iz]
  rw [ec]
  refine brD (fun hp => ?_) (fun hp => turned ?_)
  · -- no place
    have mz := (plc_zero_iff lm).1 hp
    have mz2 : mg M X (subN M X b a) = 0 := (plc_zero_iff lo).1 (by omega)
    have fin : fin12 M X a ∧ fin12 M X b := by
      have ip := infc_pos (M := M) (show 1 ≤ X by have := hf.x1; omega)
      have a3 : kd M X a ≠ 3 := fun e => by
        by_cases b3 : kd M X b = 3
        · rw [sub_inf3 e b3 lb] at mz m4
          split at mz
          · rename_i c; rw [if_pos c] at m4; exact m4 (kd_nanc hf)
          · rw [mg_inf e] at mz; omega
        · rw [sub_inf1 e (fin12_of b4 b3) lb, mg_inf e] at mz; omega
      have b3 : kd M X b ≠ 3 := fun e => by
        rw [sub_inf2 e (fin12_of a4 a3) lb, mg_inf (by rw [kd_turn lb]; exact e)] at mz; omega
      exact ⟨fin12_of a4 a3, fin12_of b4 b3⟩
    have both : ¬ (kd M X a = 1 ∧ kd M X b = 1) → subN M X a b = 0 ∧ subN M X b a = 0 := fun hz => ⟨sub_zero hf la lb fin.1 fin.2 hz mz, sub_zero hf lb la fin.2 fin.1 (fun h => hz ⟨h.2, h.1⟩) mz2⟩
    refine brD (fun h1 => zed (both (fun h => h1 h.1)).1 (both (fun h => h1 h.1)).2) (fun h1 => brD (fun h2 => zed (both (fun h => h2 h.2)).1 (both (fun h => h2 h.2)).2) (fun h2 => ?_))
    have a1 : kd M X a = 1 := Classical.not_not.1 h1
    have b1 : kd M X b = 1 := Classical.not_not.1 h2
    have sa := self_zero la a1
    have sb' := self_zero lb b1
    have zs : ∀ {p q : Nat}, q < 2^(1+X+M) → kd M X p = 1 → kd M X q = 1 → subN M X p q = sgn M X (ng M X p && !ng M X q) := fun {p q} hq h1 h2 => by
      unfold subN addN addS
      rw [kd_turn hq, ng_turn hq, if_neg (by omega), if_neg (by omega), if_neg (by omega), if_pos (by omega)]
    have q1 := zs lb a1 b1
    have q2 := zs la b1 a1
    rw [ez]
    refine brD (fun h => zed ?_ ?_) (fun h => turned ?_)
    · subst h; rw [q1]; cases ng M X a <;> exact sgn_false M X
    · subst h; rw [q1]; cases ng M X a <;> exact sgn_false M X
    · have hne : ng M X a ≠ ng M X b := fun e => h (by rw [sa, sb', e])
      have tm := turn_made (M := M) (X := X) (ng M X a && !ng M X b) (n := 0) (two_pow_pos _)
      rw [Nat.add_zero, Nat.add_zero] at tm
      rw [q1, q2, tm]
      congr 1; revert hne; generalize ng M X a = p; generalize ng M X b = q; revert p q; decide
  · refine plc_inj lo (turn_lt lm) ?_ (by omega)
    rw [plc_turn lm]; exact anti
end Go.Proofs.Ytpliondhiahhnaa.K
