/- soft.sum: the contract. -/
import Derived.Test.YtpliondhiahhnaaC0
namespace Go.Proofs.Ytpliondhiahhnaa.K
open Sx Fl Go Go.RowKit
set_option maxRecDepth 100000
/-- pack, and that is it -/
def pk (M X : Nat) (neg : Bool) (hi lo e : Int) (more : Bool) : Tr :=
  .call 69 [FM M X, LB neg, LU hi, LU lo, LI e, LB more] (.tup [au (packN M X neg (hi.toNat*2^64+lo.toNat) e more : Nat), ai 0]) (.ret (.tup [au (packN M X neg (hi.toNat*2^64+lo.toNat) e more : Nat), ai 0]))
def sumS (M X : Nat) (na : Bool) (mb : Nat) (eb hi lo : Int) : Tr :=
  .ext 130 [LU lo, LU mb, LU 0] (.tup [au ((lo.toNat+2^64-(mb : Int).toNat) % 2^64 : Nat), au (if lo.toNat < (mb : Int).toNat then 1 else 0 : Nat)])
    (pk M X na (IntKind.u64.wrap (hi - (if lo.toNat < (mb : Int).toNat then 1 else 0 : Nat))) ((lo.toNat+2^64-(mb : Int).toNat) % 2^64 : Nat) eb false)
def sumL (M X : Nat) (na nb : Bool) (mb : Nat) (eb hi lo : Int) : Tr :=
  br (hi == 0) (br (decide (lo < mb)) (pk M X nb 0 (IntKind.u64.wrap (mb - lo)) eb false) (sumS M X na mb eb hi lo)) (sumS M X na mb eb hi lo)
def sumE (M X : Nat) (na nb : Bool) (mb : Nat) (eb hi lo : Int) : Tr :=
  br (na == nb)
    (.ext 129 [LU lo, LU mb, LU 0] (.tup [au ((lo.toNat+(mb : Int).toNat) % 2^64 : Nat), au ((lo.toNat+(mb : Int).toNat) / 2^64 : Nat)])
      (pk M X na (IntKind.u64.wrap (hi + ((lo.toNat+(mb : Int).toNat) / 2^64 : Nat))) ((lo.toNat+(mb : Int).toNat) % 2^64 : Nat) eb false))
    (br (hi == 0) (br (lo == mb) (.call 67 [FM M X, LB false] (LU (sgn M X false : Nat)) (.ret (.tup [au (sgn M X false : Nat), ai 0]))) (sumL M X na nb mb eb hi lo)) (sumL M X na nb mb eb hi lo))
def sumT (M X : Nat) (na : Bool) (ea : Int) (ma : Nat) (nb : Bool) (eb : Int) (mb : Nat) : Tr :=
  br (decide (IntKind.i64.wrap (ea - eb) > 70))
    (br (!na == nb) (pk M X na 0 (IntKind.u64.wrap (shl .u64 ma 3 - 1)) (IntKind.i64.wrap (ea - 3)) true) (pk M X na 0 (shl .u64 ma 3) (IntKind.i64.wrap (ea - 3)) true))
    (br (decide (IntKind.i64.wrap (ea - eb) < 0)) .bad
      (br (decide (IntKind.i64.wrap (ea - eb) ≥ 64)) (br (decide (IntKind.i64.wrap (IntKind.i64.wrap (ea - eb) - 64) < 0)) .bad (sumE M X na nb mb eb (shl .u64 ma (IntKind.i64.wrap (IntKind.i64.wrap (ea - eb) - 64))) 0))
        (br (decide (IntKind.i64.wrap (ea - eb) > 0)) (br (decide (IntKind.i64.wrap (64 - IntKind.i64.wrap (ea - eb)) < 0)) .bad (sumE M X na nb mb eb (shr .u64 ma (IntKind.i64.wrap (64 - IntKind.i64.wrap (ea - eb)))) (shl .u64 ma (IntKind.i64.wrap (ea - eb)))))
          (sumE M X na nb mb eb 0 (shl .u64 ma (IntKind.i64.wrap (ea - eb)))))))
theorem t85 (M X : Nat) (ka kb ea eb : Int) (ma mb : Nat) (na nb : Bool) : tree Try.prog 3 [cZero M X, cPack M X, cAdd64, cSub64] 85 [FM M X, PL ka na ea ma, PL kb nb eb mb] =
    br (decide (ea < eb)) (sumT M X nb eb mb na ea ma) (sumT M X na ea ma nb eb mb) := by kernel_rfl
theorem shl_u64 (m k : Nat) : shl .u64 m k = (m * 2^k % 2^64 : Nat) := by
  unfold shl
  rw [show ((k : Int).toNat) = k from rfl, pow_cast, ← Int.natCast_mul, u64_mod]
  congr 1
  show m * 2^(min k 64) % 2^64 = _
  by_cases h : k ≤ 64
  · rw [Nat.min_eq_left h]
  · rw [Nat.min_eq_right (by omega), show k = (k - 64) + 64 by omega, Nat.pow_add, ← Nat.mul_assoc, Nat.mul_mod_left, Nat.mul_mod_left]
theorem shr_u64 (m k : Nat) (hk : k ≤ 64) : shr .u64 m k = (m / 2^k : Nat) := by
  unfold shr
  rw [show ((k : Int).toNat) = k from rfl, pow_cast, show IntKind.u64.bits = 64 from rfl, Nat.min_eq_left hk, Int.fdiv_eq_ediv_of_nonneg _ (Int.natCast_nonneg _)]
  rfl
theorem i64_in {n : Int} (h1 : -9223372036854775808 ≤ n) (h2 : n ≤ 9223372036854775807) : IntKind.i64.wrap n = n := IntWalk.i64_in n ⟨by omega, by omega⟩
variable {M X : Nat}
theorem pk_wt (hf : Okf M X) {neg more : Bool} {hi lo e : Int} (hn ln : Nat) {R : Nat} (eh : hi = hn) (el : lo = ln) (h1 : hn < 2^64) (h2 : ln < 2^64) (he1 : -4096 ≤ e) (he2 : e ≤ 4096) (hm : more = true → 2^(M+2) ≤ hn*2^64+ln)
    (hR : packN M X neg (hn*2^64+ln) e more = R) : Wt (.tup [au R, ai 0]) (pk M X neg hi lo e more) := by
  subst eh el hR
  exact ⟨pack_cn hf neg more hn ln rfl rfl h1 h2 he1 he2 hm, rfl⟩
/-- the sum of two numbers with one exponent -/
def sumR (M X : Nat) (na nb : Bool) (e : Int) (A B : Nat) : Nat :=
  if na = nb then sgn M X na + near M X (A + B) 1 e else if A = B then sgn M X false else if B < A then sgn M X na + near M X (A - B) 1 e else sgn M X nb + near M X (B - A) 1 e
theorem packN_f (M X : Nat) (neg : Bool) (n : Nat) (e : Int) : packN M X neg n e false = sgn M X neg + near M X n 1 e := by unfold packN; rw [if_neg (by decide)]
theorem split_add (H L b : Nat) : (H + (L+b)/2^64)*2^64 + (L+b)%2^64 = H*2^64+L+b := by
  have := Nat.div_add_mod (L+b) (2^64)
  rw [Nat.add_mul]; omega
theorem sub_hi {H L b : Nat} (h : b ≤ H*2^64+L) (hL : L < 2^64) (hb : b < 2^64) : (if L < b then 1 else 0) ≤ H ∧ (H - (if L < b then 1 else 0))*2^64 + (L + 2^64 - b) % 2^64 = H*2^64+L-b := by
  by_cases c : L < b
  · rw [if_pos c]
    have e : (L + 2^64 - b) % 2^64 = L + 2^64 - b := Nat.mod_eq_of_lt (by omega)
    rw [e]
    refine ⟨by omega, by omega⟩
  · rw [if_neg c]
    have e : (L + 2^64 - b) % 2^64 = L - b := by
      rw [show L + 2^64 - b = (L - b) + 2^64 by omega, Nat.add_mod_right, Nat.mod_eq_of_lt (by omega)]
    rw [e]
    refine ⟨by omega, by omega⟩
theorem sumS_wt (hf : Okf M X) {na : Bool} {mb H L : Nat} {eb : Int} (hH : H < 2^63) (hL : L < 2^64) (hb : mb < 2^64) (h : mb ≤ H*2^64+L) (he1 : -4096 ≤ eb) (he2 : eb ≤ 4096) :
    Wt (.tup [au (sgn M X na + near M X (H*2^64+L - mb) 1 eb : Nat), ai 0]) (sumS M X na mb eb H L) := by
  obtain ⟨h1, h2⟩ := sub_hi h hL hb
  refine ⟨sub_xn L mb, ?_⟩
  refine pk_wt hf (H - (if L < mb then 1 else 0)) ((L + 2^64 - mb) % 2^64) ?_ rfl (by omega) (Nat.mod_lt _ (by decide)) he1 he2 (fun h => by cases h) ?_
  · rw [show ((L : Int).toNat) = L from rfl, show ((mb : Int).toNat) = mb from rfl, sub_cast h1]
    exact u64_nat (by omega)
  · rw [packN_f, h2]
theorem sumL_wt (hf : Okf M X) {na nb : Bool} {mb H L : Nat} {eb : Int} (hH : H < 2^63) (hL : L < 2^64) (hb : mb < 2^64) (hne : na ≠ nb) (hAB : H*2^64+L ≠ mb) (he1 : -4096 ≤ eb) (he2 : eb ≤ 4096) :
    Wt (.tup [au (sumR M X na nb eb (H*2^64+L) mb : Nat), ai 0]) (sumL M X na nb mb eb H L) := by
  unfold sumR
  rw [if_neg hne, if_neg hAB]
  refine WT.br (fun h => ?_) (fun h => ?_)
  · have h0 : H = 0 := by simpa using h
    subst h0
    refine WT.br (fun h => ?_) (fun h => ?_)
    · have hl : L < mb := by simpa using h
      rw [if_neg (by omega)]
      refine pk_wt hf 0 (mb - L) rfl ?_ (by decide) (by omega) he1 he2 (fun h => by cases h) ?_
      · rw [sub_cast (by omega)]; exact u64_nat (by omega)
      · rw [packN_f]; congr 2; omega
    · have hl : ¬ L < mb := by simpa using h
      rw [if_pos (by omega)]
      exact sumS_wt hf (by decide) hL hb (by omega) he1 he2
  · have h0 : H ≠ 0 := by simpa using h
    rw [if_pos (by omega)]
    exact sumS_wt hf hH hL hb (by omega) he1 he2
theorem sumE_wt (hf : Okf M X) {na nb : Bool} {mb : Nat} {eb hi lo : Int} (H L : Nat) (eh : hi = H) (el : lo = L) (hH : H < 2^62) (hL : L < 2^64) (hb : mb < 2^64) (he1 : -4096 ≤ eb) (he2 : eb ≤ 4096) :
    Wt (.tup [au (sumR M X na nb eb (H*2^64+L) mb : Nat), ai 0]) (sumE M X na nb mb eb hi lo) := by
  subst eh el
  refine WT.br (fun h => ?_) (fun h => ?_)
  · have h : na = nb := by simpa using h
    have hq : (L+mb)/2^64 < 2 := by rw [Nat.div_lt_iff_lt_mul (by decide)]; omega
    refine ⟨add_xn L mb, ?_⟩
    refine pk_wt hf (H + (L+mb)/2^64) ((L+mb)%2^64) ?_ rfl (by omega) (Nat.mod_lt _ (by decide)) he1 he2 (fun h => by cases h) ?_
    · exact u64_nat (by omega)
    · rw [packN_f, split_add]; unfold sumR; rw [if_pos h]
  · have h : na ≠ nb := by simpa using h
    refine WT.br (fun h0 => ?_) (fun h0 => ?_)
    · have h0 : H = 0 := by simpa using h0
      subst h0
      refine WT.br (fun h1 => ?_) (fun h1 => ?_)
      · have h1 : L = mb := by
          have : (L : Int) = mb := by simpa using h1
          omega
        refine ⟨zero_cn hf false, ?_⟩
        unfold sumR; rw [if_neg h, if_pos (by omega)]; rfl
      · have h1 : L ≠ mb := by
          intro e; subst e; simp at h1
        exact sumL_wt hf (by decide) hL hb h (by omega) he1 he2
    · have h0 : H ≠ 0 := by simpa using h0
      exact sumL_wt hf (by omega) hL hb h (by omega) he1 he2
/-- the sum of two finite numbers -/
def sumP (M X : Nat) (na : Bool) (ea : Int) (ma : Nat) (nb : Bool) (eb : Int) (mb : Nat) : Nat :=
  sumR M X na nb (min ea eb) (ma * 2^(ea - min ea eb).toNat) (mb * 2^(eb - min ea eb).toNat)
theorem sumR_comm (M X : Nat) (na nb : Bool) (e : Int) (A B : Nat) : sumR M X na nb e A B = sumR M X nb na e B A := by
  unfold sumR
  by_cases h : na = nb
  · subst h; rw [if_pos rfl, if_pos rfl, Nat.add_comm A B]
  · have h' : ¬ nb = na := fun e => h e.symm
    rw [if_neg h, if_neg h']
    by_cases e : A = B
    · subst e; rw [if_pos rfl, if_pos rfl]
    · have e' : ¬ B = A := fun x => e x.symm
      rw [if_neg e, if_neg e']
      by_cases l : B < A
      · rw [if_pos l, if_neg (by omega : ¬ A < B)]
      · rw [if_neg l, if_pos (by omega : A < B)]
theorem sumP_comm (M X : Nat) (na : Bool) (ea : Int) (ma : Nat) (nb : Bool) (eb : Int) (mb : Nat) : sumP M X na ea ma nb eb mb = sumP M X nb eb mb na ea ma := by
  unfold sumP; rw [sumR_comm, Int.min_comm]
theorem sumP_le (M X : Nat) (na : Bool) (ma : Nat) (nb : Bool) (eb : Int) (mb d : Nat) : sumP M X na (eb + d) ma nb eb mb = sumR M X na nb eb (ma * 2^d) mb := by
  unfold sumP
  rw [show min (eb + (d : Int)) eb = eb by omega, show (eb + (d : Int) - eb).toNat = d by omega, show (eb - eb).toNat = 0 by omega, Nat.pow_zero, Nat.mul_one]
theorem far_near {n V : Nat} {eb : Int} {d : Nat} (hM : 0 < M) (hd : 3 ≤ d) (hn : 2^(M+2) ≤ n) (h1 : n * 2^(d-3) < V) (h2 : V < (n+1) * 2^(d-3)) : near M X V 1 eb = near M X (2*n+1) 1 (eb + d - 3 - 1) := by
  refine near_sticky (K := eb.natAbs) hM (by decide) hn (e := eb + d - 3) (by omega) (by omega) ?_ ?_
  · rw [show (eb + (d : Int) - 3 + (eb.natAbs : Int)).toNat = (d - 3) + (eb + (eb.natAbs : Int)).toNat by omega, Nat.pow_add, ← Nat.mul_assoc, Nat.mul_one]
    exact Nat.mul_lt_mul_of_pos_right h1 (two_pow_pos _)
  · rw [show (eb + (d : Int) - 3 + (eb.natAbs : Int)).toNat = (d - 3) + (eb + (eb.natAbs : Int)).toNat by omega, Nat.pow_add, ← Nat.mul_assoc, Nat.mul_one]
    exact Nat.mul_lt_mul_of_pos_right h2 (two_pow_pos _)
theorem sumT_wt (hf : Okf M X) {na nb : Bool} {ma mb d : Nat} {eb : Int} (ha : ma < 2^53) (hb : mb < 2^53) (ha0 : 0 < ma) (hb0 : 0 < mb) (hd : d ≤ 3000) (he1 : -1500 ≤ eb) (he2 : eb + d ≤ 1500) (hn : 0 < d → 2^M ≤ ma) :
    Wt (.tup [au (sumP M X na (eb + d) ma nb eb mb : Nat), ai 0]) (sumT M X na (eb + d) ma nb eb mb) := by
  have hM := hf.m1
  rw [sumP_le]
  unfold sumT
  rw [i64_in (n := eb + (d : Int) - eb) (by omega) (by omega), show eb + (d : Int) - eb = d by omega]
  refine WT.br (fun h => ?_) (fun h => ?_)
  · have h : 70 < d := by have := of_decide_eq_true h; omega
    have hp : 2^M ≤ ma := hn (by omega)
    have hp2 : 2^(M+2) = 4 * 2^M := by rw [Nat.pow_add, Nat.mul_comm]
    have hs : shl .u64 ma 3 = (ma*8 : Nat) := by rw [show (3 : Int) = ((3 : Nat) : Int) from rfl, shl_u64, Nat.mod_eq_of_lt (by omega)]
    have hbig : mb < 2^(d-3) := Nat.lt_of_lt_of_le hb (pow_le (by omega))
    have hma : ma * 8 * 2^(d-3) = ma * 2^d := by
      rw [Nat.mul_assoc, show (8 : Nat) = 2^3 from rfl, ← Nat.pow_add, show 3 + (d-3) = d by omega]
    have hge : 2^(d-3) ≤ ma * 2^d := by
      rw [← hma]; exact Nat.le_mul_of_pos_left _ (by omega)
    rw [hs, i64_in (n := eb + (d : Int) - 3) (by omega) (by omega)]
    have hz := two_pow_pos M
    generalize 2^M = z at *
    refine WT.br (fun h2 => ?_) (fun h2 => ?_)
    · have h2 : na ≠ nb := by
        intro e; subst e; cases na <;> simp at h2
      refine pk_wt hf 0 (ma*8-1) rfl ?_ (by decide) (by omega) (by omega) (by omega) (fun _ => by rw [hp2]; omega) ?_
      · rw [show ((ma*8 : Nat) : Int) - 1 = ((ma*8-1 : Nat) : Int) by omega]; exact u64_nat (by omega)
      · unfold sumR packN
        rw [if_neg h2, if_neg (show ¬ ma * 2^d = mb by omega), if_pos (show mb < ma * 2^d by omega), if_pos rfl, Nat.zero_mul, Nat.zero_add]
        congr 1
        refine (far_near (by omega) (by omega) (by rw [hp2]; omega) ?_ ?_).symm
        · rw [Nat.sub_mul, hma, Nat.one_mul]; omega
        · rw [show ma*8-1+1 = ma*8 by omega, hma]; omega
    · have h2 : na = nb := by
        cases na <;> cases nb <;> simp_all
      refine pk_wt hf 0 (ma*8) rfl rfl (by decide) (by omega) (by omega) (by omega) (fun _ => by rw [hp2]; omega) ?_
      unfold sumR packN
      rw [if_pos h2, if_pos rfl, Nat.zero_mul, Nat.zero_add]
      congr 1
      refine (far_near (by omega) (by omega) (by rw [hp2]; omega) ?_ ?_).symm
      · rw [hma]; omega
      · rw [Nat.add_mul, hma]; omega
  · have h : d ≤ 70 := by have := of_decide_eq_false h; omega
    refine WT.br (fun h2 => absurd (of_decide_eq_true h2) (by omega)) (fun _ => ?_)
    refine WT.br (fun h2 => ?_) (fun h2 => ?_)
    · have h2 : 64 ≤ d := by have := of_decide_eq_true h2; omega
      rw [i64_in (n := (d : Int) - 64) (by omega) (by omega), show (d : Int) - 64 = ((d - 64 : Nat) : Int) by omega]
      refine WT.br (fun h2 => absurd (of_decide_eq_true h2) (by omega)) (fun _ => ?_)
      have e1 : ma * 2^(d-64) < 2^53 * 2^6 := Nat.lt_of_lt_of_le (Nat.mul_lt_mul_of_pos_right ha (two_pow_pos _)) (Nat.mul_le_mul_left _ (pow_le (by omega)))
      have e2 : ma * 2^d = ma * 2^(d-64) * 2^64 + 0 := by rw [Nat.mul_assoc, ← Nat.pow_add, show d - 64 + 64 = d by omega]; rfl
      rw [e2]
      refine sumE_wt hf (ma * 2^(d-64)) 0 ?_ rfl (by omega) (by decide) (by omega) (by omega) (by omega)
      rw [shl_u64, Nat.mod_eq_of_lt (by omega)]
    · have h2 : d < 64 := by have := of_decide_eq_false h2; omega
      refine WT.br (fun h3 => ?_) (fun h3 => ?_)
      · have h3 : 0 < d := by have := of_decide_eq_true h3; omega
        rw [i64_in (n := 64 - (d : Int)) (by omega) (by omega), show 64 - (d : Int) = ((64 - d : Nat) : Int) by omega]
        refine WT.br (fun h2 => absurd (of_decide_eq_true h2) (by omega)) (fun _ => ?_)
        have e1 : ma * 2^d / 2^64 = ma / 2^(64-d) := by
          rw [show (2 : Nat)^64 = 2^(64-d) * 2^d by rw [← Nat.pow_add]; congr 1; omega, Nat.mul_div_mul_right _ _ (two_pow_pos _)]
        have e2 : ma * 2^d = ma / 2^(64-d) * 2^64 + ma * 2^d % 2^64 := by
          rw [← e1, Nat.mul_comm (ma * 2^d / 2^64)]; exact (Nat.div_add_mod _ _).symm
        rw [e2]
        refine sumE_wt hf (ma / 2^(64-d)) (ma * 2^d % 2^64) (shr_u64 _ _ (by omega)) (shl_u64 _ _) ?_ (Nat.mod_lt _ (by decide)) (by omega) (by omega) (by omega)
        exact Nat.lt_of_le_of_lt (Nat.div_le_self _ _) (by omega)
      · have h3 : d = 0 := by have := of_decide_eq_false h3; omega
        subst h3
        have e2 : ma * 2^0 = 0 * 2^64 + ma := by omega
        rw [e2]
        refine sumE_wt hf 0 ma rfl ?_ (by decide) (by omega) (by omega) (by omega) (by omega)
        rw [shl_u64, Nat.pow_zero, Nat.mul_one, Nat.mod_eq_of_lt (by omega)]
theorem sum_cn (hf : Okf M X) (ka kb : Int) (na nb : Bool) {ea eb : Int} {ma mb : Nat} (ha : ma < 2^53) (hb : mb < 2^53) (ha0 : 0 < ma) (hb0 : 0 < mb) (h1 : -1500 ≤ ea) (h2 : ea ≤ 1500) (h3 : -1500 ≤ eb) (h4 : eb ≤ 1500) (hn1 : eb < ea → 2^M ≤ ma) (hn2 : ea < eb → 2^M ≤ mb) :
    Cp 85 [FM M X, PL ka na ea ma, PL kb nb eb mb] (.tup [au (sumP M X na ea ma nb eb mb : Nat), ai 0]) := by
  refine cp_of (t85 M X ka kb ea eb ma mb na nb) ?_
  refine WT.br (fun h => ?_) (fun h => ?_)
  · have h : ea < eb := of_decide_eq_true h
    obtain ⟨d, rfl⟩ : ∃ d : Nat, eb = ea + d := ⟨(eb - ea).toNat, by omega⟩
    rw [sumP_comm]
    exact sumT_wt hf hb ha hb0 ha0 (by omega) h1 h4 (fun _ => hn2 h)
  · have h : ¬ ea < eb := of_decide_eq_false h
    obtain ⟨d, rfl⟩ : ∃ d : Nat, ea = eb + d := ⟨(ea - eb).toNat, by omega⟩
    exact sumT_wt hf ha hb ha0 hb0 (by omega) h3 h2 (fun h => hn1 (by omega))
end Go.Proofs.Ytpliondhiahhnaa.K
