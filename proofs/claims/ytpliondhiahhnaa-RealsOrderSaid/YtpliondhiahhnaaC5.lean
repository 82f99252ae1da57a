/- soft.Mod, Sqrt: contracts. -/
import Derived.Test.YtpliondhiahhnaaC4
set_option linter.unusedVariables false
namespace Go.Proofs.Ytpliondhiahhnaa.K
open Sx Fl Go Go.RowKit
set_option maxRecDepth 100000
variable {M X : Nat}
/-- the numbers that Mod divides, with one exponent -/
def mdA (ea : Int) (ma : Nat) (eb : Int) : Nat := ma * 2^(ea - min ea eb).toNat
def modR (M X a : Nat) (ka : Int) (na : Bool) (ea : Int) (ma : Nat) (kb : Int) (eb : Int) (mb : Nat) : Nat :=
  if ka = 4 ∨ kb = 4 ∨ ka = 3 ∨ kb = 1 then nanc M X else if ka = 1 ∨ kb = 3 then a else sgn M X na + near M X (mdA ea ma eb % mdA eb mb ea) 1 (min ea eb)
def modQ (M X : Nat) (ka : Int) (na : Bool) (ea : Int) (ma : Nat) (kb : Int) (nb : Bool) (eb : Int) (mb : Nat) : Nat :=
  if ka = 4 ∨ kb = 4 ∨ ka = 3 ∨ kb = 1 then nanc M X else if ka = 1 ∨ kb = 3 then sgn M X (!(na == nb)) else sgn M X (!(na == nb)) + near M X (mdA ea ma eb / mdA eb mb ea) 1 0
theorem rt2_wt {n k : Int} {R S : Nat} (h : n = R) (h2 : k = S) : Wt (.tup [au R, au S, ai 0]) (.ret (.tup [au n, au k, ai 0])) := by subst h h2; rfl
theorem rep_near {M X q b c : Nat} (hf : Okf M X) (hc : c < 2^b) (hb : b = 0 ∨ 2^62 ≤ q) : (if decide (c ≠ 0) = true then near M X (2*q+1) 1 ((b : Int)-1) else near M X q 1 b) = near M X (q*2^b+c) 1 0 := by
  have hm := hf.m1; have hm2 := hf.m2
  by_cases h : c = 0
  · subst h
    rw [if_neg (by simp), Nat.add_zero]
    have := near_scale (M := M) (X := X) (N := q) (D := 1) (e := b) (by omega) (by decide) b
    rw [Int.sub_self] at this
    exact this.symm
  · rw [if_pos (by simp [h])]
    have hb0 : b ≠ 0 := by intro e; subst e; omega
    have hq : 2^(M+2) ≤ q := Nat.le_trans (pow_le (by omega : M + 2 ≤ 62)) (by omega)
    refine (near_sticky (K := 0) (e := (b : Int)) (by omega) (by decide) hq (by omega) (by omega) ?_ ?_).symm
    · rw [show ((b : Int) + ((0 : Nat) : Int)).toNat = b by omega, show ((0 : Int) + ((0 : Nat) : Int)).toNat = 0 by omega]
      simp only [Nat.pow_zero, Nat.mul_one]; omega
    · rw [show ((b : Int) + ((0 : Nat) : Int)).toNat = b by omega, show ((0 : Int) + ((0 : Nat) : Int)).toNat = 0 by omega]
      simp only [Nat.pow_zero, Nat.mul_one, Nat.add_mul]; omega
theorem rep_ex (Q : Nat) : ∃ q b c, Q = q*2^b+c ∧ c < 2^b ∧ q < 2^63 ∧ (b = 0 ∨ 2^62 ≤ q) ∧ 2^b ≤ 2^(bl Q) := by
  refine ⟨Q / 2^(bl Q - 63), bl Q - 63, Q % 2^(bl Q - 63), ?_, Nat.mod_lt _ (two_pow_pos _), ?_, ?_, pow_le (by omega)⟩
  · rw [Nat.mul_comm]; exact (Nat.div_add_mod _ _).symm
  · rw [Nat.div_lt_iff_lt_mul (two_pow_pos _), ← Nat.pow_add]
    exact Nat.lt_of_lt_of_le (bl_lt Q) (pow_le (by omega))
  · by_cases h : bl Q ≤ 63
    · exact .inl (by omega)
    · right
      have h0 : Q ≠ 0 := by intro e; subst e; exact h (by decide)
      rw [Nat.le_div_iff_mul_le (two_pow_pos _), ← Nat.pow_add, show 62 + (bl Q - 63) = bl Q - 1 by omega]
      exact bl_le h0
theorem mod_cn (hf : Okf M X) {a b : Nat} (ha : a < 2^(1+X+M)) (hb : b < 2^(1+X+M)) :
    Cp 79 [FM M X, LU a, LU b] (.tup [au (modR M X a (kd M X a : Nat) (ng M X a) (ex M X a) (mn M X a) (kd M X b : Nat) (ex M X b) (mn M X b) : Nat), au (modQ M X (kd M X a : Nat) (ng M X a) (ex M X a) (mn M X a) (kd M X b : Nat) (ng M X b) (ex M X b) (mn M X b) : Nat), ai 0]) := by
  obtain ⟨a1, a2⟩ := ex_bounds hf.ok a
  obtain ⟨b1, b2⟩ := ex_bounds hf.ok b
  have hma := mn_lt53 (a := a) hf.ok
  have hmb := mn_lt53 (a := b) hf.ok
  have hpa : (kd M X a : Int) = 2 → 0 < mn M X a := fun h => mn_pos (by omega)
  have hpb : (kd M X b : Int) = 2 → 0 < mn M X b := fun h => mn_pos (by omega)
  have hself : (kd M X a : Int) = 2 → sgn M X (ng M X a) + near M X (mn M X a) 1 (ex M X a) = a := fun h => self_fin hf.ok ha (by omega)
  have ca := kdi M X a
  have cb := kdi M X b
  have htwo := two_cn hf a b ha hb
  obtain ⟨Q, hQd⟩ : ∃ Q, mn M X a * 2^(ex M X a - ex M X b).toNat / mn M X b = Q := ⟨_, rfl⟩
  obtain ⟨q, bb, c, hQ, hc, hq, hbb, hbl⟩ := rep_ex Q
  refine cp_of (t79 M X a b (kd M X a : Nat) (kd M X b : Nat) (ex M X a) (ex M X b) (mn M X a) (mn M X b) (ng M X a) (ng M X b) true (q : Nat) (bb : Nat) (mn M X a * 2^(ex M X a - ex M X b).toNat % mn M X b : Nat) (decide (c ≠ 0))) ⟨htwo, odd_cn _ _ _ _ _ _ _ _, ?_⟩
  clear htwo
  generalize (kd M X a : Int) = ka at *
  generalize (kd M X b : Int) = kb at *
  generalize mn M X a = ma at *
  generalize mn M X b = mb at *
  generalize ex M X a = ea at *
  generalize ex M X b = eb at *
  generalize ng M X a = na at *
  generalize ng M X b = nb at *
  have nn : ∀ {R S : Nat}, R = nanc M X → S = nanc M X → Wt (.tup [au R, au S, ai 0]) (.call 65 [FM M X] (LU (nanc M X : Nat)) (.call 65 [FM M X] (LU (nanc M X : Nat)) (.ret (.tup [au (nanc M X : Nat), au (nanc M X : Nat), ai 0])))) := by
    rintro R S rfl rfl; exact ⟨nan_cn hf, nan_cn hf, rfl⟩
  have zz : ∀ {R S : Nat}, R = a → S = sgn M X (!(na == nb)) → Wt (.tup [au R, au S, ai 0]) (.call 67 [FM M X, LB (!(na == nb))] (LU (sgn M X (!(na == nb)) : Nat)) (.ret (.tup [au a, au (sgn M X (!(na == nb)) : Nat), ai 0]))) := by
    rintro R S rfl rfl; exact ⟨zero_cn hf _, rfl⟩
  by_cases hfin : ka = 2 ∧ kb = 2
  · obtain ⟨rfl, rfl⟩ := hfin
    have hR : modR M X a 2 na ea ma 2 eb mb = sgn M X na + near M X (mdA ea ma eb % mdA eb mb ea) 1 (min ea eb) := by
      unfold modR; rw [if_neg (by decide), if_neg (by decide)]
    have hS : modQ M X 2 na ea ma 2 nb eb mb = sgn M X (!(na == nb)) + near M X (mdA ea ma eb / mdA eb mb ea) 1 0 := by
      unfold modQ; rw [if_neg (by decide), if_neg (by decide)]
    rw [hR, hS]
    have hpa := hpa rfl
    have hpb := hpb rfl
    have hself := hself rfl
    refine WT.br (fun h => absurd h (by decide)) (fun _ => WT.br (fun h => absurd h (by decide)) (fun _ => WT.br (fun h => absurd h (by decide)) (fun _ => WT.br (fun h => absurd h (by decide)) (fun _ => WT.br (fun h => absurd h (by decide)) (fun _ => WT.br (fun h => ?_) (fun h => ?_))))))
    · have h : ea < eb := of_decide_eq_true h
      obtain ⟨d, rfl⟩ : ∃ d : Nat, eb = ea + d := ⟨(eb - ea).toNat, by omega⟩
      have e1 : min ea (ea + (d : Int)) = ea := by omega
      have e2 : mdA ea ma (ea + d) = ma := by unfold mdA; rw [e1, show (ea - ea).toNat = 0 by omega, Nat.pow_zero, Nat.mul_one]
      have e3 : mdA (ea + d) mb ea = mb * 2^d := by unfold mdA; rw [Int.min_comm, e1, show (ea + (d : Int) - ea).toNat = d by omega]
      rw [e1, e2, e3, i64_in (n := ea + (d : Int) - ea) (by omega) (by omega), show ea + (d : Int) - ea = d by omega]
      have small : ma < mb * 2^d → sgn M X na + near M X (ma % (mb * 2^d)) 1 ea = a ∧ sgn M X (!(na == nb)) + near M X (ma / (mb * 2^d)) 1 0 = sgn M X (!(na == nb)) := fun h => by
        rw [Nat.mod_eq_of_lt h, Nat.div_eq_of_lt h, near_zero]; exact ⟨hself, rfl⟩
      have hn : ∀ {x y : Tr} {r : LV}, Wt r y → Wt r (br (decide ((d : Int) < 0)) x y) := fun h => WT.br (fun h2 => absurd (of_decide_eq_true h2) (by omega)) (fun _ => h)
      refine WT.br (fun h2 => ?_) (fun h2 => ?_)
      · have h2 : 63 < d := by have := of_decide_eq_true h2; omega
        have hlt : ma < mb * 2^d := by
          have : 2^53 ≤ 2^d := pow_le (by omega)
          exact Nat.lt_of_lt_of_le (by omega) (Nat.le_mul_of_pos_left _ hpb)
        exact zz (small hlt).1 (small hlt).2
      · have h2 : d ≤ 63 := by have := of_decide_eq_false h2; omega
        refine hn ?_
        rw [shr_u64 ma d (by omega)]
        have hiff : ma / 2^d < mb ↔ ma < mb * 2^d := Nat.div_lt_iff_lt_mul (two_pow_pos d)
        refine WT.br (fun h3 => ?_) (fun h3 => ?_)
        · have h3 : ma / 2^d < mb := by have := of_decide_eq_true h3; omega
          exact zz (small (hiff.1 h3)).1 (small (hiff.1 h3)).2
        · have h3 : ¬ ma / 2^d < mb := by have := of_decide_eq_false h3; omega
          have hle : mb * 2^d ≤ ma := Nat.le_of_not_lt (mt hiff.2 h3)
          have hpos : 0 < mb * 2^d := Nat.mul_pos hpb (two_pow_pos d)
          refine hn ?_
          rw [shl_u64 mb d, Nat.mod_eq_of_lt (show mb * 2^d < 2^64 by omega)]
          generalize mb * 2^d = z at *
          have hz : ∀ {x y : Tr} {r : LV}, Wt r y → Wt r (br (decide ((z : Int) = 0)) x y) := fun h => WT.br (fun h2 => absurd (of_decide_eq_true h2) (by omega)) (fun _ => h)
          have e5 : ((ma : Int)).tdiv (z : Int) = (ma / z : Nat) := rfl
          have e6 : ((ma : Int)).tmod (z : Int) = (ma % z : Nat) := rfl
          have hq1 : ma / z < 2^53 := Nat.lt_of_le_of_lt (Nat.div_le_self _ _) hma
          have hq2 : ma % z < 2^53 := Nat.lt_of_le_of_lt (Nat.mod_le _ _) hma
          rw [e5, e6, u64_nat (by omega)]
          refine hz ⟨pack_cn hf _ false 0 (ma / z) rfl rfl (by decide) (by omega) (by decide) (by decide) (fun h => by cases h), hz ⟨pack_cn hf _ false 0 (ma % z) rfl rfl (by decide) (by omega) (by omega) (by omega) (fun h => by cases h), rt2_wt ?_ ?_⟩⟩
          · show ((packN M X na (0*2^64 + ma % z) ea false : Nat) : Int) = _
            rw [Nat.zero_mul, Nat.zero_add, packN_f]
          · show ((packN M X (!(na == nb)) (0*2^64 + ma / z) 0 false : Nat) : Int) = _
            rw [Nat.zero_mul, Nat.zero_add, packN_f]
    · have h : ¬ ea < eb := of_decide_eq_false h
      obtain ⟨d, rfl⟩ : ∃ d : Nat, ea = eb + d := ⟨(ea - eb).toNat, by omega⟩
      have e1 : min (eb + (d : Int)) eb = eb := by omega
      have e2 : mdA (eb + d) ma eb = ma * 2^d := by unfold mdA; rw [e1, show (eb + (d : Int) - eb).toNat = d by omega]
      have e3 : mdA eb mb (eb + d) = mb := by unfold mdA; rw [Int.min_comm, e1, show (eb - eb).toNat = 0 by omega, Nat.pow_zero, Nat.mul_one]
      have e4 : (eb + (d : Int) - eb).toNat = d := by omega
      rw [e4] at hQd ⊢
      rw [e1, e2, e3, i64_in (n := eb + (d : Int) - eb) (by omega) (by omega), show eb + (d : Int) - eb = d by omega]
      subst hQd
      have hr : ma * 2^d % mb < mb := Nat.mod_lt _ hpb
      have hQlt : ma * 2^d / mb < 2^(53+d) := Nat.lt_of_le_of_lt (Nat.div_le_self _ _) (by rw [Nat.pow_add]; exact Nat.mul_lt_mul_of_pos_right hma (two_pow_pos d))
      have hbb2 : bb ≤ 53 + d := by
        have h1 : bl (ma * 2^d / mb) ≤ 53 + d := bl_le_iff.2 hQlt
        have h2 : 2^bb ≤ 2^(53+d) := Nat.le_trans hbl (pow_le h1)
        exact (Nat.pow_le_pow_iff_right (by decide)).1 h2
      refine ⟨divided_cn rfl hpb hma hmb (by omega) hQ hc hq hbb, ?_⟩
      have hq54 : decide (c ≠ 0) = true → 2^(M+2) ≤ 0*2^64+q := fun h => by
        have h : c ≠ 0 := of_decide_eq_true h
        have hb0 : bb ≠ 0 := by intro e; subst e; omega
        have : 2^(M+2) ≤ 2^62 := pow_le (by have := hf.m2; omega)
        omega
      refine ⟨pack_cn hf _ _ 0 q rfl rfl (by decide) (by omega) (by omega) (by omega) hq54, pack_cn hf _ false 0 (ma*2^d % mb) rfl rfl (by decide) (by omega) (by omega) (by omega) (fun h => by cases h), rt2_wt ?_ ?_⟩
      · show ((packN M X na (0*2^64 + ma*2^d % mb) eb false : Nat) : Int) = _
        rw [Nat.zero_mul, Nat.zero_add, packN_f]
      · rw [hQ, ← rep_near hf hc hbb]
        show ((packN M X (!(na == nb)) (0*2^64+q) bb (decide (c ≠ 0)) : Nat) : Int) = _
        unfold packN; rw [Nat.zero_mul, Nat.zero_add]
  · clear hpa hpb hself hQd hQ hc hq hbb hbl
    rcases ca with rfl | rfl | rfl | rfl <;> rcases cb with rfl | rfl | rfl | rfl
    all_goals
      repeat' first
        | exact absurd h (by decide)
        | exact absurd ⟨rfl, rfl⟩ hfin
        | exact nn rfl rfl
        | exact zz rfl rfl
        | (refine WT.br (fun h => ?_) (fun h => ?_))
theorem mod_bad {m x : Int} {a b : Nat} (ha : a < 2^64) (hb : b < 2^64) (h : Bad m x a ∨ Bad m x b) : Cp 79 [FM m x, LU a, LU b] (.tup [au 0, au 0, ai 1]) := by
  refine cp_of (t79b m x a b) ⟨twobad_cn m x a b ha hb ?_, rfl⟩
  rintro M X rfl rfl hf ⟨h1, h2⟩
  rcases h with h | h
  · have := h M X rfl rfl hf; omega
  · have := h M X rfl rfl hf; omega
/-! ### Sqrt -/
def isqF (N : Nat) : Nat → Nat → Nat
  | 0, r => r
  | j+1, r => if (r+2^j)*(r+2^j) ≤ N then isqF N j (r+2^j) else isqF N j r
theorem isqF_spec (N : Nat) : ∀ (j r : Nat), r*r ≤ N → N < (r+2^j)*(r+2^j) → isqF N j r * isqF N j r ≤ N ∧ N < (isqF N j r + 1)*(isqF N j r + 1)
  | 0, r, h1, h2 => ⟨h1, h2⟩
  | j+1, r, h1, h2 => by
    unfold isqF
    split
    · rename_i h
      refine isqF_spec N j _ h ?_
      rw [Nat.add_assoc, ← Nat.two_mul, ← Nat.pow_succ']; exact h2
    · rename_i h
      exact isqF_spec N j _ h1 (by omega)
/-- the whole root of a number below 2^128 -/
def isq (N : Nat) : Nat := isqF N 64 0
theorem isq_spec {N : Nat} (h : N < 2^128) : isq N * isq N ≤ N ∧ N < (isq N + 1)*(isq N + 1) := isqF_spec N 64 0 (Nat.zero_le _) (by rw [Nat.zero_add]; exact h)
/-- how far Sqrt shifts -/
def sqS (ea : Int) (ma : Nat) : Nat := if (ea - (64 - bl ma : Nat)) % 2 ≠ 0 then 64 - bl ma - 1 else 64 - bl ma
def sqN (M X : Nat) (ea : Int) (ma : Nat) : Nat :=
  packN M X false (isq (ma * 2^(sqS ea ma) * 2^64)) ((ea - sqS ea ma - 64) / 2) (decide (isq (ma * 2^(sqS ea ma) * 2^64) * isq (ma * 2^(sqS ea ma) * 2^64) ≠ ma * 2^(sqS ea ma) * 2^64))
def sqrtN (M X a : Nat) : Nat :=
  if kd M X a = 1 ∨ (kd M X a = 3 ∧ ng M X a = false) then a else if kd M X a = 4 ∨ ng M X a = true then nanc M X else sqN M X (ex M X a) (mn M X a)
theorem tmod2 {n : Int} : (n.tmod 2 != 0) = decide (n % 2 ≠ 0) := by
  rw [Int.tmod_eq_emod]
  split
  · rename_i h
    show (n % 2 - 0 != 0) = _
    rw [Int.sub_zero]; by_cases c : n % 2 = 0 <;> simp [c]
  · rename_i h
    have : n % 2 = 1 := by omega
    rw [this]; rfl
theorem tdiv2 {n : Int} (h : n % 2 = 0) : n.tdiv 2 = n / 2 := Int.tdiv_eq_ediv_of_dvd (Int.dvd_of_emod_eq_zero h)
/-- the end of Sqrt -/
def sqT (M X R : Nat) (m e : Int) : Tr :=
  .call 99 [LU m, LU 0] (LU R) (.call 68 [LU R, LU R] (.tup [au (((R : Int).toNat * (R : Int).toNat / 2^64 : Nat) : Int), au (((R : Int).toNat * (R : Int).toNat % 2^64 : Nat) : Int)])
    (br ((((R : Int).toNat * (R : Int).toNat / 2^64 : Nat) : Int) != m) (pk M X false 0 R e true) (pk M X false 0 R e ((((R : Int).toNat * (R : Int).toNat % 2^64 : Nat) : Int) != 0))))
def sqU (M X R : Nat) (ea : Int) (ma : Nat) : Tr :=
  .call 76 [LU ma] (LI (64 - bl (ma : Int).toNat : Nat)) (br ((IntKind.i64.wrap (ea - (64 - bl (ma : Int).toNat : Nat))).tmod 2 != 0)
    (br (decide (IntKind.i64.wrap ((64 - bl (ma : Int).toNat : Nat) - 1) < 0)) .bad (sqT M X R (shl .u64 ma (IntKind.i64.wrap ((64 - bl (ma : Int).toNat : Nat) - 1))) (IntKind.i64.wrap ((IntKind.i64.wrap (IntKind.i64.wrap (ea - IntKind.i64.wrap ((64 - bl (ma : Int).toNat : Nat) - 1)) - 64)).tdiv 2))))
    (sqT M X R (shl .u64 ma (64 - bl (ma : Int).toNat : Nat)) (IntKind.i64.wrap ((IntKind.i64.wrap (IntKind.i64.wrap (ea - (64 - bl (ma : Int).toNat : Nat)) - 64)).tdiv 2))))
theorem t41 (M X a R : Nat) (ka ea : Int) (ma : Nat) (na : Bool) : tree Try.prog 3 [cOpen (PA ka na ea ma) 0, cNaN M X, cLz, (99, fun _ => some (LU R)), cMul, cPack M X] 41 [FM M X, LU a] =
    .call 93 [FM M X, LU a] (.tup [PA ka na ea ma, ai 0]) (br (ka == 1) (rt a) (br (ka == 3) (br (!na) (rt a) (br (ka == 4) (nanT M X) (br na (nanT M X) (sqU M X R ea ma)))) (br (ka == 4) (nanT M X) (br na (nanT M X) (sqU M X R ea ma))))) := by kernel_rfl
theorem isq_bounds {m R : Nat} (h1 : 2^62 ≤ m) (h2 : m < 2^64) (r1 : R * R ≤ m * 2^64) (r2 : m * 2^64 < (R + 1) * (R + 1)) : R < 2^64 ∧ 2^63 < R + 1 := by
  have h128 : m * 2^64 < 2^128 := by rw [show (2:Nat)^128 = 2^64 * 2^64 from rfl]; exact Nat.mul_lt_mul_of_pos_right h2 (by decide)
  have hR : R < 2^64 := sq_lt_sq (Nat.lt_of_le_of_lt r1 (by rw [show (2:Nat)^64 * 2^64 = 2^128 from rfl]; exact h128))
  have hR2 : 2^63 < R + 1 := sq_lt_sq (Nat.lt_of_le_of_lt (by rw [show (2:Nat)^63 * 2^63 = 2^62 * 2^64 from rfl]; exact Nat.mul_le_mul_right _ h1) r2)
  exact ⟨hR, hR2⟩
theorem sq_ne {R m hh ll : Nat} (hd : 2^64 * hh + ll = R*R) (hl : ll < 2^64) : (hh ≠ m → R*R ≠ m*2^64) ∧ (hh = m → (ll ≠ 0 ↔ R*R ≠ m*2^64)) := by
  rw [← hd]
  generalize (2:Nat)^64 = B at *
  constructor
  · intro h e
    have h3 : (B*hh+ll)/B = hh := by rw [Nat.mul_add_div (by omega), Nat.div_eq_of_lt hl, Nat.add_zero]
    rw [e, Nat.mul_div_cancel _ (by omega)] at h3
    exact h h3.symm
  · rintro rfl
    rw [Nat.mul_comm B]; omega
theorem sqT_wt (hf : Okf M X) {m R : Nat} {m' e : Int} (em : m' = m) (h1 : 2^62 ≤ m) (h2 : m < 2^64) (he1 : -4096 ≤ e) (he2 : e ≤ 4096) (r1 : R * R ≤ m * 2^64) (r2 : m * 2^64 < (R + 1) * (R + 1)) :
    Wt (.tup [au (packN M X false R e (decide (R * R ≠ m * 2^64)) : Nat), ai 0]) (sqT M X R m' e) := by
  subst em
  obtain ⟨hR, hR2⟩ := isq_bounds h1 h2 r1 r2
  have hq : 2^(M+2) ≤ 0*2^64+R := by
    rw [Nat.zero_mul, Nat.zero_add]; exact Nat.le_trans (pow_le (by have := hf.m2; omega) : 2^(M+2) ≤ 2^63) (Nat.le_of_lt_succ hR2)
  refine ⟨root_cn h2 (by decide) (by rw [Nat.add_zero]; exact r1) (by rw [Nat.add_zero]; exact r2), mul_cn R R hR hR, ?_⟩
  rw [show ((R : Int)).toNat = R from rfl]
  have hs := sq_ne (m := m) (Nat.div_add_mod (R*R) (2^64)) (Nat.mod_lt (R*R) (by decide))
  have hpk : ∀ mo : Bool, mo = decide (R*R ≠ m*2^64) → Wt (.tup [au (packN M X false R e (decide (R*R ≠ m*2^64)) : Nat), ai 0]) (pk M X false 0 R e mo) := by
    rintro mo rfl
    exact pk_wt hf 0 R rfl rfl (by decide) hR he1 he2 (fun _ => hq) (by rw [Nat.zero_mul, Nat.zero_add])
  generalize R*R / 2^64 = hh at *
  generalize R*R % 2^64 = ll at *
  refine WT.br (fun h => ?_) (fun h => ?_)
  · have h : hh ≠ m := by intro e; subst e; simp at h
    exact hpk true (decide_eq_true (hs.1 h)).symm
  · have h : hh = m := by
      have h : (hh : Int) = m := by simpa using h
      omega
    refine hpk _ ?_
    rw [bne0]
    have := hs.2 h
    by_cases c : ll = 0
    · have : ¬ R*R ≠ m*2^64 := fun e => (this.2 e) c
      rw [decide_eq_false this]; simp [c]
    · rw [decide_eq_true (this.1 c)]; simp [c]
theorem sqU_wt (hf : Okf M X) {ea : Int} {ma R : Nat} (h0 : 0 < ma) (hm : ma < 2^53) (h1 : -1500 ≤ ea) (h2 : ea ≤ 1500) (r1 : R * R ≤ ma * 2^(sqS ea ma) * 2^64) (r2 : ma * 2^(sqS ea ma) * 2^64 < (R + 1) * (R + 1)) :
    Wt (.tup [au (packN M X false R ((ea - sqS ea ma - 64) / 2) (decide (R * R ≠ ma * 2^(sqS ea ma) * 2^64)) : Nat), ai 0]) (sqU M X R ea ma) := by
  refine ⟨lz_cn ma (by omega), ?_⟩
  have hb : bl ma ≤ 53 := bl_le_iff.2 hm
  have hb1 : 1 ≤ bl ma := bl_pos (by omega)
  obtain ⟨n1, n2⟩ := norm_bounds h0 (show ma < 2^64 by omega)
  rw [show ((ma : Int)).toNat = ma from rfl]
  unfold sqS at *
  obtain ⟨z, hz⟩ : ∃ z, 64 - bl ma = z := ⟨_, rfl⟩
  have hz1 : 11 ≤ z := by omega
  have hz2 : z ≤ 63 := by omega
  rw [hz] at n1 n2 r1 r2 ⊢
  rw [i64_in (n := ea - (z : Int)) (by omega) (by omega), tmod2]
  refine WT.br (fun h => ?_) (fun h => ?_)
  · have h := of_decide_eq_true h
    rw [if_pos h] at r1 r2 ⊢
    rw [i64_in (n := (z : Int) - 1) (by omega) (by omega)]
    refine WT.br (fun h => absurd (of_decide_eq_true h) (by omega)) (fun _ => ?_)
    have ez : (z : Int) - 1 = ((z - 1 : Nat) : Int) := by omega
    rw [ez, i64_in (n := ea - ((z - 1 : Nat) : Int)) (by omega) (by omega), i64_in (n := ea - ((z - 1 : Nat) : Int) - 64) (by omega) (by omega), tdiv2 (by omega), i64_in (by omega) (by omega)]
    have e2 : ma * 2^z = 2 * (ma * 2^(z-1)) := by
      obtain ⟨y, rfl⟩ : ∃ y, z = y + 1 := ⟨z - 1, by omega⟩
      rw [Nat.add_sub_cancel, Nat.pow_succ]; ac_rfl
    exact sqT_wt hf (by rw [shl_u64, Nat.mod_eq_of_lt (by omega)]) (by omega) (by omega) (by omega) (by omega) r1 r2
  · have h := of_decide_eq_false h
    rw [if_neg h] at r1 r2 ⊢
    rw [i64_in (n := ea - (z : Int) - 64) (by omega) (by omega), tdiv2 (by omega), i64_in (by omega) (by omega)]
    exact sqT_wt hf (by rw [shl_u64, Nat.mod_eq_of_lt (by omega)]) (by omega) (by omega) (by omega) (by omega) r1 r2
theorem isq_fit {ea : Int} {ma : Nat} (h0 : 0 < ma) (hm : ma < 2^53) : ma * 2^(sqS ea ma) * 2^64 < 2^128 := by
  obtain ⟨n1, n2⟩ := norm_bounds h0 (show ma < 2^64 by omega)
  have : ma * 2^(sqS ea ma) ≤ ma * 2^(64 - bl ma) := Nat.mul_le_mul_left _ (pow_le (by unfold sqS; split <;> omega))
  rw [show (2:Nat)^128 = 2^64 * 2^64 from rfl]
  exact Nat.mul_lt_mul_of_pos_right (Nat.lt_of_le_of_lt this n2) (by decide)
theorem sqrt_cn (hf : Okf M X) {a : Nat} (ha : a < 2^(1+X+M)) : Cp 41 [FM M X, LU a] (.tup [au (sqrtN M X a : Nat), ai 0]) := by
  refine cp_of (t41 M X a (isq (mn M X a * 2^(sqS (ex M X a) (mn M X a)) * 2^64)) (kd M X a : Nat) (ex M X a) (mn M X a) (ng M X a)) ⟨open_cn hf a ha, ?_⟩
  obtain ⟨a1, a2⟩ := ex_bounds hf.ok a
  have hs : kd M X a = 2 → Wt (.tup [au (sqN M X (ex M X a) (mn M X a) : Nat), ai 0]) (sqU M X (isq (mn M X a * 2^(sqS (ex M X a) (mn M X a)) * 2^64)) (ex M X a) (mn M X a)) := fun h => by
    obtain ⟨r1, r2⟩ := isq_spec (isq_fit (ea := ex M X a) (mn_pos h) (mn_lt53 (a := a) hf.ok))
    exact sqU_wt hf (mn_pos h) (mn_lt53 hf.ok) a1 a2 r1 r2
  have ck := kd_cases M X a
  unfold sqrtN
  generalize kd M X a = k at *
  generalize ng M X a = n at *
  have nn : ∀ {R : Nat}, R = nanc M X → Wt (.tup [au R, ai 0]) (nanT M X) := by rintro R rfl; exact ⟨nan_cn hf, rfl⟩
  rcases ck with rfl | rfl | rfl | rfl <;> cases n
  all_goals
    repeat' first
      | exact absurd h (by decide)
      | exact rt_wt rfl
      | exact nn rfl
      | exact hs rfl
      | (refine WT.br (fun h => ?_) (fun h => ?_))
theorem sqrt_bad {m x : Int} {a : Nat} (ha : a < 2^64) (h : Bad m x a) : Cp 41 [FM m x, LU a] (.tup [au 0, ai 1]) := cp_of (t41b m x a) ⟨openbad_cn m x a ha h, rfl⟩
end Go.Proofs.Ytpliondhiahhnaa.K
