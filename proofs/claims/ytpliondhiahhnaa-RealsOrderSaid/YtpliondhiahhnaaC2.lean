/- soft.Add, soft.Sub: contracts. -/
import Derived.Test.YtpliondhiahhnaaC1
import Derived.Test.YtpliondhiahhnaaM6
namespace Go.Proofs.Ytpliondhiahhnaa.K
open Sx Fl Go Go.RowKit
set_option maxRecDepth 100000
variable {M X : Nat}
theorem Okf.ok (h : Okf M X) : Ok M X := ⟨h.m1, h.m2, h.x1, h.x2⟩
/-- one call, and that is it -/
def one1 (f : FuncId) (args : List LV) (r : LV) (k : Tr) : Tr := .call f args r k
def rt (n : Int) : Tr := .ret (.tup [au n, ai 0])
def nanT (M X : Nat) : Tr := .call 65 [FM M X] (LU (nanc M X : Nat)) (rt (nanc M X : Nat))
def addT (M X a b : Nat) (ka : Int) (na : Bool) (ea ma : Int) (kb : Int) (nb : Bool) (eb mb : Int) (S : Int) : Tr :=
  let S3 : Tr := .call 85 [FM M X, PL ka na ea ma, PL kb nb eb mb] (.tup [au S, ai 0]) (rt S)
  let Z (s : Bool) : Tr := .call 67 [FM M X, LB s] (LU (sgn M X s : Nat)) (rt (sgn M X s : Nat))
  let R3 : Tr := br (ka == 1) (br na (Z nb) (Z false)) S3
  let R2 : Tr := br (kb == 3) (rt b) (br (ka == 1) (br (kb != 1) (rt b) R3) R3)
  let R1 : Tr := br (ka == 3) (rt a) (br (kb == 1) (br (ka != 1) (rt a) R2) R2)
  .call 63 [FM M X, LU a, LU b] (.tup [PA ka na ea ma, PA kb nb eb mb, ai 0])
    (.call 64 [PL ka na ea ma, PL kb nb eb mb] (LB (oddB ka kb)) (br (oddB ka kb) (nanT M X) (br (ka == 3) (br (kb == 3) (br (!na == nb) (nanT M X) R1) R1) R1)))
theorem t27 (M X a b : Nat) (ka kb ea eb ma mb S : Int) (na nb : Bool) : tree Try.prog 3 [cTwo (PA ka na ea ma) (PA kb nb eb mb) 0, cOdd, cNaN M X, cZero M X, (85, fun _ => some (.tup [au S, ai 0]))] 27 [FM M X, LU a, LU b] =
    addT M X a b ka na ea ma kb nb eb mb S := by kernel_rfl
theorem t27b (m x a b : Int) : tree Try.prog 3 [cTwo (PA 0 false 0 0) (PA 0 false 0 0) 1] 27 [FM m x, LU a, LU b] =
    .call 63 [FM m x, LU a, LU b] (.tup [PA 0 false 0 0, PA 0 false 0 0, ai 1]) (.ret (.tup [au 0, ai 1])) := by kernel_rfl
/-- what soft.Add returns, of what two patterns say -/
def addS (M X a b : Nat) (ka : Int) (na : Bool) (kb : Int) (nb : Bool) (S : Nat) : Nat :=
  if ka = 4 ∨ kb = 4 ∨ (ka = 3 ∧ kb = 3 ∧ na ≠ nb) then nanc M X else if ka = 3 ∨ (kb = 1 ∧ ka ≠ 1) then a else if kb = 3 ∨ (ka = 1 ∧ kb ≠ 1) then b else if ka = 1 then sgn M X (na && nb) else S
theorem rt_wt {n : Int} {R : Nat} (h : n = R) : Wt (.tup [au R, ai 0]) (rt n) := by subst h; rfl
def addN (M X a b : Nat) : Nat := addS M X a b (kd M X a : Nat) (ng M X a) (kd M X b : Nat) (ng M X b) (sumP M X (ng M X a) (ex M X a) (mn M X a) (ng M X b) (ex M X b) (mn M X b))
theorem kdi (M X a : Nat) : (kd M X a : Int) = 1 ∨ (kd M X a : Int) = 2 ∨ (kd M X a : Int) = 3 ∨ (kd M X a : Int) = 4 := by have := kd_cases M X a; omega
theorem addT_wt (hf : Okf M X) {a b : Nat} {ka kb ea eb ma mb : Int} {na nb : Bool} {S : Nat} (ca : ka = 1 ∨ ka = 2 ∨ ka = 3 ∨ ka = 4) (cb : kb = 1 ∨ kb = 2 ∨ kb = 3 ∨ kb = 4)
    (h2 : Cp 63 [FM M X, LU a, LU b] (.tup [PA ka na ea ma, PA kb nb eb mb, ai 0])) (hs : ka = 2 → kb = 2 → Cp 85 [FM M X, PL ka na ea ma, PL kb nb eb mb] (.tup [au S, ai 0])) :
    Wt (.tup [au (addS M X a b ka na kb nb S : Nat), ai 0]) (addT M X a b ka na ea ma kb nb eb mb S) := by
  refine ⟨h2, odd_cn _ _ _ _ _ _ _ _, ?_⟩
  clear h2
  rcases ca with rfl | rfl | rfl | rfl <;> rcases cb with rfl | rfl | rfl | rfl
  all_goals
    repeat' first
      | exact absurd h (by decide)
      | exact rt_wt rfl
      | exact ⟨nan_cn hf, rt_wt rfl⟩
      | exact ⟨hs rfl rfl, rt_wt rfl⟩
      | exact ⟨zero_cn hf _, rt_wt (by subst h; rfl)⟩
      | exact ⟨nan_cn hf, rt_wt (by simp_all [addS])⟩
      | exact rt_wt (by simp_all [addS])
      | (refine WT.br (fun h => ?_) (fun h => ?_))
theorem add_cn (hf : Okf M X) {a b : Nat} (ha : a < 2^(1+X+M)) (hb : b < 2^(1+X+M)) : Cp 27 [FM M X, LU a, LU b] (.tup [au (addN M X a b : Nat), ai 0]) := by
  refine cp_of (t27 M X a b _ _ _ _ _ _ _ _ _) (addT_wt hf (kdi M X a) (kdi M X b) (two_cn hf a b ha hb) ?_)
  intro h1 h2
  have h1 : kd M X a = 2 := by omega
  have h2 : kd M X b = 2 := by omega
  obtain ⟨a1, a2⟩ := ex_bounds hf.ok a
  obtain ⟨b1, b2⟩ := ex_bounds hf.ok b
  refine sum_cn hf _ _ _ _ (mn_lt53 hf.ok) (mn_lt53 hf.ok) (mn_pos h1) (mn_pos h2) a1 a2 b1 b2 (fun h => normal h1 ?_) (fun h => normal h2 ?_)
  · have := ex_lo h2; omega
  · have := ex_lo h1; omega
/-- What is no pattern of a format. -/
def Bad (m x : Int) (a : Nat) : Prop := ∀ M X : Nat, m = M → x = X → Okf M X → 2^(1+X+M) ≤ a
theorem add_bad {m x : Int} {a b : Nat} (ha : a < 2^64) (hb : b < 2^64) (h : Bad m x a ∨ Bad m x b) : Cp 27 [FM m x, LU a, LU b] (.tup [au 0, ai 1]) := by
  refine cp_of (t27b m x a b) ⟨twobad_cn m x a b ha hb ?_, rfl⟩
  rintro M X rfl rfl hf ⟨h1, h2⟩
  rcases h with h | h
  · have := h M X rfl rfl hf; omega
  · have := h M X rfl rfl hf; omega
end Go.Proofs.Ytpliondhiahhnaa.K
