/- Contracts of this program in the executor's form. -/
import Derived.Test.YtpliondhiahhnaaS3
import Derived.Test.YtpliondhiahhnaaB4
namespace Sx
open Go Go.RowKit
abbrev si (n : Int) : SV := .v (.int .i64 n)
abbrev su (n : Int) : SV := .v (.int .u64 n)
abbrev sw (n : Int) : SV := .v (.int .u32 n)
abbrev sb (b : Bool) : SV := .v (.bool b)
abbrev ai (n : Int) : AV := .s (si n)
abbrev au (n : Int) : AV := .s (su n)
abbrev aw (n : Int) : AV := .s (sw n)
abbrev ab (b : Bool) : AV := .s (sb b)
abbrev LI (n : Int) : LV := .a (ai n)
abbrev LU (n : Int) : LV := .a (au n)
abbrev LW (n : Int) : LV := .a (aw n)
abbrev LB (b : Bool) : LV := .a (ab b)
abbrev FM (M X : Int) : LV := .agg [si M, si X]
abbrev PA (k : Int) (n : Bool) (e m : Int) : AV := .agg [si k, sb n, si e, su m]
abbrev PL (k : Int) (n : Bool) (e m : Int) : LV := .a (PA k n e m)
/-- shifts as the machine's -/
def shl (k : IntKind) (a b : Int) : Int := k.wrap (a * 2 ^ min b.toNat k.bits)
def shr (k : IntKind) (a b : Int) : Int := a.fdiv (2 ^ min b.toNat k.bits)
def concS : SV → Option Value
  | .v x => some x
  | _ => none
def concSs : List SV → Option (List Value)
  | [] => some []
  | x :: l => match concS x, concSs l with
    | some v, some r => some (v :: r)
    | _, _ => none
def concA : AV → Option Value
  | .s x => concS x
  | .agg l => match concSs l with
    | some vs => some (.agg vs.toArray)
    | none => none
def concAs : List AV → Option (List Value)
  | [] => some []
  | x :: l => match concA x, concAs l with
    | some v, some r => some (v :: r)
    | _, _ => none
def concL : LV → Option Value
  | .a x => concA x
  | .tup l => match concAs l with
    | some vs => some (.tuple vs.toArray)
    | none => none
def concLs : List LV → Option (List Value)
  | [] => some []
  | x :: l => match concL x, concLs l with
    | some v, some r => some (v :: r)
    | _, _ => none
variable {N : Option Nat → World → List Int → Value → Prop} {σ : Pl} {w : World}
theorem concS_iff {x : SV} {v : Value} (h : concS x = some v) (u : Value) : Rs N σ w x u ↔ u = v := by
  cases x with
  | v y => simp only [concS, Option.some.injEq] at h; subst h; exact Iff.rfl
  | _ => cases h
theorem pw_iff {α : Type} {R : α → Value → Prop} {f : α → Option Value} {fs : List α → Option (List Value)} (h0 : fs [] = some []) (h1 : ∀ x l, fs (x :: l) = match f x, fs l with | some v, some r => some (v :: r) | _, _ => none)
    (hf : ∀ x v, f x = some v → ∀ u, R x u ↔ u = v) : ∀ (l : List α) (vs : List Value), fs l = some vs → ∀ us, Pw R l us ↔ us = vs
  | [], vs, h, us => by rw [h0] at h; cases h; exact ⟨fun h => h.unnil, fun h => h ▸ Pw.nil⟩
  | x :: l, vs, h, us => by
    rw [h1] at h
    split at h
    · rename_i v r e1 e2
      cases h
      constructor
      · intro h
        obtain ⟨u, us', rfl, hr, hp⟩ := h.uncons
        rw [(hf x v e1 u).1 hr, (pw_iff h0 h1 hf l r e2 us').1 hp]
      · rintro rfl
        exact Pw.cons ((hf x v e1 v).2 rfl) ((pw_iff h0 h1 hf l r e2 r).2 rfl)
    · cases h
theorem concA_iff {x : AV} {v : Value} (h : concA x = some v) (u : Value) : Ra N σ w x u ↔ u = v := by
  cases x with
  | s y => exact concS_iff h u
  | agg l =>
    simp only [concA] at h
    split at h
    · rename_i vs e
      cases h
      have := pw_iff (R := Rs N σ w) (f := concS) (fs := concSs) rfl (fun _ _ => rfl) (fun x v h u => concS_iff h u) l vs e
      constructor
      · rintro ⟨us, rfl, hp⟩
        rw [← (this _).1 hp]
      · rintro rfl
        exact ⟨_, rfl, (this _).2 rfl⟩
    · cases h
theorem concL_iff {x : LV} {v : Value} (h : concL x = some v) (u : Value) : Rl N σ w x u ↔ u = v := by
  cases x with
  | a y => exact concA_iff h u
  | tup l =>
    simp only [concL] at h
    split at h
    · rename_i vs e
      cases h
      have := pw_iff (R := Ra N σ w) (f := concA) (fs := concAs) rfl (fun _ _ => rfl) (fun x v h u => concA_iff h u) l vs e
      constructor
      · rintro ⟨us, rfl, hp⟩
        rw [← (this _).1 hp]
      · rintro rfl
        exact ⟨_, rfl, (this _).2 rfl⟩
    · cases h
open Go.Proofs.Ytpliondhiahhnaa.K in
/-- A contract of the walks in the executor's form. -/
theorem Cn.of {P : Program} {f : FuncId} {args : List LV} {r : LV} {vs : List Value} {v : Value} (ha : concLs args = some vs) (hr : concL r = some v) (h : ∀ w, Calls P f vs.toArray w (Ret v w)) : Cn N P f args r := by
  intro w us hp
  have hus := (pw_iff (R := Rl N pl0 w) (f := concL) (fs := concLs) rfl (fun _ _ => rfl) (fun x v h u => concL_iff h u) args vs ha _).1 hp
  have : us = vs.toArray := by rw [← Array.toList_inj, hus]
  subst this
  refine (h w).mono ?_
  rintro e w' ⟨rfl, hb⟩
  exact ⟨v, rfl, (concL_iff hr v).2 rfl, hb⟩
open Go.Proofs.Ytpliondhiahhnaa.K in
theorem Cn.to {P : Program} {f : FuncId} {args : List LV} {r : LV} {vs : List Value} {v : Value} (ha : concLs args = some vs) (hr : concL r = some v) (h : Cn N P f args r) (w : World) : Calls P f vs.toArray w (Ret v w) := by
  refine (h w vs.toArray ((pw_iff (R := Rl N pl0 w) (f := concL) (fs := concLs) rfl (fun _ _ => rfl) (fun x v h u => concL_iff h u) args vs ha _).2 rfl)).mono ?_
  rintro e w' ⟨u, rfl, hu, hb⟩
  rw [(concL_iff hr u).1 hu]
  exact ⟨rfl, hb⟩
/-- A slice that reads as a list of ints. -/
def RdAt (T : TypeId) (ob : Option Nat) (w : World) (l : List Int) (v : Value) : Prop :=
  ∃ a c, v = .slice a l.length c ∧ l.length ≤ c ∧ (l ≠ [] → ∃ (b off : Nat) (cs : Array Value) (fr : Nat × Nat), a = some ⟨b, off, none⟩ ∧ ob ≠ some b ∧ w.heap[b]? = some (Obj.cells cs T fr) ∧ ∀ (j : Nat) x, l[j]? = some x → cs[off + j]? = some (.int .i64 x))
theorem rdk (T : TypeId) : NK T (RdAt T) where
  nil ob w := ⟨none, 0, rfl, Nat.le_refl _, fun h => absurd rfl h⟩
  keep ob w w' l v := by
    rintro ⟨a, c, rfl, hc, h⟩ hp
    refine ⟨a, c, rfl, hc, fun hl => ?_⟩
    obtain ⟨b, off, cs, fr, rfl, hob, h1, h2⟩ := h hl
    exact ⟨b, off, cs, fr, rfl, hob, hp _ _ _ hob h1, h2⟩
  weak ob w l v := by
    rintro ⟨a, c, rfl, hc, h⟩
    refine ⟨a, c, rfl, hc, fun hl => ?_⟩
    obtain ⟨b, off, cs, fr, rfl, hob, h1, h2⟩ := h hl
    exact ⟨b, off, cs, fr, rfl, by simp, h1, h2⟩
  move ob w w' l v g := by
    rintro ⟨a, c, rfl, hc, h⟩ hp hg
    refine ⟨a, c, rfl, hc, fun hl => ?_⟩
    obtain ⟨b, off, cs, fr, rfl, hob, h1, h2⟩ := h hl
    refine ⟨b, off, cs, fr, rfl, fun e => ?_, hp _ _ _ hob h1, h2⟩
    have := (Array.getElem?_eq_some_iff.1 h1).1
    cases e; omega
  shape ob w l v := fun ⟨a, c, e, hc, _⟩ => ⟨a, c, e, hc⟩
  mk1 ob w z hob := ⟨_, 1, rfl, by simp, fun _ => ⟨w.heap.size, 0, _, _, rfl, hob, by show (w.heap.push _)[w.heap.size]? = _; simp; exact ⟨rfl, rfl⟩, fun j x hj => by
    cases j with
    | zero => simp at hj; subst hj; rfl
    | succ j => simp at hj⟩⟩
  at_ ob w l v := by
    rintro ⟨a, c, rfl, hc, h⟩ hl
    obtain ⟨b, off, cs, fr, rfl, hob, h1, h2⟩ := h hl
    exact ⟨b, off, c, rfl, hob, cs, fr, h1, h2⟩
  take ob w l a c n := by
    rintro ⟨a', c', e, hc, h⟩ hn
    simp only [Value.slice.injEq] at e
    obtain ⟨rfl, _, rfl⟩ := e
    have hl : (l.take n).length = n := by simp; omega
    refine ⟨a, c, by rw [hl], by omega, fun hne => ?_⟩
    obtain ⟨b, off, cs, fr, rfl, hob, h1, h2⟩ := h (by intro e; subst e; simp at hne)
    refine ⟨b, off, cs, fr, rfl, hob, h1, fun j x hj => h2 j x ?_⟩
    rw [List.getElem?_take] at hj
    split at hj
    · exact hj
    · cases hj
  own w B v l h := by
    rcases h.2 with ⟨rfl, h0⟩ | ⟨g, cap, cur, rfl, _, hh, hn, _, _, hcur⟩
    · have : l = [] := List.eq_nil_of_length_eq_zero h0
      subst this
      exact ⟨none, 0, rfl, Nat.le_refl _, fun h => absurd rfl h⟩
    · refine ⟨_, cap, rfl, hn, fun _ => ⟨g, 0, cur, (0, 0), rfl, by simp, hh, fun j x hj => ?_⟩⟩
      have h5 : (cur.toList.take (l.length * 1))[j]? = some (.int .i64 x) := by rw [hcur, List.getElem?_map, hj]; rfl
      rw [List.getElem?_take] at h5
      split at h5
      · rw [Nat.zero_add]; simpa using h5
      · cases h5
end Sx
namespace Go.Proofs.Ytpliondhiahhnaa.K
open Sx Fl Go.RowKit
/-- Contracts of this program. -/
abbrev Cp (f : FuncId) (args : List LV) (r : LV) : Prop := Cn (RdAt 3) Try.prog f args r
abbrev Wt (r : LV) (t : Tr) : Prop := WT (RdAt 3) Try.prog (fun x => x = r) t
theorem cp_of {C : Tab} {f : FuncId} {args : List LV} {r : LV} {t : Tr} (ht : tree Try.prog 3 C f args = t) (h : Wt r t) : Cp f args r := tree_sound (C := C) (rdk 3) (by rw [ht]; exact h)
theorem cpL_of {C : Tab} {Ls : List LS} {f : FuncId} {args : List LV} {r : LV} {t : Tr} (ht : treeL Try.prog 3 C Ls f args = t) (h : Wt r t) : Cp f args r := treeL_sound (C := C) (Ls := Ls) (rdk 3) (by rw [ht]; exact h)
variable {M X : Nat}
theorem check_cn (hf : Okf M X) : Cp 98 [FM M X] (LI 0) := Cn.of rfl rfl (check_calls hf)
theorem nan_cn (hf : Okf M X) : Cp 65 [FM M X] (LU (nanc M X : Nat)) := Cn.of rfl rfl (nan_calls hf)
theorem inf_cn (hf : Okf M X) (s : Bool) : Cp 66 [FM M X, LB s] (LU (infc M X + sgn M X s : Nat)) := Cn.of rfl rfl (inf_calls hf s)
theorem zero_cn (hf : Okf M X) (s : Bool) : Cp 67 [FM M X, LB s] (LU (sgn M X s : Nat)) := Cn.of rfl rfl (zero_calls hf s)
theorem odd_cn (k1 k2 e1 e2 m1 m2 : Int) (n1 n2 : Bool) : Cp 64 [PL k1 n1 e1 m1, PL k2 n2 e2 m2] (LB (oddB k1 k2)) := Cn.of rfl rfl (odd_calls k1 k2 e1 e2 m1 m2 n1 n2)
theorem open_cn (hf : Okf M X) (a : Nat) (ha : a < 2^(1+X+M)) : Cp 93 [FM M X, LU a] (.tup [PA (kd M X a : Nat) (ng M X a) (ex M X a) (mn M X a : Nat), ai 0]) := Cn.of rfl rfl (open_ok hf a ha)
theorem openbad_cn (m x : Int) (a : Nat) (h64 : a < 2^64) (h : ∀ M X : Nat, m = M → x = X → Okf M X → 2^(1+X+M) ≤ a) : Cp 93 [FM m x, LU a] (.tup [PA 0 false 0 0, ai 1]) := Cn.of rfl rfl (open_bad m x a h64 h)
theorem two_cn (hf : Okf M X) (a b : Nat) (ha : a < 2^(1+X+M)) (hb : b < 2^(1+X+M)) : Cp 63 [FM M X, LU a, LU b] (.tup [PA (kd M X a : Nat) (ng M X a) (ex M X a) (mn M X a : Nat), PA (kd M X b : Nat) (ng M X b) (ex M X b) (mn M X b : Nat), ai 0]) :=
  Cn.of rfl rfl (two_ok hf a b (Lib.hid ha) (Lib.hid hb))
theorem twobad_cn (m x : Int) (a b : Nat) (ha : a < 2^64) (hb : b < 2^64) (h : ∀ M X : Nat, m = M → x = X → Okf M X → ¬ (a < 2^(1+X+M) ∧ b < 2^(1+X+M))) : Cp 63 [FM m x, LU a, LU b] (.tup [PA 0 false 0 0, PA 0 false 0 0, ai 1]) :=
  Cn.of rfl rfl (two_bad m x a b ha hb h)
theorem pack_cn (hf : Okf M X) (neg more : Bool) {hi lo : Int} (hn ln : Nat) {e : Int} (eh : hi = hn) (el : lo = ln) (h1 : hn < 2^64) (h2 : ln < 2^64) (he1 : -4096 ≤ e) (he2 : e ≤ 4096) (hm : more = true → 2^(M+2) ≤ hn*2^64+ln) :
    Cp 69 [FM M X, LB neg, LU hi, LU lo, LI e, LB more] (.tup [au (packN M X neg (hi.toNat*2^64+lo.toNat) e more : Nat), ai 0]) := by
  subst eh el
  exact Cn.of rfl rfl (pack_calls hf neg more hn ln e h1 h2 he1 he2 hm)
theorem mul_cn (a b : Nat) (ha : a < 2^64) (hb : b < 2^64) : Cp 68 [LU a, LU b] (.tup [au (a * b / 2^64 : Nat), au (a * b % 2^64 : Nat)]) := Cn.of rfl rfl (mul_calls a b ha hb)
theorem lz_cn (a : Nat) (ha : a < 2^64) : Cp 76 [LU a] (LI (64 - bl a : Nat)) := Cn.of rfl rfl (lz_calls a ha)
/-- A pattern of a format. -/
theorem kd_cases (M X a : Nat) : kd M X a = 1 ∨ kd M X a = 2 ∨ kd M X a = 3 ∨ kd M X a = 4 := by
  unfold kd; split <;> split <;> (try split) <;> simp
/-- entries of the tables -/
abbrev Ent := FuncId × (List LV → Option LV)
def cNaN (M X : Nat) : Ent := (65, fun _ => some (LU (nanc M X : Nat)))
def cInf (M X : Nat) : Ent := (66, fun l => match l with | [_, .a (.s (.v (.bool s)))] => some (LU (infc M X + sgn M X s : Nat)) | _ => none)
def cZero (M X : Nat) : Ent := (67, fun l => match l with | [_, .a (.s (.v (.bool s)))] => some (LU (sgn M X s : Nat)) | _ => none)
def cOdd : Ent := (64, fun l => match l with | [.a (.agg (.v (.int _ k1) :: _)), .a (.agg (.v (.int _ k2) :: _))] => some (LB (oddB k1 k2)) | _ => none)
def cPack (M X : Nat) : Ent := (69, fun l => match l with | [_, .a (.s (.v (.bool neg))), .a (.s (.v (.int _ hi))), .a (.s (.v (.int _ lo))), .a (.s (.v (.int _ e))), .a (.s (.v (.bool more)))] => some (.tup [au (packN M X neg (hi.toNat*2^64+lo.toNat) e more : Nat), ai 0]) | _ => none)
def cTwo (p q : AV) (e : Int) : Ent := (63, fun _ => some (.tup [p, q, ai e]))
def cOpen (p : AV) (e : Int) : Ent := (93, fun _ => some (.tup [p, ai e]))
def cMul : Ent := (68, fun l => match l with | [.a (.s (.v (.int _ a))), .a (.s (.v (.int _ b)))] => some (.tup [au (a.toNat * b.toNat / 2^64 : Nat), au (a.toNat * b.toNat % 2^64 : Nat)]) | _ => none)
def cLz : Ent := (76, fun l => match l with | [.a (.s (.v (.int _ a)))] => some (LI (64 - bl a.toNat : Nat)) | _ => none)
end Go.Proofs.Ytpliondhiahhnaa.K
