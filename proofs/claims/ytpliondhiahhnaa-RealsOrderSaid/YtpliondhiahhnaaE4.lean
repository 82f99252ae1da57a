/- What each function of soft gives, of any format and any patterns; laws 4 to 9 as trees. -/
import Derived.Test.YtpliondhiahhnaaE3
import Derived.Test.YtpliondhiahhnaaL1
set_option linter.unusedVariables false
namespace Go.Proofs.Ytpliondhiahhnaa.K
open Sx Fl Go Go.RowKit
set_option maxRecDepth 100000
variable {M X : Nat} {m x : Int} {a b : Nat}
/-- a format that may be, and a pattern of it -/
noncomputable def okB (m x : Int) (a : Nat) : Bool := @decide (¬ Bad m x a) (Classical.propDecidable _)
theorem okB_bad (h : okB m x a = false) : Bad m x a := by
  unfold okB at h
  exact Classical.not_not.1 (@of_decide_eq_false _ (Classical.propDecidable _) h)
theorem okB_ok (h : okB m x a = true) : ∃ M X : Nat, m = M ∧ x = X ∧ Okf M X ∧ a < 2^(1+X+M) := by
  unfold okB at h
  exact (bad_or m x a).resolve_left (@of_decide_eq_true _ (Classical.propDecidable _) h)
theorem okB_lt (hf : Okf M X) : okB M X a = true ↔ a < 2^(1+X+M) := by
  constructor
  · intro h
    obtain ⟨M', X', e1, e2, _, h⟩ := okB_ok h
    have e1 : M = M' := by omega
    have e2 : X = X' := by omega
    subst e1 e2; exact h
  · intro h
    unfold okB
    refine @decide_eq_true _ (Classical.propDecidable _) fun hb => ?_
    have := hb M X rfl rfl hf; omega
noncomputable def er1 (m x : Int) (a : Nat) : Int := bif okB m x a then 0 else 1
noncomputable def er2 (m x : Int) (a b : Nat) : Int := bif okB m x a && okB m x b then 0 else 1
noncomputable def tot1 (F : Nat → Nat → Nat → Nat) (m x : Int) (a : Nat) : Nat := bif okB m x a then F m.toNat x.toNat a else 0
noncomputable def tot2 (F : Nat → Nat → Nat → Nat → Nat) (m x : Int) (a b : Nat) : Nat := bif okB m x a && okB m x b then F m.toNat x.toNat a b else 0
noncomputable def totc (m x : Int) (a b : Nat) : Int := bif okB m x a && okB m x b then cmpN m.toNat x.toNat a b else 0
noncomputable def toto (m x : Int) (a b : Nat) : Bool := bif okB m x a && okB m x b then !oddN m.toNat x.toNat a b else false
noncomputable def totn (m x : Int) (a : Nat) : Bool := bif okB m x a then ng m.toNat x.toNat a else false
noncomputable def tote (m x : Int) (a : Nat) : Int := bif okB m x a then ex m.toNat x.toNat a else 0
theorem two_ind {f : FuncId} {V : Nat → Nat → Int → Int → LV} (h0 : ∀ {M X a b : Nat}, Okf M X → a < 2^(1+X+M) → b < 2^(1+X+M) → okB M X a = true → okB M X b = true → Cp f [FM M X, LU a, LU b] (V a b M X)) (h1 : ∀ {m x : Int} {a b : Nat}, a < 2^64 → b < 2^64 → Bad m x a ∨ Bad m x b → (okB m x a && okB m x b) = false → Cp f [FM m x, LU a, LU b] (V a b m x)) (ha : a < 2^64) (hb : b < 2^64) : Cp f [FM m x, LU a, LU b] (V a b m x) := by
  cases h : okB m x a with
  | false => exact h1 ha hb (.inl (okB_bad h)) (by rw [h]; rfl)
  | true =>
    cases k : okB m x b with
    | false => exact h1 ha hb (.inr (okB_bad k)) (by rw [k, Bool.and_false])
    | true =>
      obtain ⟨M, X, rfl, rfl, hf, hlt⟩ := okB_ok h
      exact h0 hf hlt ((okB_lt hf).1 k) h k
theorem one_ind {f : FuncId} {r : List LV} {V : Nat → Int → Int → LV} (h0 : ∀ {M X a : Nat}, Okf M X → a < 2^(1+X+M) → okB M X a = true → Cp f ([FM M X, LU a] ++ r) (V a M X)) (h1 : ∀ {m x : Int} {a : Nat}, a < 2^64 → Bad m x a → okB m x a = false → Cp f ([FM m x, LU a] ++ r) (V a m x)) (ha : a < 2^64) : Cp f ([FM m x, LU a] ++ r) (V a m x) := by
  cases h : okB m x a with
  | false => exact h1 ha (okB_bad h) h
  | true =>
    obtain ⟨M, X, rfl, rfl, hf, hlt⟩ := okB_ok h
    exact h0 hf hlt h
theorem all2 {f : FuncId} {F : Nat → Nat → Nat → Nat → Nat} (h0 : ∀ {M X : Nat} (hf : Okf M X) {a b : Nat}, a < 2^(1+X+M) → b < 2^(1+X+M) → Cp f [FM M X, LU a, LU b] (.tup [au (F M X a b : Nat), ai 0])) (h1 : ∀ {m x : Int} {a b : Nat}, a < 2^64 → b < 2^64 → Bad m x a ∨ Bad m x b → Cp f [FM m x, LU a, LU b] (.tup [au 0, ai 1])) (ha : a < 2^64) (hb : b < 2^64) :
    Cp f [FM m x, LU a, LU b] (.tup [au (tot2 F m x a b : Nat), ai (er2 m x a b)]) := by
  refine two_ind (V := fun a b m x => .tup [au (tot2 F m x a b : Nat), ai (er2 m x a b)]) ?_ ?_ ha hb
  · intro M X a b hf h1 h2 k1 k2
    unfold tot2 er2; rw [k1, k2]; exact h0 hf h1 h2
  · intro m x a b h2 h3 h4 h5
    unfold tot2 er2; rw [h5]; exact h1 h2 h3 h4
theorem all1 {f : FuncId} {F : Nat → Nat → Nat → Nat} (h0 : ∀ {M X : Nat} (hf : Okf M X) {a : Nat}, a < 2^(1+X+M) → Cp f [FM M X, LU a] (.tup [au (F M X a : Nat), ai 0])) (h1 : ∀ {m x : Int} {a : Nat}, a < 2^64 → Bad m x a → Cp f [FM m x, LU a] (.tup [au 0, ai 1])) (ha : a < 2^64) :
    Cp f [FM m x, LU a] (.tup [au (tot1 F m x a : Nat), ai (er1 m x a)]) := by
  refine one_ind (r := []) (V := fun a m x => .tup [au (tot1 F m x a : Nat), ai (er1 m x a)]) ?_ ?_ ha
  · intro M X a hf h1 k1
    unfold tot1 er1; rw [k1]; exact h0 hf h1
  · intro m x a h2 h4 h5
    unfold tot1 er1; rw [h5]; exact h1 h2 h4
theorem add_all (ha : a < 2^64) (hb : b < 2^64) : Cp 27 [FM m x, LU a, LU b] (.tup [au (tot2 addN m x a b : Nat), ai (er2 m x a b)]) := all2 (fun hf _ _ => add_cn hf) add_bad ha hb
theorem addR_all (ha : a < 2^64) (hb : b < 2^64) : Cp 103 [FM m x, LU a, LU b] (.tup [au (tot2 addN m x a b : Nat), ai (er2 m x a b)]) := all2 (fun hf _ _ => addR_cn hf) addR_bad ha hb
theorem sub_all (ha : a < 2^64) (hb : b < 2^64) : Cp 40 [FM m x, LU a, LU b] (.tup [au (tot2 subN m x a b : Nat), ai (er2 m x a b)]) := all2 (fun hf _ _ => sub_cn hf) sub_bad ha hb
theorem subR_all (ha : a < 2^64) (hb : b < 2^64) : Cp 104 [FM m x, LU a, LU b] (.tup [au (tot2 subN m x a b : Nat), ai (er2 m x a b)]) := all2 (fun hf _ _ => subR_cn hf) subR_bad ha hb
theorem mul_all (ha : a < 2^64) (hb : b < 2^64) : Cp 19 [FM m x, LU a, LU b] (.tup [au (tot2 mulN m x a b : Nat), ai (er2 m x a b)]) := all2 (fun hf _ _ => mulS_cn hf) mulS_bad ha hb
theorem mulR_all (ha : a < 2^64) (hb : b < 2^64) : Cp 20 [FM m x, LU a, LU b] (.tup [au (tot2 mulN m x a b : Nat), ai (er2 m x a b)]) := all2 (fun hf _ _ => mulR_cn hf) mulR_bad ha hb
theorem div_all (ha : a < 2^64) (hb : b < 2^64) : Cp 21 [FM m x, LU a, LU b] (.tup [au (tot2 divN m x a b : Nat), ai (er2 m x a b)]) := all2 (fun hf _ _ => divS_cn hf) divS_bad ha hb
theorem divR_all (ha : a < 2^64) (hb : b < 2^64) : Cp 22 [FM m x, LU a, LU b] (.tup [au (tot2 divN m x a b : Nat), ai (er2 m x a b)]) := all2 (fun hf _ _ => divR_cn hf) divR_bad ha hb
theorem sqrt_all (ha : a < 2^64) : Cp 41 [FM m x, LU a] (.tup [au (tot1 sqrtN m x a : Nat), ai (er1 m x a)]) := all1 (fun hf _ => sqrt_cn hf) sqrt_bad ha
theorem ceil_all (ha : a < 2^64) : Cp 33 [FM m x, LU a] (.tup [au (tot1 (fun M X a => stepN M X a true) m x a : Nat), ai (er1 m x a)]) := all1 (fun hf _ => ceil_cn hf) ceil_bad ha
theorem floor_all (ha : a < 2^64) : Cp 32 [FM m x, LU a] (.tup [au (tot1 (fun M X a => stepN M X a false) m x a : Nat), ai (er1 m x a)]) := all1 (fun hf _ => floor_cn hf) floor_bad ha
theorem ceilR_all (ha : a < 2^64) : Cp 35 [FM m x, LU a] (.tup [au (tot1 (fun M X a => stepN M X a true) m x a : Nat), ai (er1 m x a)]) := all1 (fun hf _ => ceilR_cn hf) ceilR_bad ha
theorem floorR_all (ha : a < 2^64) : Cp 36 [FM m x, LU a] (.tup [au (tot1 (fun M X a => stepN M X a false) m x a : Nat), ai (er1 m x a)]) := all1 (fun hf _ => floorR_cn hf) floorR_bad ha
theorem allc {f : FuncId} (h0 : ∀ {M X : Nat} (hf : Okf M X) {a b : Nat}, a < 2^(1+X+M) → b < 2^(1+X+M) → Cp f [FM M X, LU a, LU b] (.tup [ai (cmpN M X a b), ab (!oddN M X a b), ai 0])) (h1 : ∀ {m x : Int} {a b : Nat}, a < 2^64 → b < 2^64 → Bad m x a ∨ Bad m x b → Cp f [FM m x, LU a, LU b] (.tup [ai 0, ab false, ai 1])) (ha : a < 2^64) (hb : b < 2^64) :
    Cp f [FM m x, LU a, LU b] (.tup [ai (totc m x a b), ab (toto m x a b), ai (er2 m x a b)]) := by
  refine two_ind (V := fun a b m x => .tup [ai (totc m x a b), ab (toto m x a b), ai (er2 m x a b)]) ?_ ?_ ha hb
  · intro M X a b hf h1 h2 k1 k2
    unfold totc toto er2; rw [k1, k2]; exact h0 hf h1 h2
  · intro m x a b h2 h3 h4 h5
    unfold totc toto er2; rw [h5]; exact h1 h2 h3 h4
theorem cmp_all (ha : a < 2^64) (hb : b < 2^64) : Cp 25 [FM m x, LU a, LU b] (.tup [ai (totc m x a b), ab (toto m x a b), ai (er2 m x a b)]) := allc (fun hf _ _ => cmp_cn hf) cmp_bad ha hb
theorem cmpR_all (ha : a < 2^64) (hb : b < 2^64) : Cp 26 [FM m x, LU a, LU b] (.tup [ai (totc m x a b), ab (toto m x a b), ai (er2 m x a b)]) := allc (fun hf _ _ => cmpR_cn hf) cmpR_bad ha hb
theorem allw {f : FuncId} (near : Bool) (h0 : ∀ {M X : Nat} (hf : Okf M X) {a : Nat}, a < 2^(1+X+M) → Cp f [FM M X, LU a, LB near] (.tup [au (wholeN M X a near : Nat), ab (ng M X a), ai 0])) (h1 : ∀ {m x : Int} {a : Nat}, a < 2^64 → Bad m x a → Cp f [FM m x, LU a, LB near] (.tup [au 0, ab false, ai 1])) (ha : a < 2^64) :
    Cp f [FM m x, LU a, LB near] (.tup [au (tot1 (fun M X a => wholeN M X a near) m x a : Nat), ab (totn m x a), ai (er1 m x a)]) := by
  refine one_ind (r := [LB near]) (V := fun a m x => .tup [au (tot1 (fun M X a => wholeN M X a near) m x a : Nat), ab (totn m x a), ai (er1 m x a)]) ?_ ?_ ha
  · intro M X a hf h1 k1
    unfold tot1 er1 totn; rw [k1]; exact h0 hf h1
  · intro m x a h2 h4 h5
    unfold tot1 er1 totn; rw [h5]; exact h1 h2 h4
theorem whole_all (near : Bool) (ha : a < 2^64) : Cp 37 [FM m x, LU a, LB near] (.tup [au (tot1 (fun M X a => wholeN M X a near) m x a : Nat), ab (totn m x a), ai (er1 m x a)]) := allw near (fun hf _ h => Whole_cn hf h near) (fun h k => Whole_bad h k near) ha
theorem wholeR_all (near : Bool) (ha : a < 2^64) : Cp 38 [FM m x, LU a, LB near] (.tup [au (tot1 (fun M X a => wholeN M X a near) m x a : Nat), ab (totn m x a), ai (er1 m x a)]) := allw near (fun hf _ h => WholeR_cn hf h near) (fun h k => WholeR_bad h k near) ha
theorem open_all (ha : a < 2^64) : Cp 31 [FM m x, LU a] (.tup [PA (tot1 kd m x a : Nat) (totn m x a) (tote m x a) (tot1 mn m x a : Nat), ai (er1 m x a)]) := by
  refine one_ind (r := []) (V := fun a m x => .tup [PA (tot1 kd m x a : Nat) (totn m x a) (tote m x a) (tot1 mn m x a : Nat), ai (er1 m x a)]) ?_ ?_ ha
  · intro M X a hf h1 k1
    unfold tot1 er1 totn tote; rw [k1]; exact openR_cn hf h1
  · intro m x a h2 h4 h5
    unfold tot1 er1 totn tote; rw [h5]; exact openRbad_cn h2 h4
/-- what the functions give, by numbers -/
structure LF where
  e1 : Int → Int → Int → Int
  e2 : Int → Int → Int → Int → Int
  add : Int → Int → Int → Int → Int
  sub : Int → Int → Int → Int → Int
  mul : Int → Int → Int → Int → Int
  div : Int → Int → Int → Int → Int
  mr : Int → Int → Int → Int → Int
  mq : Int → Int → Int → Int → Int
  sq : Int → Int → Int → Int
  cmp : Int → Int → Int → Int → Int
  cok : Int → Int → Int → Int → Bool
  st : Bool → Int → Int → Int → Int
  wh : Bool → Int → Int → Int → Int
  neg : Int → Int → Int → Bool
  kd : Int → Int → Int → Int
  ex : Int → Int → Int → Int
  mn : Int → Int → Int → Int
  ec : Int → Int → Int → Int → Int → Int
  conv : Int → Int → Int → Int → Int → Int
  nan : Int → Int → Int
  ze : Int → Int → Bool → Int
  tu : Int → Int → Int → Int
  chk : Int → Int → Int
  bias : Int → Int → Int
  pk : Int → Int → Bool → Int → Int → Int → Bool → Int
  live : Bool
def cf0 (L : LF) : Ent := (27, fun l => match l with | [.a (.agg [.v (.int _ m), .v (.int _ x)]), .a (.s (.v (.int _ a))), .a (.s (.v (.int _ b)))] => some (.tup [au (L.add m x a b), ai (L.e2 m x a b)]) | _ => none)
def cf1 (L : LF) : Ent := (103, fun l => match l with | [.a (.agg [.v (.int _ m), .v (.int _ x)]), .a (.s (.v (.int _ a))), .a (.s (.v (.int _ b)))] => some (.tup [au (L.add m x a b), ai (L.e2 m x a b)]) | _ => none)
def cf2 (L : LF) : Ent := (40, fun l => match l with | [.a (.agg [.v (.int _ m), .v (.int _ x)]), .a (.s (.v (.int _ a))), .a (.s (.v (.int _ b)))] => some (.tup [au (L.sub m x a b), ai (L.e2 m x a b)]) | _ => none)
def cf3 (L : LF) : Ent := (104, fun l => match l with | [.a (.agg [.v (.int _ m), .v (.int _ x)]), .a (.s (.v (.int _ a))), .a (.s (.v (.int _ b)))] => some (.tup [au (L.sub m x a b), ai (L.e2 m x a b)]) | _ => none)
def cf4 (L : LF) : Ent := (19, fun l => match l with | [.a (.agg [.v (.int _ m), .v (.int _ x)]), .a (.s (.v (.int _ a))), .a (.s (.v (.int _ b)))] => some (.tup [au (L.mul m x a b), ai (L.e2 m x a b)]) | _ => none)
def cf5 (L : LF) : Ent := (20, fun l => match l with | [.a (.agg [.v (.int _ m), .v (.int _ x)]), .a (.s (.v (.int _ a))), .a (.s (.v (.int _ b)))] => some (.tup [au (L.mul m x a b), ai (L.e2 m x a b)]) | _ => none)
def cf6 (L : LF) : Ent := (21, fun l => match l with | [.a (.agg [.v (.int _ m), .v (.int _ x)]), .a (.s (.v (.int _ a))), .a (.s (.v (.int _ b)))] => some (.tup [au (L.div m x a b), ai (L.e2 m x a b)]) | _ => none)
def cf7 (L : LF) : Ent := (22, fun l => match l with | [.a (.agg [.v (.int _ m), .v (.int _ x)]), .a (.s (.v (.int _ a))), .a (.s (.v (.int _ b)))] => some (.tup [au (L.div m x a b), ai (L.e2 m x a b)]) | _ => none)
def cf8 (L : LF) : Ent := (79, fun l => match l with | [.a (.agg [.v (.int _ m), .v (.int _ x)]), .a (.s (.v (.int _ a))), .a (.s (.v (.int _ b)))] => some (.tup [au (L.mr m x a b), au (L.mq m x a b), ai (L.e2 m x a b)]) | _ => none)
def cf9 (L : LF) : Ent := (105, fun l => match l with | [.a (.agg [.v (.int _ m), .v (.int _ x)]), .a (.s (.v (.int _ a))), .a (.s (.v (.int _ b)))] => some (.tup [au (L.mr m x a b), au (L.mq m x a b), ai (L.e2 m x a b)]) | _ => none)
def cf10 (L : LF) : Ent := (25, fun l => match l with | [.a (.agg [.v (.int _ m), .v (.int _ x)]), .a (.s (.v (.int _ a))), .a (.s (.v (.int _ b)))] => some (.tup [ai (L.cmp m x a b), ab (L.cok m x a b), ai (L.e2 m x a b)]) | _ => none)
def cf11 (L : LF) : Ent := (26, fun l => match l with | [.a (.agg [.v (.int _ m), .v (.int _ x)]), .a (.s (.v (.int _ a))), .a (.s (.v (.int _ b)))] => some (.tup [ai (L.cmp m x a b), ab (L.cok m x a b), ai (L.e2 m x a b)]) | _ => none)
def cf12 (L : LF) : Ent := (41, fun l => match l with | [.a (.agg [.v (.int _ m), .v (.int _ x)]), .a (.s (.v (.int _ a)))] => some (.tup [au (L.sq m x a), ai (L.e1 m x a)]) | _ => none)
def cf13 (L : LF) : Ent := (106, fun l => match l with | [.a (.agg [.v (.int _ m), .v (.int _ x)]), .a (.s (.v (.int _ a)))] => some (.tup [au (L.sq m x a), ai (L.e1 m x a)]) | _ => none)
def cf14 (L : LF) : Ent := (33, fun l => match l with | [.a (.agg [.v (.int _ m), .v (.int _ x)]), .a (.s (.v (.int _ a)))] => some (.tup [au (L.st true m x a), ai (L.e1 m x a)]) | _ => none)
def cf15 (L : LF) : Ent := (35, fun l => match l with | [.a (.agg [.v (.int _ m), .v (.int _ x)]), .a (.s (.v (.int _ a)))] => some (.tup [au (L.st true m x a), ai (L.e1 m x a)]) | _ => none)
def cf16 (L : LF) : Ent := (32, fun l => match l with | [.a (.agg [.v (.int _ m), .v (.int _ x)]), .a (.s (.v (.int _ a)))] => some (.tup [au (L.st false m x a), ai (L.e1 m x a)]) | _ => none)
def cf17 (L : LF) : Ent := (36, fun l => match l with | [.a (.agg [.v (.int _ m), .v (.int _ x)]), .a (.s (.v (.int _ a)))] => some (.tup [au (L.st false m x a), ai (L.e1 m x a)]) | _ => none)
def cf18 (L : LF) : Ent := (37, fun l => match l with | [.a (.agg [.v (.int _ m), .v (.int _ x)]), .a (.s (.v (.int _ a))), .a (.s (.v (.bool n)))] => some (.tup [au (L.wh n m x a), ab (L.neg m x a), ai (L.e1 m x a)]) | _ => none)
def cf19 (L : LF) : Ent := (38, fun l => match l with | [.a (.agg [.v (.int _ m), .v (.int _ x)]), .a (.s (.v (.int _ a))), .a (.s (.v (.bool n)))] => some (.tup [au (L.wh n m x a), ab (L.neg m x a), ai (L.e1 m x a)]) | _ => none)
def cf20 (L : LF) : Ent := (31, fun l => match l with | [.a (.agg [.v (.int _ m), .v (.int _ x)]), .a (.s (.v (.int _ a)))] => some (.tup [PA (L.kd m x a) (L.neg m x a) (L.ex m x a) (L.mn m x a), ai (L.e1 m x a)]) | _ => none)
def cf21 (L : LF) : Ent := (93, fun l => match l with | [.a (.agg [.v (.int _ m), .v (.int _ x)]), .a (.s (.v (.int _ a)))] => some (.tup [PA (L.kd m x a) (L.neg m x a) (L.ex m x a) (L.mn m x a), ai (L.e1 m x a)]) | _ => none)
def cf22 (L : LF) : Ent := (39, fun l => match l with | [.a (.agg [.v (.int _ m), .v (.int _ x)]), .a (.agg [.v (.int _ m2), .v (.int _ x2)]), .a (.s (.v (.int _ a)))] => some (.tup [au (L.conv m x m2 x2 a), ai (L.ec m x m2 x2 a)]) | _ => none)
def cf23 (L : LF) : Ent := (117, fun l => match l with | [.a (.agg [.v (.int _ m), .v (.int _ x)]), .a (.agg [.v (.int _ m2), .v (.int _ x2)]), .a (.s (.v (.int _ a)))] => some (.tup [au (L.conv m x m2 x2 a), ai (L.ec m x m2 x2 a)]) | _ => none)
def cf24 (L : LF) : Ent := (28, fun l => match l with | [.a (.agg [.v (.int _ m), .v (.int _ x)])] => some (LU (L.nan m x)) | _ => none)
def cf25 (L : LF) : Ent := (65, fun l => match l with | [.a (.agg [.v (.int _ m), .v (.int _ x)])] => some (LU (L.nan m x)) | _ => none)
def cf26 (L : LF) : Ent := (43, fun l => match l with | [.a (.agg [.v (.int _ m), .v (.int _ x)]), .a (.s (.v (.bool n)))] => some (LU (L.ze m x n)) | _ => none)
def cf27 (L : LF) : Ent := (67, fun l => match l with | [.a (.agg [.v (.int _ m), .v (.int _ x)]), .a (.s (.v (.bool n)))] => some (LU (L.ze m x n)) | _ => none)
def cf28 (L : LF) : Ent := (42, fun l => match l with | [.a (.agg [.v (.int _ m), .v (.int _ x)]), .a (.s (.v (.int _ a)))] => some (LU (L.tu m x a)) | _ => none)
def cf29 (L : LF) : Ent := (29, fun l => match l with | [.a (.agg [.v (.int _ m), .v (.int _ x)])] => some (LI (L.chk m x)) | _ => none)
def cf30 (L : LF) : Ent := (98, fun l => match l with | [.a (.agg [.v (.int _ m), .v (.int _ x)])] => some (LI (L.chk m x)) | _ => none)
def cf31 (L : LF) : Ent := (30, fun l => match l with | [.a (.agg [.v (.int _ m), .v (.int _ x)])] => some (LI (L.bias m x)) | _ => none)
def cf32 (L : LF) : Ent := (34, fun l => match l with | [.a (.agg [.v (.int _ m), .v (.int _ x)]), .a (.s (.v (.bool n))), .a (.s (.v (.int _ h))), .a (.s (.v (.int _ l))), .a (.s (.v (.int _ e))), .a (.s (.v (.bool o)))] => some (.tup [au (L.pk m x n h l e o), ai 0]) | _ => none)
def cf33 (L : LF) : Ent := (69, fun l => match l with | [.a (.agg [.v (.int _ m), .v (.int _ x)]), .a (.s (.v (.bool n))), .a (.s (.v (.int _ h))), .a (.s (.v (.int _ l))), .a (.s (.v (.int _ e))), .a (.s (.v (.bool o)))] => some (.tup [au (L.pk m x n h l e o), ai 0]) | _ => none)
def cf34 (L : LF) : Ent := (23, fun l => match l with | [.a (.s (.v (.int _ z)))] => some (LI z) | _ => none)
def cf35 (L : LF) : Ent := (46, fun l => match l with | [.a (.s (.v (.int _ z)))] => some (LI z) | _ => none)
def cf36 (L : LF) : Ent := (24, fun _ => some (LB L.live))
def cf37 (L : LF) : Ent := (47, fun _ => some (LB L.live))
def cLF (L : LF) : Tab := [cf0 L, cf1 L, cf2 L, cf3 L, cf4 L, cf5 L, cf6 L, cf7 L, cf8 L, cf9 L, cf10 L, cf11 L, cf12 L, cf13 L, cf14 L, cf15 L, cf16 L, cf17 L, cf18 L, cf19 L, cf20 L, cf21 L, cf22 L, cf23 L, cf24 L, cf25 L, cf26 L, cf27 L, cf28 L, cf29 L, cf30 L, cf31 L, cf32 L, cf33 L, cf34 L, cf35 L, cf36 L, cf37 L]
theorem t4 (L : LF) (m x a b : Int) : tree Try.prog 3 (cLF L) 4 [FM m x, LU a, LU b] =
    Tr.call 25 [LV.agg [si m, si x], LU a, LU b] (LV.tup [ai (L.cmp m x a b), ab (L.cok m x a b), ai (L.e2 m x a b)]) (Tr.call 26 [LV.agg [si m, si x], LU a, LU b] (LV.tup [ai (L.cmp m
    x a b), ab (L.cok m x a b), ai (L.e2 m x a b)]) (br (L.cmp m x a b == L.cmp m x a b) (br (L.cok m x a b == L.cok m x a b) (Tr.call 23 [LI (L.e2 m x a b)] (LI (L.e2 m x a b))
    (br (L.e2 m x a b == L.e2 m x a b) (Tr.call 24 [] (LB L.live) (Tr.ret (LB L.live))) (Tr.ret (LB false)))) (Tr.ret (LB false))) (Tr.ret (LB false)))) := by kernel_rfl

theorem t7 (L : LF) (m x a : Int) (near : Bool) : tree Try.prog 3 (cLF L) 7 [FM m x, LU a, LB near] =
    Tr.call 33 [LV.agg [si m, si x], LU a] (LV.tup [au (L.st true m x a), ai (L.e1 m x a)]) (Tr.call 35 [LV.agg [si m, si x], LU a] (LV.tup [au (L.st true m x a), ai (L.e1 m x a)])
    (Tr.call 32 [LV.agg [si m, si x], LU a] (LV.tup [au (L.st false m x a), ai (L.e1 m x a)]) (Tr.call 36 [LV.agg [si m, si x], LU a] (LV.tup [au (L.st false m x a), ai (L.e1 m x
    a)]) (Tr.call 37 [LV.agg [si m, si x], LU a, LB near] (LV.tup [au (L.wh near m x a), ab (L.neg m x a), ai (L.e1 m x a)]) (Tr.call 38 [LV.agg [si m, si x], LU a, LB near]
    (LV.tup [au (L.wh near m x a), ab (L.neg m x a), ai (L.e1 m x a)]) (br (L.st true m x a == L.st true m x a) (Tr.call 23 [LI (L.e1 m x a)] (LI (L.e1 m x a)) (br (L.e1 m x a ==
    L.e1 m x a) (br (L.st false m x a == L.st false m x a) (Tr.call 23 [LI (L.e1 m x a)] (LI (L.e1 m x a)) (br (L.e1 m x a == L.e1 m x a) (br (L.wh near m x a == L.wh near m x a)
    (br (L.neg m x a == L.neg m x a) (Tr.call 23 [LI (L.e1 m x a)] (LI (L.e1 m x a)) (br (L.e1 m x a == L.e1 m x a) (Tr.call 24 [] (LB L.live) (Tr.ret (LB L.live))) (Tr.ret (LB
    false)))) (Tr.ret (LB false))) (Tr.ret (LB false))) (Tr.ret (LB false)))) (Tr.ret (LB false))) (Tr.ret (LB false)))) (Tr.ret (LB false)))))))) := by kernel_rfl

theorem t5 (L : LF) (m x a b c : Int) : tree Try.prog 3 (cLF L) 5 [FM m x, LU a, LU b, LU c] =
    Tr.call 27 [LV.agg [si m, si x], LU a, LU c] (LV.tup [au (L.add m x a c), ai (L.e2 m x a c)]) (Tr.call 27 [LV.agg [si m, si x], LU b, LU c] (LV.tup [au (L.add m x b c), ai (L.e2 m
    x b c)]) (Tr.call 26 [LV.agg [si m, si x], LU a, LU b] (LV.tup [ai (L.cmp m x a b), ab (L.cok m x a b), ai (L.e2 m x a b)]) (Tr.call 26 [LV.agg [si m, si x], LU c, LU c]
    (LV.tup [ai (L.cmp m x c c), ab (L.cok m x c c), ai (L.e2 m x c c)]) (br (L.e2 m x a b != 0) (Tr.call 23 [LI (L.e2 m x a c)] (LI (L.e2 m x a c)) (br (L.e2 m x a c == 1)
    (Tr.call 24 [] (LB L.live) (Tr.ret (LB L.live))) (Tr.call 23 [LI (L.e2 m x b c)] (LI (L.e2 m x b c)) (br (L.e2 m x b c == 1) (Tr.call 24 [] (LB L.live) (Tr.ret (LB L.live)))
    (Tr.ret (LB false)))))) (br (L.e2 m x c c != 0) (Tr.call 23 [LI (L.e2 m x a c)] (LI (L.e2 m x a c)) (br (L.e2 m x a c == 1) (Tr.call 24 [] (LB L.live) (Tr.ret (LB L.live)))
    (Tr.call 23 [LI (L.e2 m x b c)] (LI (L.e2 m x b c)) (br (L.e2 m x b c == 1) (Tr.call 24 [] (LB L.live) (Tr.ret (LB L.live))) (Tr.ret (LB false)))))) (Tr.call 23 [LI (L.e2 m x a
    c)] (LI (L.e2 m x a c)) (Tr.call 23 [LI (L.e2 m x b c)] (LI (L.e2 m x b c)) (br (IntKind.i64.wrap (L.e2 m x a c + L.e2 m x b c) != 0) (Tr.ret (LB false)) (br (!L.cok m x a b)
    (Tr.call 28 [LV.agg [si m, si x]] (LU (L.nan m x)) (br (L.add m x a c == L.nan m x) (Tr.call 24 [] (LB L.live) (Tr.ret (LB L.live))) (Tr.call 28 [LV.agg [si m, si x]] (LU
    (L.nan m x)) (br (L.add m x b c == L.nan m x) (Tr.call 24 [] (LB L.live) (Tr.ret (LB L.live))) (Tr.ret (LB false)))))) (br (!L.cok m x c c) (Tr.call 28 [LV.agg [si m, si x]]
    (LU (L.nan m x)) (br (L.add m x a c == L.nan m x) (Tr.call 24 [] (LB L.live) (Tr.ret (LB L.live))) (Tr.call 28 [LV.agg [si m, si x]] (LU (L.nan m x)) (br (L.add m x b c ==
    L.nan m x) (Tr.call 24 [] (LB L.live) (Tr.ret (LB L.live))) (Tr.ret (LB false)))))) (Tr.call 25 [LV.agg [si m, si x], LU (L.add m x a c), LU (L.add m x b c)] (LV.tup [ai (L.cmp
    m x (L.add m x a c) (L.add m x b c)), ab (L.cok m x (L.add m x a c) (L.add m x b c)), ai (L.e2 m x (L.add m x a c) (L.add m x b c))]) (br (!L.cok m x (L.add m x a c) (L.add m x
    b c)) (Tr.call 24 [] (LB L.live) (Tr.ret (LB L.live))) (br (L.cmp m x a b == 0) (br (L.cmp m x (L.add m x a c) (L.add m x b c) == 0) (Tr.call 24 [] (LB L.live) (Tr.ret (LB
    L.live))) (br (decide (L.cmp m x a b < 0)) (br (decide (L.cmp m x (L.add m x a c) (L.add m x b c) ≤ 0)) (Tr.call 24 [] (LB L.live) (Tr.ret (LB L.live))) (br (decide (L.cmp m x
    a b > 0)) (br (decide (L.cmp m x (L.add m x a c) (L.add m x b c) ≥ 0)) (Tr.call 24 [] (LB L.live) (Tr.ret (LB L.live))) (Tr.ret (LB false))) (Tr.ret (LB false)))) (br (decide
    (L.cmp m x a b > 0)) (br (decide (L.cmp m x (L.add m x a c) (L.add m x b c) ≥ 0)) (Tr.call 24 [] (LB L.live) (Tr.ret (LB L.live))) (Tr.ret (LB false))) (Tr.ret (LB false)))))
    (br (decide (L.cmp m x a b < 0)) (br (decide (L.cmp m x (L.add m x a c) (L.add m x b c) ≤ 0)) (Tr.call 24 [] (LB L.live) (Tr.ret (LB L.live))) (br (decide (L.cmp m x a b > 0))
    (br (decide (L.cmp m x (L.add m x a c) (L.add m x b c) ≥ 0)) (Tr.call 24 [] (LB L.live) (Tr.ret (LB L.live))) (Tr.ret (LB false))) (Tr.ret (LB false)))) (br (decide (L.cmp m x
    a b > 0)) (br (decide (L.cmp m x (L.add m x a c) (L.add m x b c) ≥ 0)) (Tr.call 24 [] (LB L.live) (Tr.ret (LB L.live))) (Tr.ret (LB false))) (Tr.ret (LB false))))))))))))))))) := by kernel_rfl


theorem t6 (L : LF) (m x a : Int) : tree Try.prog 3 (cLF L) 6 [FM m x, LU a] =
    Tr.call 29 [LV.agg [si m, si x]] (LI (L.chk m x)) (br (L.chk m x == 0) (Tr.call 30 [LV.agg [si m, si x]] (LI (L.bias m x)) (br (decide (L.bias m x ≤ m)) (Tr.call 24 [] (LB L.live)
    (Tr.ret (LB L.live))) (Tr.call 31 [LV.agg [si m, si x], LU a] (LV.tup [AV.agg [si (L.kd m x a), sb (L.neg m x a), si (L.ex m x a), su (L.mn m x a)], ai (L.e1 m x a)]) (Tr.call
    32 [LV.agg [si m, si x], LU a] (LV.tup [au (L.st false m x a), ai (L.e1 m x a)]) (Tr.call 33 [LV.agg [si m, si x], LU a] (LV.tup [au (L.st true m x a), ai (L.e1 m x a)]) (br
    (L.e1 m x a != 0) (Tr.call 23 [LI (L.e1 m x a)] (LI (L.e1 m x a)) (br (L.e1 m x a == 1) (Tr.call 23 [LI (L.e1 m x a)] (LI (L.e1 m x a)) (br (L.e1 m x a == 1) (br (L.st false m
    x a == 0) (br (L.st true m x a == 0) (Tr.call 24 [] (LB L.live) (Tr.ret (LB L.live))) (Tr.ret (LB false))) (Tr.ret (LB false))) (Tr.ret (LB false)))) (Tr.ret (LB false)))) (br
    (L.kd m x a == 4) (Tr.call 28 [LV.agg [si m, si x]] (LU (L.nan m x)) (br (L.st false m x a == L.nan m x) (br (L.st true m x a == L.st false m x a) (Tr.call 23 [LI (L.e1 m x a)]
    (LI (L.e1 m x a)) (Tr.call 23 [LI (L.e1 m x a)] (LI (L.e1 m x a)) (br (IntKind.i64.wrap (L.e1 m x a + L.e1 m x a) == 0) (Tr.call 24 [] (LB L.live) (Tr.ret (LB L.live))) (Tr.ret
    (LB false))))) (Tr.ret (LB false))) (Tr.ret (LB false)))) (Tr.call 25 [LV.agg [si m, si x], LU (L.st false m x a), LU a] (LV.tup [ai (L.cmp m x (L.st false m x a) a), ab (L.cok
    m x (L.st false m x a) a), ai (L.e2 m x (L.st false m x a) a)]) (Tr.call 25 [LV.agg [si m, si x], LU a, LU (L.st true m x a)] (LV.tup [ai (L.cmp m x a (L.st true m x a)), ab
    (L.cok m x a (L.st true m x a)), ai (L.e2 m x a (L.st true m x a))]) (Tr.call 32 [LV.agg [si m, si x], LU (L.st false m x a)] (LV.tup [au (L.st false m x (L.st false m x a)),
    ai (L.e1 m x (L.st false m x a))]) (Tr.call 33 [LV.agg [si m, si x], LU (L.st true m x a)] (LV.tup [au (L.st true m x (L.st true m x a)), ai (L.e1 m x (L.st true m x a))])
    (Tr.call 34 [LV.agg [si m, si x], LB false, LU 0, LU 1, LI 0, LB false] (LV.tup [au (L.pk m x false 0 1 0 false), ai 0]) (Tr.call 27 [LV.agg [si m, si x], LU (L.st false m x
    a), LU (L.pk m x false 0 1 0 false)] (LV.tup [au (L.add m x (L.st false m x a) (L.pk m x false 0 1 0 false)), ai (L.e2 m x (L.st false m x a) (L.pk m x false 0 1 0 false))])
    (Tr.call 23 [LI (L.e1 m x a)] (LI (L.e1 m x a)) (Tr.call 23 [LI (L.e1 m x a)] (LI (L.e1 m x a)) (Tr.call 23 [LI (L.e2 m x (L.st false m x a) a)] (LI (L.e2 m x (L.st false m x
    a) a)) (Tr.call 23 [LI (L.e2 m x a (L.st true m x a))] (LI (L.e2 m x a (L.st true m x a))) (Tr.call 23 [LI (L.e1 m x (L.st false m x a))] (LI (L.e1 m x (L.st false m x a)))
    (Tr.call 23 [LI (L.e1 m x (L.st true m x a))] (LI (L.e1 m x (L.st true m x a))) (Tr.call 23 [LI (L.e2 m x (L.st false m x a) (L.pk m x false 0 1 0 false))] (LI (L.e2 m x (L.st
    false m x a) (L.pk m x false 0 1 0 false))) (br (IntKind.i64.wrap (IntKind.i64.wrap (IntKind.i64.wrap (IntKind.i64.wrap (IntKind.i64.wrap (IntKind.i64.wrap (L.e1 m x a + L.e1 m
    x a) + L.e2 m x (L.st false m x a) a) + L.e2 m x a (L.st true m x a)) + L.e1 m x (L.st false m x a)) + L.e1 m x (L.st true m x a)) + L.e2 m x (L.st false m x a) (L.pk m x false
    0 1 0 false)) != 0) (Tr.ret (LB false)) (br (decide (L.cmp m x (L.st false m x a) a > 0)) (Tr.ret (LB false)) (br (decide (L.cmp m x a (L.st true m x a) > 0)) (Tr.ret (LB
    false)) (br (L.st false m x (L.st false m x a) != L.st false m x a) (Tr.ret (LB false)) (br (L.st true m x (L.st true m x a) != L.st true m x a) (Tr.ret (LB false)) (Tr.call 25
    [LV.agg [si m, si x], LU (L.add m x (L.st false m x a) (L.pk m x false 0 1 0 false)), LU (L.st true m x a)] (LV.tup [ai (L.cmp m x (L.add m x (L.st false m x a) (L.pk m x false
    0 1 0 false)) (L.st true m x a)), ab (L.cok m x (L.add m x (L.st false m x a) (L.pk m x false 0 1 0 false)) (L.st true m x a)), ai (L.e2 m x (L.add m x (L.st false m x a) (L.pk
    m x false 0 1 0 false)) (L.st true m x a))]) (br (L.st false m x a == L.st true m x a) (br (L.st false m x a == a) (Tr.call 24 [] (LB L.live) (Tr.ret (LB L.live))) (br (L.cmp m
    x (L.add m x (L.st false m x a) (L.pk m x false 0 1 0 false)) (L.st true m x a) == 0) (Tr.call 24 [] (LB L.live) (Tr.ret (LB L.live))) (Tr.ret (LB false)))) (br (L.cmp m x
    (L.add m x (L.st false m x a) (L.pk m x false 0 1 0 false)) (L.st true m x a) == 0) (Tr.call 24 [] (LB L.live) (Tr.ret (LB L.live))) (Tr.ret (LB
    false)))))))))))))))))))))))))))))) (Tr.call 31 [LV.agg [si m, si x], LU a] (LV.tup [AV.agg [si (L.kd m x a), sb (L.neg m x a), si (L.ex m x a), su (L.mn m x a)], ai (L.e1 m x
    a)]) (Tr.call 32 [LV.agg [si m, si x], LU a] (LV.tup [au (L.st false m x a), ai (L.e1 m x a)]) (Tr.call 33 [LV.agg [si m, si x], LU a] (LV.tup [au (L.st true m x a), ai (L.e1 m
    x a)]) (br (L.e1 m x a != 0) (Tr.call 23 [LI (L.e1 m x a)] (LI (L.e1 m x a)) (br (L.e1 m x a == 1) (Tr.call 23 [LI (L.e1 m x a)] (LI (L.e1 m x a)) (br (L.e1 m x a == 1) (br
    (L.st false m x a == 0) (br (L.st true m x a == 0) (Tr.call 24 [] (LB L.live) (Tr.ret (LB L.live))) (Tr.ret (LB false))) (Tr.ret (LB false))) (Tr.ret (LB false)))) (Tr.ret (LB
    false)))) (br (L.kd m x a == 4) (Tr.call 28 [LV.agg [si m, si x]] (LU (L.nan m x)) (br (L.st false m x a == L.nan m x) (br (L.st true m x a == L.st false m x a) (Tr.call 23 [LI
    (L.e1 m x a)] (LI (L.e1 m x a)) (Tr.call 23 [LI (L.e1 m x a)] (LI (L.e1 m x a)) (br (IntKind.i64.wrap (L.e1 m x a + L.e1 m x a) == 0) (Tr.call 24 [] (LB L.live) (Tr.ret (LB
    L.live))) (Tr.ret (LB false))))) (Tr.ret (LB false))) (Tr.ret (LB false)))) (Tr.call 25 [LV.agg [si m, si x], LU (L.st false m x a), LU a] (LV.tup [ai (L.cmp m x (L.st false m
    x a) a), ab (L.cok m x (L.st false m x a) a), ai (L.e2 m x (L.st false m x a) a)]) (Tr.call 25 [LV.agg [si m, si x], LU a, LU (L.st true m x a)] (LV.tup [ai (L.cmp m x a (L.st
    true m x a)), ab (L.cok m x a (L.st true m x a)), ai (L.e2 m x a (L.st true m x a))]) (Tr.call 32 [LV.agg [si m, si x], LU (L.st false m x a)] (LV.tup [au (L.st false m x (L.st
    false m x a)), ai (L.e1 m x (L.st false m x a))]) (Tr.call 33 [LV.agg [si m, si x], LU (L.st true m x a)] (LV.tup [au (L.st true m x (L.st true m x a)), ai (L.e1 m x (L.st true
    m x a))]) (Tr.call 34 [LV.agg [si m, si x], LB false, LU 0, LU 1, LI 0, LB false] (LV.tup [au (L.pk m x false 0 1 0 false), ai 0]) (Tr.call 27 [LV.agg [si m, si x], LU (L.st
    false m x a), LU (L.pk m x false 0 1 0 false)] (LV.tup [au (L.add m x (L.st false m x a) (L.pk m x false 0 1 0 false)), ai (L.e2 m x (L.st false m x a) (L.pk m x false 0 1 0
    false))]) (Tr.call 23 [LI (L.e1 m x a)] (LI (L.e1 m x a)) (Tr.call 23 [LI (L.e1 m x a)] (LI (L.e1 m x a)) (Tr.call 23 [LI (L.e2 m x (L.st false m x a) a)] (LI (L.e2 m x (L.st
    false m x a) a)) (Tr.call 23 [LI (L.e2 m x a (L.st true m x a))] (LI (L.e2 m x a (L.st true m x a))) (Tr.call 23 [LI (L.e1 m x (L.st false m x a))] (LI (L.e1 m x (L.st false m
    x a))) (Tr.call 23 [LI (L.e1 m x (L.st true m x a))] (LI (L.e1 m x (L.st true m x a))) (Tr.call 23 [LI (L.e2 m x (L.st false m x a) (L.pk m x false 0 1 0 false))] (LI (L.e2 m x
    (L.st false m x a) (L.pk m x false 0 1 0 false))) (br (IntKind.i64.wrap (IntKind.i64.wrap (IntKind.i64.wrap (IntKind.i64.wrap (IntKind.i64.wrap (IntKind.i64.wrap (L.e1 m x a +
    L.e1 m x a) + L.e2 m x (L.st false m x a) a) + L.e2 m x a (L.st true m x a)) + L.e1 m x (L.st false m x a)) + L.e1 m x (L.st true m x a)) + L.e2 m x (L.st false m x a) (L.pk m
    x false 0 1 0 false)) != 0) (Tr.ret (LB false)) (br (decide (L.cmp m x (L.st false m x a) a > 0)) (Tr.ret (LB false)) (br (decide (L.cmp m x a (L.st true m x a) > 0)) (Tr.ret
    (LB false)) (br (L.st false m x (L.st false m x a) != L.st false m x a) (Tr.ret (LB false)) (br (L.st true m x (L.st true m x a) != L.st true m x a) (Tr.ret (LB false))
    (Tr.call 25 [LV.agg [si m, si x], LU (L.add m x (L.st false m x a) (L.pk m x false 0 1 0 false)), LU (L.st true m x a)] (LV.tup [ai (L.cmp m x (L.add m x (L.st false m x a)
    (L.pk m x false 0 1 0 false)) (L.st true m x a)), ab (L.cok m x (L.add m x (L.st false m x a) (L.pk m x false 0 1 0 false)) (L.st true m x a)), ai (L.e2 m x (L.add m x (L.st
    false m x a) (L.pk m x false 0 1 0 false)) (L.st true m x a))]) (br (L.st false m x a == L.st true m x a) (br (L.st false m x a == a) (Tr.call 24 [] (LB L.live) (Tr.ret (LB
    L.live))) (br (L.cmp m x (L.add m x (L.st false m x a) (L.pk m x false 0 1 0 false)) (L.st true m x a) == 0) (Tr.call 24 [] (LB L.live) (Tr.ret (LB L.live))) (Tr.ret (LB
    false)))) (br (L.cmp m x (L.add m x (L.st false m x a) (L.pk m x false 0 1 0 false)) (L.st true m x a) == 0) (Tr.call 24 [] (LB L.live) (Tr.ret (LB L.live))) (Tr.ret (LB
    false))))))))))))))))))))))))))))) := by kernel_rfl


/-- the laws of what they give -/
structure LL (L : LF) : Prop where
  e1 : ∀ (m x : Int) (a : Nat), L.e1 m x a = er1 m x a
  e2 : ∀ (m x : Int) (a b : Nat), L.e2 m x a b = er2 m x a b
  add : ∀ (m x : Int) (a b : Nat), L.add m x a b = (tot2 addN m x a b : Nat)
  sub : ∀ (m x : Int) (a b : Nat), L.sub m x a b = (tot2 subN m x a b : Nat)
  mul : ∀ (m x : Int) (a b : Nat), L.mul m x a b = (tot2 mulN m x a b : Nat)
  div : ∀ (m x : Int) (a b : Nat), L.div m x a b = (tot2 divN m x a b : Nat)
  sq : ∀ (m x : Int) (a : Nat), L.sq m x a = (tot1 sqrtN m x a : Nat)
  cmp : ∀ (m x : Int) (a b : Nat), L.cmp m x a b = totc m x a b
  cok : ∀ (m x : Int) (a b : Nat), L.cok m x a b = toto m x a b
  st : ∀ (u : Bool) (m x : Int) (a : Nat), L.st u m x a = (tot1 (fun M X a => stepN M X a u) m x a : Nat)
  wh : ∀ (u : Bool) (m x : Int) (a : Nat), L.wh u m x a = (tot1 (fun M X a => wholeN M X a u) m x a : Nat)
  neg : ∀ (m x : Int) (a : Nat), L.neg m x a = totn m x a
  kd : ∀ (m x : Int) (a : Nat), L.kd m x a = (tot1 kd m x a : Nat)
  ex : ∀ (m x : Int) (a : Nat), L.ex m x a = tote m x a
  mn : ∀ (m x : Int) (a : Nat), L.mn m x a = (tot1 mn m x a : Nat)
  nan : ∀ M X : Nat, L.nan M X = (nanc M X : Nat)
  ze : ∀ (M X : Nat) (s : Bool), L.ze M X s = (sgn M X s : Nat)
  tu : ∀ (M X a : Nat), L.tu M X a = (turnN M X a : Nat)
  bias : ∀ M X : Nat, L.bias M X = (bia X : Nat)
  chk : ∀ M X : Nat, Okf M X → L.chk M X = 0
  chkb : ∀ m x : Int, (¬ ∃ M X : Nat, m = M ∧ x = X ∧ Okf M X) → L.chk m x = 1
  one : ∀ M X : Nat, L.pk M X false 0 1 0 false = (near M X 1 1 0 : Nat)
  live : L.live = true
theorem lf_ex : ∃ L : LF, LL L := by
  refine ⟨{ e1 := fun m x a => er1 m x a.toNat, e2 := fun m x a b => er2 m x a.toNat b.toNat, add := fun m x a b => (tot2 addN m x a.toNat b.toNat : Nat), sub := fun m x a b => (tot2 subN m x a.toNat b.toNat : Nat), mul := fun m x a b => (tot2 mulN m x a.toNat b.toNat : Nat), div := fun m x a b => (tot2 divN m x a.toNat b.toNat : Nat), mr := fun _ _ _ _ => 0, mq := fun _ _ _ _ => 0, sq := fun m x a => (tot1 sqrtN m x a.toNat : Nat), cmp := fun m x a b => totc m x a.toNat b.toNat, cok := fun m x a b => toto m x a.toNat b.toNat, st := fun u m x a => (tot1 (fun M X a => stepN M X a u) m x a.toNat : Nat), wh := fun u m x a => (tot1 (fun M X a => wholeN M X a u) m x a.toNat : Nat), neg := fun m x a => totn m x a.toNat, kd := fun m x a => (tot1 kd m x a.toNat : Nat), ex := fun m x a => tote m x a.toNat, mn := fun m x a => (tot1 mn m x a.toNat : Nat), ec := fun _ _ _ _ _ => 0, conv := fun _ _ _ _ _ => 0, nan := fun M X => (nanc M.toNat X.toNat : Nat), ze := fun M X s => (sgn M.toNat X.toNat s : Nat), tu := fun M X a => (turnN M.toNat X.toNat a.toNat : Nat), chk := fun m x => @ite _ (∃ M X : Nat, m = M ∧ x = X ∧ Okf M X) (Classical.propDecidable _) 0 1, bias := fun M X => (bia X.toNat : Nat), pk := fun M X _ _ _ _ _ => (near M.toNat X.toNat 1 1 0 : Nat), live := true }, ?_⟩
  exact { e1 := fun _ _ _ => rfl, e2 := fun _ _ _ _ => rfl, add := fun _ _ _ _ => rfl, sub := fun _ _ _ _ => rfl, mul := fun _ _ _ _ => rfl, div := fun _ _ _ _ => rfl, sq := fun _ _ _ => rfl, cmp := fun _ _ _ _ => rfl, cok := fun _ _ _ _ => rfl, st := fun _ _ _ _ => rfl, wh := fun _ _ _ _ => rfl, neg := fun _ _ _ => rfl, kd := fun _ _ _ => rfl, ex := fun _ _ _ => rfl, mn := fun _ _ _ => rfl, nan := fun _ _ => rfl, ze := fun _ _ _ => rfl, tu := fun _ _ _ => rfl, bias := fun _ _ => rfl, chk := fun M X h => if_pos ⟨M, X, rfl, rfl, h⟩, chkb := fun m x h => if_neg h, one := fun _ _ => rfl, live := rfl }
theorem er1_ok (h : okB m x a = true) : er1 m x a = 0 := by unfold er1; rw [h]; rfl
theorem er1_no (h : okB m x a = false) : er1 m x a = 1 := by unfold er1; rw [h]; rfl
theorem er2_ok (h : okB m x a = true) (k : okB m x b = true) : er2 m x a b = 0 := by unfold er2; rw [h, k]; rfl
theorem er2_no1 (h : okB m x a = false) : er2 m x a b = 1 := by unfold er2; rw [h]; rfl
theorem er2_no2 (h : okB m x b = false) : er2 m x a b = 1 := by unfold er2; rw [h, Bool.and_false]; rfl
theorem tot1_ok {F : Nat → Nat → Nat → Nat} (h : okB M X a = true) : tot1 F M X a = F M X a := by unfold tot1; rw [h]; rfl
theorem tot1_no {F : Nat → Nat → Nat → Nat} (h : okB m x a = false) : tot1 F m x a = 0 := by unfold tot1; rw [h]; rfl
theorem tot2_ok {F : Nat → Nat → Nat → Nat → Nat} (h : okB M X a = true) (k : okB M X b = true) : tot2 F M X a b = F M X a b := by unfold tot2; rw [h, k]; rfl
theorem tot2_no1 {F : Nat → Nat → Nat → Nat → Nat} (h : okB m x a = false) : tot2 F m x a b = 0 := by unfold tot2; rw [h]; rfl
theorem tot2_no2 {F : Nat → Nat → Nat → Nat → Nat} (h : okB m x b = false) : tot2 F m x a b = 0 := by unfold tot2; rw [h, Bool.and_false]; rfl
theorem totc_ok (h : okB M X a = true) (k : okB M X b = true) : totc M X a b = cmpN M X a b := by unfold totc; rw [h, k]; rfl
theorem toto_ok (h : okB M X a = true) (k : okB M X b = true) : toto M X a b = !oddN M X a b := by unfold toto; rw [h, k]; rfl
theorem brt (u v : Tr) : br true u v = u := rfl
theorem brf (u v : Tr) : br false u v = v := rfl
theorem beq_same (n : Int) : (n == n) = true := by simp
theorem beqb_same (n : Bool) : (n == n) = true := by simp
/-! ### SoftCompares -/
theorem law_compares (m x : Int) {a b : Nat} (ha : a < 2^64) (hb : b < 2^64) : Cp 4 [FM m x, LU a, LU b] (LB true) := by
  obtain ⟨L, hL⟩ := lf_ex
  refine cp_of (t4 L m x a b) ?_
  simp only [hL.cmp, hL.cok, hL.e2, hL.live, beq_same, beqb_same, brt]
  exact ⟨cmp_all ha hb, cmpR_all ha hb, num3_cn _, live3_cn, rfl⟩
/-! ### SoftWholes -/
theorem law_wholes (m x : Int) (near : Bool) {a : Nat} (ha : a < 2^64) : Cp 7 [FM m x, LU a, LB near] (LB true) := by
  obtain ⟨L, hL⟩ := lf_ex
  refine cp_of (t7 L m x a near) ?_
  simp only [hL.st, hL.wh, hL.neg, hL.e1, hL.live, beq_same, beqb_same, brt]
  exact ⟨ceil_all ha, ceilR_all ha, floor_all ha, floorR_all ha, whole_all near ha, wholeR_all near ha, num3_cn _, num3_cn _, num3_cn _, live3_cn, rfl⟩
end Go.Proofs.Ytpliondhiahhnaa.K
