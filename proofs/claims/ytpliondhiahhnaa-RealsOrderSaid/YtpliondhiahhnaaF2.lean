/- reals and grottoref04: what they give; trees. -/
import Derived.Test.YtpliondhiahhnaaF1
set_option linter.unusedVariables false
namespace Go.Proofs.Ytpliondhiahhnaa.K
open Sx Fl Go Go.RowKit
set_option maxRecDepth 100000
variable {M X : Nat} {a b : Nat}
structure RF where
  rk : Int → Int → Int → Int → Int → Int
  re : Int → Int
  rw : Bool → Int → Int → Int → Int
  hd : Int → Int → Int → Int → Int → Int → Bool
  hw : Bool → Int → Int → Int → Int → Bool
  nr : Int → Int → Int → Int → Int → Bool
  kd : Int → Int → Int → Int
  ba : Int → Int → Int → Int
  of : Int → Int → Int → Int
  ow : Bool → Int → Int
  it : Int → Int → Int → Bool → Int
  iw : Bool → Int → Bool → Int
  na : Int → Int
  wi : Int → Int
  ch : Bool → Int → Int
  hi : Int → Int
  lo : Int → Int
  jo : Int → Int → Int
  fm : Bool → Int
  fx : Bool → Int
def rf0 (R : RF) : Ent := (100, fun l => match l with | [.a (.agg [.v (.int _ m), .v (.int _ x)]), .a (.s (.v (.int _ o))), .a (.s (.v (.int _ a))), .a (.s (.v (.int _ b)))] => some (.tup [aw (R.rk m x o a b), ai (R.re o)]) | _ => none)
def rf1 (R : RF) : Ent := (107, fun l => match l with | [.a (.agg [.v (.int _ m), .v (.int _ x)]), .a (.s (.v (.int _ o))), .a (.s (.v (.int _ a))), .a (.s (.v (.int _ b)))] => some (.tup [au (R.rk m x o a b), ai (R.re o)]) | _ => none)
def rf2 (R : RF) : Ent := (44, fun l => match l with | [.a (.s (.v (.int _ o))), .a (.s (.v (.int _ a))), .a (.s (.v (.int _ b)))] => some (.tup [aw (R.rk 23 8 o a b), ai (R.re o)]) | _ => none)
def rf3 (R : RF) : Ent := (48, fun l => match l with | [.a (.s (.v (.int _ o))), .a (.s (.v (.int _ a))), .a (.s (.v (.int _ b)))] => some (.tup [au (R.rk 52 11 o a b), ai (R.re o)]) | _ => none)
def rf4 (R : RF) : Ent := (45, fun l => match l with | [.a (.s (.v (.bool w))), .a (.s (.v (.int _ o))), .a (.s (.v (.int _ a))), .a (.s (.v (.int _ b)))] => some (.tup [au (R.rw w o a b), ai (R.re o)]) | _ => none)
def rf5 (R : RF) : Ent := (109, fun l => match l with | [.a (.agg [.v (.int _ m), .v (.int _ x)]), .a (.s (.v (.int _ c))), .a (.s (.v (.int _ a))), .a (.s (.v (.int _ b))), .a (.s (.v (.int _ t)))] => some (LB (R.hd m x c a b t)) | _ => none)
def rf6 (R : RF) : Ent := (112, fun l => match l with | [.a (.agg [.v (.int _ m), .v (.int _ x)]), .a (.s (.v (.int _ c))), .a (.s (.v (.int _ a))), .a (.s (.v (.int _ b))), .a (.s (.v (.int _ t)))] => some (LB (R.hd m x c a b t)) | _ => none)
def rf7 (R : RF) : Ent := (49, fun l => match l with | [.a (.s (.v (.int _ c))), .a (.s (.v (.int _ a))), .a (.s (.v (.int _ b))), .a (.s (.v (.int _ t)))] => some (LB (R.hd 23 8 c a b t)) | _ => none)
def rf8 (R : RF) : Ent := (51, fun l => match l with | [.a (.s (.v (.int _ c))), .a (.s (.v (.int _ a))), .a (.s (.v (.int _ b))), .a (.s (.v (.int _ t)))] => some (LB (R.hd 52 11 c a b t)) | _ => none)
def rf9 (R : RF) : Ent := (50, fun l => match l with | [.a (.s (.v (.bool w))), .a (.s (.v (.int _ c))), .a (.s (.v (.int _ a))), .a (.s (.v (.int _ b))), .a (.s (.v (.int _ t)))] => some (LB (R.hw w c a b t)) | _ => none)
def rf10 (R : RF) : Ent := (131, fun l => match l with | [.a (.agg [.v (.int _ m), .v (.int _ x)]), .a (.s (.v (.int _ a))), .a (.s (.v (.int _ b))), .a (.s (.v (.int _ t)))] => some (LB (R.nr m x a b t)) | _ => none)
def rf11 (R : RF) : Ent := (132, fun l => match l with | [.a (.agg [.v (.int _ m), .v (.int _ x)]), .a (.s (.v (.int _ a)))] => some (LI (R.kd m x a)) | _ => none)
def rf12 (R : RF) : Ent := (110, fun l => match l with | [.a (.agg [.v (.int _ m), .v (.int _ x)]), .a (.s (.v (.int _ a)))] => some (LI (R.kd m x a)) | _ => none)
def rf13 (R : RF) : Ent := (111, fun l => match l with | [.a (.agg [.v (.int _ m), .v (.int _ x)]), .a (.s (.v (.int _ a)))] => some (LU (R.ba m x a)) | _ => none)
def rf14 (R : RF) : Ent := (113, fun l => match l with | [.a (.agg [.v (.int _ m), .v (.int _ x)]), .a (.s (.v (.int _ n)))] => some (LW (R.of m x n)) | _ => none)
def rf15 (R : RF) : Ent := (114, fun l => match l with | [.a (.agg [.v (.int _ m), .v (.int _ x)]), .a (.s (.v (.int _ n)))] => some (LU (R.of m x n)) | _ => none)
def rf16 (R : RF) : Ent := (52, fun l => match l with | [.a (.s (.v (.int _ n)))] => some (LW (R.of 23 8 n)) | _ => none)
def rf17 (R : RF) : Ent := (54, fun l => match l with | [.a (.s (.v (.int _ n)))] => some (LU (R.of 52 11 n)) | _ => none)
def rf18 (R : RF) : Ent := (53, fun l => match l with | [.a (.s (.v (.bool w))), .a (.s (.v (.int _ n)))] => some (LU (R.ow w n)) | _ => none)
def rf19 (R : RF) : Ent := (115, fun l => match l with | [.a (.agg [.v (.int _ m), .v (.int _ x)]), .a (.s (.v (.int _ a))), .a (.s (.v (.bool n)))] => some (LW (R.it m x a n)) | _ => none)
def rf20 (R : RF) : Ent := (116, fun l => match l with | [.a (.agg [.v (.int _ m), .v (.int _ x)]), .a (.s (.v (.int _ a))), .a (.s (.v (.bool n)))] => some (LW (R.it m x a n)) | _ => none)
def rf21 (R : RF) : Ent := (55, fun l => match l with | [.a (.s (.v (.int _ a))), .a (.s (.v (.bool n)))] => some (LW (R.it 23 8 a n)) | _ => none)
def rf22 (R : RF) : Ent := (57, fun l => match l with | [.a (.s (.v (.int _ a))), .a (.s (.v (.bool n)))] => some (LW (R.it 52 11 a n)) | _ => none)
def rf23 (R : RF) : Ent := (56, fun l => match l with | [.a (.s (.v (.bool w))), .a (.s (.v (.int _ a))), .a (.s (.v (.bool n)))] => some (LW (R.iw w a n)) | _ => none)
def rf24 (R : RF) : Ent := (58, fun l => match l with | [.a (.s (.v (.int _ a)))] => some (LW (R.na a)) | _ => none)
def rf25 (R : RF) : Ent := (59, fun l => match l with | [.a (.s (.v (.int _ a)))] => some (LU (R.wi a)) | _ => none)
def rf26 (R : RF) : Ent := (61, fun l => match l with | [.a (.s (.v (.bool w))), .a (.s (.v (.int _ a)))] => some (LU (R.ch w a)) | _ => none)
def rf27 (R : RF) : Ent := (60, fun l => match l with | [.a (.s (.v (.int _ a)))] => some (.tup [aw (R.hi a), aw (R.lo a)]) | _ => none)
def rf28 (R : RF) : Ent := (62, fun l => match l with | [.a (.s (.v (.int _ a))), .a (.s (.v (.int _ b)))] => some (LU (R.jo a b)) | _ => none)
def rf29 (R : RF) : Ent := (102, fun l => match l with | [.a (.s (.v (.bool w)))] => some (FM (R.fm w) (R.fx w)) | _ => none)
def rf90 : Ent := (101, fun _ => some (FM 23 8))
def rf91 : Ent := (108, fun _ => some (FM 52 11))
def cRF (R : RF) (L : LF) : Tab := [rf0 R, rf1 R, rf2 R, rf3 R, rf4 R, rf5 R, rf6 R, rf7 R, rf8 R, rf9 R, rf10 R, rf11 R, rf12 R, rf13 R, rf14 R, rf15 R, rf16 R, rf17 R, rf18 R, rf19 R, rf20 R, rf21 R, rf22 R, rf23 R, rf24 R, rf25 R, rf26 R, rf27 R, rf28 R, rf29 R, rf90, rf91] ++ cLF L

theorem t101 (u : Nat) : tree Try.prog 3 [] 101 [] =
    Tr.ret (LV.agg [si 23, si 8]) := by kernel_rfl

theorem t108 (u : Nat) : tree Try.prog 3 [] 108 [] =
    Tr.ret (LV.agg [si 52, si 11]) := by kernel_rfl

theorem t102 (w : Bool) : tree Try.prog 3 [] 102 [LB w] =
    br w (Tr.ret (LV.agg [si 52, si 11])) (Tr.ret (LV.agg [si 23, si 8])) := by kernel_rfl

theorem t100 (R : RF) (L : LF) (m x o a b : Int) : tree Try.prog 3 (cRF R L) 100 [FM m x, LI o, LW a, LW b] =
    br (o == 1) (Tr.call 27 [LV.agg [si m, si x], LU (IntKind.u64.wrap a), LU (IntKind.u64.wrap b)] (LV.tup [au (L.add m x (IntKind.u64.wrap a) (IntKind.u64.wrap b)), ai (L.e2 m x
    (IntKind.u64.wrap a) (IntKind.u64.wrap b))]) (Tr.ret (LV.tup [aw (IntKind.u32.wrap (L.add m x (IntKind.u64.wrap a) (IntKind.u64.wrap b))), ai 0]))) (br (o == 2) (Tr.call 40
    [LV.agg [si m, si x], LU (IntKind.u64.wrap a), LU (IntKind.u64.wrap b)] (LV.tup [au (L.sub m x (IntKind.u64.wrap a) (IntKind.u64.wrap b)), ai (L.e2 m x (IntKind.u64.wrap a)
    (IntKind.u64.wrap b))]) (Tr.ret (LV.tup [aw (IntKind.u32.wrap (L.sub m x (IntKind.u64.wrap a) (IntKind.u64.wrap b))), ai 0]))) (br (o == 3) (Tr.call 19 [LV.agg [si m, si x], LU
    (IntKind.u64.wrap a), LU (IntKind.u64.wrap b)] (LV.tup [au (L.mul m x (IntKind.u64.wrap a) (IntKind.u64.wrap b)), ai (L.e2 m x (IntKind.u64.wrap a) (IntKind.u64.wrap b))])
    (Tr.ret (LV.tup [aw (IntKind.u32.wrap (L.mul m x (IntKind.u64.wrap a) (IntKind.u64.wrap b))), ai 0]))) (br (o == 4) (Tr.call 21 [LV.agg [si m, si x], LU (IntKind.u64.wrap a),
    LU (IntKind.u64.wrap b)] (LV.tup [au (L.div m x (IntKind.u64.wrap a) (IntKind.u64.wrap b)), ai (L.e2 m x (IntKind.u64.wrap a) (IntKind.u64.wrap b))]) (Tr.ret (LV.tup [aw
    (IntKind.u32.wrap (L.div m x (IntKind.u64.wrap a) (IntKind.u64.wrap b))), ai 0]))) (br (o == 5) (Tr.call 79 [LV.agg [si m, si x], LU (IntKind.u64.wrap a), LU (IntKind.u64.wrap
    b)] (LV.tup [au (L.mr m x (IntKind.u64.wrap a) (IntKind.u64.wrap b)), au (L.mq m x (IntKind.u64.wrap a) (IntKind.u64.wrap b)), ai (L.e2 m x (IntKind.u64.wrap a)
    (IntKind.u64.wrap b))]) (Tr.ret (LV.tup [aw (IntKind.u32.wrap (L.mr m x (IntKind.u64.wrap a) (IntKind.u64.wrap b))), ai 0]))) (br (o == 6) (Tr.call 79 [LV.agg [si m, si x], LU
    (IntKind.u64.wrap a), LU (IntKind.u64.wrap b)] (LV.tup [au (L.mr m x (IntKind.u64.wrap a) (IntKind.u64.wrap b)), au (L.mq m x (IntKind.u64.wrap a) (IntKind.u64.wrap b)), ai
    (L.e2 m x (IntKind.u64.wrap a) (IntKind.u64.wrap b))]) (Tr.ret (LV.tup [aw (IntKind.u32.wrap (L.mq m x (IntKind.u64.wrap a) (IntKind.u64.wrap b))), ai 0]))) (br (o == 7)
    (Tr.call 41 [LV.agg [si m, si x], LU (IntKind.u64.wrap a)] (LV.tup [au (L.sq m x (IntKind.u64.wrap a)), ai (L.e1 m x (IntKind.u64.wrap a))]) (Tr.ret (LV.tup [aw
    (IntKind.u32.wrap (L.sq m x (IntKind.u64.wrap a))), ai 0]))) (br (o == 8) (Tr.call 33 [LV.agg [si m, si x], LU (IntKind.u64.wrap a)] (LV.tup [au (L.st true m x
    (IntKind.u64.wrap a)), ai (L.e1 m x (IntKind.u64.wrap a))]) (Tr.ret (LV.tup [aw (IntKind.u32.wrap (L.st true m x (IntKind.u64.wrap a))), ai 0]))) (br (o == 9) (Tr.call 32
    [LV.agg [si m, si x], LU (IntKind.u64.wrap a)] (LV.tup [au (L.st false m x (IntKind.u64.wrap a)), ai (L.e1 m x (IntKind.u64.wrap a))]) (Tr.ret (LV.tup [aw (IntKind.u32.wrap
    (L.st false m x (IntKind.u64.wrap a))), ai 0]))) (Tr.ret (LV.tup [aw 0, ai 1])))))))))) := by kernel_rfl

theorem t107 (R : RF) (L : LF) (m x o a b : Int) : tree Try.prog 3 (cRF R L) 107 [FM m x, LI o, LU a, LU b] =
    br (o == 1) (Tr.call 27 [LV.agg [si m, si x], LU a, LU b] (LV.tup [au (L.add m x a b), ai (L.e2 m x a b)]) (Tr.ret (LV.tup [au (L.add m x a b), ai 0]))) (br (o == 2) (Tr.call 40
    [LV.agg [si m, si x], LU a, LU b] (LV.tup [au (L.sub m x a b), ai (L.e2 m x a b)]) (Tr.ret (LV.tup [au (L.sub m x a b), ai 0]))) (br (o == 3) (Tr.call 19 [LV.agg [si m, si x],
    LU a, LU b] (LV.tup [au (L.mul m x a b), ai (L.e2 m x a b)]) (Tr.ret (LV.tup [au (L.mul m x a b), ai 0]))) (br (o == 4) (Tr.call 21 [LV.agg [si m, si x], LU a, LU b] (LV.tup
    [au (L.div m x a b), ai (L.e2 m x a b)]) (Tr.ret (LV.tup [au (L.div m x a b), ai 0]))) (br (o == 5) (Tr.call 79 [LV.agg [si m, si x], LU a, LU b] (LV.tup [au (L.mr m x a b), au
    (L.mq m x a b), ai (L.e2 m x a b)]) (Tr.ret (LV.tup [au (L.mr m x a b), ai 0]))) (br (o == 6) (Tr.call 79 [LV.agg [si m, si x], LU a, LU b] (LV.tup [au (L.mr m x a b), au (L.mq
    m x a b), ai (L.e2 m x a b)]) (Tr.ret (LV.tup [au (L.mq m x a b), ai 0]))) (br (o == 7) (Tr.call 41 [LV.agg [si m, si x], LU a] (LV.tup [au (L.sq m x a), ai (L.e1 m x a)])
    (Tr.ret (LV.tup [au (L.sq m x a), ai 0]))) (br (o == 8) (Tr.call 33 [LV.agg [si m, si x], LU a] (LV.tup [au (L.st true m x a), ai (L.e1 m x a)]) (Tr.ret (LV.tup [au (L.st true
    m x a), ai 0]))) (br (o == 9) (Tr.call 32 [LV.agg [si m, si x], LU a] (LV.tup [au (L.st false m x a), ai (L.e1 m x a)]) (Tr.ret (LV.tup [au (L.st false m x a), ai 0]))) (Tr.ret
    (LV.tup [au 0, ai 1])))))))))) := by kernel_rfl

theorem t44 (R : RF) (L : LF) (o a b : Int) : tree Try.prog 3 (cRF R L) 44 [LI o, LW a, LW b] =
    Tr.call 101 [] (LV.agg [si 23, si 8]) (Tr.call 100 [LV.agg [si 23, si 8], LI o, LW a, LW b] (LV.tup [aw (R.rk 23 8 o a b), ai (R.re o)]) (Tr.ret (LV.tup [aw (R.rk 23 8 o a b), ai
    (R.re o)]))) := by kernel_rfl

theorem t48 (R : RF) (L : LF) (o a b : Int) : tree Try.prog 3 (cRF R L) 48 [LI o, LU a, LU b] =
    Tr.call 108 [] (LV.agg [si 52, si 11]) (Tr.call 107 [LV.agg [si 52, si 11], LI o, LU a, LU b] (LV.tup [au (R.rk 52 11 o a b), ai (R.re o)]) (Tr.ret (LV.tup [au (R.rk 52 11 o a b),
    ai (R.re o)]))) := by kernel_rfl

theorem t45 (R : RF) (L : LF) (w : Bool) (o a b : Int) : tree Try.prog 3 (cRF R L) 45 [LB w, LI o, LU a, LU b] =
    Tr.call 102 [LB w] (LV.agg [si (R.fm w), si (R.fx w)]) (br (o == 1) (Tr.call 103 [LV.agg [si (R.fm w), si (R.fx w)], LU a, LU b] (LV.tup [au (L.add (R.fm w) (R.fx w) a b), ai (L.e2
    (R.fm w) (R.fx w) a b)]) (Tr.ret (LV.tup [au (L.add (R.fm w) (R.fx w) a b), ai 0]))) (br (o == 2) (Tr.call 104 [LV.agg [si (R.fm w), si (R.fx w)], LU a, LU b] (LV.tup [au
    (L.sub (R.fm w) (R.fx w) a b), ai (L.e2 (R.fm w) (R.fx w) a b)]) (Tr.ret (LV.tup [au (L.sub (R.fm w) (R.fx w) a b), ai 0]))) (br (o == 3) (Tr.call 20 [LV.agg [si (R.fm w), si
    (R.fx w)], LU a, LU b] (LV.tup [au (L.mul (R.fm w) (R.fx w) a b), ai (L.e2 (R.fm w) (R.fx w) a b)]) (Tr.ret (LV.tup [au (L.mul (R.fm w) (R.fx w) a b), ai 0]))) (br (o == 4)
    (Tr.call 22 [LV.agg [si (R.fm w), si (R.fx w)], LU a, LU b] (LV.tup [au (L.div (R.fm w) (R.fx w) a b), ai (L.e2 (R.fm w) (R.fx w) a b)]) (Tr.ret (LV.tup [au (L.div (R.fm w)
    (R.fx w) a b), ai 0]))) (br (o == 5) (Tr.call 105 [LV.agg [si (R.fm w), si (R.fx w)], LU a, LU b] (LV.tup [au (L.mr (R.fm w) (R.fx w) a b), au (L.mq (R.fm w) (R.fx w) a b), ai
    (L.e2 (R.fm w) (R.fx w) a b)]) (Tr.ret (LV.tup [au (L.mr (R.fm w) (R.fx w) a b), ai 0]))) (br (o == 6) (Tr.call 105 [LV.agg [si (R.fm w), si (R.fx w)], LU a, LU b] (LV.tup [au
    (L.mr (R.fm w) (R.fx w) a b), au (L.mq (R.fm w) (R.fx w) a b), ai (L.e2 (R.fm w) (R.fx w) a b)]) (Tr.ret (LV.tup [au (L.mq (R.fm w) (R.fx w) a b), ai 0]))) (br (o == 7)
    (Tr.call 106 [LV.agg [si (R.fm w), si (R.fx w)], LU a] (LV.tup [au (L.sq (R.fm w) (R.fx w) a), ai (L.e1 (R.fm w) (R.fx w) a)]) (Tr.ret (LV.tup [au (L.sq (R.fm w) (R.fx w) a),
    ai 0]))) (br (o == 8) (Tr.call 35 [LV.agg [si (R.fm w), si (R.fx w)], LU a] (LV.tup [au (L.st true (R.fm w) (R.fx w) a), ai (L.e1 (R.fm w) (R.fx w) a)]) (Tr.ret (LV.tup [au
    (L.st true (R.fm w) (R.fx w) a), ai 0]))) (br (o == 9) (Tr.call 36 [LV.agg [si (R.fm w), si (R.fx w)], LU a] (LV.tup [au (L.st false (R.fm w) (R.fx w) a), ai (L.e1 (R.fm w)
    (R.fx w) a)]) (Tr.ret (LV.tup [au (L.st false (R.fm w) (R.fx w) a), ai 0]))) (Tr.ret (LV.tup [au 0, ai 1]))))))))))) := by kernel_rfl

theorem t10 (R : RF) (L : LF) (o a b : Int) : tree Try.prog 3 (cRF R L) 10 [LI o, LW a, LW b] =
    Tr.call 44 [LI o, LW a, LW b] (LV.tup [aw (R.rk 23 8 o a b), ai (R.re o)]) (Tr.call 45 [LB false, LI o, LU (IntKind.u64.wrap a), LU (IntKind.u64.wrap b)] (LV.tup [au (R.rw false o
    (IntKind.u64.wrap a) (IntKind.u64.wrap b)), ai (R.re o)]) (br (IntKind.u64.wrap (R.rk 23 8 o a b) == R.rw false o (IntKind.u64.wrap a) (IntKind.u64.wrap b)) (Tr.call 46 [LI
    (R.re o)] (LI (R.re o)) (br (R.re o == R.re o) (Tr.call 47 [] (LB L.live) (Tr.ret (LB L.live))) (Tr.ret (LB false)))) (Tr.ret (LB false)))) := by kernel_rfl

theorem t11 (R : RF) (L : LF) (o a b : Int) : tree Try.prog 3 (cRF R L) 11 [LI o, LU a, LU b] =
    Tr.call 48 [LI o, LU a, LU b] (LV.tup [au (R.rk 52 11 o a b), ai (R.re o)]) (Tr.call 45 [LB true, LI o, LU a, LU b] (LV.tup [au (R.rw true o a b), ai (R.re o)]) (br (R.rk 52 11 o a
    b == R.rw true o a b) (Tr.call 46 [LI (R.re o)] (LI (R.re o)) (br (R.re o == R.re o) (Tr.call 47 [] (LB L.live) (Tr.ret (LB L.live))) (Tr.ret (LB false)))) (Tr.ret (LB
    false)))) := by kernel_rfl

theorem t47 (R : RF) (L : LF) (u : Nat) : tree Try.prog 3 (cRF R L) 47 [] =
    Tr.call 44 [LI 1, LW 1065353216, LW 1065353216] (LV.tup [aw (R.rk 23 8 1 1065353216 1065353216), ai (R.re 1)]) (Tr.call 48 [LI 3, LU 4613937818241073152, LU 13835058055282163712]
    (LV.tup [au (R.rk 52 11 3 4613937818241073152 13835058055282163712), ai (R.re 3)]) (Tr.call 46 [LI (R.re 1)] (LI (R.re 1)) (Tr.call 46 [LI (R.re 3)] (LI (R.re 3)) (br
    (IntKind.i64.wrap (R.re 1 + R.re 3) == 0) (br (R.rk 23 8 1 1065353216 1065353216 == 1073741824) (br (R.rk 52 11 3 4613937818241073152 13835058055282163712 ==
    13841813454723219456) (Tr.call 52 [LW 4294967295] (LW (R.of 23 8 4294967295)) (br (R.of 23 8 4294967295 == 3212836864) (Tr.call 55 [LW 3223322624, LB true] (LW (R.it 23 8
    3223322624 true)) (br (R.it 23 8 3223322624 true == 4294967293) (Tr.call 55 [LW 4286578688, LB false] (LW (R.it 23 8 4286578688 false)) (br (R.it 23 8 4286578688 false ==
    2147483648) (Tr.call 59 [LW 1065353216] (LU (R.wi 1065353216)) (br (R.wi 1065353216 == 4607182418800017408) (Tr.call 49 [LI 1, LW 1065353216, LW 1069547520, LW 3204448256] (LB
    (R.hd 23 8 1 1065353216 1069547520 3204448256)) (Tr.ret (LB (R.hd 23 8 1 1065353216 1069547520 3204448256)))) (Tr.ret (LB false)))) (Tr.ret (LB false)))) (Tr.ret (LB false))))
    (Tr.ret (LB false)))) (Tr.ret (LB false))) (Tr.ret (LB false))) (Tr.ret (LB false)))))) := by kernel_rfl

theorem t113 (R : RF) (L : LF) (m x n : Int) : tree Try.prog 3 (cRF R L) 113 [FM m x, LW n] =
    br (shr IntKind.u32 n 31 == 1) (Tr.call 69 [LV.agg [si m, si x], LB (shr IntKind.u32 n 31 == 1), LU 0, LU (IntKind.u64.wrap (4294967296 - IntKind.u64.wrap n)), LI 0, LB false]
    (LV.tup [au (L.pk m x (shr IntKind.u32 n 31 == 1) 0 (IntKind.u64.wrap (4294967296 - IntKind.u64.wrap n)) 0 false), ai 0]) (Tr.ret (LW (IntKind.u32.wrap (L.pk m x (shr
    IntKind.u32 n 31 == 1) 0 (IntKind.u64.wrap (4294967296 - IntKind.u64.wrap n)) 0 false))))) (Tr.call 69 [LV.agg [si m, si x], LB (shr IntKind.u32 n 31 == 1), LU 0, LU
    (IntKind.u64.wrap n), LI 0, LB false] (LV.tup [au (L.pk m x (shr IntKind.u32 n 31 == 1) 0 (IntKind.u64.wrap n) 0 false), ai 0]) (Tr.ret (LW (IntKind.u32.wrap (L.pk m x (shr
    IntKind.u32 n 31 == 1) 0 (IntKind.u64.wrap n) 0 false))))) := by kernel_rfl

theorem t114 (R : RF) (L : LF) (m x n : Int) : tree Try.prog 3 (cRF R L) 114 [FM m x, LW n] =
    br (shr IntKind.u32 n 31 == 1) (Tr.call 69 [LV.agg [si m, si x], LB (shr IntKind.u32 n 31 == 1), LU 0, LU (IntKind.u64.wrap (4294967296 - IntKind.u64.wrap n)), LI 0, LB false]
    (LV.tup [au (L.pk m x (shr IntKind.u32 n 31 == 1) 0 (IntKind.u64.wrap (4294967296 - IntKind.u64.wrap n)) 0 false), ai 0]) (Tr.ret (LU (L.pk m x (shr IntKind.u32 n 31 == 1) 0
    (IntKind.u64.wrap (4294967296 - IntKind.u64.wrap n)) 0 false)))) (Tr.call 69 [LV.agg [si m, si x], LB (shr IntKind.u32 n 31 == 1), LU 0, LU (IntKind.u64.wrap n), LI 0, LB
    false] (LV.tup [au (L.pk m x (shr IntKind.u32 n 31 == 1) 0 (IntKind.u64.wrap n) 0 false), ai 0]) (Tr.ret (LU (L.pk m x (shr IntKind.u32 n 31 == 1) 0 (IntKind.u64.wrap n) 0
    false)))) := by kernel_rfl

theorem t52 (R : RF) (L : LF) (n : Int) : tree Try.prog 3 (cRF R L) 52 [LW n] =
    Tr.call 101 [] (LV.agg [si 23, si 8]) (Tr.call 113 [LV.agg [si 23, si 8], LW n] (LW (R.of 23 8 n)) (Tr.ret (LW (R.of 23 8 n)))) := by kernel_rfl

theorem t54 (R : RF) (L : LF) (n : Int) : tree Try.prog 3 (cRF R L) 54 [LW n] =
    Tr.call 108 [] (LV.agg [si 52, si 11]) (Tr.call 114 [LV.agg [si 52, si 11], LW n] (LU (R.of 52 11 n)) (Tr.ret (LU (R.of 52 11 n)))) := by kernel_rfl

theorem t115 (R : RF) (L : LF) (m x a : Int) (n : Bool) : tree Try.prog 3 (cRF R L) 115 [FM m x, LW a, LB n] =
    Tr.call 37 [LV.agg [si m, si x], LU (IntKind.u64.wrap a), LB n] (LV.tup [au (L.wh n m x (IntKind.u64.wrap a)), ab (L.neg m x (IntKind.u64.wrap a)), ai (L.e1 m x (IntKind.u64.wrap
    a))]) (br (L.neg m x (IntKind.u64.wrap a)) (Tr.ret (LW (IntKind.u32.wrap (0 - IntKind.u32.wrap (if 2147483648 < L.wh n m x (IntKind.u64.wrap a) then 2147483648 else L.wh n m x
    (IntKind.u64.wrap a)))))) (Tr.ret (LW (IntKind.u32.wrap (if 2147483647 < L.wh n m x (IntKind.u64.wrap a) then 2147483647 else L.wh n m x (IntKind.u64.wrap a)))))) := by kernel_rfl

theorem t116 (R : RF) (L : LF) (m x a : Int) (n : Bool) : tree Try.prog 3 (cRF R L) 116 [FM m x, LU a, LB n] =
    Tr.call 37 [LV.agg [si m, si x], LU a, LB n] (LV.tup [au (L.wh n m x a), ab (L.neg m x a), ai (L.e1 m x a)]) (br (L.neg m x a) (Tr.ret (LW (IntKind.u32.wrap (0 - IntKind.u32.wrap
    (if 2147483648 < L.wh n m x a then 2147483648 else L.wh n m x a))))) (Tr.ret (LW (IntKind.u32.wrap (if 2147483647 < L.wh n m x a then 2147483647 else L.wh n m x a))))) := by kernel_rfl

theorem t55 (R : RF) (L : LF) (a : Int) (n : Bool) : tree Try.prog 3 (cRF R L) 55 [LW a, LB n] =
    Tr.call 101 [] (LV.agg [si 23, si 8]) (Tr.call 115 [LV.agg [si 23, si 8], LW a, LB n] (LW (R.it 23 8 a n)) (Tr.ret (LW (R.it 23 8 a n)))) := by kernel_rfl

theorem t57 (R : RF) (L : LF) (a : Int) (n : Bool) : tree Try.prog 3 (cRF R L) 57 [LU a, LB n] =
    Tr.call 108 [] (LV.agg [si 52, si 11]) (Tr.call 116 [LV.agg [si 52, si 11], LU a, LB n] (LW (R.it 52 11 a n)) (Tr.ret (LW (R.it 52 11 a n)))) := by kernel_rfl

theorem t56 (R : RF) (L : LF) (w : Bool) (a : Int) (n : Bool) : tree Try.prog 3 (cRF R L) 56 [LB w, LU a, LB n] =
    Tr.call 102 [LB w] (LV.agg [si (R.fm w), si (R.fx w)]) (Tr.call 38 [LV.agg [si (R.fm w), si (R.fx w)], LU a, LB n] (LV.tup [au (L.wh n (R.fm w) (R.fx w) a), ab (L.neg (R.fm w)
    (R.fx w) a), ai (L.e1 (R.fm w) (R.fx w) a)]) (br (L.neg (R.fm w) (R.fx w) a) (br (decide (L.wh n (R.fm w) (R.fx w) a ≥ 2147483648)) (Tr.ret (LW 2147483648)) (br (L.neg (R.fm w)
    (R.fx w) a) (br (decide (L.wh n (R.fm w) (R.fx w) a > 0)) (Tr.ret (LW (IntKind.u32.wrap (IntKind.u64.wrap (4294967296 - L.wh n (R.fm w) (R.fx w) a))))) (br (decide (L.wh n
    (R.fm w) (R.fx w) a ≥ 2147483648)) (Tr.ret (LW 2147483647)) (Tr.ret (LW (IntKind.u32.wrap (L.wh n (R.fm w) (R.fx w) a)))))) (br (decide (L.wh n (R.fm w) (R.fx w) a ≥
    2147483648)) (Tr.ret (LW 2147483647)) (Tr.ret (LW (IntKind.u32.wrap (L.wh n (R.fm w) (R.fx w) a))))))) (br (L.neg (R.fm w) (R.fx w) a) (br (decide (L.wh n (R.fm w) (R.fx w) a >
    0)) (Tr.ret (LW (IntKind.u32.wrap (IntKind.u64.wrap (4294967296 - L.wh n (R.fm w) (R.fx w) a))))) (br (decide (L.wh n (R.fm w) (R.fx w) a ≥ 2147483648)) (Tr.ret (LW
    2147483647)) (Tr.ret (LW (IntKind.u32.wrap (L.wh n (R.fm w) (R.fx w) a)))))) (br (decide (L.wh n (R.fm w) (R.fx w) a ≥ 2147483648)) (Tr.ret (LW 2147483647)) (Tr.ret (LW
    (IntKind.u32.wrap (L.wh n (R.fm w) (R.fx w) a)))))))) := by kernel_rfl

theorem t58 (R : RF) (L : LF) (a : Int) : tree Try.prog 3 (cRF R L) 58 [LU a] =
    Tr.call 108 [] (LV.agg [si 52, si 11]) (Tr.call 101 [] (LV.agg [si 23, si 8]) (Tr.call 39 [LV.agg [si 52, si 11], LV.agg [si 23, si 8], LU a] (LV.tup [au (L.conv 52 11 23 8 a), ai
    (L.ec 52 11 23 8 a)]) (Tr.ret (LW (IntKind.u32.wrap (L.conv 52 11 23 8 a)))))) := by kernel_rfl

theorem t59 (R : RF) (L : LF) (a : Int) : tree Try.prog 3 (cRF R L) 59 [LW a] =
    Tr.call 101 [] (LV.agg [si 23, si 8]) (Tr.call 108 [] (LV.agg [si 52, si 11]) (Tr.call 39 [LV.agg [si 23, si 8], LV.agg [si 52, si 11], LU (IntKind.u64.wrap a)] (LV.tup [au (L.conv
    23 8 52 11 (IntKind.u64.wrap a)), ai (L.ec 23 8 52 11 (IntKind.u64.wrap a))]) (Tr.ret (LU (L.conv 23 8 52 11 (IntKind.u64.wrap a)))))) := by kernel_rfl

theorem t61 (R : RF) (L : LF) (w : Bool) (a : Int) : tree Try.prog 3 (cRF R L) 61 [LB w, LU a] =
    Tr.call 102 [LB !w] (LV.agg [si (R.fm !w), si (R.fx !w)]) (Tr.call 102 [LB w] (LV.agg [si (R.fm w), si (R.fx w)]) (Tr.call 117 [LV.agg [si (R.fm !w), si (R.fx !w)], LV.agg [si
    (R.fm w), si (R.fx w)], LU a] (LV.tup [au (L.conv (R.fm !w) (R.fx !w) (R.fm w) (R.fx w) a), ai (L.ec (R.fm !w) (R.fx !w) (R.fm w) (R.fx w) a)]) (Tr.ret (LU (L.conv (R.fm !w)
    (R.fx !w) (R.fm w) (R.fx w) a))))) := by kernel_rfl

theorem t60 (R : RF) (L : LF) (a : Int) : tree Try.prog 3 (cRF R L) 60 [LU a] =
    Tr.ret (LV.tup [aw (IntKind.u32.wrap (shr IntKind.u64 a 32)), aw (IntKind.u32.wrap a)]) := by kernel_rfl

theorem t62 (R : RF) (L : LF) (a b : Int) : tree Try.prog 3 (cRF R L) 62 [LW a, LW b] =
    Tr.ret (LU (bits BinOp.or IntKind.u64 (shl IntKind.u64 (IntKind.u64.wrap a) 32) (IntKind.u64.wrap b))) := by kernel_rfl

theorem t109 (R : RF) (L : LF) (m x c a b t : Int) : tree Try.prog 3 (cRF R L) 109 [FM m x, LI c, LW a, LW b, LW t] =
    Tr.call 25 [LV.agg [si m, si x], LU (IntKind.u64.wrap a), LU (IntKind.u64.wrap b)] (LV.tup [ai (L.cmp m x (IntKind.u64.wrap a) (IntKind.u64.wrap b)), ab (L.cok m x
    (IntKind.u64.wrap a) (IntKind.u64.wrap b)), ai (L.e2 m x (IntKind.u64.wrap a) (IntKind.u64.wrap b))]) (br (c == 1) (Tr.call 131 [LV.agg [si m, si x], LU (IntKind.u64.wrap a),
    LU (IntKind.u64.wrap b), LU (IntKind.u64.wrap t)] (LB (R.nr m x (IntKind.u64.wrap a) (IntKind.u64.wrap b) (IntKind.u64.wrap t))) (Tr.ret (LB (R.nr m x (IntKind.u64.wrap a)
    (IntKind.u64.wrap b) (IntKind.u64.wrap t))))) (br (c == 2) (Tr.call 131 [LV.agg [si m, si x], LU (IntKind.u64.wrap a), LU (IntKind.u64.wrap b), LU (IntKind.u64.wrap t)] (LB
    (R.nr m x (IntKind.u64.wrap a) (IntKind.u64.wrap b) (IntKind.u64.wrap t))) (Tr.ret (LB (!R.nr m x (IntKind.u64.wrap a) (IntKind.u64.wrap b) (IntKind.u64.wrap t))))) (br (c ==
    3) (br (L.cok m x (IntKind.u64.wrap a) (IntKind.u64.wrap b)) (Tr.ret (LB (decide (L.cmp m x (IntKind.u64.wrap a) (IntKind.u64.wrap b) < 0)))) (Tr.ret (LB false))) (br (c == 4)
    (br (L.cok m x (IntKind.u64.wrap a) (IntKind.u64.wrap b)) (Tr.ret (LB (decide (L.cmp m x (IntKind.u64.wrap a) (IntKind.u64.wrap b) ≤ 0)))) (Tr.ret (LB false))) (br (c == 5) (br
    (L.cok m x (IntKind.u64.wrap a) (IntKind.u64.wrap b)) (Tr.ret (LB (decide (L.cmp m x (IntKind.u64.wrap a) (IntKind.u64.wrap b) > 0)))) (Tr.ret (LB false))) (br (c == 6) (br
    (L.cok m x (IntKind.u64.wrap a) (IntKind.u64.wrap b)) (Tr.ret (LB (decide (L.cmp m x (IntKind.u64.wrap a) (IntKind.u64.wrap b) ≥ 0)))) (Tr.ret (LB false))) (br (c == 7)
    (Tr.call 132 [LV.agg [si m, si x], LU (IntKind.u64.wrap a)] (LI (R.kd m x (IntKind.u64.wrap a))) (Tr.ret (LB (R.kd m x (IntKind.u64.wrap a) == 4)))) (br (c == 8) (Tr.call 132
    [LV.agg [si m, si x], LU (IntKind.u64.wrap a)] (LI (R.kd m x (IntKind.u64.wrap a))) (Tr.ret (LB (R.kd m x (IntKind.u64.wrap a) == 3)))) (Tr.ret (LB false)))))))))) := by kernel_rfl

theorem t112 (R : RF) (L : LF) (m x c a b t : Int) : tree Try.prog 3 (cRF R L) 112 [FM m x, LI c, LU a, LU b, LU t] =
    Tr.call 25 [LV.agg [si m, si x], LU a, LU b] (LV.tup [ai (L.cmp m x a b), ab (L.cok m x a b), ai (L.e2 m x a b)]) (br (c == 1) (Tr.call 131 [LV.agg [si m, si x], LU a, LU b, LU t]
    (LB (R.nr m x a b t)) (Tr.ret (LB (R.nr m x a b t)))) (br (c == 2) (Tr.call 131 [LV.agg [si m, si x], LU a, LU b, LU t] (LB (R.nr m x a b t)) (Tr.ret (LB (!R.nr m x a b t))))
    (br (c == 3) (br (L.cok m x a b) (Tr.ret (LB (decide (L.cmp m x a b < 0)))) (Tr.ret (LB false))) (br (c == 4) (br (L.cok m x a b) (Tr.ret (LB (decide (L.cmp m x a b ≤ 0))))
    (Tr.ret (LB false))) (br (c == 5) (br (L.cok m x a b) (Tr.ret (LB (decide (L.cmp m x a b > 0)))) (Tr.ret (LB false))) (br (c == 6) (br (L.cok m x a b) (Tr.ret (LB (decide
    (L.cmp m x a b ≥ 0)))) (Tr.ret (LB false))) (br (c == 7) (Tr.call 132 [LV.agg [si m, si x], LU a] (LI (R.kd m x a)) (Tr.ret (LB (R.kd m x a == 4)))) (br (c == 8) (Tr.call 132
    [LV.agg [si m, si x], LU a] (LI (R.kd m x a)) (Tr.ret (LB (R.kd m x a == 3)))) (Tr.ret (LB false)))))))))) := by kernel_rfl

theorem t49 (R : RF) (L : LF) (c a b t : Int) : tree Try.prog 3 (cRF R L) 49 [LI c, LW a, LW b, LW t] =
    Tr.call 101 [] (LV.agg [si 23, si 8]) (Tr.call 109 [LV.agg [si 23, si 8], LI c, LW a, LW b, LW t] (LB (R.hd 23 8 c a b t)) (Tr.ret (LB (R.hd 23 8 c a b t)))) := by kernel_rfl

theorem t51 (R : RF) (L : LF) (c a b t : Int) : tree Try.prog 3 (cRF R L) 51 [LI c, LU a, LU b, LU t] =
    Tr.call 108 [] (LV.agg [si 52, si 11]) (Tr.call 112 [LV.agg [si 52, si 11], LI c, LU a, LU b, LU t] (LB (R.hd 52 11 c a b t)) (Tr.ret (LB (R.hd 52 11 c a b t)))) := by kernel_rfl

theorem t50 (R : RF) (L : LF) (w : Bool) (c a b t : Int) : tree Try.prog 3 (cRF R L) 50 [LB w, LI c, LU a, LU b, LU t] =
    Tr.call 102 [LB w] (LV.agg [si (R.fm w), si (R.fx w)]) (Tr.call 26 [LV.agg [si (R.fm w), si (R.fx w)], LU a, LU b] (LV.tup [ai (L.cmp (R.fm w) (R.fx w) a b), ab (L.cok (R.fm w)
    (R.fx w) a b), ai (L.e2 (R.fm w) (R.fx w) a b)]) (br (c == 1) (br (!L.cok (R.fm w) (R.fx w) a b) (Tr.ret (LB false)) (Tr.call 110 [LV.agg [si (R.fm w), si (R.fx w)], LU t] (LI
    (R.kd (R.fm w) (R.fx w) t)) (br (R.kd (R.fm w) (R.fx w) t == 4) (Tr.ret (LB false)) (Tr.call 110 [LV.agg [si (R.fm w), si (R.fx w)], LU a] (LI (R.kd (R.fm w) (R.fx w) a)) (br
    (R.kd (R.fm w) (R.fx w) a == 3) (Tr.call 110 [LV.agg [si (R.fm w), si (R.fx w)], LU b] (LI (R.kd (R.fm w) (R.fx w) b)) (br (R.kd (R.fm w) (R.fx w) b == 3) (Tr.ret (LB (a ==
    b))) (Tr.call 104 [LV.agg [si (R.fm w), si (R.fx w)], LU a, LU b] (LV.tup [au (L.sub (R.fm w) (R.fx w) a b), ai (L.e2 (R.fm w) (R.fx w) a b)]) (Tr.call 111 [LV.agg [si (R.fm
    w), si (R.fx w)], LU (L.sub (R.fm w) (R.fx w) a b)] (LU (R.ba (R.fm w) (R.fx w) (L.sub (R.fm w) (R.fx w) a b))) (Tr.call 111 [LV.agg [si (R.fm w), si (R.fx w)], LU t] (LU (R.ba
    (R.fm w) (R.fx w) t)) (Tr.call 26 [LV.agg [si (R.fm w), si (R.fx w)], LU (R.ba (R.fm w) (R.fx w) (L.sub (R.fm w) (R.fx w) a b)), LU (R.ba (R.fm w) (R.fx w) t)] (LV.tup [ai
    (L.cmp (R.fm w) (R.fx w) (R.ba (R.fm w) (R.fx w) (L.sub (R.fm w) (R.fx w) a b)) (R.ba (R.fm w) (R.fx w) t)), ab (L.cok (R.fm w) (R.fx w) (R.ba (R.fm w) (R.fx w) (L.sub (R.fm w)
    (R.fx w) a b)) (R.ba (R.fm w) (R.fx w) t)), ai (L.e2 (R.fm w) (R.fx w) (R.ba (R.fm w) (R.fx w) (L.sub (R.fm w) (R.fx w) a b)) (R.ba (R.fm w) (R.fx w) t))]) (Tr.ret (LB (decide
    (L.cmp (R.fm w) (R.fx w) (R.ba (R.fm w) (R.fx w) (L.sub (R.fm w) (R.fx w) a b)) (R.ba (R.fm w) (R.fx w) t) ≤ 0)))))))))) (Tr.call 104 [LV.agg [si (R.fm w), si (R.fx w)], LU a,
    LU b] (LV.tup [au (L.sub (R.fm w) (R.fx w) a b), ai (L.e2 (R.fm w) (R.fx w) a b)]) (Tr.call 111 [LV.agg [si (R.fm w), si (R.fx w)], LU (L.sub (R.fm w) (R.fx w) a b)] (LU (R.ba
    (R.fm w) (R.fx w) (L.sub (R.fm w) (R.fx w) a b))) (Tr.call 111 [LV.agg [si (R.fm w), si (R.fx w)], LU t] (LU (R.ba (R.fm w) (R.fx w) t)) (Tr.call 26 [LV.agg [si (R.fm w), si
    (R.fx w)], LU (R.ba (R.fm w) (R.fx w) (L.sub (R.fm w) (R.fx w) a b)), LU (R.ba (R.fm w) (R.fx w) t)] (LV.tup [ai (L.cmp (R.fm w) (R.fx w) (R.ba (R.fm w) (R.fx w) (L.sub (R.fm
    w) (R.fx w) a b)) (R.ba (R.fm w) (R.fx w) t)), ab (L.cok (R.fm w) (R.fx w) (R.ba (R.fm w) (R.fx w) (L.sub (R.fm w) (R.fx w) a b)) (R.ba (R.fm w) (R.fx w) t)), ai (L.e2 (R.fm w)
    (R.fx w) (R.ba (R.fm w) (R.fx w) (L.sub (R.fm w) (R.fx w) a b)) (R.ba (R.fm w) (R.fx w) t))]) (Tr.ret (LB (decide (L.cmp (R.fm w) (R.fx w) (R.ba (R.fm w) (R.fx w) (L.sub (R.fm
    w) (R.fx w) a b)) (R.ba (R.fm w) (R.fx w) t) ≤ 0))))))))))))) (br (c == 2) (Tr.call 50 [LB w, LI 1, LU a, LU b, LU t] (LB (R.hw w 1 a b t)) (Tr.ret (LB (!R.hw w 1 a b t)))) (br
    (c == 3) (br (L.cok (R.fm w) (R.fx w) a b) (Tr.ret (LB (decide (L.cmp (R.fm w) (R.fx w) a b < 0)))) (Tr.ret (LB false))) (br (c == 4) (br (L.cok (R.fm w) (R.fx w) a b) (Tr.ret
    (LB (decide (L.cmp (R.fm w) (R.fx w) a b ≤ 0)))) (Tr.ret (LB false))) (br (c == 5) (br (L.cok (R.fm w) (R.fx w) a b) (Tr.ret (LB (decide (L.cmp (R.fm w) (R.fx w) a b > 0))))
    (Tr.ret (LB false))) (br (c == 6) (br (L.cok (R.fm w) (R.fx w) a b) (Tr.ret (LB (decide (L.cmp (R.fm w) (R.fx w) a b ≥ 0)))) (Tr.ret (LB false))) (br (c == 7) (Tr.call 110
    [LV.agg [si (R.fm w), si (R.fx w)], LU a] (LI (R.kd (R.fm w) (R.fx w) a)) (Tr.ret (LB (R.kd (R.fm w) (R.fx w) a == 4)))) (br (c == 8) (Tr.call 110 [LV.agg [si (R.fm w), si
    (R.fx w)], LU a] (LI (R.kd (R.fm w) (R.fx w) a)) (Tr.ret (LB (R.kd (R.fm w) (R.fx w) a == 3)))) (Tr.ret (LB false))))))))))) := by kernel_rfl

theorem t131 (R : RF) (L : LF) (m x a b t : Int) : tree Try.prog 3 (cRF R L) 131 [FM m x, LU a, LU b, LU t] =
    Tr.call 132 [LV.agg [si m, si x], LU a] (LI (R.kd m x a)) (br (R.kd m x a == 4) (Tr.ret (LB false)) (Tr.call 132 [LV.agg [si m, si x], LU b] (LI (R.kd m x b)) (br (R.kd m x b == 4)
    (Tr.ret (LB false)) (Tr.call 132 [LV.agg [si m, si x], LU t] (LI (R.kd m x t)) (br (R.kd m x t == 4) (Tr.ret (LB false)) (Tr.call 132 [LV.agg [si m, si x], LU a] (LI (R.kd m x
    a)) (br (R.kd m x a == 3) (Tr.call 132 [LV.agg [si m, si x], LU b] (LI (R.kd m x b)) (br (R.kd m x b == 3) (Tr.ret (LB (a == b))) (Tr.call 67 [LV.agg [si m, si x], LB true] (LU
    (L.ze m x true)) (Tr.call 40 [LV.agg [si m, si x], LU a, LU b] (LV.tup [au (L.sub m x a b), ai (L.e2 m x a b)]) (Tr.call 25 [LV.agg [si m, si x], LU (IntKind.u64.wrap
    (((BitVec.ofInt IntKind.u64.bits (L.sub m x a b) &&& ~~~BitVec.ofInt IntKind.u64.bits (L.ze m x true)).toNat : Nat) : Int)), LU (IntKind.u64.wrap (((BitVec.ofInt
    IntKind.u64.bits t &&& ~~~BitVec.ofInt IntKind.u64.bits (L.ze m x true)).toNat : Nat) : Int))] (LV.tup [ai (L.cmp m x (IntKind.u64.wrap (((BitVec.ofInt IntKind.u64.bits (L.sub
    m x a b) &&& ~~~BitVec.ofInt IntKind.u64.bits (L.ze m x true)).toNat : Nat) : Int)) (IntKind.u64.wrap (((BitVec.ofInt IntKind.u64.bits t &&& ~~~BitVec.ofInt IntKind.u64.bits
    (L.ze m x true)).toNat : Nat) : Int))), ab (L.cok m x (IntKind.u64.wrap (((BitVec.ofInt IntKind.u64.bits (L.sub m x a b) &&& ~~~BitVec.ofInt IntKind.u64.bits (L.ze m x
    true)).toNat : Nat) : Int)) (IntKind.u64.wrap (((BitVec.ofInt IntKind.u64.bits t &&& ~~~BitVec.ofInt IntKind.u64.bits (L.ze m x true)).toNat : Nat) : Int))), ai (L.e2 m x
    (IntKind.u64.wrap (((BitVec.ofInt IntKind.u64.bits (L.sub m x a b) &&& ~~~BitVec.ofInt IntKind.u64.bits (L.ze m x true)).toNat : Nat) : Int)) (IntKind.u64.wrap (((BitVec.ofInt
    IntKind.u64.bits t &&& ~~~BitVec.ofInt IntKind.u64.bits (L.ze m x true)).toNat : Nat) : Int)))]) (br (L.cok m x (IntKind.u64.wrap (((BitVec.ofInt IntKind.u64.bits (L.sub m x a
    b) &&& ~~~BitVec.ofInt IntKind.u64.bits (L.ze m x true)).toNat : Nat) : Int)) (IntKind.u64.wrap (((BitVec.ofInt IntKind.u64.bits t &&& ~~~BitVec.ofInt IntKind.u64.bits (L.ze m
    x true)).toNat : Nat) : Int))) (Tr.ret (LB (decide (L.cmp m x (IntKind.u64.wrap (((BitVec.ofInt IntKind.u64.bits (L.sub m x a b) &&& ~~~BitVec.ofInt IntKind.u64.bits (L.ze m x
    true)).toNat : Nat) : Int)) (IntKind.u64.wrap (((BitVec.ofInt IntKind.u64.bits t &&& ~~~BitVec.ofInt IntKind.u64.bits (L.ze m x true)).toNat : Nat) : Int)) ≤ 0)))) (Tr.ret (LB
    false)))))))) (Tr.call 67 [LV.agg [si m, si x], LB true] (LU (L.ze m x true)) (Tr.call 40 [LV.agg [si m, si x], LU a, LU b] (LV.tup [au (L.sub m x a b), ai (L.e2 m x a b)])
    (Tr.call 25 [LV.agg [si m, si x], LU (IntKind.u64.wrap (((BitVec.ofInt IntKind.u64.bits (L.sub m x a b) &&& ~~~BitVec.ofInt IntKind.u64.bits (L.ze m x true)).toNat : Nat) :
    Int)), LU (IntKind.u64.wrap (((BitVec.ofInt IntKind.u64.bits t &&& ~~~BitVec.ofInt IntKind.u64.bits (L.ze m x true)).toNat : Nat) : Int))] (LV.tup [ai (L.cmp m x
    (IntKind.u64.wrap (((BitVec.ofInt IntKind.u64.bits (L.sub m x a b) &&& ~~~BitVec.ofInt IntKind.u64.bits (L.ze m x true)).toNat : Nat) : Int)) (IntKind.u64.wrap (((BitVec.ofInt
    IntKind.u64.bits t &&& ~~~BitVec.ofInt IntKind.u64.bits (L.ze m x true)).toNat : Nat) : Int))), ab (L.cok m x (IntKind.u64.wrap (((BitVec.ofInt IntKind.u64.bits (L.sub m x a b)
    &&& ~~~BitVec.ofInt IntKind.u64.bits (L.ze m x true)).toNat : Nat) : Int)) (IntKind.u64.wrap (((BitVec.ofInt IntKind.u64.bits t &&& ~~~BitVec.ofInt IntKind.u64.bits (L.ze m x
    true)).toNat : Nat) : Int))), ai (L.e2 m x (IntKind.u64.wrap (((BitVec.ofInt IntKind.u64.bits (L.sub m x a b) &&& ~~~BitVec.ofInt IntKind.u64.bits (L.ze m x true)).toNat : Nat)
    : Int)) (IntKind.u64.wrap (((BitVec.ofInt IntKind.u64.bits t &&& ~~~BitVec.ofInt IntKind.u64.bits (L.ze m x true)).toNat : Nat) : Int)))]) (br (L.cok m x (IntKind.u64.wrap
    (((BitVec.ofInt IntKind.u64.bits (L.sub m x a b) &&& ~~~BitVec.ofInt IntKind.u64.bits (L.ze m x true)).toNat : Nat) : Int)) (IntKind.u64.wrap (((BitVec.ofInt IntKind.u64.bits t
    &&& ~~~BitVec.ofInt IntKind.u64.bits (L.ze m x true)).toNat : Nat) : Int))) (Tr.ret (LB (decide (L.cmp m x (IntKind.u64.wrap (((BitVec.ofInt IntKind.u64.bits (L.sub m x a b)
    &&& ~~~BitVec.ofInt IntKind.u64.bits (L.ze m x true)).toNat : Nat) : Int)) (IntKind.u64.wrap (((BitVec.ofInt IntKind.u64.bits t &&& ~~~BitVec.ofInt IntKind.u64.bits (L.ze m x
    true)).toNat : Nat) : Int)) ≤ 0)))) (Tr.ret (LB false))))))))))))) := by kernel_rfl

theorem t132 (R : RF) (L : LF) (m x a : Int) : tree Try.prog 3 (cRF R L) 132 [FM m x, LU a] =
    Tr.call 93 [LV.agg [si m, si x], LU a] (LV.tup [AV.agg [si (L.kd m x a), sb (L.neg m x a), si (L.ex m x a), su (L.mn m x a)], ai (L.e1 m x a)]) (Tr.ret (LI (L.kd m x a))) := by kernel_rfl

theorem t110 (R : RF) (L : LF) (m x a : Int) : tree Try.prog 3 (cRF R L) 110 [FM m x, LU a] =
    Tr.call 31 [LV.agg [si m, si x], LU a] (LV.tup [AV.agg [si (L.kd m x a), sb (L.neg m x a), si (L.ex m x a), su (L.mn m x a)], ai (L.e1 m x a)]) (Tr.ret (LI (L.kd m x a))) := by kernel_rfl

theorem t111 (R : RF) (L : LF) (m x a : Int) : tree Try.prog 3 (cRF R L) 111 [FM m x, LU a] =
    Tr.call 31 [LV.agg [si m, si x], LU a] (LV.tup [AV.agg [si (L.kd m x a), sb (L.neg m x a), si (L.ex m x a), su (L.mn m x a)], ai (L.e1 m x a)]) (br (L.neg m x a) (Tr.call 42
    [LV.agg [si m, si x], LU a] (LU (L.tu m x a)) (Tr.ret (LU (L.tu m x a)))) (Tr.ret (LU a))) := by kernel_rfl

theorem t53 (N : NF) (w : Bool) (fm fx n : Int) : tree Try.prog 3 ((102, fun _ => some (FM fm fx)) :: cNF N) 53 [LB w, LW n] =
    br (decide (n ≥ 2147483648)) (Tr.call 102 [LB w] (LV.agg [si fm, si fx]) (Tr.call 74 [LU (IntKind.u64.wrap (4294967296 - IntKind.u64.wrap n))] (LV.n (N.N (IntKind.u64.wrap
    (4294967296 - IntKind.u64.wrap n)))) (Tr.call 72 [LV.agg [si fm, si fx], LB true, LV.n (N.N (IntKind.u64.wrap (4294967296 - IntKind.u64.wrap n))), LV.n [1], LI 0] (LU (N.nr fm
    fx true (N.N (IntKind.u64.wrap (4294967296 - IntKind.u64.wrap n))) [1] 0)) (Tr.ret (LU (N.nr fm fx true (N.N (IntKind.u64.wrap (4294967296 - IntKind.u64.wrap n))) [1] 0))))))
    (Tr.call 102 [LB w] (LV.agg [si fm, si fx]) (Tr.call 74 [LU (IntKind.u64.wrap n)] (LV.n (N.N (IntKind.u64.wrap n))) (Tr.call 72 [LV.agg [si fm, si fx], LB false, LV.n (N.N
    (IntKind.u64.wrap n)), LV.n [1], LI 0] (LU (N.nr fm fx false (N.N (IntKind.u64.wrap n)) [1] 0)) (Tr.ret (LU (N.nr fm fx false (N.N (IntKind.u64.wrap n)) [1] 0)))))) := by kernel_rfl

theorem t12 (R : RF) (L : LF) (c a b t a2 b2 t2 : Int) : tree Try.prog 3 (cRF R L) 12 [LI c, LW a, LW b, LW t, LU a2, LU b2, LU t2] =
    Tr.call 49 [LI c, LW a, LW b, LW t] (LB (R.hd 23 8 c a b t)) (Tr.call 50 [LB false, LI c, LU (IntKind.u64.wrap a), LU (IntKind.u64.wrap b), LU (IntKind.u64.wrap t)] (LB (R.hw false
    c (IntKind.u64.wrap a) (IntKind.u64.wrap b) (IntKind.u64.wrap t))) (br (R.hd 23 8 c a b t == R.hw false c (IntKind.u64.wrap a) (IntKind.u64.wrap b) (IntKind.u64.wrap t))
    (Tr.call 51 [LI c, LU a2, LU b2, LU t2] (LB (R.hd 52 11 c a2 b2 t2)) (Tr.call 50 [LB true, LI c, LU a2, LU b2, LU t2] (LB (R.hw true c a2 b2 t2)) (br (R.hd 52 11 c a2 b2 t2 ==
    R.hw true c a2 b2 t2) (Tr.call 47 [] (LB L.live) (Tr.ret (LB L.live))) (Tr.ret (LB false))))) (Tr.ret (LB false)))) := by kernel_rfl

theorem t13 (R : RF) (L : LF) (a b t u : Int) : tree Try.prog 3 (cRF R L) 13 [LU a, LU b, LU t, LU u] =
    Tr.call 51 [LI 3, LU a, LU b, LU t] (LB (R.hd 52 11 3 a b t)) (Tr.call 51 [LI 5, LU a, LU b, LU t] (LB (R.hd 52 11 5 a b t)) (Tr.call 51 [LI 4, LU a, LU b, LU t] (LB (R.hd 52 11 4
    a b t)) (Tr.call 51 [LI 6, LU a, LU b, LU t] (LB (R.hd 52 11 6 a b t)) (Tr.call 51 [LI 1, LU a, LU b, LU t] (LB (R.hd 52 11 1 a b t)) (Tr.call 51 [LI 2, LU a, LU b, LU t] (LB
    (R.hd 52 11 2 a b t)) (br (R.hd 52 11 1 a b t == R.hd 52 11 2 a b t) (Tr.ret (LB false)) (Tr.call 51 [LI 1, LU b, LU a, LU t] (LB (R.hd 52 11 1 b a t)) (br (!R.hd 52 11 1 a b t
    == R.hd 52 11 1 b a t) (Tr.ret (LB false)) (Tr.call 51 [LI 7, LU a, LU 0, LU 0] (LB (R.hd 52 11 7 a 0 0)) (br (R.hd 52 11 7 a 0 0) (br (!R.hd 52 11 3 a b t) (br (!R.hd 52 11 5
    a b t) (br (!R.hd 52 11 4 a b t) (br (!R.hd 52 11 6 a b t) (br (!R.hd 52 11 1 a b t) (Tr.call 47 [] (LB L.live) (Tr.ret (LB L.live))) (Tr.ret (LB false))) (Tr.ret (LB false)))
    (Tr.ret (LB false))) (Tr.ret (LB false))) (Tr.ret (LB false))) (Tr.call 51 [LI 7, LU b, LU 0, LU 0] (LB (R.hd 52 11 7 b 0 0)) (br (R.hd 52 11 7 b 0 0) (br (!R.hd 52 11 3 a b t)
    (br (!R.hd 52 11 5 a b t) (br (!R.hd 52 11 4 a b t) (br (!R.hd 52 11 6 a b t) (br (!R.hd 52 11 1 a b t) (Tr.call 47 [] (LB L.live) (Tr.ret (LB L.live))) (Tr.ret (LB false)))
    (Tr.ret (LB false))) (Tr.ret (LB false))) (Tr.ret (LB false))) (Tr.ret (LB false))) (br (R.hd 52 11 3 a b t) (br (R.hd 52 11 5 a b t) (br (R.hd 52 11 4 a b t) (br (R.hd 52 11 6
    a b t) (Tr.ret (LB false)) (Tr.ret (LB false))) (Tr.ret (LB false))) (br (R.hd 52 11 4 a b t) (br (R.hd 52 11 6 a b t) (Tr.ret (LB false)) (br (R.hd 52 11 4 a b t == R.hd 52 11
    5 a b t) (Tr.ret (LB false)) (br (R.hd 52 11 6 a b t == R.hd 52 11 3 a b t) (Tr.ret (LB false)) (Tr.call 51 [LI 1, LU a, LU b, LU 0] (LB (R.hd 52 11 1 a b 0)) (br (R.hd 52 11 4
    a b t) (br (!R.hd 52 11 1 a b 0 == R.hd 52 11 6 a b t) (Tr.ret (LB false)) (br (R.hd 52 11 1 a b t) (Tr.call 51 [LI 4, LU (bits BinOp.and IntKind.u64 t 9223372036854775807), LU
    (bits BinOp.and IntKind.u64 u 9223372036854775807), LU 0] (LB (R.hd 52 11 4 (bits BinOp.and IntKind.u64 t 9223372036854775807) (bits BinOp.and IntKind.u64 u
    9223372036854775807) 0)) (br (R.hd 52 11 4 (bits BinOp.and IntKind.u64 t 9223372036854775807) (bits BinOp.and IntKind.u64 u 9223372036854775807) 0) (Tr.call 51 [LI 1, LU a, LU
    b, LU u] (LB (R.hd 52 11 1 a b u)) (br (!R.hd 52 11 1 a b u) (Tr.ret (LB false)) (Tr.call 47 [] (LB L.live) (Tr.ret (LB L.live))))) (Tr.call 47 [] (LB L.live) (Tr.ret (LB
    L.live))))) (Tr.call 47 [] (LB L.live) (Tr.ret (LB L.live))))) (br (!R.hd 52 11 1 a b 0 == false) (Tr.ret (LB false)) (br (R.hd 52 11 1 a b t) (Tr.call 51 [LI 4, LU (bits
    BinOp.and IntKind.u64 t 9223372036854775807), LU (bits BinOp.and IntKind.u64 u 9223372036854775807), LU 0] (LB (R.hd 52 11 4 (bits BinOp.and IntKind.u64 t 9223372036854775807)
    (bits BinOp.and IntKind.u64 u 9223372036854775807) 0)) (br (R.hd 52 11 4 (bits BinOp.and IntKind.u64 t 9223372036854775807) (bits BinOp.and IntKind.u64 u 9223372036854775807)
    0) (Tr.call 51 [LI 1, LU a, LU b, LU u] (LB (R.hd 52 11 1 a b u)) (br (!R.hd 52 11 1 a b u) (Tr.ret (LB false)) (Tr.call 47 [] (LB L.live) (Tr.ret (LB L.live))))) (Tr.call 47
    [] (LB L.live) (Tr.ret (LB L.live))))) (Tr.call 47 [] (LB L.live) (Tr.ret (LB L.live)))))))))) (br (R.hd 52 11 4 a b t == R.hd 52 11 5 a b t) (Tr.ret (LB false)) (br (R.hd 52
    11 6 a b t == R.hd 52 11 3 a b t) (Tr.ret (LB false)) (Tr.call 51 [LI 1, LU a, LU b, LU 0] (LB (R.hd 52 11 1 a b 0)) (br (R.hd 52 11 4 a b t) (br (!R.hd 52 11 1 a b 0 == R.hd
    52 11 6 a b t) (Tr.ret (LB false)) (br (R.hd 52 11 1 a b t) (Tr.call 51 [LI 4, LU (bits BinOp.and IntKind.u64 t 9223372036854775807), LU (bits BinOp.and IntKind.u64 u
    9223372036854775807), LU 0] (LB (R.hd 52 11 4 (bits BinOp.and IntKind.u64 t 9223372036854775807) (bits BinOp.and IntKind.u64 u 9223372036854775807) 0)) (br (R.hd 52 11 4 (bits
    BinOp.and IntKind.u64 t 9223372036854775807) (bits BinOp.and IntKind.u64 u 9223372036854775807) 0) (Tr.call 51 [LI 1, LU a, LU b, LU u] (LB (R.hd 52 11 1 a b u)) (br (!R.hd 52
    11 1 a b u) (Tr.ret (LB false)) (Tr.call 47 [] (LB L.live) (Tr.ret (LB L.live))))) (Tr.call 47 [] (LB L.live) (Tr.ret (LB L.live))))) (Tr.call 47 [] (LB L.live) (Tr.ret (LB
    L.live))))) (br (!R.hd 52 11 1 a b 0 == false) (Tr.ret (LB false)) (br (R.hd 52 11 1 a b t) (Tr.call 51 [LI 4, LU (bits BinOp.and IntKind.u64 t 9223372036854775807), LU (bits
    BinOp.and IntKind.u64 u 9223372036854775807), LU 0] (LB (R.hd 52 11 4 (bits BinOp.and IntKind.u64 t 9223372036854775807) (bits BinOp.and IntKind.u64 u 9223372036854775807) 0))
    (br (R.hd 52 11 4 (bits BinOp.and IntKind.u64 t 9223372036854775807) (bits BinOp.and IntKind.u64 u 9223372036854775807) 0) (Tr.call 51 [LI 1, LU a, LU b, LU u] (LB (R.hd 52 11
    1 a b u)) (br (!R.hd 52 11 1 a b u) (Tr.ret (LB false)) (Tr.call 47 [] (LB L.live) (Tr.ret (LB L.live))))) (Tr.call 47 [] (LB L.live) (Tr.ret (LB L.live))))) (Tr.call 47 [] (LB
    L.live) (Tr.ret (LB L.live))))))))))) (br (R.hd 52 11 5 a b t) (br (R.hd 52 11 4 a b t) (br (R.hd 52 11 6 a b t) (Tr.ret (LB false)) (br (R.hd 52 11 4 a b t == R.hd 52 11 5 a b
    t) (Tr.ret (LB false)) (br (R.hd 52 11 6 a b t == R.hd 52 11 3 a b t) (Tr.ret (LB false)) (Tr.call 51 [LI 1, LU a, LU b, LU 0] (LB (R.hd 52 11 1 a b 0)) (br (R.hd 52 11 4 a b
    t) (br (!R.hd 52 11 1 a b 0 == R.hd 52 11 6 a b t) (Tr.ret (LB false)) (br (R.hd 52 11 1 a b t) (Tr.call 51 [LI 4, LU (bits BinOp.and IntKind.u64 t 9223372036854775807), LU
    (bits BinOp.and IntKind.u64 u 9223372036854775807), LU 0] (LB (R.hd 52 11 4 (bits BinOp.and IntKind.u64 t 9223372036854775807) (bits BinOp.and IntKind.u64 u
    9223372036854775807) 0)) (br (R.hd 52 11 4 (bits BinOp.and IntKind.u64 t 9223372036854775807) (bits BinOp.and IntKind.u64 u 9223372036854775807) 0) (Tr.call 51 [LI 1, LU a, LU
    b, LU u] (LB (R.hd 52 11 1 a b u)) (br (!R.hd 52 11 1 a b u) (Tr.ret (LB false)) (Tr.call 47 [] (LB L.live) (Tr.ret (LB L.live))))) (Tr.call 47 [] (LB L.live) (Tr.ret (LB
    L.live))))) (Tr.call 47 [] (LB L.live) (Tr.ret (LB L.live))))) (br (!R.hd 52 11 1 a b 0 == false) (Tr.ret (LB false)) (br (R.hd 52 11 1 a b t) (Tr.call 51 [LI 4, LU (bits
    BinOp.and IntKind.u64 t 9223372036854775807), LU (bits BinOp.and IntKind.u64 u 9223372036854775807), LU 0] (LB (R.hd 52 11 4 (bits BinOp.and IntKind.u64 t 9223372036854775807)
    (bits BinOp.and IntKind.u64 u 9223372036854775807) 0)) (br (R.hd 52 11 4 (bits BinOp.and IntKind.u64 t 9223372036854775807) (bits BinOp.and IntKind.u64 u 9223372036854775807)
    0) (Tr.call 51 [LI 1, LU a, LU b, LU u] (LB (R.hd 52 11 1 a b u)) (br (!R.hd 52 11 1 a b u) (Tr.ret (LB false)) (Tr.call 47 [] (LB L.live) (Tr.ret (LB L.live))))) (Tr.call 47
    [] (LB L.live) (Tr.ret (LB L.live))))) (Tr.call 47 [] (LB L.live) (Tr.ret (LB L.live)))))))))) (br (R.hd 52 11 4 a b t == R.hd 52 11 5 a b t) (Tr.ret (LB false)) (br (R.hd 52
    11 6 a b t == R.hd 52 11 3 a b t) (Tr.ret (LB false)) (Tr.call 51 [LI 1, LU a, LU b, LU 0] (LB (R.hd 52 11 1 a b 0)) (br (R.hd 52 11 4 a b t) (br (!R.hd 52 11 1 a b 0 == R.hd
    52 11 6 a b t) (Tr.ret (LB false)) (br (R.hd 52 11 1 a b t) (Tr.call 51 [LI 4, LU (bits BinOp.and IntKind.u64 t 9223372036854775807), LU (bits BinOp.and IntKind.u64 u
    9223372036854775807), LU 0] (LB (R.hd 52 11 4 (bits BinOp.and IntKind.u64 t 9223372036854775807) (bits BinOp.and IntKind.u64 u 9223372036854775807) 0)) (br (R.hd 52 11 4 (bits
    BinOp.and IntKind.u64 t 9223372036854775807) (bits BinOp.and IntKind.u64 u 9223372036854775807) 0) (Tr.call 51 [LI 1, LU a, LU b, LU u] (LB (R.hd 52 11 1 a b u)) (br (!R.hd 52
    11 1 a b u) (Tr.ret (LB false)) (Tr.call 47 [] (LB L.live) (Tr.ret (LB L.live))))) (Tr.call 47 [] (LB L.live) (Tr.ret (LB L.live))))) (Tr.call 47 [] (LB L.live) (Tr.ret (LB
    L.live))))) (br (!R.hd 52 11 1 a b 0 == false) (Tr.ret (LB false)) (br (R.hd 52 11 1 a b t) (Tr.call 51 [LI 4, LU (bits BinOp.and IntKind.u64 t 9223372036854775807), LU (bits
    BinOp.and IntKind.u64 u 9223372036854775807), LU 0] (LB (R.hd 52 11 4 (bits BinOp.and IntKind.u64 t 9223372036854775807) (bits BinOp.and IntKind.u64 u 9223372036854775807) 0))
    (br (R.hd 52 11 4 (bits BinOp.and IntKind.u64 t 9223372036854775807) (bits BinOp.and IntKind.u64 u 9223372036854775807) 0) (Tr.call 51 [LI 1, LU a, LU b, LU u] (LB (R.hd 52 11
    1 a b u)) (br (!R.hd 52 11 1 a b u) (Tr.ret (LB false)) (Tr.call 47 [] (LB L.live) (Tr.ret (LB L.live))))) (Tr.call 47 [] (LB L.live) (Tr.ret (LB L.live))))) (Tr.call 47 [] (LB
    L.live) (Tr.ret (LB L.live)))))))))) (br (R.hd 52 11 4 a b t) (br (R.hd 52 11 6 a b t) (br (R.hd 52 11 4 a b t == R.hd 52 11 5 a b t) (Tr.ret (LB false)) (br (R.hd 52 11 6 a b
    t == R.hd 52 11 3 a b t) (Tr.ret (LB false)) (Tr.call 51 [LI 1, LU a, LU b, LU 0] (LB (R.hd 52 11 1 a b 0)) (br (R.hd 52 11 4 a b t) (br (!R.hd 52 11 1 a b 0 == R.hd 52 11 6 a
    b t) (Tr.ret (LB false)) (br (R.hd 52 11 1 a b t) (Tr.call 51 [LI 4, LU (bits BinOp.and IntKind.u64 t 9223372036854775807), LU (bits BinOp.and IntKind.u64 u
    9223372036854775807), LU 0] (LB (R.hd 52 11 4 (bits BinOp.and IntKind.u64 t 9223372036854775807) (bits BinOp.and IntKind.u64 u 9223372036854775807) 0)) (br (R.hd 52 11 4 (bits
    BinOp.and IntKind.u64 t 9223372036854775807) (bits BinOp.and IntKind.u64 u 9223372036854775807) 0) (Tr.call 51 [LI 1, LU a, LU b, LU u] (LB (R.hd 52 11 1 a b u)) (br (!R.hd 52
    11 1 a b u) (Tr.ret (LB false)) (Tr.call 47 [] (LB L.live) (Tr.ret (LB L.live))))) (Tr.call 47 [] (LB L.live) (Tr.ret (LB L.live))))) (Tr.call 47 [] (LB L.live) (Tr.ret (LB
    L.live))))) (br (!R.hd 52 11 1 a b 0 == false) (Tr.ret (LB false)) (br (R.hd 52 11 1 a b t) (Tr.call 51 [LI 4, LU (bits BinOp.and IntKind.u64 t 9223372036854775807), LU (bits
    BinOp.and IntKind.u64 u 9223372036854775807), LU 0] (LB (R.hd 52 11 4 (bits BinOp.and IntKind.u64 t 9223372036854775807) (bits BinOp.and IntKind.u64 u 9223372036854775807) 0))
    (br (R.hd 52 11 4 (bits BinOp.and IntKind.u64 t 9223372036854775807) (bits BinOp.and IntKind.u64 u 9223372036854775807) 0) (Tr.call 51 [LI 1, LU a, LU b, LU u] (LB (R.hd 52 11
    1 a b u)) (br (!R.hd 52 11 1 a b u) (Tr.ret (LB false)) (Tr.call 47 [] (LB L.live) (Tr.ret (LB L.live))))) (Tr.call 47 [] (LB L.live) (Tr.ret (LB L.live))))) (Tr.call 47 [] (LB
    L.live) (Tr.ret (LB L.live))))))))) (Tr.ret (LB false))) (Tr.ret (LB false))))))))))))))))) := by kernel_rfl

theorem t14 (R : RF) (L : LF) (n x y : Int) (w : Bool) : tree Try.prog 3 (cRF R L) 14 [LW n, LW x, LU y, LB w] =
    Tr.call 52 [LW n] (LW (R.of 23 8 n)) (Tr.call 53 [LB false, LW n] (LU (R.ow false n)) (br (IntKind.u64.wrap (R.of 23 8 n) == R.ow false n) (Tr.call 54 [LW n] (LU (R.of 52 11 n))
    (Tr.call 53 [LB true, LW n] (LU (R.ow true n)) (br (R.of 52 11 n == R.ow true n) (Tr.call 55 [LW x, LB w] (LW (R.it 23 8 x w)) (Tr.call 56 [LB false, LU (IntKind.u64.wrap x),
    LB w] (LW (R.iw false (IntKind.u64.wrap x) w)) (br (R.it 23 8 x w == R.iw false (IntKind.u64.wrap x) w) (Tr.call 57 [LU y, LB w] (LW (R.it 52 11 y w)) (Tr.call 56 [LB true, LU
    y, LB w] (LW (R.iw true y w)) (br (R.it 52 11 y w == R.iw true y w) (Tr.call 47 [] (LB L.live) (Tr.ret (LB L.live))) (Tr.ret (LB false))))) (Tr.ret (LB false))))) (Tr.ret (LB
    false))))) (Tr.ret (LB false)))) := by kernel_rfl

theorem t15 (R : RF) (L : LF) (x : Int) : tree Try.prog 3 (cRF R L) 15 [LW x] =
    Tr.call 59 [LW x] (LU (R.wi x)) (Tr.call 58 [LU (R.wi x)] (LW (R.na (R.wi x))) (Tr.call 49 [LI 7, LW x, LW 0, LW 0] (LB (R.hd 23 8 7 x 0 0)) (br (R.hd 23 8 7 x 0 0) (br (R.na (R.wi
    x) == 2143289344) (br (decide (shl IntKind.u32 x 1 > 4278190080)) (Tr.call 47 [] (LB L.live) (Tr.ret (LB L.live))) (Tr.ret (LB false))) (Tr.ret (LB false))) (br (R.na (R.wi x)
    == x) (br (decide (shl IntKind.u32 x 1 ≤ 4278190080)) (Tr.call 47 [] (LB L.live) (Tr.ret (LB L.live))) (Tr.ret (LB false))) (Tr.ret (LB false)))))) := by kernel_rfl

theorem t16 (R : RF) (L : LF) (o a b : Int) : tree Try.prog 3 (cRF R L) 16 [LI o, LW a, LW b] =
    Tr.call 44 [LI o, LW a, LW b] (LV.tup [aw (R.rk 23 8 o a b), ai (R.re o)]) (Tr.call 59 [LW a] (LU (R.wi a)) (Tr.call 59 [LW b] (LU (R.wi b)) (Tr.call 48 [LI o, LU (R.wi a), LU
    (R.wi b)] (LV.tup [au (R.rk 52 11 o (R.wi a) (R.wi b)), ai (R.re o)]) (br (decide (o < 1)) (Tr.call 46 [LI (R.re o)] (LI (R.re o)) (br (R.re o == 1) (Tr.call 46 [LI (R.re o)]
    (LI (R.re o)) (br (R.re o == 1) (br (R.rk 23 8 o a b == 0) (br (R.rk 52 11 o (R.wi a) (R.wi b) == 0) (Tr.call 47 [] (LB L.live) (Tr.ret (LB L.live))) (Tr.ret (LB false)))
    (Tr.ret (LB false))) (Tr.ret (LB false)))) (Tr.ret (LB false)))) (br (decide (o > 9)) (Tr.call 46 [LI (R.re o)] (LI (R.re o)) (br (R.re o == 1) (Tr.call 46 [LI (R.re o)] (LI
    (R.re o)) (br (R.re o == 1) (br (R.rk 23 8 o a b == 0) (br (R.rk 52 11 o (R.wi a) (R.wi b) == 0) (Tr.call 47 [] (LB L.live) (Tr.ret (LB L.live))) (Tr.ret (LB false))) (Tr.ret
    (LB false))) (Tr.ret (LB false)))) (Tr.ret (LB false)))) (Tr.call 46 [LI (R.re o)] (LI (R.re o)) (Tr.call 46 [LI (R.re o)] (LI (R.re o)) (br (IntKind.i64.wrap (R.re o + R.re o)
    == 0) (br (o == 6) (Tr.call 47 [] (LB L.live) (Tr.ret (LB L.live))) (Tr.call 58 [LU (R.rk 52 11 o (R.wi a) (R.wi b))] (LW (R.na (R.rk 52 11 o (R.wi a) (R.wi b)))) (br (R.rk 23
    8 o a b == R.na (R.rk 52 11 o (R.wi a) (R.wi b))) (Tr.call 47 [] (LB L.live) (Tr.ret (LB L.live))) (Tr.ret (LB false))))) (Tr.ret (LB false)))))))))) := by kernel_rfl

theorem t17 (R : RF) (L : LF) (x y : Int) : tree Try.prog 3 (cRF R L) 17 [LW x, LU y] =
    Tr.call 60 [LU y] (LV.tup [aw (R.hi y), aw (R.lo y)]) (Tr.call 59 [LW x] (LU (R.wi x)) (Tr.call 61 [LB true, LU (IntKind.u64.wrap x)] (LU (R.ch true (IntKind.u64.wrap x))) (br
    (R.wi x == R.ch true (IntKind.u64.wrap x)) (Tr.call 58 [LU y] (LW (R.na y)) (Tr.call 61 [LB false, LU y] (LU (R.ch false y)) (br (IntKind.u64.wrap (R.na y) == R.ch false y) (br
    (IntKind.u64.wrap (R.hi y) == IntKind.u64.wrap (y.tdiv 4294967296)) (br (IntKind.u64.wrap (R.lo y) == y.tmod 4294967296) (Tr.call 62 [LW (R.hi y), LW (R.lo y)] (LU (R.jo (R.hi
    y) (R.lo y))) (br (R.jo (R.hi y) (R.lo y) == y) (Tr.call 47 [] (LB L.live) (Tr.ret (LB L.live))) (Tr.ret (LB false)))) (Tr.ret (LB false))) (Tr.ret (LB false))) (Tr.ret (LB
    false))))) (Tr.ret (LB false))))) := by kernel_rfl

theorem t18 (R : RF) (L : LF) (n m : Int) (w : Bool) : tree Try.prog 3 (cRF R L) 18 [LW n, LW m, LB w] =
    Tr.call 54 [LW n] (LU (R.of 52 11 n)) (Tr.call 54 [LW m] (LU (R.of 52 11 m)) (Tr.call 57 [LU (R.of 52 11 n), LB w] (LW (R.it 52 11 (R.of 52 11 n) w)) (br (R.it 52 11 (R.of 52 11 n)
    w != n) (Tr.ret (LB false)) (Tr.call 52 [LW n] (LW (R.of 23 8 n)) (Tr.call 58 [LU (R.of 52 11 n)] (LW (R.na (R.of 52 11 n))) (br (R.of 23 8 n != R.na (R.of 52 11 n)) (Tr.ret
    (LB false)) (br (decide (IntKind.u32.wrap (n + 16777216) ≤ 33554432)) (Tr.call 52 [LW n] (LW (R.of 23 8 n)) (Tr.call 55 [LW (R.of 23 8 n), LB w] (LW (R.it 23 8 (R.of 23 8 n)
    w)) (br (R.it 23 8 (R.of 23 8 n) w != n) (Tr.ret (LB false)) (Tr.call 48 [LI 1, LU (R.of 52 11 n), LU (R.of 52 11 m)] (LV.tup [au (R.rk 52 11 1 (R.of 52 11 n) (R.of 52 11 m)),
    ai (R.re 1)]) (Tr.call 46 [LI (R.re 1)] (LI (R.re 1)) (br (R.re 1 == 0) (Tr.call 57 [LU (R.rk 52 11 1 (R.of 52 11 n) (R.of 52 11 m)), LB w] (LW (R.it 52 11 (R.rk 52 11 1 (R.of
    52 11 n) (R.of 52 11 m)) w)) (br (R.it 52 11 (R.rk 52 11 1 (R.of 52 11 n) (R.of 52 11 m)) w == IntKind.u32.wrap (if -2147483648 > if 2147483647 < IntKind.i64.wrap
    (IntKind.i64.wrap (IntKind.i32.wrap n) + IntKind.i64.wrap (IntKind.i32.wrap m)) then 2147483647 else IntKind.i64.wrap (IntKind.i64.wrap (IntKind.i32.wrap n) + IntKind.i64.wrap
    (IntKind.i32.wrap m)) then -2147483648 else if 2147483647 < IntKind.i64.wrap (IntKind.i64.wrap (IntKind.i32.wrap n) + IntKind.i64.wrap (IntKind.i32.wrap m)) then 2147483647
    else IntKind.i64.wrap (IntKind.i64.wrap (IntKind.i32.wrap n) + IntKind.i64.wrap (IntKind.i32.wrap m)))) (Tr.call 51 [LI 3, LU (R.of 52 11 n), LU (R.of 52 11 m), LU 0] (LB (R.hd
    52 11 3 (R.of 52 11 n) (R.of 52 11 m) 0)) (br (R.hd 52 11 3 (R.of 52 11 n) (R.of 52 11 m) 0 == decide (IntKind.i32.wrap n < IntKind.i32.wrap m)) (Tr.call 47 [] (LB L.live)
    (Tr.ret (LB L.live))) (Tr.ret (LB false)))) (Tr.ret (LB false)))) (Tr.ret (LB false)))))))) (Tr.call 48 [LI 1, LU (R.of 52 11 n), LU (R.of 52 11 m)] (LV.tup [au (R.rk 52 11 1
    (R.of 52 11 n) (R.of 52 11 m)), ai (R.re 1)]) (Tr.call 46 [LI (R.re 1)] (LI (R.re 1)) (br (R.re 1 == 0) (Tr.call 57 [LU (R.rk 52 11 1 (R.of 52 11 n) (R.of 52 11 m)), LB w] (LW
    (R.it 52 11 (R.rk 52 11 1 (R.of 52 11 n) (R.of 52 11 m)) w)) (br (R.it 52 11 (R.rk 52 11 1 (R.of 52 11 n) (R.of 52 11 m)) w == IntKind.u32.wrap (if -2147483648 > if 2147483647
    < IntKind.i64.wrap (IntKind.i64.wrap (IntKind.i32.wrap n) + IntKind.i64.wrap (IntKind.i32.wrap m)) then 2147483647 else IntKind.i64.wrap (IntKind.i64.wrap (IntKind.i32.wrap n)
    + IntKind.i64.wrap (IntKind.i32.wrap m)) then -2147483648 else if 2147483647 < IntKind.i64.wrap (IntKind.i64.wrap (IntKind.i32.wrap n) + IntKind.i64.wrap (IntKind.i32.wrap m))
    then 2147483647 else IntKind.i64.wrap (IntKind.i64.wrap (IntKind.i32.wrap n) + IntKind.i64.wrap (IntKind.i32.wrap m)))) (Tr.call 51 [LI 3, LU (R.of 52 11 n), LU (R.of 52 11 m),
    LU 0] (LB (R.hd 52 11 3 (R.of 52 11 n) (R.of 52 11 m) 0)) (br (R.hd 52 11 3 (R.of 52 11 n) (R.of 52 11 m) 0 == decide (IntKind.i32.wrap n < IntKind.i32.wrap m)) (Tr.call 47 []
    (LB L.live) (Tr.ret (LB L.live))) (Tr.ret (LB false)))) (Tr.ret (LB false)))) (Tr.ret (LB false)))))))))))) := by kernel_rfl

theorem u32_nat {n : Nat} (h : n < 2^32) : IntKind.u32.wrap (n : Int) = n := by
  have e : (2 : Nat)^32 = 4294967296 := rfl
  have : IntKind.u32.wrap (n : Int) = ((n % 2^32 : Nat) : Int) := by simp [IntKind.wrap, IntKind.bits, IntKind.signed]
  rw [this, Nat.mod_eq_of_lt h]
theorem u32_mod (n : Nat) : IntKind.u32.wrap (n : Int) = ((n % 2^32 : Nat) : Int) := by simp [IntKind.wrap, IntKind.bits, IntKind.signed]
def modr (M X a b : Nat) : Nat := modR M X a (kd M X a : Nat) (ng M X a) (ex M X a) (mn M X a) (kd M X b : Nat) (ex M X b) (mn M X b)
def modq (M X a b : Nat) : Nat := modQ M X (kd M X a : Nat) (ng M X a) (ex M X a) (mn M X a) (kd M X b : Nat) (ng M X b) (ex M X b) (mn M X b)
theorem nanc_lt2 (hf : Okf M X) : nanc M X < 2^(1+X+M) := by have hm := hf.m1; have := nanc_lt (M := M) (X := X) (by omega); rw [pw2]; omega
theorem sgn_lt2 (s : Bool) : sgn M X s < 2^(1+X+M) := made_lt (n := 0) s (two_pow_pos _)
theorem modr_lt (hf : Okf M X) (la : a < 2^(1+X+M)) (lb : b < 2^(1+X+M)) : modr M X a b < 2^(1+X+M) := by
  unfold modr modR
  split
  · exact nanc_lt2 hf
  · split
    · exact la
    · exact made_lt _ (near_lt ..)
theorem modq_lt (hf : Okf M X) (la : a < 2^(1+X+M)) (lb : b < 2^(1+X+M)) : modq M X a b < 2^(1+X+M) := by
  unfold modq modQ
  split
  · exact nanc_lt2 hf
  · split
    · exact sgn_lt2 _
    · exact made_lt _ (near_lt ..)
theorem step_lt (hf : Okf M X) (la : a < 2^(1+X+M)) (u : Bool) : stepN M X a u < 2^(1+X+M) := by
  unfold stepN
  split
  · exact nanc_lt2 hf
  · split
    · exact la
    · exact made_lt _ (near_lt ..)
theorem conv_lt {M2 X2 : Nat} (hg : Okf M2 X2) : convN M X M2 X2 a < 2^(1+X2+M2) := by
  unfold convN
  split
  · exact nanc_lt2 hg
  · split
    · rw [Nat.add_comm]; exact made_lt _ (infc_lt' _ _)
    · exact made_lt _ (near_lt ..)
def rkN (M X : Nat) (o : Int) (a b : Nat) : Nat :=
  if o = 1 then addN M X a b else
  if o = 2 then subN M X a b else
  if o = 3 then mulN M X a b else
  if o = 4 then divN M X a b else
  if o = 5 then modr M X a b else
  if o = 6 then modq M X a b else
  if o = 7 then sqrtN M X a else
  if o = 8 then stepN M X a true else
  if o = 9 then stepN M X a false else
  0
def reI (o : Int) : Int := if 1 ≤ o ∧ o ≤ 9 then 0 else 1
theorem rk_lt (hf : Okf M X) (o : Int) (la : a < 2^(1+X+M)) (lb : b < 2^(1+X+M)) : rkN M X o a b < 2^(1+X+M) := by
  unfold rkN
  split
  · exact add_lt hf la lb
  split
  · exact sub_lt hf la lb
  split
  · exact mul_lt hf
  split
  · exact div_lt hf
  split
  · exact modr_lt hf la lb
  split
  · exact modq_lt hf la lb
  split
  · exact sqrt_lt hf la
  split
  · exact step_lt hf la true
  split
  · exact step_lt hf la false
  exact two_pow_pos _
def sub' (M X a b t : Nat) : Bool := if kd M X a = 4 ∨ kd M X b = 4 ∨ kd M X t = 4 then false else if kd M X a = 3 ∧ kd M X b = 3 then (a : Int) == b else decide (mg M X (subN M X a b) ≤ mg M X t)
def hdN (M X : Nat) (c : Int) (a b t : Nat) : Bool :=
  if c = 1 then sub' M X a b t else if c = 2 then !sub' M X a b t else if c = 3 then !oddN M X a b && decide (cmpN M X a b < 0) else if c = 4 then !oddN M X a b && decide (cmpN M X a b ≤ 0) else
  if c = 5 then !oddN M X a b && decide (cmpN M X a b > 0) else if c = 6 then !oddN M X a b && decide (cmpN M X a b ≥ 0) else if c = 7 then decide (kd M X a = 4) else if c = 8 then decide (kd M X a = 3) else false
def ofN (M X n : Nat) : Nat := if 2^31 ≤ n then sgn M X true + near M X (2^32 - n) 1 0 else sgn M X false + near M X n 1 0
def itN (M X a : Nat) (near : Bool) : Nat := if ng M X a = true then (2^32 - min (wholeN M X a near) (2^31)) % 2^32 else min (wholeN M X a near) (2^31 - 1)
def fmN (w : Bool) : Nat := bif w then 52 else 23
def fxN (w : Bool) : Nat := bif w then 11 else 8
theorem okw (w : Bool) : Okf (fmN w) (fxN w) := by
  cases w
  · exact ok32
  · exact ⟨by decide, by decide, by decide, by decide⟩
theorem ok64 : Okf 52 11 := okw true

structure LG (L : LF) : Prop where
  e1 : ∀ m x a : Int, L.e1 m x a = 0
  e2 : ∀ m x a b : Int, L.e2 m x a b = 0
  ec : ∀ m x m2 x2 a : Int, L.ec m x m2 x2 a = 0
  add : ∀ M X a b : Nat, L.add M X a b = (addN M X a b : Nat)
  sub : ∀ M X a b : Nat, L.sub M X a b = (subN M X a b : Nat)
  mul : ∀ M X a b : Nat, L.mul M X a b = (mulN M X a b : Nat)
  div : ∀ M X a b : Nat, L.div M X a b = (divN M X a b : Nat)
  mr : ∀ M X a b : Nat, L.mr M X a b = (modr M X a b : Nat)
  mq : ∀ M X a b : Nat, L.mq M X a b = (modq M X a b : Nat)
  sq : ∀ M X a : Nat, L.sq M X a = (sqrtN M X a : Nat)
  cmp : ∀ M X a b : Nat, L.cmp M X a b = cmpN M X a b
  cok : ∀ M X a b : Nat, L.cok M X a b = !oddN M X a b
  st : ∀ (u : Bool) (M X a : Nat), L.st u M X a = (stepN M X a u : Nat)
  wh : ∀ (u : Bool) (M X a : Nat), L.wh u M X a = (wholeN M X a u : Nat)
  neg : ∀ M X a : Nat, L.neg M X a = ng M X a
  kd : ∀ M X a : Nat, L.kd M X a = (kd M X a : Nat)
  ex : ∀ M X a : Nat, L.ex M X a = ex M X a
  mn : ∀ M X a : Nat, L.mn M X a = (mn M X a : Nat)
  conv : ∀ M X M2 X2 a : Nat, L.conv M X M2 X2 a = (convN M X M2 X2 a : Nat)
  nan : ∀ M X : Nat, L.nan M X = (nanc M X : Nat)
  ze : ∀ (M X : Nat) (s : Bool), L.ze M X s = (sgn M X s : Nat)
  tu : ∀ M X a : Nat, L.tu M X a = (turnN M X a : Nat)
  pk : ∀ (M X : Nat) (s : Bool) (n : Nat), L.pk M X s 0 n 0 false = (sgn M X s + near M X n 1 0 : Nat)
  live : L.live = true
theorem lg_ex : ∃ L : LF, LG L := by
  refine ⟨⟨fun _ _ _ => 0, fun _ _ _ _ => 0, fun m x a b => (addN m.toNat x.toNat a.toNat b.toNat : Nat), fun m x a b => (subN m.toNat x.toNat a.toNat b.toNat : Nat), fun m x a b => (mulN m.toNat x.toNat a.toNat b.toNat : Nat), fun m x a b => (divN m.toNat x.toNat a.toNat b.toNat : Nat),
    fun m x a b => (modr m.toNat x.toNat a.toNat b.toNat : Nat), fun m x a b => (modq m.toNat x.toNat a.toNat b.toNat : Nat), fun m x a => (sqrtN m.toNat x.toNat a.toNat : Nat), fun m x a b => cmpN m.toNat x.toNat a.toNat b.toNat, fun m x a b => !oddN m.toNat x.toNat a.toNat b.toNat,
    fun u m x a => (stepN m.toNat x.toNat a.toNat u : Nat), fun u m x a => (wholeN m.toNat x.toNat a.toNat u : Nat), fun m x a => ng m.toNat x.toNat a.toNat, fun m x a => (kd m.toNat x.toNat a.toNat : Nat), fun m x a => ex m.toNat x.toNat a.toNat, fun m x a => (mn m.toNat x.toNat a.toNat : Nat),
    fun _ _ _ _ _ => 0, fun m x m2 x2 a => (convN m.toNat x.toNat m2.toNat x2.toNat a.toNat : Nat), fun m x => (nanc m.toNat x.toNat : Nat), fun m x s => (sgn m.toNat x.toNat s : Nat), fun m x a => (turnN m.toNat x.toNat a.toNat : Nat), fun _ _ => 0, fun _ _ => 0, fun m x s _ n _ _ => (sgn m.toNat x.toNat s + near m.toNat x.toNat n.toNat 1 0 : Nat), true⟩, ?_⟩
  constructor <;> intros <;> rfl
structure RG (R : RF) : Prop where
  rk : ∀ (M X : Nat) (o : Int) (a b : Nat), R.rk M X o a b = (rkN M X o a b : Nat)
  re : ∀ o : Int, R.re o = reI o
  rw : ∀ (w : Bool) (o : Int) (a b : Nat), R.rw w o a b = (rkN (fmN w) (fxN w) o a b : Nat)
  hd : ∀ (M X : Nat) (c : Int) (a b t : Nat), R.hd M X c a b t = hdN M X c a b t
  hw : ∀ (w : Bool) (c : Int) (a b t : Nat), R.hw w c a b t = hdN (fmN w) (fxN w) c a b t
  nr : ∀ (M X a b t : Nat), R.nr M X a b t = sub' M X a b t
  kd : ∀ (M X a : Nat), R.kd M X a = (kd M X a : Nat)
  ba : ∀ (M X a : Nat), R.ba M X a = (mg M X a : Nat)
  of : ∀ (M X n : Nat), R.of M X n = (ofN M X n : Nat)
  ow : ∀ (w : Bool) (n : Nat), R.ow w n = (ofN (fmN w) (fxN w) n : Nat)
  it : ∀ (M X a : Nat) (u : Bool), R.it M X a u = (itN M X a u : Nat)
  iw : ∀ (w : Bool) (a : Nat) (u : Bool), R.iw w a u = (itN (fmN w) (fxN w) a u : Nat)
  na : ∀ a : Nat, R.na a = (convN 52 11 23 8 a : Nat)
  wi : ∀ a : Nat, R.wi a = (convN 23 8 52 11 a : Nat)
  ch : ∀ (w : Bool) (a : Nat), R.ch w a = (convN (fmN (!w)) (fxN (!w)) (fmN w) (fxN w) a : Nat)
  hi : ∀ a : Nat, R.hi a = (a / 2^32 : Nat)
  lo : ∀ a : Nat, R.lo a = (a % 2^32 : Nat)
  jo : ∀ a b : Nat, R.jo a b = (a * 2^32 + b : Nat)
  fm : ∀ w : Bool, R.fm w = (fmN w : Nat)
  fx : ∀ w : Bool, R.fx w = (fxN w : Nat)
theorem rg_ex : ∃ R : RF, RG R := by
  refine ⟨⟨fun m x o a b => (rkN m.toNat x.toNat o a.toNat b.toNat : Nat), reI, fun w o a b => (rkN (fmN w) (fxN w) o a.toNat b.toNat : Nat), fun m x c a b t => hdN m.toNat x.toNat c a.toNat b.toNat t.toNat, fun w c a b t => hdN (fmN w) (fxN w) c a.toNat b.toNat t.toNat, fun m x a b t => sub' m.toNat x.toNat a.toNat b.toNat t.toNat,
    fun m x a => (kd m.toNat x.toNat a.toNat : Nat), fun m x a => (mg m.toNat x.toNat a.toNat : Nat), fun m x n => (ofN m.toNat x.toNat n.toNat : Nat), fun w n => (ofN (fmN w) (fxN w) n.toNat : Nat), fun m x a u => (itN m.toNat x.toNat a.toNat u : Nat), fun w a u => (itN (fmN w) (fxN w) a.toNat u : Nat),
    fun a => (convN 52 11 23 8 a.toNat : Nat), fun a => (convN 23 8 52 11 a.toNat : Nat), fun w a => (convN (fmN (!w)) (fxN (!w)) (fmN w) (fxN w) a.toNat : Nat), fun a => (a.toNat / 2^32 : Nat), fun a => (a.toNat % 2^32 : Nat), fun a b => (a.toNat * 2^32 + b.toNat : Nat), fun w => (fmN w : Nat), fun w => (fxN w : Nat)⟩, ?_⟩
  constructor <;> intros <;> rfl
theorem ret_wt (r : LV) : Wt r (.ret r) := rfl
theorem single_f : Cp 101 [] (FM 23 8) := cp_of (t101 0) rfl
theorem double_f : Cp 108 [] (FM 52 11) := cp_of (t108 0) rfl
theorem format_f (w : Bool) : Cp 102 [LB w] (FM (fmN w : Nat) (fxN w : Nat)) := by
  refine cp_of (t102 w) (WT.br (fun h => ?_) (fun h => ?_))
  · subst h; rfl
  · subst h; rfl
theorem eqd (o k : Int) : (o == k) = decide (o = k) := by rw [Bool.eq_iff_iff, beq_iff_eq, decide_eq_true_eq]
theorem p32 {a : Nat} (h : a < 2^32) : a < 2^(1+8+23) := h
theorem p64 {a : Nat} (h : a < 2^64) : a < 2^(1+11+52) := h
/-! ### reckon -/
theorem reckon64 (hf : Okf M X) (o : Int) (la : a < 2^(1+X+M)) (lb : b < 2^(1+X+M)) : Cp 107 [FM M X, LI o, LU a, LU b] (.tup [au (rkN M X o a b : Nat), ai (reI o)]) := by
  obtain ⟨L, hL⟩ := lg_ex
  obtain ⟨R, hR⟩ := rg_ex
  refine cp_of (t107 R L M X o a b) ?_
  simp only [hL.add, hL.sub, hL.mul, hL.div, hL.mr, hL.mq, hL.sq, hL.st, hL.e2, hL.e1, eqd]
  refine brD (fun h => ?_) (fun h1 => ?_)
  · have e : rkN M X o a b = addN M X a b := by unfold rkN; rw [if_pos h]
    have er : reI o = 0 := by unfold reI; rw [if_pos (by omega)]
    rw [e, er]
    exact ⟨add_cn hf la lb, ret_wt _⟩
  refine brD (fun h => ?_) (fun h2 => ?_)
  · have e : rkN M X o a b = subN M X a b := by unfold rkN; rw [if_neg h1, if_pos h]
    have er : reI o = 0 := by unfold reI; rw [if_pos (by omega)]
    rw [e, er]
    exact ⟨sub_cn hf la lb, ret_wt _⟩
  refine brD (fun h => ?_) (fun h3 => ?_)
  · have e : rkN M X o a b = mulN M X a b := by unfold rkN; rw [if_neg h1, if_neg h2, if_pos h]
    have er : reI o = 0 := by unfold reI; rw [if_pos (by omega)]
    rw [e, er]
    exact ⟨mulS_cn hf la lb, ret_wt _⟩
  refine brD (fun h => ?_) (fun h4 => ?_)
  · have e : rkN M X o a b = divN M X a b := by unfold rkN; rw [if_neg h1, if_neg h2, if_neg h3, if_pos h]
    have er : reI o = 0 := by unfold reI; rw [if_pos (by omega)]
    rw [e, er]
    exact ⟨divS_cn hf la lb, ret_wt _⟩
  refine brD (fun h => ?_) (fun h5 => ?_)
  · have e : rkN M X o a b = modr M X a b := by unfold rkN; rw [if_neg h1, if_neg h2, if_neg h3, if_neg h4, if_pos h]
    have er : reI o = 0 := by unfold reI; rw [if_pos (by omega)]
    rw [e, er]
    exact ⟨mod_cn hf la lb, ret_wt _⟩
  refine brD (fun h => ?_) (fun h6 => ?_)
  · have e : rkN M X o a b = modq M X a b := by unfold rkN; rw [if_neg h1, if_neg h2, if_neg h3, if_neg h4, if_neg h5, if_pos h]
    have er : reI o = 0 := by unfold reI; rw [if_pos (by omega)]
    rw [e, er]
    exact ⟨mod_cn hf la lb, ret_wt _⟩
  refine brD (fun h => ?_) (fun h7 => ?_)
  · have e : rkN M X o a b = sqrtN M X a := by unfold rkN; rw [if_neg h1, if_neg h2, if_neg h3, if_neg h4, if_neg h5, if_neg h6, if_pos h]
    have er : reI o = 0 := by unfold reI; rw [if_pos (by omega)]
    rw [e, er]
    exact ⟨sqrt_cn hf la, ret_wt _⟩
  refine brD (fun h => ?_) (fun h8 => ?_)
  · have e : rkN M X o a b = stepN M X a true := by unfold rkN; rw [if_neg h1, if_neg h2, if_neg h3, if_neg h4, if_neg h5, if_neg h6, if_neg h7, if_pos h]
    have er : reI o = 0 := by unfold reI; rw [if_pos (by omega)]
    rw [e, er]
    exact ⟨ceil_cn hf la, ret_wt _⟩
  refine brD (fun h => ?_) (fun h9 => ?_)
  · have e : rkN M X o a b = stepN M X a false := by unfold rkN; rw [if_neg h1, if_neg h2, if_neg h3, if_neg h4, if_neg h5, if_neg h6, if_neg h7, if_neg h8, if_pos h]
    have er : reI o = 0 := by unfold reI; rw [if_pos (by omega)]
    rw [e, er]
    exact ⟨floor_cn hf la, ret_wt _⟩
  have e : rkN M X o a b = 0 := by
    unfold rkN; rw [if_neg h1, if_neg h2, if_neg h3, if_neg h4, if_neg h5, if_neg h6, if_neg h7, if_neg h8, if_neg h9]
  have er : reI o = 1 := by unfold reI; rw [if_neg (by omega)]
  rw [e, er]; rfl
theorem reckon32 (hf : Okf M X) (hw : ∀ {n : Nat}, n < 2^(1+X+M) → n < 2^32) (o : Int) (la : a < 2^(1+X+M)) (lb : b < 2^(1+X+M)) : Cp 100 [FM M X, LI o, LW a, LW b] (.tup [aw (rkN M X o a b : Nat), ai (reI o)]) := by
  obtain ⟨L, hL⟩ := lg_ex
  obtain ⟨R, hR⟩ := rg_ex
  refine cp_of (t100 R L M X o a b) ?_
  simp only [u64_nat (Fl.a64 hf.ok la), u64_nat (Fl.a64 hf.ok lb), hL.add, hL.sub, hL.mul, hL.div, hL.mr, hL.mq, hL.sq, hL.st, hL.e2, hL.e1, eqd]
  refine brD (fun h => ?_) (fun h1 => ?_)
  · have e : rkN M X o a b = addN M X a b := by unfold rkN; rw [if_pos h]
    have er : reI o = 0 := by unfold reI; rw [if_pos (by omega)]
    rw [e, er]
    rw [u32_nat (hw (add_lt hf la lb))]; exact ⟨add_cn hf la lb, ret_wt _⟩
  refine brD (fun h => ?_) (fun h2 => ?_)
  · have e : rkN M X o a b = subN M X a b := by unfold rkN; rw [if_neg h1, if_pos h]
    have er : reI o = 0 := by unfold reI; rw [if_pos (by omega)]
    rw [e, er]
    rw [u32_nat (hw (sub_lt hf la lb))]; exact ⟨sub_cn hf la lb, ret_wt _⟩
  refine brD (fun h => ?_) (fun h3 => ?_)
  · have e : rkN M X o a b = mulN M X a b := by unfold rkN; rw [if_neg h1, if_neg h2, if_pos h]
    have er : reI o = 0 := by unfold reI; rw [if_pos (by omega)]
    rw [e, er]
    rw [u32_nat (hw (mul_lt hf))]; exact ⟨mulS_cn hf la lb, ret_wt _⟩
  refine brD (fun h => ?_) (fun h4 => ?_)
  · have e : rkN M X o a b = divN M X a b := by unfold rkN; rw [if_neg h1, if_neg h2, if_neg h3, if_pos h]
    have er : reI o = 0 := by unfold reI; rw [if_pos (by omega)]
    rw [e, er]
    rw [u32_nat (hw (div_lt hf))]; exact ⟨divS_cn hf la lb, ret_wt _⟩
  refine brD (fun h => ?_) (fun h5 => ?_)
  · have e : rkN M X o a b = modr M X a b := by unfold rkN; rw [if_neg h1, if_neg h2, if_neg h3, if_neg h4, if_pos h]
    have er : reI o = 0 := by unfold reI; rw [if_pos (by omega)]
    rw [e, er]
    rw [u32_nat (hw (modr_lt hf la lb))]; exact ⟨mod_cn hf la lb, ret_wt _⟩
  refine brD (fun h => ?_) (fun h6 => ?_)
  · have e : rkN M X o a b = modq M X a b := by unfold rkN; rw [if_neg h1, if_neg h2, if_neg h3, if_neg h4, if_neg h5, if_pos h]
    have er : reI o = 0 := by unfold reI; rw [if_pos (by omega)]
    rw [e, er]
    rw [u32_nat (hw (modq_lt hf la lb))]; exact ⟨mod_cn hf la lb, ret_wt _⟩
  refine brD (fun h => ?_) (fun h7 => ?_)
  · have e : rkN M X o a b = sqrtN M X a := by unfold rkN; rw [if_neg h1, if_neg h2, if_neg h3, if_neg h4, if_neg h5, if_neg h6, if_pos h]
    have er : reI o = 0 := by unfold reI; rw [if_pos (by omega)]
    rw [e, er]
    rw [u32_nat (hw (sqrt_lt hf la))]; exact ⟨sqrt_cn hf la, ret_wt _⟩
  refine brD (fun h => ?_) (fun h8 => ?_)
  · have e : rkN M X o a b = stepN M X a true := by unfold rkN; rw [if_neg h1, if_neg h2, if_neg h3, if_neg h4, if_neg h5, if_neg h6, if_neg h7, if_pos h]
    have er : reI o = 0 := by unfold reI; rw [if_pos (by omega)]
    rw [e, er]
    rw [u32_nat (hw (step_lt hf la true))]; exact ⟨ceil_cn hf la, ret_wt _⟩
  refine brD (fun h => ?_) (fun h9 => ?_)
  · have e : rkN M X o a b = stepN M X a false := by unfold rkN; rw [if_neg h1, if_neg h2, if_neg h3, if_neg h4, if_neg h5, if_neg h6, if_neg h7, if_neg h8, if_pos h]
    have er : reI o = 0 := by unfold reI; rw [if_pos (by omega)]
    rw [e, er]
    rw [u32_nat (hw (step_lt hf la false))]; exact ⟨floor_cn hf la, ret_wt _⟩
  have e : rkN M X o a b = 0 := by
    unfold rkN; rw [if_neg h1, if_neg h2, if_neg h3, if_neg h4, if_neg h5, if_neg h6, if_neg h7, if_neg h8, if_neg h9]
  have er : reI o = 1 := by unfold reI; rw [if_neg (by omega)]
  rw [e, er]; rfl
theorem reckonR (w : Bool) (o : Int) (la : a < 2^(1+fxN w+fmN w)) (lb : b < 2^(1+fxN w+fmN w)) : Cp 45 [LB w, LI o, LU a, LU b] (.tup [au (rkN (fmN w) (fxN w) o a b : Nat), ai (reI o)]) := by
  obtain ⟨L, hL⟩ := lg_ex
  obtain ⟨R, hR⟩ := rg_ex
  refine cp_of (t45 R L w o a b) ?_
  have hf := okw w
  have fw := format_f w
  simp only [hR.fm, hR.fx, hL.add, hL.sub, hL.mul, hL.div, hL.mr, hL.mq, hL.sq, hL.st, hL.e2, hL.e1, eqd]
  refine ⟨fw, ?_⟩
  generalize fmN w = M at *
  generalize fxN w = X at *
  refine brD (fun h => ?_) (fun h1 => ?_)
  · have e : rkN M X o a b = addN M X a b := by unfold rkN; rw [if_pos h]
    have er : reI o = 0 := by unfold reI; rw [if_pos (by omega)]
    rw [e, er]
    exact ⟨addR_cn hf la lb, ret_wt _⟩
  refine brD (fun h => ?_) (fun h2 => ?_)
  · have e : rkN M X o a b = subN M X a b := by unfold rkN; rw [if_neg h1, if_pos h]
    have er : reI o = 0 := by unfold reI; rw [if_pos (by omega)]
    rw [e, er]
    exact ⟨subR_cn hf la lb, ret_wt _⟩
  refine brD (fun h => ?_) (fun h3 => ?_)
  · have e : rkN M X o a b = mulN M X a b := by unfold rkN; rw [if_neg h1, if_neg h2, if_pos h]
    have er : reI o = 0 := by unfold reI; rw [if_pos (by omega)]
    rw [e, er]
    exact ⟨mulR_cn hf la lb, ret_wt _⟩
  refine brD (fun h => ?_) (fun h4 => ?_)
  · have e : rkN M X o a b = divN M X a b := by unfold rkN; rw [if_neg h1, if_neg h2, if_neg h3, if_pos h]
    have er : reI o = 0 := by unfold reI; rw [if_pos (by omega)]
    rw [e, er]
    exact ⟨divR_cn hf la lb, ret_wt _⟩
  refine brD (fun h => ?_) (fun h5 => ?_)
  · have e : rkN M X o a b = modr M X a b := by unfold rkN; rw [if_neg h1, if_neg h2, if_neg h3, if_neg h4, if_pos h]
    have er : reI o = 0 := by unfold reI; rw [if_pos (by omega)]
    rw [e, er]
    exact ⟨modRef_cn hf la lb, ret_wt _⟩
  refine brD (fun h => ?_) (fun h6 => ?_)
  · have e : rkN M X o a b = modq M X a b := by unfold rkN; rw [if_neg h1, if_neg h2, if_neg h3, if_neg h4, if_neg h5, if_pos h]
    have er : reI o = 0 := by unfold reI; rw [if_pos (by omega)]
    rw [e, er]
    exact ⟨modRef_cn hf la lb, ret_wt _⟩
  refine brD (fun h => ?_) (fun h7 => ?_)
  · have e : rkN M X o a b = sqrtN M X a := by unfold rkN; rw [if_neg h1, if_neg h2, if_neg h3, if_neg h4, if_neg h5, if_neg h6, if_pos h]
    have er : reI o = 0 := by unfold reI; rw [if_pos (by omega)]
    rw [e, er]
    exact ⟨sqrtR_cn hf la, ret_wt _⟩
  refine brD (fun h => ?_) (fun h8 => ?_)
  · have e : rkN M X o a b = stepN M X a true := by unfold rkN; rw [if_neg h1, if_neg h2, if_neg h3, if_neg h4, if_neg h5, if_neg h6, if_neg h7, if_pos h]
    have er : reI o = 0 := by unfold reI; rw [if_pos (by omega)]
    rw [e, er]
    exact ⟨ceilR_cn hf la, ret_wt _⟩
  refine brD (fun h => ?_) (fun h9 => ?_)
  · have e : rkN M X o a b = stepN M X a false := by unfold rkN; rw [if_neg h1, if_neg h2, if_neg h3, if_neg h4, if_neg h5, if_neg h6, if_neg h7, if_neg h8, if_pos h]
    have er : reI o = 0 := by unfold reI; rw [if_pos (by omega)]
    rw [e, er]
    exact ⟨floorR_cn hf la, ret_wt _⟩
  have e : rkN M X o a b = 0 := by
    unfold rkN; rw [if_neg h1, if_neg h2, if_neg h3, if_neg h4, if_neg h5, if_neg h6, if_neg h7, if_neg h8, if_neg h9]
  have er : reI o = 1 := by unfold reI; rw [if_neg (by omega)]
  rw [e, er]; rfl
theorem single_cn' (o : Int) (ha : a < 2^32) (hb : b < 2^32) : Cp 44 [LI o, LW a, LW b] (.tup [aw (rkN 23 8 o a b : Nat), ai (reI o)]) := by
  obtain ⟨L, hL⟩ := lg_ex
  obtain ⟨R, hR⟩ := rg_ex
  refine cp_of (t44 R L o a b) ?_
  have e : R.rk 23 8 o a b = (rkN 23 8 o a b : Nat) := hR.rk 23 8 o a b
  rw [e, hR.re]
  exact ⟨single_f, reckon32 ok32 (fun h => h) o (p32 ha) (p32 hb), rfl⟩
theorem double_cn' (o : Int) (ha : a < 2^64) (hb : b < 2^64) : Cp 48 [LI o, LU a, LU b] (.tup [au (rkN 52 11 o a b : Nat), ai (reI o)]) := by
  obtain ⟨L, hL⟩ := lg_ex
  obtain ⟨R, hR⟩ := rg_ex
  refine cp_of (t48 R L o a b) ?_
  have e : R.rk 52 11 o a b = (rkN 52 11 o a b : Nat) := hR.rk 52 11 o a b
  rw [e, hR.re]
  exact ⟨double_f, reckon64 ok64 o (p64 ha) (p64 hb), rfl⟩
/-! ### integers -/
theorem packSoft_cn (hf : Okf M X) (s : Bool) {n : Nat} (h : n < 2^64) : Cp 69 [FM M X, LB s, LU 0, LU n, LI 0, LB false] (.tup [au (sgn M X s + near M X n 1 0 : Nat), ai 0]) := by
  have := pack_cn hf s false (hi := 0) (lo := n) 0 n (e := 0) rfl rfl (by decide) h (by decide) (by decide) (fun h => by cases h)
  rw [packN_f, show ((0 : Int).toNat * 2^64 + ((n : Nat) : Int).toNat) = n by simp] at this
  exact this
theorem of_lt (n : Nat) : ofN M X n < 2^(1+X+M) := by
  unfold ofN; split
  · exact made_lt _ (near_lt ..)
  · exact made_lt _ (near_lt ..)
theorem shr31 {n : Nat} (h : n < 2^32) : (shr .u32 n 31 == 1) = decide (2^31 ≤ n) := by
  have e : shr .u32 n 31 = ((n / 2^31 : Nat) : Int) := by
    unfold shr
    rw [show ((31 : Int).toNat) = 31 from rfl, show IntKind.u32.bits = 32 from rfl, show min 31 32 = 31 from rfl, pow_cast, Int.fdiv_eq_ediv_of_nonneg _ (Int.natCast_nonneg _)]; rfl
  rw [e, eqd, Bool.eq_iff_iff, decide_eq_true_eq, decide_eq_true_eq]
  omega
theorem made64 (hf : Okf M X) {n : Nat} (h : n < 2^32) : Cp 114 [FM M X, LW n] (LU (ofN M X n : Nat)) := by
  obtain ⟨L, hL⟩ := lg_ex
  obtain ⟨R, hR⟩ := rg_ex
  refine cp_of (t114 R L M X n) ?_
  have e : 4294967296 - (n : Int) = ((2^32 - n : Nat) : Int) := by omega
  rw [shr31 h, u64_nat (n := n) (by omega), e, u64_nat (n := 2^32 - n) (by omega), hL.pk, hL.pk]
  unfold ofN
  refine brD (fun h1 => ?_) (fun h1 => ?_)
  · rw [if_pos h1, decide_eq_true h1]; exact ⟨packSoft_cn hf _ (by omega), rfl⟩
  · rw [if_neg h1, decide_eq_false h1]; exact ⟨packSoft_cn hf _ (by omega), rfl⟩
theorem made32 (hf : Okf M X) (hw : ∀ {n : Nat}, n < 2^(1+X+M) → n < 2^32) {n : Nat} (h : n < 2^32) : Cp 113 [FM M X, LW n] (LW (ofN M X n : Nat)) := by
  obtain ⟨L, hL⟩ := lg_ex
  obtain ⟨R, hR⟩ := rg_ex
  refine cp_of (t113 R L M X n) ?_
  have e : 4294967296 - (n : Int) = ((2^32 - n : Nat) : Int) := by omega
  have hl := hw (of_lt (M := M) (X := X) n)
  rw [shr31 h, u64_nat (n := n) (by omega), e, u64_nat (n := 2^32 - n) (by omega), hL.pk, hL.pk]
  unfold ofN at *
  refine brD (fun h1 => ?_) (fun h1 => ?_)
  · rw [if_pos h1] at hl ⊢
    rw [decide_eq_true h1, u32_nat hl]; exact ⟨packSoft_cn hf _ (by omega), rfl⟩
  · rw [if_neg h1] at hl ⊢
    rw [decide_eq_false h1, u32_nat hl]; exact ⟨packSoft_cn hf _ (by omega), rfl⟩
theorem singleOf_cn {n : Nat} (h : n < 2^32) : Cp 52 [LW n] (LW (ofN 23 8 n : Nat)) := by
  obtain ⟨L, hL⟩ := lg_ex
  obtain ⟨R, hR⟩ := rg_ex
  refine cp_of (t52 R L n) ?_
  have e : R.of 23 8 n = (ofN 23 8 n : Nat) := hR.of 23 8 n
  rw [e]
  exact ⟨single_f, made32 ok32 (fun h => h) h, rfl⟩
theorem doubleOf_cn {n : Nat} (h : n < 2^32) : Cp 54 [LW n] (LU (ofN 52 11 n : Nat)) := by
  obtain ⟨L, hL⟩ := lg_ex
  obtain ⟨R, hR⟩ := rg_ex
  refine cp_of (t54 R L n) ?_
  have e : R.of 52 11 n = (ofN 52 11 n : Nat) := hR.of 52 11 n
  rw [e]
  exact ⟨double_f, made64 ok64 h, rfl⟩
theorem ofR_cn (w : Bool) {n : Nat} (h : n < 2^32) : Cp 53 [LB w, LW n] (LU (ofN (fmN w) (fxN w) n : Nat)) := by
  obtain ⟨N, hN⟩ := nf_ex
  have hf := okw w
  have fw := format_f w
  refine cp_of (t53 N w (fmN w : Nat) (fxN w : Nat) n) ?_
  generalize fmN w = M at *
  generalize fxN w = X at *
  have e : 4294967296 - (n : Int) = ((2^32 - n : Nat) : Int) := by omega
  rw [u64_nat (n := n) (by omega), e, u64_nat (n := 2^32 - n) (by omega), ← dig_one, hN.n, hN.n, hN.nr, hN.nr]
  unfold ofN
  have b1 : bl n ≤ 64 := bl_up (by omega)
  have b2 : bl (2^32 - n) ≤ 64 := bl_up (by omega)
  refine brD (fun h1 => ?_) (fun h1 => ?_)
  · rw [if_pos (by omega)]; exact ⟨fw, natof_cn (by omega), nearR_cn hf _ (by omega) (by rw [bl1]; decide) (by decide) (by decide) (by decide), rfl⟩
  · rw [if_neg (by omega)]; exact ⟨fw, natof_cn (by omega), nearR_cn hf _ (by omega) (by rw [bl1]; decide) (by decide) (by decide) (by decide), rfl⟩
theorem whole_le (M X a : Nat) (u : Bool) : wholeN M X a u ≤ 2^40 := by
  have e : mx40 = 2^40 := rfl
  unfold wholeN
  split
  · exact Nat.zero_le _
  · split
    · exact Nat.le_of_eq e
    · split
      · rw [e]; exact Nat.min_le_right ..
      · rw [e]; exact Nat.min_le_right ..
theorem minI (n k : Nat) : (if (k : Int) < (n : Int) then (k : Int) else n) = ((min n k : Nat) : Int) := by split <;> omega
theorem negW (k : Nat) (h : k ≤ 2^31) : IntKind.u32.wrap (0 - IntKind.u32.wrap (k : Int)) = (((2^32 - k) % 2^32 : Nat) : Int) := by
  rw [u32_nat (by omega)]
  have : IntKind.u32.wrap (0 - (k : Int)) = (0 - (k : Int)) % 4294967296 := by simp [IntKind.wrap, IntKind.bits, IntKind.signed]
  rw [this]; omega
theorem it_lt (M X a : Nat) (u : Bool) : itN M X a u < 2^32 := by
  unfold itN; split
  · exact Nat.mod_lt _ (by decide)
  · omega
theorem int_leaf (M X a : Nat) (u : Bool) : Wt (LW (itN M X a u : Nat)) (br (ng M X a) (.ret (LW (IntKind.u32.wrap (0 - IntKind.u32.wrap (if (2147483648 : Int) < (wholeN M X a u : Nat) then 2147483648 else (wholeN M X a u : Nat)))))) (.ret (LW (IntKind.u32.wrap (if (2147483647 : Int) < (wholeN M X a u : Nat) then 2147483647 else (wholeN M X a u : Nat)))))) := by
  have e1 := minI (wholeN M X a u) 2147483648
  have e2 := minI (wholeN M X a u) 2147483647
  rw [show ((2147483648 : Nat) : Int) = 2147483648 from rfl] at e1
  rw [show ((2147483647 : Nat) : Int) = 2147483647 from rfl] at e2
  rw [e1, e2, negW _ (by omega), u32_nat (by omega)]
  unfold itN
  refine WT.br (fun h => ?_) (fun h => ?_)
  · rw [if_pos h]; rfl
  · rw [if_neg (by rw [h]; decide)]; rfl
theorem int64_cn (hf : Okf M X) (la : a < 2^(1+X+M)) (u : Bool) : Cp 116 [FM M X, LU a, LB u] (LW (itN M X a u : Nat)) := by
  obtain ⟨L, hL⟩ := lg_ex
  obtain ⟨R, hR⟩ := rg_ex
  refine cp_of (t116 R L M X a u) ?_
  rw [hL.wh, hL.neg, hL.e1]
  exact ⟨Whole_cn hf la u, int_leaf M X a u⟩
theorem int32_cn (hf : Okf M X) (la : a < 2^(1+X+M)) (u : Bool) : Cp 115 [FM M X, LW a, LB u] (LW (itN M X a u : Nat)) := by
  obtain ⟨L, hL⟩ := lg_ex
  obtain ⟨R, hR⟩ := rg_ex
  refine cp_of (t115 R L M X a u) ?_
  rw [u64_nat (Fl.a64 hf.ok la), hL.wh, hL.neg, hL.e1]
  exact ⟨Whole_cn hf la u, int_leaf M X a u⟩
theorem singleInt_cn (h : a < 2^32) (u : Bool) : Cp 55 [LW a, LB u] (LW (itN 23 8 a u : Nat)) := by
  obtain ⟨L, hL⟩ := lg_ex
  obtain ⟨R, hR⟩ := rg_ex
  refine cp_of (t55 R L a u) ?_
  have e : R.it 23 8 a u = (itN 23 8 a u : Nat) := hR.it 23 8 a u
  rw [e]
  exact ⟨single_f, int32_cn ok32 (p32 h) u, rfl⟩
theorem doubleInt_cn (h : a < 2^64) (u : Bool) : Cp 57 [LU a, LB u] (LW (itN 52 11 a u : Nat)) := by
  obtain ⟨L, hL⟩ := lg_ex
  obtain ⟨R, hR⟩ := rg_ex
  refine cp_of (t57 R L a u) ?_
  have e : R.it 52 11 a u = (itN 52 11 a u : Nat) := hR.it 52 11 a u
  rw [e]
  exact ⟨double_f, int64_cn ok64 (p64 h) u, rfl⟩
theorem intR_cn (w u : Bool) (la : a < 2^(1+fxN w+fmN w)) : Cp 56 [LB w, LU a, LB u] (LW (itN (fmN w) (fxN w) a u : Nat)) := by
  obtain ⟨L, hL⟩ := lg_ex
  obtain ⟨R, hR⟩ := rg_ex
  have hf := okw w
  have fw := format_f w
  refine cp_of (t56 R L w a u) ?_
  simp only [hR.fm, hR.fx, hL.wh, hL.neg, hL.e1]
  generalize fmN w = M at *
  generalize fxN w = X at *
  refine ⟨fw, WholeR_cn hf la u, ?_⟩
  have hle := whole_le M X a u
  unfold itN
  generalize wholeN M X a u = n at *
  cases ng M X a
  · simp only [brf]
    rw [if_neg (by decide)]
    refine brD (fun h => ?_) (fun h => ?_)
    · rw [Nat.min_eq_right (by omega)]; rfl
    · rw [Nat.min_eq_left (by omega), u32_nat (by omega)]; rfl
  · simp only [brt]
    rw [if_pos trivial]
    refine brD (fun h => ?_) (fun h => brD (fun h2 => ?_) (fun h2 => brD (fun h3 => ?_) (fun h3 => ?_)))
    · rw [Nat.min_eq_right (by omega)]; rfl
    · rw [Nat.min_eq_left (by omega), show 4294967296 - (n : Int) = ((2^32 - n : Nat) : Int) by omega, u64_nat (by omega), u32_mod]; rfl
    · omega
    · rw [Nat.min_eq_left (by omega), u32_mod, show n = 0 by omega]; rfl
/-! ### changes -/
theorem narrow_cn (h : a < 2^64) : Cp 58 [LU a] (LW (convN 52 11 23 8 a : Nat)) := by
  obtain ⟨L, hL⟩ := lg_ex
  obtain ⟨R, hR⟩ := rg_ex
  refine cp_of (t58 R L a) ?_
  have e : L.conv 52 11 23 8 a = (convN 52 11 23 8 a : Nat) := hL.conv 52 11 23 8 a
  have hl : convN 52 11 23 8 a < 2^32 := conv_lt (M := 52) (X := 11) (a := a) ok32
  rw [e, hL.ec, u32_nat hl]
  exact ⟨double_f, single_f, conv_cn ok64 ok32 (p64 h), rfl⟩
theorem widen_cn (h : a < 2^32) : Cp 59 [LW a] (LU (convN 23 8 52 11 a : Nat)) := by
  obtain ⟨L, hL⟩ := lg_ex
  obtain ⟨R, hR⟩ := rg_ex
  refine cp_of (t59 R L a) ?_
  have e : L.conv 23 8 52 11 a = (convN 23 8 52 11 a : Nat) := hL.conv 23 8 52 11 a
  rw [u64_nat (show a < 2^64 by omega), e, hL.ec]
  exact ⟨single_f, double_f, conv_cn ok32 ok64 (p32 h), rfl⟩
theorem change_cn (w : Bool) (h : a < 2^(1+fxN (!w)+fmN (!w))) : Cp 61 [LB w, LU a] (LU (convN (fmN (!w)) (fxN (!w)) (fmN w) (fxN w) a : Nat)) := by
  obtain ⟨L, hL⟩ := lg_ex
  obtain ⟨R, hR⟩ := rg_ex
  refine cp_of (t61 R L w a) ?_
  rw [hR.fm, hR.fm, hR.fx, hR.fx, hL.conv, hL.ec]
  exact ⟨format_f _, format_f _, convR_cn (okw _) (okw _) h, rfl⟩
theorem split_cn (h : a < 2^64) : Cp 60 [LU a] (.tup [aw (a / 2^32 : Nat), aw (a % 2^32 : Nat)]) := by
  obtain ⟨L, hL⟩ := lg_ex
  obtain ⟨R, hR⟩ := rg_ex
  refine cp_of (t60 R L a) ?_
  have e : shr .u64 (a : Int) 32 = ((a / 2^32 : Nat) : Int) := shr_u64 a 32 (by decide)
  rw [e, u32_nat (by omega), u32_mod]; rfl
theorem join_cn (ha : a < 2^32) (hb : b < 2^32) : Cp 62 [LW a, LW b] (LU (a * 2^32 + b : Nat)) := by
  obtain ⟨L, hL⟩ := lg_ex
  obtain ⟨R, hR⟩ := rg_ex
  refine cp_of (t62 R L a b) ?_
  have e : shl .u64 (a : Int) 32 = ((a * 2^32 % 2^64 : Nat) : Int) := shl_u64 a 32
  rw [u64_nat (n := a) (by omega), u64_nat (n := b) (by omega), e, Nat.mod_eq_of_lt (by omega), or64 (by omega) (by omega), or_add (i := 32) (Nat.mul_mod_left ..) hb]; rfl
end Go.Proofs.Ytpliondhiahhnaa.K
