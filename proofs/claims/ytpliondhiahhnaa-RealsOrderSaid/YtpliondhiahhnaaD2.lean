/- grottoref02: the rest; contracts. -/
import Derived.Test.YtpliondhiahhnaaD1
set_option linter.unusedVariables false
namespace Go.Proofs.Ytpliondhiahhnaa.K
open Sx Fl Go Go.RowKit
set_option maxRecDepth 100000
/-- what the reference's functions give -/
structure NF where
  B : List Int → Int
  U : List Int → Int → List Int
  P : List Int → List Int → List Int
  D : List Int → List Int → List Int
  T : List Int → List Int → List Int
  C : List Int → List Int → Int
  S : List Int → Int
  N : Int → List Int
  Q : List Int → List Int → List Int
  R : List Int → List Int → List Int
  t : List Int → List Int
  pw : Int → Int
  bi : Int → Int
  le : Int → Int → Int
  wh : Int → Int → Bool → Int → Int → Int
  na : Int → Int → Int
  inf : Int → Int → Bool → Int
  ze : Int → Int → Bool → Int
  nr : Int → Int → Bool → List Int → List Int → Int → Int
def cNF (N : NF) : Tab := [
  (84, fun l => match l with | [.a (.s (.n y))] => some (LI (N.B y)) | _ => none),
  (91, fun l => match l with | [.a (.s (.n y)), .a (.s (.v (.int _ k)))] => some (.n (N.U y k)) | _ => none),
  (90, fun l => match l with | [.a (.s (.n y)), .a (.s (.n z))] => some (.n (N.P y z)) | _ => none),
  (128, fun l => match l with | [.a (.s (.n y)), .a (.s (.n z))] => some (.n (N.D y z)) | _ => none),
  (73, fun l => match l with | [.a (.s (.n y)), .a (.s (.n z))] => some (.n (N.T y z)) | _ => none),
  (97, fun l => match l with | [.a (.s (.n y)), .a (.s (.n z))] => some (LI (N.C y z)) | _ => none),
  (95, fun l => match l with | [.a (.s (.n y))] => some (LU (N.S y)) | _ => none),
  (74, fun l => match l with | [.a (.s (.v (.int _ k)))] => some (.n (N.N k)) | _ => none),
  (124, fun l => match l with | [.a (.s (.n y)), .a (.s (.n z))] => some (.tup [.s (.n (N.Q y z)), .s (.n (N.R y z))]) | _ => none),
  (123, fun l => match l with | [.a (.s (.n y))] => some (.n (N.t y)) | _ => none),
  (75, fun _ => some (.n [1])),
  (87, fun l => match l with | [.a (.s (.v (.int _ k)))] => some (LU (N.pw k)) | _ => none),
  (30, fun l => match l with | [.a (.agg [.v (.int _ m), .v (.int _ x)])] => some (LI (N.bi x)) | _ => none),
  (88, fun l => match l with | [.a (.agg [.v (.int _ m), .v (.int _ x)])] => some (LI (N.le m x)) | _ => none),
  (86, fun l => match l with | [.a (.agg [.v (.int _ m), .v (.int _ x)]), .a (.s (.v (.bool s))), .a (.s (.v (.int _ a))), .a (.s (.v (.int _ b)))] => some (LU (N.wh m x s a b)) | _ => none),
  (28, fun l => match l with | [.a (.agg [.v (.int _ m), .v (.int _ x)])] => some (LU (N.na m x)) | _ => none),
  (71, fun l => match l with | [.a (.agg [.v (.int _ m), .v (.int _ x)]), .a (.s (.v (.bool s)))] => some (LU (N.inf m x s)) | _ => none),
  (43, fun l => match l with | [.a (.agg [.v (.int _ m), .v (.int _ x)]), .a (.s (.v (.bool s)))] => some (LU (N.ze m x s)) | _ => none),
  (72, fun l => match l with | [.a (.agg [.v (.int _ m), .v (.int _ x)]), .a (.s (.v (.bool s))), .a (.s (.n y)), .a (.s (.n z)), .a (.s (.v (.int _ e)))] => some (LU (N.nr m x s y z e)) | _ => none)]
def lsQuo (D : Int → List Int) (n m : Nat) : LS := ⟨[6, 7, 8, 1], fun x => [.n (D (x 1)), .n (D (x 2)), LI (x 0), .n (D m)],
  fun x => ∃ q r : Nat, x 1 = q ∧ x 2 = r ∧ -1000001 ≤ x 0 ∧ x 0 ≤ 400000 ∧ q * m + r = n ∧ r < m * 2^(x 0 + 1).toNat, fun x => (x 0 + 1).toNat, fun _ => none, false, fun _ => []⟩
def lsPow (n : Int) : LS := ⟨[3, 4, 0], fun x => [LU (x 0), LI (x 1), LI n], fun x => ∃ i : Nat, x 1 = i ∧ (i : Int) ≤ max 0 n ∧ x 0 = (2^i % 2^64 : Nat), fun x => (n - x 1).toNat, fun _ => none, false, fun _ => []⟩
def lsNear (J : Int → Prop) (mu : Int → Nat) (D : Int → List Int) (s : Bool) (a b : Nat) (e : Int) : LS := ⟨[11, 5, 1, 2, 3, 4], fun x => [LI (x 0), LV.p 0 0, LB s, .n (D a), .n (D b), LI e], fun x => J (x 0), fun x => mu (x 0), fun _ => none, false, fun _ => []⟩
theorem t124 (N : NF) (D : Int → List Int) (n m : Nat) : treeL Try.prog 3 (cNF N) [lsQuo D n m] 124 [.n (D n), .n (D m)] =
    Tr.call 123 [LV.n (D (n : Int))] (LV.n (N.t (D (n : Int)))) (Tr.call 84 [LV.n (D (n : Int))] (LI (N.B (D (n : Int)))) (Tr.call 84 [LV.n (D (m : Int))] (LI (N.B (D (m : Int))))
    (Tr.loop (lsQuo D n m) [LV.n [], LV.n (N.t (D (n : Int))), LI (IntKind.i64.wrap (N.B (D (n : Int)) - N.B (D (m : Int)))), LV.n (D (m : Int))] none fun (x : Nat → Int) (rest :
    List (Nat × LV)) => br (decide (x 0 ≥ 0)) (Tr.call 91 [LV.n (D (m : Int)), LI (x 0)] (LV.n (N.U (D (m : Int)) (x 0))) (Tr.call 97 [LV.n (N.U (D (m : Int)) (x 0)), LV.n (D (x
    2))] (LI (N.C (N.U (D (m : Int)) (x 0)) (D (x 2)))) (br (decide (N.C (N.U (D (m : Int)) (x 0)) (D (x 2)) ≤ 0)) (Tr.call 128 [LV.n (D (x 2)), LV.n (N.U (D (m : Int)) (x 0))]
    (LV.n (N.D (D (x 2)) (N.U (D (m : Int)) (x 0)))) (Tr.call 91 [LV.n [1], LI (x 0)] (LV.n (N.U [1] (x 0))) (Tr.call 90 [LV.n (D (x 1)), LV.n (N.U [1] (x 0))] (LV.n (N.P (D (x 1))
    (N.U [1] (x 0)))) (Tr.again (lsQuo D n m) [LV.n (N.P (D (x 1)) (N.U [1] (x 0))), LV.n (N.D (D (x 2)) (N.U (D (m : Int)) (x 0))), LI (IntKind.i64.wrap (x 0 - 1)), LV.n (D (m :
    Int))] none x [] [] 38 38)))) (Tr.again (lsQuo D n m) [LV.n (D (x 1)), LV.n (D (x 2)), LI (IntKind.i64.wrap (x 0 - 1)), LV.n (D (m : Int))] none x [] [] 38 38)))) (Tr.ret
    (LV.tup [AV.s (SV.n (D (x 1))), AV.s (SV.n (D (x 2)))]))))) := by kernel_rfl

theorem t75 (u : Nat) : tree Try.prog 3 [] 75 [] =
    Tr.ret (LV.n [1]) := by kernel_rfl

theorem t87 (n : Int) : treeL Try.prog 3 [] [lsPow n] 87 [LI n] =
    Tr.loop (lsPow n) [LU 1, LI 0, LI n] none fun (x : Nat → Int) (rest : List (Nat × LV)) => br (decide (x 1 < n)) (Tr.again (lsPow n) [LU (IntKind.u64.wrap (2 * x 0)), LI
    (IntKind.i64.wrap (x 1 + 1)), LI n] none x [] [] 13 13) (Tr.ret (LU (x 0))) := by kernel_rfl

theorem t29 (m x : Int) : tree Try.prog 3 [] 29 [FM m x] =
    br (decide (m < 2)) (Tr.ret (LI 1)) (br (decide (m > 52)) (Tr.ret (LI 1)) (br (decide (x < 2)) (Tr.ret (LI 1)) (br (decide (x > 11)) (Tr.ret (LI 1)) (Tr.ret (LI 0))))) := by kernel_rfl

theorem t30 (N : NF) (m x : Int) : tree Try.prog 3 (cNF N) 30 [FM m x] =
    Tr.call 87 [LI (IntKind.i64.wrap (x - 1))] (LU (N.pw (IntKind.i64.wrap (x - 1)))) (Tr.ret (LI (IntKind.i64.wrap (IntKind.i64.wrap (N.pw (IntKind.i64.wrap (x - 1))) - 1)))) := by kernel_rfl

theorem t88 (N : NF) (m x : Int) : tree Try.prog 3 (cNF N) 88 [FM m x] =
    Tr.call 30 [LV.agg [si m, si x]] (LI (N.bi x)) (Tr.ret (LI (IntKind.i64.wrap (IntKind.i64.wrap (1 - N.bi x) - m)))) := by kernel_rfl

theorem t86 (N : NF) (m x a b : Int) (s : Bool) : tree Try.prog 3 (cNF N) 86 [FM m x, LB s, LU a, LU b] =
    Tr.call 87 [LI m] (LU (N.pw m)) (br s (Tr.call 87 [LI (IntKind.i64.wrap (m + x))] (LU (N.pw (IntKind.i64.wrap (m + x)))) (Tr.ret (LU (IntKind.u64.wrap (IntKind.u64.wrap
    (IntKind.u64.wrap (a * N.pw m) + b) + N.pw (IntKind.i64.wrap (m + x))))))) (Tr.ret (LU (IntKind.u64.wrap (IntKind.u64.wrap (a * N.pw m) + b))))) := by kernel_rfl

theorem t28 (N : NF) (m x : Int) : tree Try.prog 3 (cNF N) 28 [FM m x] =
    Tr.call 87 [LI x] (LU (N.pw x)) (Tr.call 87 [LI (IntKind.i64.wrap (m - 1))] (LU (N.pw (IntKind.i64.wrap (m - 1)))) (Tr.call 86 [LV.agg [si m, si x], LB false, LU (IntKind.u64.wrap
    (N.pw x - 1)), LU (N.pw (IntKind.i64.wrap (m - 1)))] (LU (N.wh m x false (IntKind.u64.wrap (N.pw x - 1)) (N.pw (IntKind.i64.wrap (m - 1))))) (Tr.ret (LU (N.wh m x false
    (IntKind.u64.wrap (N.pw x - 1)) (N.pw (IntKind.i64.wrap (m - 1)))))))) := by kernel_rfl

theorem t71 (N : NF) (m x : Int) (s : Bool) : tree Try.prog 3 (cNF N) 71 [FM m x, LB s] =
    Tr.call 87 [LI x] (LU (N.pw x)) (Tr.call 86 [LV.agg [si m, si x], LB s, LU (IntKind.u64.wrap (N.pw x - 1)), LU 0] (LU (N.wh m x s (IntKind.u64.wrap (N.pw x - 1)) 0)) (Tr.ret (LU
    (N.wh m x s (IntKind.u64.wrap (N.pw x - 1)) 0)))) := by kernel_rfl

theorem t43 (N : NF) (m x : Int) (s : Bool) : tree Try.prog 3 (cNF N) 43 [FM m x, LB s] =
    Tr.call 86 [LV.agg [si m, si x], LB s, LU 0, LU 0] (LU (N.wh m x s 0 0)) (Tr.ret (LU (N.wh m x s 0 0))) := by kernel_rfl

theorem t31 (N : NF) (m x a k : Int) : tree Try.prog 3 ((29, fun _ => some (LI k)) :: cNF N) 31 [FM m x, LU a] =
    Tr.call 29 [LV.agg [si m, si x]] (LI k) (br (k != 0) (Tr.ret (LV.tup [AV.agg [si 0, sb false, si 0, su 0], ai 1])) (Tr.call 87 [LI m] (LU (N.pw m)) (br (decide (N.pw m = 0)) Tr.bad
    (Tr.call 87 [LI m] (LU (N.pw m)) (br (decide (N.pw m = 0)) Tr.bad (Tr.call 87 [LI x] (LU (N.pw x)) (br (decide (N.pw x = 0)) Tr.bad (Tr.call 87 [LI x] (LU (N.pw x)) (br (decide
    (N.pw x = 0)) Tr.bad (br (decide (IntKind.u64.wrap ((IntKind.u64.wrap (a.tdiv (N.pw m))).tdiv (N.pw x)) > 1)) (Tr.ret (LV.tup [AV.agg [si 0, sb false, si 0, su 0], ai 1]))
    (Tr.call 87 [LI x] (LU (N.pw x)) (br ((IntKind.u64.wrap (a.tdiv (N.pw m))).tmod (N.pw x) == IntKind.u64.wrap (N.pw x - 1)) (br (a.tmod (N.pw m) == 0) (Tr.ret (LV.tup [AV.agg
    [si 3, sb (IntKind.u64.wrap ((IntKind.u64.wrap (a.tdiv (N.pw m))).tdiv (N.pw x)) == 1), si 0, su 0], ai 0])) (Tr.call 87 [LI x] (LU (N.pw x)) (br ((IntKind.u64.wrap (a.tdiv
    (N.pw m))).tmod (N.pw x) == IntKind.u64.wrap (N.pw x - 1)) (Tr.ret (LV.tup [AV.agg [si 4, sb (IntKind.u64.wrap ((IntKind.u64.wrap (a.tdiv (N.pw m))).tdiv (N.pw x)) == 1), si 0,
    su 0], ai 0])) (br ((IntKind.u64.wrap (a.tdiv (N.pw m))).tmod (N.pw x) == 0) (br (a.tmod (N.pw m) == 0) (Tr.ret (LV.tup [AV.agg [si 1, sb (IntKind.u64.wrap ((IntKind.u64.wrap
    (a.tdiv (N.pw m))).tdiv (N.pw x)) == 1), si 0, su 0], ai 0])) (br ((IntKind.u64.wrap (a.tdiv (N.pw m))).tmod (N.pw x) == 0) (Tr.call 88 [LV.agg [si m, si x]] (LI (N.le m x))
    (Tr.ret (LV.tup [AV.agg [si 2, sb (IntKind.u64.wrap ((IntKind.u64.wrap (a.tdiv (N.pw m))).tdiv (N.pw x)) == 1), si (N.le m x), su (a.tmod (N.pw m))], ai 0]))) (Tr.call 87 [LI
    m] (LU (N.pw m)) (Tr.call 30 [LV.agg [si m, si x]] (LI (N.bi x)) (Tr.ret (LV.tup [AV.agg [si 2, sb (IntKind.u64.wrap ((IntKind.u64.wrap (a.tdiv (N.pw m))).tdiv (N.pw x)) == 1),
    si (IntKind.i64.wrap (IntKind.i64.wrap (IntKind.i64.wrap ((IntKind.u64.wrap (a.tdiv (N.pw m))).tmod (N.pw x)) - N.bi x) - m)), su (IntKind.u64.wrap (N.pw m + a.tmod (N.pw
    m)))], ai 0])))))) (br ((IntKind.u64.wrap (a.tdiv (N.pw m))).tmod (N.pw x) == 0) (Tr.call 88 [LV.agg [si m, si x]] (LI (N.le m x)) (Tr.ret (LV.tup [AV.agg [si 2, sb
    (IntKind.u64.wrap ((IntKind.u64.wrap (a.tdiv (N.pw m))).tdiv (N.pw x)) == 1), si (N.le m x), su (a.tmod (N.pw m))], ai 0]))) (Tr.call 87 [LI m] (LU (N.pw m)) (Tr.call 30
    [LV.agg [si m, si x]] (LI (N.bi x)) (Tr.ret (LV.tup [AV.agg [si 2, sb (IntKind.u64.wrap ((IntKind.u64.wrap (a.tdiv (N.pw m))).tdiv (N.pw x)) == 1), si (IntKind.i64.wrap
    (IntKind.i64.wrap (IntKind.i64.wrap ((IntKind.u64.wrap (a.tdiv (N.pw m))).tmod (N.pw x)) - N.bi x) - m)), su (IntKind.u64.wrap (N.pw m + a.tmod (N.pw m)))], ai 0])))))))))
    (Tr.call 87 [LI x] (LU (N.pw x)) (br ((IntKind.u64.wrap (a.tdiv (N.pw m))).tmod (N.pw x) == IntKind.u64.wrap (N.pw x - 1)) (Tr.ret (LV.tup [AV.agg [si 4, sb (IntKind.u64.wrap
    ((IntKind.u64.wrap (a.tdiv (N.pw m))).tdiv (N.pw x)) == 1), si 0, su 0], ai 0])) (br ((IntKind.u64.wrap (a.tdiv (N.pw m))).tmod (N.pw x) == 0) (br (a.tmod (N.pw m) == 0)
    (Tr.ret (LV.tup [AV.agg [si 1, sb (IntKind.u64.wrap ((IntKind.u64.wrap (a.tdiv (N.pw m))).tdiv (N.pw x)) == 1), si 0, su 0], ai 0])) (br ((IntKind.u64.wrap (a.tdiv (N.pw
    m))).tmod (N.pw x) == 0) (Tr.call 88 [LV.agg [si m, si x]] (LI (N.le m x)) (Tr.ret (LV.tup [AV.agg [si 2, sb (IntKind.u64.wrap ((IntKind.u64.wrap (a.tdiv (N.pw m))).tdiv (N.pw
    x)) == 1), si (N.le m x), su (a.tmod (N.pw m))], ai 0]))) (Tr.call 87 [LI m] (LU (N.pw m)) (Tr.call 30 [LV.agg [si m, si x]] (LI (N.bi x)) (Tr.ret (LV.tup [AV.agg [si 2, sb
    (IntKind.u64.wrap ((IntKind.u64.wrap (a.tdiv (N.pw m))).tdiv (N.pw x)) == 1), si (IntKind.i64.wrap (IntKind.i64.wrap (IntKind.i64.wrap ((IntKind.u64.wrap (a.tdiv (N.pw
    m))).tmod (N.pw x)) - N.bi x) - m)), su (IntKind.u64.wrap (N.pw m + a.tmod (N.pw m)))], ai 0])))))) (br ((IntKind.u64.wrap (a.tdiv (N.pw m))).tmod (N.pw x) == 0) (Tr.call 88
    [LV.agg [si m, si x]] (LI (N.le m x)) (Tr.ret (LV.tup [AV.agg [si 2, sb (IntKind.u64.wrap ((IntKind.u64.wrap (a.tdiv (N.pw m))).tdiv (N.pw x)) == 1), si (N.le m x), su (a.tmod
    (N.pw m))], ai 0]))) (Tr.call 87 [LI m] (LU (N.pw m)) (Tr.call 30 [LV.agg [si m, si x]] (LI (N.bi x)) (Tr.ret (LV.tup [AV.agg [si 2, sb (IntKind.u64.wrap ((IntKind.u64.wrap
    (a.tdiv (N.pw m))).tdiv (N.pw x)) == 1), si (IntKind.i64.wrap (IntKind.i64.wrap (IntKind.i64.wrap ((IntKind.u64.wrap (a.tdiv (N.pw m))).tmod (N.pw x)) - N.bi x) - m)), su
    (IntKind.u64.wrap (N.pw m + a.tmod (N.pw m)))], ai 0])))))))))))))))))))) := by kernel_rfl

theorem t34 (N : NF) (m x k hi lo e : Int) (s mo : Bool) : tree Try.prog 3 ((29, fun _ => some (LI k)) :: cNF N) 34 [FM m x, LB s, LU hi, LU lo, LI e, LB mo] =
    Tr.call 29 [LV.agg [si m, si x]] (LI k) (br (k != 0) (Tr.ret (LV.tup [au 0, ai 1])) (br (decide (e < -4096)) (Tr.ret (LV.tup [au 0, ai 1])) (br (decide (e > 4096)) (Tr.ret (LV.tup
    [au 0, ai 1])) (Tr.call 74 [LU hi] (LV.n (N.N hi)) (Tr.call 91 [LV.n (N.N hi), LI 64] (LV.n (N.U (N.N hi) 64)) (Tr.call 74 [LU lo] (LV.n (N.N lo)) (Tr.call 90 [LV.n (N.U (N.N
    hi) 64), LV.n (N.N lo)] (LV.n (N.P (N.U (N.N hi) 64) (N.N lo))) (br mo (Tr.call 84 [LV.n (N.P (N.U (N.N hi) 64) (N.N lo))] (LI (N.B (N.P (N.U (N.N hi) 64) (N.N lo)))) (br
    (decide (N.B (N.P (N.U (N.N hi) 64) (N.N lo)) < IntKind.i64.wrap (m + 3))) (Tr.ret (LV.tup [au 0, ai 1])) (Tr.call 91 [LV.n (N.P (N.U (N.N hi) 64) (N.N lo)), LI 1] (LV.n (N.U
    (N.P (N.U (N.N hi) 64) (N.N lo)) 1)) (br mo (Tr.call 90 [LV.n (N.U (N.P (N.U (N.N hi) 64) (N.N lo)) 1), LV.n [1]] (LV.n (N.P (N.U (N.P (N.U (N.N hi) 64) (N.N lo)) 1) [1]))
    (Tr.call 72 [LV.agg [si m, si x], LB s, LV.n (N.P (N.U (N.P (N.U (N.N hi) 64) (N.N lo)) 1) [1]), LV.n [1], LI (IntKind.i64.wrap (e - 1))] (LU (N.nr m x s (N.P (N.U (N.P (N.U
    (N.N hi) 64) (N.N lo)) 1) [1]) [1] (IntKind.i64.wrap (e - 1)))) (Tr.ret (LV.tup [au (N.nr m x s (N.P (N.U (N.P (N.U (N.N hi) 64) (N.N lo)) 1) [1]) [1] (IntKind.i64.wrap (e -
    1))), ai 0])))) (Tr.call 72 [LV.agg [si m, si x], LB s, LV.n (N.U (N.P (N.U (N.N hi) 64) (N.N lo)) 1), LV.n [1], LI (IntKind.i64.wrap (e - 1))] (LU (N.nr m x s (N.U (N.P (N.U
    (N.N hi) 64) (N.N lo)) 1) [1] (IntKind.i64.wrap (e - 1)))) (Tr.ret (LV.tup [au (N.nr m x s (N.U (N.P (N.U (N.N hi) 64) (N.N lo)) 1) [1] (IntKind.i64.wrap (e - 1))), ai
    0]))))))) (Tr.call 91 [LV.n (N.P (N.U (N.N hi) 64) (N.N lo)), LI 1] (LV.n (N.U (N.P (N.U (N.N hi) 64) (N.N lo)) 1)) (br mo (Tr.call 90 [LV.n (N.U (N.P (N.U (N.N hi) 64) (N.N
    lo)) 1), LV.n [1]] (LV.n (N.P (N.U (N.P (N.U (N.N hi) 64) (N.N lo)) 1) [1])) (Tr.call 72 [LV.agg [si m, si x], LB s, LV.n (N.P (N.U (N.P (N.U (N.N hi) 64) (N.N lo)) 1) [1]),
    LV.n [1], LI (IntKind.i64.wrap (e - 1))] (LU (N.nr m x s (N.P (N.U (N.P (N.U (N.N hi) 64) (N.N lo)) 1) [1]) [1] (IntKind.i64.wrap (e - 1)))) (Tr.ret (LV.tup [au (N.nr m x s
    (N.P (N.U (N.P (N.U (N.N hi) 64) (N.N lo)) 1) [1]) [1] (IntKind.i64.wrap (e - 1))), ai 0])))) (Tr.call 72 [LV.agg [si m, si x], LB s, LV.n (N.U (N.P (N.U (N.N hi) 64) (N.N lo))
    1), LV.n [1], LI (IntKind.i64.wrap (e - 1))] (LU (N.nr m x s (N.U (N.P (N.U (N.N hi) 64) (N.N lo)) 1) [1] (IntKind.i64.wrap (e - 1)))) (Tr.ret (LV.tup [au (N.nr m x s (N.U (N.P
    (N.U (N.N hi) 64) (N.N lo)) 1) [1] (IntKind.i64.wrap (e - 1))), ai 0]))))))))))))) := by kernel_rfl

variable {M X : Nat}
/-- the laws of what they give -/
structure NL (N : NF) : Prop where
  B : ∀ n : Nat, N.B (dig n) = (bl n : Nat)
  U : ∀ n k : Nat, N.U (dig n) k = dig (n * 2^k)
  P : ∀ n m : Nat, N.P (dig n) (dig m) = dig (n + m)
  D : ∀ n m : Nat, N.D (dig n) (dig m) = dig (n - m)
  T : ∀ n m : Nat, N.T (dig n) (dig m) = dig (n * m)
  C : ∀ n m : Nat, N.C (dig n) (dig m) = cmpZ n m
  S : ∀ n : Nat, N.S (dig n) = n
  n : ∀ n : Nat, N.N n = dig n
  Q : ∀ n m : Nat, N.Q (dig n) (dig m) = dig (n / m)
  R : ∀ n m : Nat, N.R (dig n) (dig m) = dig (n % m)
  t : ∀ n : Nat, N.t (dig n) = dig n
  pw : ∀ k : Nat, N.pw k = (2^k % 2^64 : Nat)
  bi : ∀ X : Nat, N.bi X = bia X
  le : ∀ M X : Nat, N.le M X = 1 - bia X - M
  wh : ∀ (M X : Nat) (s : Bool) (a b : Nat), N.wh M X s a b = (a * 2^M + b + sgn M X s : Nat)
  na : ∀ M X : Nat, N.na M X = nanc M X
  inf : ∀ (M X : Nat) (s : Bool), N.inf M X s = (infc M X + sgn M X s : Nat)
  ze : ∀ (M X : Nat) (s : Bool), N.ze M X s = sgn M X s
  nr : ∀ (M X : Nat) (s : Bool) (a b : Nat) (e : Int), N.nr M X s (dig a) (dig b) e = (sgn M X s + near M X a b e : Nat)
theorem nf_ex : ∃ N : NF, NL N := ⟨⟨fun l => bl (vl l), fun l k => dig (vl l * 2^k.toNat), fun l k => dig (vl l + vl k), fun l k => dig (vl l - vl k), fun l k => dig (vl l * vl k), fun l k => cmpZ (vl l) (vl k), fun l => vl l, fun k => dig k.toNat,
  fun l k => dig (vl l / vl k), fun l k => dig (vl l % vl k), fun l => dig (vl l), fun k => (2^k.toNat % 2^64 : Nat), fun X => bia X.toNat, fun M X => 1 - bia X.toNat - M, fun M X s a b => (a.toNat * 2^M.toNat + b.toNat + sgn M.toNat X.toNat s : Nat),
  fun M X => nanc M.toNat X.toNat, fun M X s => (infc M.toNat X.toNat + sgn M.toNat X.toNat s : Nat), fun M X s => sgn M.toNat X.toNat s, fun M X s a b e => (sgn M.toNat X.toNat s + near M.toNat X.toNat (vl a) (vl b) e : Nat)⟩,
  { B := fun n => by simp only [vl_dig], U := fun n k => by simp only [vl_dig, Int.toNat_natCast], P := fun n k => by simp only [vl_dig], D := fun n k => by simp only [vl_dig], T := fun n k => by simp only [vl_dig], C := fun n k => by simp only [vl_dig], S := fun n => by simp only [vl_dig], n := fun n => rfl,
    Q := fun n k => by simp only [vl_dig], R := fun n k => by simp only [vl_dig], t := fun n => by simp only [vl_dig], pw := fun n => rfl, bi := fun n => rfl, le := fun n m => rfl, wh := fun _ _ _ _ _ => rfl, na := fun _ _ => rfl, inf := fun _ _ _ => rfl, ze := fun _ _ _ => rfl, nr := fun _ _ _ _ _ _ => by simp only [vl_dig, Int.toNat_natCast] }⟩
theorem dig_one : dig 1 = [1] := by rw [dig_pos (by decide), dig_zero]; rfl
theorem one_cn : Cp 75 [] (.n [1]) := cp_of (t75 0) rfl
theorem up1_cn {K : Nat} (h : K ≤ 900000) : Cp 91 [.n [1], LI K] (.n (dig (2^K))) := by
  have := up_cn (n := 1) (K := K) (by have : bl 1 = 1 := by decide
                                      omega)
  rwa [dig_one, Nat.one_mul] at this
theorem bl_two (k : Nat) : bl (2^k) = k + 1 := bl_uniq (by have := two_pow_pos k; omega) (Nat.le_refl _) (pow_lt (by omega))
theorem bl_mono {n m : Nat} (h : n ≤ m) : bl n ≤ bl m := bl_le_iff.2 (Nat.lt_of_le_of_lt h (bl_lt m))
/-! ### Quo -/
theorem quo_cn {n m : Nat} (hn : bl n ≤ 400000) (hm : bl m ≤ 400000) (h0 : 0 < m) : Cp 124 [.n (dig n), .n (dig m)] (.tup [.s (.n (dig (n / m))), .s (.n (dig (n % m)))]) := by
  obtain ⟨N, hN⟩ := nf_ex
  obtain ⟨D, hD⟩ : ∃ D : Int → List Int, ∀ n : Nat, D n = dig n := ⟨fun z => dig z.toNat, fun n => rfl⟩
  have ht := t124 N D n m
  refine (hD n ▸ hD m ▸ cpL_of ht ?_)
  rw [hD n, hD m, hN.t, hN.B, hN.B]
  have tn : Cp 123 [.n (dig n)] (.n (dig n)) := trim_to ⟨okd_dig n, by have := dig_len hn; omega⟩ (vl_dig n)
  have hm1 := bl_le (a := m) (by omega)
  have hn1 := bl_lt n
  have hbm : 1 ≤ bl m := bl_pos (by omega)
  rw [i64_in (by omega) (by omega)]
  refine ⟨tn, bits_cn (by omega), bits_cn (by omega), ⟨fun i => if i = 0 then (bl n : Int) - bl m else if i = 1 then 0 else (n : Nat), ?_, ⟨0, n, rfl, rfl, ?_, ?_, by rw [Nat.zero_mul, Nat.zero_add], ?_⟩, rfl⟩, ?_⟩
  · show [LV.n [], LV.n (dig n), LI ((bl n : Int) - bl m), LV.n (dig m)] = [LV.n (D ((0 : Nat) : Int)), LV.n (D n), LI ((bl n : Int) - bl m), LV.n (D m)]
    rw [hD, hD, hD, dig_zero]
  · show -1000001 ≤ (bl n : Int) - bl m; omega
  · show (bl n : Int) - bl m ≤ 400000; omega
  · show n < m * 2^((bl n : Int) - bl m + 1).toNat
    refine Nat.lt_of_lt_of_le hn1 (Nat.le_trans ?_ (Nat.mul_le_mul_right _ hm1))
    rw [← Nat.pow_add]
    exact pow_le (by omega)
  rintro x rest ⟨q, r, hq, hr, h1, h2, hs, hlt⟩
  dsimp only
  rw [hq, hr, hD q, hD r]
  have hrn : r ≤ n := by omega
  have hqn : q ≤ n := by
    have := Nat.le_mul_of_pos_right q h0
    omega
  have br1 := bl_mono hrn
  have bq1 := bl_mono hqn
  refine brD (fun h3 => ?_) (fun h3 => ?_)
  · obtain ⟨i, hi⟩ : ∃ i : Nat, x 0 = i := ⟨(x 0).toNat, by omega⟩
    rw [hi, show ((i : Int) + 1).toNat = i + 1 by omega] at hlt
    rw [hi] at h2
    rw [hi, hN.U, hN.C]
    rw [← dig_one, hN.U]
    have hbl : bl (m * 2^i) = bl m + i := by
      have e : m * 2^i / 2^i = m := Nat.mul_div_cancel _ (two_pow_pos i)
      rw [bl_shift (k := i) (by rw [e]; omega), e]
    have b1 : bl 1 = 1 := by decide
    refine ⟨up_cn (by omega), cmp_nat (by omega) (by omega), ?_⟩
    have ew : IntKind.i64.wrap ((i : Int) - 1) = (i : Int) - 1 := i64_in (by omega) (by omega)
    rw [ew, hN.D, hN.P]
    have hle : cmpZ (m * 2^i) r ≤ 0 ↔ m * 2^i ≤ r := by
      unfold cmpZ; split
      · omega
      · split <;> omega
    refine brD (fun h => ?_) (fun h => ?_)
    · have h := hle.1 h
      have h2i : 1 * 2^i ≤ n := by
        have : 1 * 2^i ≤ m * 2^i := Nat.mul_le_mul_right _ h0
        omega
      refine ⟨minus_cn (by omega) h, up_cn (by omega), plus_cn (by omega) (by have := bl_mono h2i; omega), ⟨fun j => if j = 0 then (i : Int) - 1 else if j = 1 then ((q + 1 * 2^i : Nat) : Int) else ((r - m * 2^i : Nat) : Int), by show _ = [LV.n (D ((q + 1 * 2^i : Nat) : Int)), LV.n (D ((r - m * 2^i : Nat) : Int)), LI ((i : Int) - 1), LV.n (D (m : Int))]; rw [hD, hD, hD], ⟨q + 1 * 2^i, r - m * 2^i, rfl, rfl, ?_, ?_, ?_, ?_⟩, ?_, rfl⟩, rfl, rfl⟩
      · show -1000001 ≤ (i : Int) - 1; omega
      · show (i : Int) - 1 ≤ 400000; omega
      · rw [Nat.add_mul, Nat.one_mul, Nat.mul_comm (2^i)]; omega
      · show r - m * 2^i < m * 2^((i : Int) - 1 + 1).toNat
        rw [show ((i : Int) - 1 + 1).toNat = i by omega]
        rw [Nat.pow_succ, ← Nat.mul_assoc] at hlt; omega
      · show ((i : Int) - 1 + 1).toNat < (x 0 + 1).toNat
        rw [hi]; omega
    · have h := fun e => h (hle.2 e)
      refine ⟨⟨fun j => if j = 0 then (i : Int) - 1 else if j = 1 then (q : Int) else (r : Int), by show _ = [LV.n (D (q : Int)), LV.n (D (r : Int)), LI ((i : Int) - 1), LV.n (D (m : Int))]; rw [hD, hD, hD], ⟨q, r, rfl, rfl, ?_, ?_, hs, ?_⟩, ?_, rfl⟩, rfl, rfl⟩
      · show -1000001 ≤ (i : Int) - 1; omega
      · show (i : Int) - 1 ≤ 400000; omega
      · show r < m * 2^((i : Int) - 1 + 1).toNat
        rw [show ((i : Int) - 1 + 1).toNat = i by omega]
        exact Nat.lt_of_not_le h
      · show ((i : Int) - 1 + 1).toNat < (x 0 + 1).toNat
        rw [hi]; omega
  · rw [show (x 0 + 1).toNat = 0 by omega, Nat.pow_zero, Nat.mul_one] at hlt
    have e1 : n / m = q := by rw [← hs, Nat.mul_comm, Nat.mul_add_div h0, Nat.div_eq_of_lt hlt, Nat.add_zero]
    have e2 : n % m = r := by rw [← hs, Nat.mul_comm, Nat.mul_add_mod, Nat.mod_eq_of_lt hlt]
    rw [e1, e2]; rfl
/-! ### power and the formats -/
theorem power_cn {n : Nat} (hn : n ≤ 1000000) : Cp 87 [LI n] (LU (2^n % 2^64 : Nat)) := by
  refine cpL_of (t87 n) ⟨⟨fun i => if i = 0 then 1 else 0, rfl, ⟨0, rfl, by omega, rfl⟩, rfl⟩, ?_⟩
  rintro x rest ⟨i, h1, h2, h0⟩
  dsimp only
  rw [h0, h1]
  refine brD (fun h => ?_) (fun h => ?_)
  · rw [i64_in (by omega) (by omega), show (2 : Int) * ((2^i % 2^64 : Nat) : Int) = ((2 * (2^i % 2^64) : Nat) : Int) from rfl, u64_mod]
    refine ⟨⟨fun j => if j = 0 then ((2 * (2^i % 2^64) % 2^64 : Nat) : Int) else (i : Int) + 1, rfl, ⟨i + 1, rfl, by omega, ?_⟩, ?_, rfl⟩, rfl, rfl⟩
    · show ((2 * (2^i % 2^64) % 2^64 : Nat) : Int) = _
      rw [show 2^(i+1) = 2 * 2^i from Nat.pow_succ', Nat.mul_mod_mod]
    · show ((n : Int) - ((i : Int) + 1)).toNat < ((n : Int) - x 1).toNat
      rw [h1]; omega
  · have e : i = n := by omega
    subst e; rfl
theorem pw_lt {n : Nat} (h : n < 64) : 2^n % 2^64 = 2^n := Nat.mod_eq_of_lt (pow_lt h)
theorem checkR_cn (hf : Okf M X) : Cp 29 [FM M X] (LI 0) := by
  have := hf.m1; have := hf.m2; have := hf.x1; have := hf.x2
  exact cp_of (t29 M X) (brF (by omega) (brF (by omega) (brF (by omega) (brF (by omega) rfl))))
theorem checkRbad_cn {m x : Int} (h : ¬ (2 ≤ m ∧ m ≤ 52 ∧ 2 ≤ x ∧ x ≤ 11)) : Cp 29 [FM m x] (LI 1) :=
  cp_of (t29 m x) (brD (fun _ => rfl) fun _ => brD (fun _ => rfl) fun _ => brD (fun _ => rfl) fun _ => brD (fun _ => rfl) fun _ => absurd (by omega) h)
theorem pow_x (hf : Okf M X) : 2^X ≤ 2048 := pow_le (a := X) (b := 11) hf.x2
theorem bia_lt (hf : Okf M X) : bia X ≤ 1023 := by
  unfold bia
  have : 2^(X-1) ≤ 1024 := pow_le (a := X-1) (b := 10) (by have := hf.x2; omega)
  omega
theorem bias_cn (hf : Okf M X) : Cp 30 [FM M X] (LI (bia X)) := by
  obtain ⟨N, hN⟩ := nf_ex
  have := hf.x1; have := hf.x2
  have hb := bia_lt hf
  refine cp_of (t30 N M X) ?_
  rw [i64_in (n := (X : Int) - 1) (by omega) (by omega), show (X : Int) - 1 = ((X - 1 : Nat) : Int) by omega, hN.pw]
  refine ⟨power_cn (by omega), ?_⟩
  rw [pw_lt (by omega)]
  have hp := two_pow_pos (X-1)
  unfold bia at *
  generalize 2^(X-1) = z at *
  rw [i64_in (n := (z : Int)) (by omega) (by omega), i64_in (by omega) (by omega)]
  show LI _ = LI _
  rw [show (z : Int) - 1 = ((z - 1 : Nat) : Int) by omega]
theorem least_cn (hf : Okf M X) : Cp 88 [FM M X] (LI (1 - bia X - M)) := by
  obtain ⟨N, hN⟩ := nf_ex
  have := hf.m1; have := hf.m2
  have hb := bia_lt hf
  refine cp_of (t88 N M X) ?_
  rw [hN.bi, i64_in (n := 1 - (bia X : Int)) (by omega) (by omega), i64_in (by omega) (by omega)]
  exact ⟨bias_cn hf, rfl⟩
theorem wholeR_cn (hf : Okf M X) (s : Bool) {a b : Nat} (h : a * 2^M + b < 2^(X+M)) : Cp 86 [FM M X, LB s, LU a, LU b] (LU (a * 2^M + b + sgn M X s : Nat)) := by
  obtain ⟨N, hN⟩ := nf_ex
  have m1 := hf.m1; have m2 := hf.m2; have x1 := hf.x1; have x2 := hf.x2
  have hp : 2^(X+M) ≤ 2^63 := pow_le (by omega)
  refine cp_of (t86 N M X a b s) ?_
  rw [hN.pw, pw_lt (by omega), i64_in (n := (M : Int) + X) (by omega) (by omega), show (M : Int) + X = ((X + M : Nat) : Int) by omega, hN.pw, pw_lt (by omega), ← Int.natCast_mul, u64_nat (n := a * 2^M) (by omega), ← Int.natCast_add, u64_nat (n := a * 2^M + b) (by omega)]
  have c1 := power_cn (n := M) (by omega)
  have c2 := power_cn (n := X+M) (by omega)
  rw [pw_lt (by omega)] at c1 c2
  refine ⟨c1, WT.br (fun h => ⟨c2, ?_⟩) (fun h => ?_)⟩
  · rw [h, ← Int.natCast_add, u64_nat (by omega)]; rfl
  · rw [h]; rfl
theorem infc_lt (M X : Nat) : infc M X + 2^M = 2^(X+M) := by
  unfold infc
  have := two_pow_pos X
  rw [Nat.pow_add, ← Nat.succ_mul]; congr 1; omega
theorem nanR_cn (hf : Okf M X) : Cp 28 [FM M X] (LU (nanc M X : Nat)) := by
  obtain ⟨N, hN⟩ := nf_ex
  have m1 := hf.m1; have m2 := hf.m2; have x1 := hf.x1; have x2 := hf.x2
  have hx := pow_x hf
  have hx0 := two_pow_pos X
  have hi := infc_lt M X
  have hm : 2^(M-1) < 2^M := pow_lt (by omega)
  refine cp_of (t28 N M X) ?_
  rw [hN.pw, pw_lt (by omega), i64_in (n := (M : Int) - 1) (by omega) (by omega), show (M : Int) - 1 = ((M - 1 : Nat) : Int) by omega, hN.pw, pw_lt (by omega), show ((2^X : Nat) : Int) - 1 = ((2^X - 1 : Nat) : Int) from sub_cast hx0, u64_nat (n := 2^X - 1) (by omega), hN.wh]
  have c1 := power_cn (n := X) (by omega)
  have c2 := power_cn (n := M-1) (by omega)
  rw [pw_lt (by omega)] at c1 c2
  exact ⟨c1, c2, wholeR_cn hf false (by unfold infc at hi; omega), rfl⟩
theorem infR_cn (hf : Okf M X) (s : Bool) : Cp 71 [FM M X, LB s] (LU (infc M X + sgn M X s : Nat)) := by
  obtain ⟨N, hN⟩ := nf_ex
  have m1 := hf.m1; have m2 := hf.m2; have x1 := hf.x1; have x2 := hf.x2
  have hx := pow_x hf
  have hx0 := two_pow_pos X
  have hi := infc_lt M X
  have hm := two_pow_pos M
  refine cp_of (t71 N M X s) ?_
  rw [hN.pw, pw_lt (by omega), show ((2^X : Nat) : Int) - 1 = ((2^X - 1 : Nat) : Int) from sub_cast hx0, u64_nat (n := 2^X - 1) (by omega)]
  have e := hN.wh M X s (2^X-1) 0
  rw [show (((0 : Nat)) : Int) = 0 from rfl] at e
  rw [e]
  have c1 := power_cn (n := X) (by omega)
  rw [pw_lt (by omega)] at c1
  exact ⟨c1, wholeR_cn hf s (b := 0) (by unfold infc at hi; omega), rfl⟩
theorem zeroR_cn (hf : Okf M X) (s : Bool) : Cp 43 [FM M X, LB s] (LU (sgn M X s : Nat)) := by
  obtain ⟨N, hN⟩ := nf_ex
  refine cp_of (t43 N M X s) ?_
  have e := hN.wh M X s 0 0
  rw [Nat.zero_mul, Nat.zero_add] at e
  rw [show (((0 : Nat)) : Int) = 0 from rfl] at e
  rw [e]
  have := wholeR_cn hf s (a := 0) (b := 0) (by have := two_pow_pos (X+M); omega)
  rw [Nat.zero_mul, Nat.zero_add] at this
  exact ⟨this, rfl⟩
/-! ### Near -/
/-- the pattern of a unit and a number -/
def nw (N : NF) (m x : Int) (s : Bool) (U k : Int) : Tr := .call 87 [LI m] (LU (N.pw m)) (br (decide (k < N.pw m)) (.call 86 [FM m x, LB s, LU 0, LU k] (LU (N.wh m x s 0 k)) (.ret (LU (N.wh m x s 0 k))))
  (.call 88 [FM m x] (LI (N.le m x)) (.call 87 [LI x] (LU (N.pw x)) (br (decide (IntKind.i64.wrap (IntKind.i64.wrap (U - N.le m x) + 1) ≥ IntKind.i64.wrap (IntKind.i64.wrap (N.pw x) - 1))) (.call 71 [FM m x, LB s] (LU (N.inf m x s)) (.ret (LU (N.inf m x s))))
    (.call 87 [LI m] (LU (N.pw m)) (.call 86 [FM m x, LB s, LU (IntKind.u64.wrap (IntKind.i64.wrap (IntKind.i64.wrap (U - N.le m x) + 1))), LU (IntKind.u64.wrap (k - N.pw m))] (LU (N.wh m x s (IntKind.u64.wrap (IntKind.i64.wrap (IntKind.i64.wrap (U - N.le m x) + 1))) (IntKind.u64.wrap (k - N.pw m))))
      (.ret (LU (N.wh m x s (IntKind.u64.wrap (IntKind.i64.wrap (IntKind.i64.wrap (U - N.le m x) + 1))) (IntKind.u64.wrap (k - N.pw m)))))))))))
def nc (N : NF) (m x : Int) (s : Bool) (U k : Int) : Tr := .call 87 [LI (IntKind.i64.wrap (m + 1))] (LU (N.pw (IntKind.i64.wrap (m + 1)))) (br (k == N.pw (IntKind.i64.wrap (m + 1))) (nw N m x s (IntKind.i64.wrap (U + 1)) (IntKind.u64.wrap (k.tdiv 2))) (nw N m x s U k))
def nq (N : NF) (m x : Int) (s : Bool) (U : Int) (q r d : List Int) : Tr := .call 95 [.n q] (LU (N.S q)) (.call 91 [.n r, LI 1] (.n (N.U r 1)) (.call 97 [.n (N.U r 1), .n d] (LI (N.C (N.U r 1) d))
  (br (decide (N.C (N.U r 1) d > 0)) (nc N m x s U (IntKind.u64.wrap (N.S q + 1))) (br (N.C (N.U r 1) d == 0) (br ((N.S q).tmod 2 == 1) (nc N m x s U (IntKind.u64.wrap (N.S q + 1))) (nc N m x s U (N.S q))) (nc N m x s U (N.S q))))))
def nb (N : NF) (J : Int → Prop) (mu : Int → Nat) (D : Int → List Int) (m x : Int) (s : Bool) (a b : Nat) (e : Int) (y : Nat → Int) (n d : List Int) : Tr := .call 124 [.n n, .n d] (.tup [.s (.n (N.Q n d)), .s (.n (N.R n d))]) (.call 84 [.n (N.Q n d)] (LI (N.B (N.Q n d)))
  (br (decide (N.B (N.Q n d) ≤ IntKind.i64.wrap (m + 1))) (nq N m x s (y 0) (N.Q n d) (N.R n d) d) (.again (lsNear J mu D s a b e) [LI (IntKind.i64.wrap (y 0 + 1)), .p 0 0, LB s, .n (D a), .n (D b), LI e] none y [(23, [si m, si x])] [(23, [si m, si x])] 132 132)))
theorem t72 (N : NF) (J : Int → Prop) (mu : Int → Nat) (D : Int → List Int) (m x : Int) (s : Bool) (a b : Nat) (e : Int) : treeL Try.prog 3 (cNF N) [lsNear J mu D s a b e] 72 [FM m x, LB s, .n (D a), .n (D b), LI e] =
  .call 123 [.n (D a)] (.n (N.t (D a))) (br ((((N.t (D a)).length : Nat) : Int) == 0) (.call 43 [FM m x, LB s] (LU (N.ze m x s)) (.ret (LU (N.ze m x s)))) (.call 84 [.n (D a)] (LI (N.B (D a))) (.call 84 [.n (D b)] (LI (N.B (D b))) (.call 88 [FM m x] (LI (N.le m x))
    (.loop (lsNear J mu D s a b e) [LI (if N.le m x > IntKind.i64.wrap (IntKind.i64.wrap (IntKind.i64.wrap (IntKind.i64.wrap (N.B (D a) - N.B (D b)) + e) - m) - 1) then N.le m x else IntKind.i64.wrap (IntKind.i64.wrap (IntKind.i64.wrap (IntKind.i64.wrap (N.B (D a) - N.B (D b)) + e) - m) - 1)), .p 0 0, LB s, .n (D a), .n (D b), LI e] none fun y rest =>
      br (decide (y 0 > e)) (.call 91 [.n (D b), LI (IntKind.i64.wrap (y 0 - e))] (.n (N.U (D b) (IntKind.i64.wrap (y 0 - e)))) (nb N J mu D m x s a b e y (D a) (N.U (D b) (IntKind.i64.wrap (y 0 - e)))))
        (.call 91 [.n (D a), LI (IntKind.i64.wrap (e - y 0))] (.n (N.U (D a) (IntKind.i64.wrap (e - y 0)))) (nb N J mu D m x s a b e y (N.U (D a) (IntKind.i64.wrap (e - y 0))) (D b)))))))) := by kernel_rfl
theorem infc_ge (hf : Okf M X) : 3 * 2^M ≤ infc M X := by
  unfold infc
  have : 2^2 ≤ 2^X := pow_le hf.x1
  exact Nat.mul_le_mul_right _ (by omega)
theorem nw_wt {N : NF} (hN : NL N) (hf : Okf M X) (s : Bool) {f k : Nat} {U K : Int} (hU : U = 1 - bia X - M + f) (hK : K = k) (hf1 : f ≤ 1000000) (hk : k < 2^(M+1)) (h0 : k < 2^M → f = 0) :
    Wt (LU (sgn M X s + min (infc M X) (f * 2^M + k) : Nat)) (nw N M X s U K) := by
  subst hK
  have m1 := hf.m1; have m2 := hf.m2; have x1 := hf.x1; have x2 := hf.x2
  have hx := pow_x hf
  have hx0 := two_pow_pos X
  have hi := infc_lt M X
  have hi3 := infc_ge hf
  have hm := two_pow_pos M
  have hm53 : 2^M ≤ 2^52 := pow_le m2
  have hb := bia_lt hf
  have c1 := power_cn (n := M) (by omega)
  have c2 := power_cn (n := X) (by omega)
  rw [pw_lt (by omega)] at c1 c2
  have hmm : 2^(M+1) = 2 * 2^M := Nat.pow_succ'
  unfold nw
  have e0 := hN.wh M X s 0 k
  rw [show (((0 : Nat)) : Int) = 0 from rfl] at e0
  rw [hN.pw, hN.pw, pw_lt (by omega), pw_lt (by omega), hN.le, e0, hN.inf]
  have w0 := fun h => wholeR_cn hf s (a := 0) (b := k) h
  refine ⟨c1, brD (fun h => ?_) (fun h => ?_)⟩
  · have f0 := h0 (by omega)
    subst f0
    refine ⟨w0 (by omega), ?_⟩
    have e5 : 0 * 2^M + k + sgn M X s = sgn M X s + (0 * 2^M + k) := by omega
    show LU ((0 * 2^M + k + sgn M X s : Nat) : Int) = LU _
    rw [Nat.min_eq_right (by omega), e5]
  · have ef : IntKind.i64.wrap (IntKind.i64.wrap (U - (1 - (bia X : Int) - M)) + 1) = ((f + 1 : Nat) : Int) := by
      rw [i64_in (n := U - _) (by omega) (by omega), i64_in (by omega) (by omega)]; omega
    have eg : IntKind.i64.wrap (IntKind.i64.wrap ((2^X : Nat) : Int) - 1) = ((2^X - 1 : Nat) : Int) := by
      generalize 2^X = z at *
      rw [i64_in (n := (z : Int)) (by omega) (by omega), i64_in (by omega) (by omega)]; omega
    rw [ef, eg]
    refine ⟨least_cn hf, c2, brD (fun h2 => ⟨infR_cn hf s, ?_⟩) (fun h2 => ?_)⟩
    · have h3 : (2^X - 1) * 2^M ≤ (f + 1) * 2^M := Nat.mul_le_mul_right _ (by omega)
      have h4 : infc M X ≤ f * 2^M + k := by unfold infc; rw [Nat.add_mul, Nat.one_mul] at h3; omega
      show LU _ = LU _
      rw [Nat.min_eq_left h4, Nat.add_comm]
    · have h3 : (f + 2) * 2^M ≤ (2^X - 1) * 2^M := Nat.mul_le_mul_right _ (by omega)
      have h4 : f * 2^M + k < infc M X := by unfold infc; rw [Nat.add_mul] at h3; omega
      rw [u64_nat (n := f + 1) (by omega), show (k : Int) - ((2^M : Nat) : Int) = ((k - 2^M : Nat) : Int) by omega, u64_nat (n := k - 2^M) (by omega), hN.wh]
      have e5 : (f + 1) * 2^M + (k - 2^M) = f * 2^M + k := by rw [Nat.add_mul]; omega
      have w := wholeR_cn hf s (a := f + 1) (b := k - 2^M) (by rw [e5]; omega)
      rw [e5] at w ⊢
      refine ⟨c1, w, ?_⟩
      show LU _ = LU _
      rw [Nat.min_eq_right (by omega), Nat.add_comm]
theorem nc_wt {N : NF} (hN : NL N) (hf : Okf M X) (s : Bool) {f k : Nat} {U K : Int} (hU : U = 1 - bia X - M + f) (hK : K = k) (hf1 : f ≤ 900000) (hk : k ≤ 2^(M+1)) (h0 : k < 2^M → f = 0) :
    Wt (LU (sgn M X s + min (infc M X) (f * 2^M + k) : Nat)) (nc N M X s U K) := by
  subst hK
  have m1 := hf.m1; have m2 := hf.m2
  have hb := bia_lt hf
  have hmm : 2^(M+1) = 2 * 2^M := Nat.pow_succ'
  have hm := two_pow_pos M
  have hm53 : 2^M ≤ 2^52 := pow_le m2
  have c1 := power_cn (n := M+1) (by omega)
  rw [pw_lt (by omega)] at c1
  unfold nc
  rw [i64_in (n := (M : Int) + 1) (by omega) (by omega), show (M : Int) + 1 = ((M + 1 : Nat) : Int) by omega, hN.pw, pw_lt (by omega)]
  refine ⟨c1, WT.br (fun h => ?_) (fun h => ?_)⟩
  · have h : (k : Int) = ((2^(M+1) : Nat) : Int) := by simpa using h
    have h : k = 2^(M+1) := by omega
    have e1 : ((k : Int)).tdiv 2 = ((2^M : Nat) : Int) := by
      rw [show ((k : Int)).tdiv 2 = ((k / 2 : Nat) : Int) from rfl, h, hmm]; congr 1; omega
    rw [e1, u64_nat (by omega), i64_in (n := U + 1) (by omega) (by omega)]
    have := nw_wt hN hf s (f := f + 1) (k := 2^M) (U := U + 1) (by omega) rfl (by omega) (by omega) (by omega)
    have e2 : (f + 1) * 2^M + 2^M = f * 2^M + k := by rw [h, hmm, Nat.add_mul]; omega
    rwa [e2] at this
  · have h : (k : Int) ≠ ((2^(M+1) : Nat) : Int) := by simpa using h
    exact nw_wt hN hf s hU rfl (by omega) (by omega) h0
theorem nq_wt {N : NF} (hN : NL N) (hf : Okf M X) (s : Bool) {f n d : Nat} {U : Int} (hU : U = 1 - bia X - M + f) (hf1 : f ≤ 900000) (hd : 0 < d) (hbd : bl d ≤ 800000) (hk : n / d < 2^(M+1)) (h0 : f = 0 ∨ 2^M ≤ n / d) :
    Wt (LU (sgn M X s + min (infc M X) (f * 2^M + rne n d) : Nat)) (nq N M X s U (dig (n / d)) (dig (n % d)) (dig d)) := by
  have m1 := hf.m1; have m2 := hf.m2
  have hmm : 2^(M+1) ≤ 2^53 := pow_le (by omega)
  have hr : n % d < d := Nat.mod_lt _ hd
  have hbr : bl (n % d) ≤ bl d := bl_mono (by omega)
  have e1 := hN.U (n % d) 1
  rw [show (((1 : Nat)) : Int) = 1 from rfl, Nat.pow_one] at e1
  have hb2 : bl (n % d * 2) ≤ bl d + 1 := bl_le_iff.2 (by have := bl_lt d; rw [Nat.pow_succ]; omega)
  have cu := up_cn (n := n % d) (K := 1) (by omega)
  rw [Nat.pow_one] at cu
  unfold nq
  rw [hN.S, e1, hN.C]
  refine ⟨small_cn (by omega), cu, cmp_nat (by omega) (by omega), ?_⟩
  have hgt : cmpZ (n % d * 2) d > 0 ↔ d < 2 * (n % d) := by
    unfold cmpZ; split
    · omega
    · split <;> omega
  have heq : (cmpZ (n % d * 2) d == 0) = decide (2 * (n % d) = d) := by
    unfold cmpZ; split
    · rw [decide_eq_false (by omega)]; rfl
    · split
      · rw [decide_eq_false (by omega)]; rfl
      · rw [decide_eq_true (by omega)]; rfl
  have eu : IntKind.u64.wrap (((n / d : Nat) : Int) + 1) = ((n / d + 1 : Nat) : Int) := u64_nat (n := n / d + 1) (by omega)
  have et : ((((n / d : Nat) : Int)).tmod 2 == 1) = decide (n / d % 2 = 1) := by
    rw [show (((n / d : Nat) : Int)).tmod 2 = ((n / d % 2 : Nat) : Int) from rfl]
    by_cases h : n / d % 2 = 1
    · rw [decide_eq_true h, h]; rfl
    · rw [decide_eq_false h]
      have : n / d % 2 = 0 := by omega
      rw [this]; rfl
  rw [eu, heq, et]
  have up : rne n d = n / d + 1 → Wt (LU (sgn M X s + min (infc M X) (f * 2^M + rne n d) : Nat)) (nc N M X s U ((n / d + 1 : Nat) : Int)) := fun h => by
    rw [h]; exact nc_wt hN hf s hU rfl hf1 (by omega) (by omega)
  have dn : rne n d = n / d → Wt (LU (sgn M X s + min (infc M X) (f * 2^M + rne n d) : Nat)) (nc N M X s U ((n / d : Nat) : Int)) := fun h => by
    rw [h]; exact nc_wt hN hf s hU rfl hf1 (by omega) (by omega)
  refine brD (fun h => up ?_) (fun h => brD (fun h2 => brD (fun h3 => up ?_) (fun h3 => dn ?_)) (fun h2 => dn ?_))
  · unfold rne; rw [if_pos (.inl (hgt.1 h))]
  · unfold rne; rw [if_pos (.inr ⟨h2, h3⟩)]
  · unfold rne; rw [if_neg (fun c => by rcases c with c | c; exact h (hgt.2 c); exact h3 c.2)]
  · unfold rne; rw [if_neg (fun c => by rcases c with c | c; exact h (hgt.2 c); exact h2 c.1)]
theorem near_zeroD (M X b : Nat) (e : Int) : near M X 0 b e = 0 := by
  have hl : Nat.log2 0 = 0 := by decide
  unfold near rnd sOf rne; simp [hl]
theorem bl_mul (m i : Nat) (h : 0 < m) : bl (m * 2^i) = bl m + i := by
  have e : m * 2^i / 2^i = m := Nat.mul_div_cancel _ (two_pow_pos i)
  rw [bl_shift (k := i) (by rw [e]; omega), e]
theorem dig_eq_nil {n : Nat} : ((dig n).length : Int) = 0 ↔ n = 0 := by
  constructor
  · intro h
    rcases Nat.eq_zero_or_pos n with c | c
    · exact c
    · have := List.length_pos_iff.2 (show dig n ≠ [] by rw [dig_pos (by omega)]; simp); omega
  · rintro rfl; rw [dig_zero]; rfl
set_option maxHeartbeats 2000000 in
theorem nearR_cn (hf : Okf M X) (s : Bool) {a b : Nat} {e : Int} (ha : bl a ≤ 100000) (hb : bl b ≤ 100000) (hb0 : 0 < b) (he1 : -100000 ≤ e) (he2 : e ≤ 100000) :
    Cp 72 [FM M X, LB s, .n (dig a), .n (dig b), LI e] (LU (sgn M X s + near M X a b e : Nat)) := by
  obtain ⟨N, hN⟩ := nf_ex
  obtain ⟨D, hD⟩ : ∃ D : Int → List Int, ∀ n : Nat, D n = dig n := ⟨fun z => dig z.toNat, fun n => rfl⟩
  have m1 := hf.m1; have m2 := hf.m2
  have hbi := bia_lt hf
  have hbs : (bs M X : Int) = bia X + M := by unfold bs bia; omega
  obtain ⟨L, hL⟩ : ∃ L : Int, L = 1 - bia X - M := ⟨_, rfl⟩
  obtain ⟨V, hV⟩ : ∃ V : Int, V = bl a - bl b + e - M - 1 := ⟨_, rfl⟩
  have ht := t72 N (fun U => L ≤ U ∧ V ≤ U ∧ U ≤ max L V + 1 ∧ (U = max L V + 1 → 0 < a ∧ b * 2^(U - e).toNat * 2^M ≤ a * 2^(e - U).toNat)) (fun U => (max L V + 1 - U).toNat) D M X s a b e
  refine (hD a ▸ hD b ▸ cpL_of ht ?_)
  rw [hD a, hD b, hN.t, hN.B, hN.B, hN.ze, hN.le]
  refine ⟨trim_to ⟨okd_dig a, by have := dig_len ha; omega⟩ (vl_dig a), WT.br (fun h => ?_) (fun h => ?_)⟩
  · have h : ((dig a).length : Int) = 0 := by simpa using h
    have a0 := dig_eq_nil.1 h
    subst a0
    refine ⟨zeroR_cn hf s, ?_⟩
    rw [near_zeroD]; rfl
  · have h : ¬ ((dig a).length : Int) = 0 := by simpa using h
    have a0 : a ≠ 0 := fun c => h (dig_eq_nil.2 c)
    have p1 := bl_lt a
    have p2 := bl_le a0
    have p3 := bl_lt b
    have p4 := bl_le (a := b) (by omega)
    have p5 := bl_pos a0
    have p6 := bl_pos (a := b) (by omega)
    have ew : IntKind.i64.wrap (IntKind.i64.wrap (IntKind.i64.wrap (IntKind.i64.wrap ((bl a : Int) - bl b) + e) - M) - 1) = V := by
      rw [i64_in (n := (bl a : Int) - bl b) (by omega) (by omega), i64_in (n := (bl a : Int) - bl b + e) (by omega) (by omega), i64_in (n := (bl a : Int) - bl b + e - M) (by omega) (by omega), i64_in (by omega) (by omega), hV]
    rw [ew, ← hL]
    have em : (if L > V then L else V) = max L V := by split <;> omega
    rw [em]
    have cl := least_cn hf
    rw [← hL] at cl
    refine ⟨bits_cn (by omega), bits_cn (by omega), cl, ⟨fun _ => max L V, by show _ = [LI (max L V), .p 0 0, LB s, .n (D a), .n (D b), LI e]; rw [hD, hD], (show L ≤ max L V ∧ V ≤ max L V ∧ max L V ≤ max L V + 1 ∧ (max L V = max L V + 1 → 0 < a ∧ b * 2^(max L V - e).toNat * 2^M ≤ a * 2^(e - max L V).toNat) from ⟨by omega, by omega, by omega, fun h => by omega⟩), rfl⟩, ?_⟩
    rintro y rest ⟨j1, j2, j3, j4⟩
    dsimp only
    generalize hU : y 0 = U at *
    -- the step, for both sides of the exponent
    have key : ∀ n d : Nat, n = a * 2^(e - U).toNat → d = b * 2^(U - e).toNat → Wt (LU (sgn M X s + near M X a b e : Nat)) (nb N (fun U => L ≤ U ∧ V ≤ U ∧ U ≤ max L V + 1 ∧ (U = max L V + 1 → 0 < a ∧ b * 2^(U - e).toNat * 2^M ≤ a * 2^(e - U).toNat)) (fun U => (max L V + 1 - U).toNat) D M X s a b e y (dig n) (dig d)) := fun n d hn hd => by
      have hd0 : 0 < d := by rw [hd]; exact Nat.mul_pos hb0 (two_pow_pos _)
      have bn : bl n = bl a + (e - U).toNat := by rw [hn, bl_mul _ _ (by omega)]
      have bd : bl d = bl b + (U - e).toNat := by rw [hd, bl_mul _ _ hb0]
      have n0 : n ≠ 0 := by rw [hn]; exact Nat.ne_of_gt (Nat.mul_pos (by omega) (two_pow_pos _))
      have q1 := bl_lt n
      have q2 := bl_le n0
      have q3 := bl_lt d
      have q4 := bl_le (a := d) (by omega)
      have hbq : bl (n / d) ≤ bl n := bl_mono (Nat.div_le_self _ _)
      have hm1 : IntKind.i64.wrap ((M : Int) + 1) = (M : Int) + 1 := i64_in (by omega) (by omega)
      -- below at the upper unit
      have top : U = max L V + 1 → n < d * 2^(M+1) := fun hu => by
        refine Nat.lt_of_lt_of_le q1 (Nat.le_trans ?_ (Nat.mul_le_mul_right _ q4))
        rw [← Nat.pow_add]
        exact pow_le (by omega)
      have low : U = max L V → V ≥ L → d * 2^M ≤ n := fun hu hv => by
        refine Nat.le_trans ?_ q2
        refine Nat.le_trans (Nat.mul_le_mul_right _ (Nat.le_of_lt q3)) ?_
        rw [← Nat.pow_add]
        exact pow_le (by omega)
      unfold nb
      rw [hN.Q, hN.R, hN.B, hm1, hU]
      refine ⟨quo_cn (by omega) (by omega) hd0, bits_cn (by omega), brD (fun h => ?_) (fun h => ?_)⟩
      · have hq : n / d < 2^(M+1) := bl_le_iff.1 (by omega)
        have hfl : n < d * 2^(M+1) := by
          rw [Nat.mul_comm]; exact (Nat.div_lt_iff_lt_mul hd0).1 hq
        have hlow : U = L ∨ d * 2^M ≤ n := by
          rcases Int.lt_or_le U (max L V + 1) with c | c
          · by_cases hv : V ≥ L
            · exact .inr (low (by omega) hv)
            · left; omega
          · have := (j4 (by omega)).2
            right; rw [hn, hd]; exact this
        have hnear := near_unit (M := M) (X := X) (N := a) (D := b) (e := e) (U := U) hb0 (by rw [hbs]; omega) (by rw [← hn, ← hd]; exact hfl) (by
          rcases hlow with c | c
          · left; rw [hbs]; omega
          · right; rw [← hn, ← hd]; exact c)
        rw [← hn, ← hd, hbs, show 1 - ((bia X : Int) + M) = L by omega] at hnear
        rw [hnear]
        refine nq_wt hN hf s (f := (U - L).toNat) (by omega) (by omega) hd0 (by omega) hq ?_
        rcases hlow with c | c
        · left; omega
        · right; rw [Nat.le_div_iff_mul_le hd0, Nat.mul_comm]; exact c
      · have hne : U ≠ max L V + 1 := fun c => h (by
          have h1 := top c
          have h2 : n / d < 2^(M+1) := by rw [Nat.div_lt_iff_lt_mul hd0, Nat.mul_comm]; exact h1
          have := bl_le_iff.2 h2
          omega)
        have hge : d * 2^(M+1) ≤ n := by
          have h2 : 2^(M+1) ≤ n / d := by
            rcases Nat.lt_or_ge (n / d) (2^(M+1)) with c | c
            · exact absurd (bl_le_iff.2 c) (by omega)
            · exact c
          rw [Nat.mul_comm]; exact (Nat.le_div_iff_mul_le hd0).1 h2
        rw [i64_in (n := U + 1) (by omega) (by omega)]
        refine ⟨⟨fun _ => U + 1, by show _ = [LI (U + 1), .p 0 0, LB s, .n (D a), .n (D b), LI e]; rfl, (show L ≤ U + 1 ∧ V ≤ U + 1 ∧ U + 1 ≤ max L V + 1 ∧ (U + 1 = max L V + 1 → 0 < a ∧ b * 2^(U + 1 - e).toNat * 2^M ≤ a * 2^(e - (U + 1)).toNat) from ⟨by omega, by omega, by omega, fun _ => ⟨by omega, ?_⟩⟩), ?_, rfl⟩, rfl, rfl⟩
        · -- one more halving
          rw [hn, hd] at hge
          rcases Int.lt_or_le U e with c | c
          · obtain ⟨i, hi⟩ : ∃ i, (e - U).toNat = i + 1 := ⟨(e - U).toNat - 1, by omega⟩
            rw [show (U + 1 - e).toNat = 0 by omega, show (e - (U + 1)).toNat = i by omega]
            rw [hi, show (U - e).toNat = 0 by omega, Nat.pow_succ 2 M, Nat.pow_succ 2 i, ← Nat.mul_assoc, ← Nat.mul_assoc] at hge
            exact Nat.le_of_mul_le_mul_right hge (by decide)
          · rw [show (U + 1 - e).toNat = (U - e).toNat + 1 by omega, show (e - (U + 1)).toNat = (e - U).toNat by omega]
            refine Nat.le_trans (Nat.le_of_eq ?_) hge
            rw [Nat.pow_succ, Nat.pow_succ]; ac_rfl
        · show (max L V + 1 - (U + 1)).toNat < (max L V + 1 - y 0).toNat
          rw [hU]; omega
    refine brD (fun h => ?_) (fun h => ?_)
    · rw [i64_in (n := U - e) (by omega) (by omega), show U - e = (((U - e).toNat : Nat) : Int) by omega, hN.U]
      exact ⟨up_cn (by omega), key a _ (by rw [show (e - U).toNat = 0 by omega, Nat.pow_zero, Nat.mul_one]) (by congr 2)⟩
    · rw [i64_in (n := e - U) (by omega) (by omega), show e - U = (((e - U).toNat : Nat) : Int) by omega, hN.U]
      exact ⟨up_cn (by omega), key _ b (by congr 2) (by rw [show (U - e).toNat = 0 by omega, Nat.pow_zero, Nat.mul_one])⟩
end Go.Proofs.Ytpliondhiahhnaa.K
