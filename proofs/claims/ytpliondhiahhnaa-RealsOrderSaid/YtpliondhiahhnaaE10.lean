/- SoftWider: the law as a contract. -/
import Derived.Test.YtpliondhiahhnaaE9
set_option linter.unusedVariables false
namespace Go.Proofs.Ytpliondhiahhnaa.K
open Sx Fl Go Go.RowKit
set_option maxRecDepth 100000
variable {M X : Nat} {a b : Nat}
def lsWid (a b cx cy : Int) : LS := ⟨[16, 1, 2, 3, 7, 12, 14], fun x => [LI (x 0), LU a, LU b, LV.p 0 0, LV.p 1 0, LU cx, LU cy], fun x => 0 ≤ x 0 ∧ x 0 ≤ 5, fun x => (5 - x 0).toNat, fun _ => none, false, fun _ => []⟩
def wM (m : Int) : Int := IntKind.i64.wrap (IntKind.i64.wrap (2 * m) + 4)
def wX (x : Int) : Int := IntKind.i64.wrap (x + 2)

theorem t8 (L : LF) (m x a b : Int) : treeL Try.prog 3 (cLF L) [lsWid a b (L.conv m x (wM m) (wX x) a) (L.conv m x (wM m) (wX x) b)] 8 [FM m x, LU a, LU b] = Tr.call 31 [LV.agg [si
    m, si x], LU a] (LV.tup [AV.agg [si (L.kd m x a), sb (L.neg m x a), si (L.ex m x a), su (L.mn m x a)], ai (L.e1 m x a)]) (Tr.call 31 [LV.agg [si m, si x], LU b] (LV.tup [AV.agg
    [si (L.kd m x b), sb (L.neg m x b), si (L.ex m x b), su (L.mn m x b)], ai (L.e1 m x b)]) (br (decide (m > 23)) (Tr.call 24 [] (LB L.live) (Tr.ret (LB L.live))) (br (decide (x >
    9)) (Tr.call 24 [] (LB L.live) (Tr.ret (LB L.live))) (br (L.e1 m x a != 0) (Tr.call 24 [] (LB L.live) (Tr.ret (LB L.live))) (br (L.e1 m x b != 0) (Tr.call 24 [] (LB L.live)
    (Tr.ret (LB L.live))) (Tr.call 39 [LV.agg [si m, si x], LV.agg [si (wM m), si (wX x)], LU a] (LV.tup [au (L.conv m x (wM m) (wX x) a), ai (L.ec m x (wM m) (wX x) a)]) (Tr.call
    39 [LV.agg [si m, si x], LV.agg [si (wM m), si (wX x)], LU b] (LV.tup [au (L.conv m x (wM m) (wX x) b), ai (L.ec m x (wM m) (wX x) b)]) (Tr.call 23 [LI (L.ec m x (wM m) (wX x)
    a)] (LI (L.ec m x (wM m) (wX x) a)) (Tr.call 23 [LI (L.ec m x (wM m) (wX x) b)] (LI (L.ec m x (wM m) (wX x) b)) (br (IntKind.i64.wrap (L.ec m x (wM m) (wX x) a + L.ec m x (wM
    m) (wX x) b) != 0) (Tr.ret (LB false)) (Tr.loop (lsWid a b (L.conv m x (wM m) (wX x) a) (L.conv m x (wM m) (wX x) b)) [LI 0, LU a, LU b, LV.a (AV.s (SV.p 0 0)), LV.a (AV.s
    (SV.p 1 0)), LU (L.conv m x (wM m) (wX x) a), LU (L.conv m x (wM m) (wX x) b)] none fun (x_1 : Nat → Int) (rest : List (Nat × LV)) => br (decide (x_1 0 < 5)) (br (x_1 0 == 0)
    (Tr.call 27 [LV.agg [si m, si x], LU a, LU b] (LV.tup [au (L.add m x a b), ai (L.e2 m x a b)]) (Tr.call 27 [LV.agg [si (wM m), si (wX x)], LU (L.conv m x (wM m) (wX x) a), LU
    (L.conv m x (wM m) (wX x) b)] (LV.tup [au (L.add (wM m) (wX x) (L.conv m x (wM m) (wX x) a) (L.conv m x (wM m) (wX x) b)), ai (L.e2 (wM m) (wX x) (L.conv m x (wM m) (wX x) a)
    (L.conv m x (wM m) (wX x) b))]) (Tr.call 39 [LV.agg [si (wM m), si (wX x)], LV.agg [si m, si x], LU (L.add (wM m) (wX x) (L.conv m x (wM m) (wX x) a) (L.conv m x (wM m) (wX x)
    b))] (LV.tup [au (L.conv (wM m) (wX x) m x (L.add (wM m) (wX x) (L.conv m x (wM m) (wX x) a) (L.conv m x (wM m) (wX x) b))), ai (L.ec (wM m) (wX x) m x (L.add (wM m) (wX x)
    (L.conv m x (wM m) (wX x) a) (L.conv m x (wM m) (wX x) b)))]) (Tr.call 23 [LI (L.e2 m x a b)] (LI (L.e2 m x a b)) (Tr.call 23 [LI (L.e2 (wM m) (wX x) (L.conv m x (wM m) (wX x)
    a) (L.conv m x (wM m) (wX x) b))] (LI (L.e2 (wM m) (wX x) (L.conv m x (wM m) (wX x) a) (L.conv m x (wM m) (wX x) b))) (Tr.call 23 [LI (L.ec (wM m) (wX x) m x (L.add (wM m) (wX
    x) (L.conv m x (wM m) (wX x) a) (L.conv m x (wM m) (wX x) b)))] (LI (L.ec (wM m) (wX x) m x (L.add (wM m) (wX x) (L.conv m x (wM m) (wX x) a) (L.conv m x (wM m) (wX x) b))))
    (br (IntKind.i64.wrap (IntKind.i64.wrap (L.e2 m x a b + L.e2 (wM m) (wX x) (L.conv m x (wM m) (wX x) a) (L.conv m x (wM m) (wX x) b)) + L.ec (wM m) (wX x) m x (L.add (wM m) (wX
    x) (L.conv m x (wM m) (wX x) a) (L.conv m x (wM m) (wX x) b))) != 0) (Tr.ret (LB false)) (br (L.add m x a b != L.conv (wM m) (wX x) m x (L.add (wM m) (wX x) (L.conv m x (wM m)
    (wX x) a) (L.conv m x (wM m) (wX x) b))) (Tr.ret (LB false)) (Tr.again (lsWid a b (L.conv m x (wM m) (wX x) a) (L.conv m x (wM m) (wX x) b)) [LI (IntKind.i64.wrap (x_1 0 + 1)),
    LU a, LU b, LV.a (AV.s (SV.p 0 0)), LV.a (AV.s (SV.p 1 0)), LU (L.conv m x (wM m) (wX x) a), LU (L.conv m x (wM m) (wX x) b)] none x_1 [(23, [si m, si x]), (23, [si (wM m), si
    (wX x)]), (41, [si (L.kd m x a), sb (L.neg m x a), si (L.ex m x a), su (L.mn m x a)]), (41, [si (L.kd m x b), sb (L.neg m x b), si (L.ex m x b), su (L.mn m x b)])] [(23, [si m,
    si x]), (23, [si (wM m), si (wX x)]), (41, [si (L.kd m x a), sb (L.neg m x a), si (L.ex m x a), su (L.mn m x a)]), (41, [si (L.kd m x b), sb (L.neg m x b), si (L.ex m x b), su
    (L.mn m x b)])] 185 185))))))))) (br (x_1 0 == 1) (Tr.call 40 [LV.agg [si m, si x], LU a, LU b] (LV.tup [au (L.sub m x a b), ai (L.e2 m x a b)]) (Tr.call 40 [LV.agg [si (wM m),
    si (wX x)], LU (L.conv m x (wM m) (wX x) a), LU (L.conv m x (wM m) (wX x) b)] (LV.tup [au (L.sub (wM m) (wX x) (L.conv m x (wM m) (wX x) a) (L.conv m x (wM m) (wX x) b)), ai
    (L.e2 (wM m) (wX x) (L.conv m x (wM m) (wX x) a) (L.conv m x (wM m) (wX x) b))]) (Tr.call 39 [LV.agg [si (wM m), si (wX x)], LV.agg [si m, si x], LU (L.sub (wM m) (wX x)
    (L.conv m x (wM m) (wX x) a) (L.conv m x (wM m) (wX x) b))] (LV.tup [au (L.conv (wM m) (wX x) m x (L.sub (wM m) (wX x) (L.conv m x (wM m) (wX x) a) (L.conv m x (wM m) (wX x)
    b))), ai (L.ec (wM m) (wX x) m x (L.sub (wM m) (wX x) (L.conv m x (wM m) (wX x) a) (L.conv m x (wM m) (wX x) b)))]) (Tr.call 23 [LI (L.e2 m x a b)] (LI (L.e2 m x a b)) (Tr.call
    23 [LI (L.e2 (wM m) (wX x) (L.conv m x (wM m) (wX x) a) (L.conv m x (wM m) (wX x) b))] (LI (L.e2 (wM m) (wX x) (L.conv m x (wM m) (wX x) a) (L.conv m x (wM m) (wX x) b)))
    (Tr.call 23 [LI (L.ec (wM m) (wX x) m x (L.sub (wM m) (wX x) (L.conv m x (wM m) (wX x) a) (L.conv m x (wM m) (wX x) b)))] (LI (L.ec (wM m) (wX x) m x (L.sub (wM m) (wX x)
    (L.conv m x (wM m) (wX x) a) (L.conv m x (wM m) (wX x) b)))) (br (IntKind.i64.wrap (IntKind.i64.wrap (L.e2 m x a b + L.e2 (wM m) (wX x) (L.conv m x (wM m) (wX x) a) (L.conv m x
    (wM m) (wX x) b)) + L.ec (wM m) (wX x) m x (L.sub (wM m) (wX x) (L.conv m x (wM m) (wX x) a) (L.conv m x (wM m) (wX x) b))) != 0) (Tr.ret (LB false)) (br (L.sub m x a b !=
    L.conv (wM m) (wX x) m x (L.sub (wM m) (wX x) (L.conv m x (wM m) (wX x) a) (L.conv m x (wM m) (wX x) b))) (Tr.ret (LB false)) (Tr.again (lsWid a b (L.conv m x (wM m) (wX x) a)
    (L.conv m x (wM m) (wX x) b)) [LI (IntKind.i64.wrap (x_1 0 + 1)), LU a, LU b, LV.a (AV.s (SV.p 0 0)), LV.a (AV.s (SV.p 1 0)), LU (L.conv m x (wM m) (wX x) a), LU (L.conv m x
    (wM m) (wX x) b)] none x_1 [(23, [si m, si x]), (23, [si (wM m), si (wX x)]), (41, [si (L.kd m x a), sb (L.neg m x a), si (L.ex m x a), su (L.mn m x a)]), (41, [si (L.kd m x
    b), sb (L.neg m x b), si (L.ex m x b), su (L.mn m x b)])] [(23, [si m, si x]), (23, [si (wM m), si (wX x)]), (41, [si (L.kd m x a), sb (L.neg m x a), si (L.ex m x a), su (L.mn
    m x a)]), (41, [si (L.kd m x b), sb (L.neg m x b), si (L.ex m x b), su (L.mn m x b)])] 185 185))))))))) (br (x_1 0 == 2) (Tr.call 19 [LV.agg [si m, si x], LU a, LU b] (LV.tup
    [au (L.mul m x a b), ai (L.e2 m x a b)]) (Tr.call 19 [LV.agg [si (wM m), si (wX x)], LU (L.conv m x (wM m) (wX x) a), LU (L.conv m x (wM m) (wX x) b)] (LV.tup [au (L.mul (wM m)
    (wX x) (L.conv m x (wM m) (wX x) a) (L.conv m x (wM m) (wX x) b)), ai (L.e2 (wM m) (wX x) (L.conv m x (wM m) (wX x) a) (L.conv m x (wM m) (wX x) b))]) (Tr.call 39 [LV.agg [si
    (wM m), si (wX x)], LV.agg [si m, si x], LU (L.mul (wM m) (wX x) (L.conv m x (wM m) (wX x) a) (L.conv m x (wM m) (wX x) b))] (LV.tup [au (L.conv (wM m) (wX x) m x (L.mul (wM m)
    (wX x) (L.conv m x (wM m) (wX x) a) (L.conv m x (wM m) (wX x) b))), ai (L.ec (wM m) (wX x) m x (L.mul (wM m) (wX x) (L.conv m x (wM m) (wX x) a) (L.conv m x (wM m) (wX x)
    b)))]) (Tr.call 23 [LI (L.e2 m x a b)] (LI (L.e2 m x a b)) (Tr.call 23 [LI (L.e2 (wM m) (wX x) (L.conv m x (wM m) (wX x) a) (L.conv m x (wM m) (wX x) b))] (LI (L.e2 (wM m) (wX
    x) (L.conv m x (wM m) (wX x) a) (L.conv m x (wM m) (wX x) b))) (Tr.call 23 [LI (L.ec (wM m) (wX x) m x (L.mul (wM m) (wX x) (L.conv m x (wM m) (wX x) a) (L.conv m x (wM m) (wX
    x) b)))] (LI (L.ec (wM m) (wX x) m x (L.mul (wM m) (wX x) (L.conv m x (wM m) (wX x) a) (L.conv m x (wM m) (wX x) b)))) (br (IntKind.i64.wrap (IntKind.i64.wrap (L.e2 m x a b +
    L.e2 (wM m) (wX x) (L.conv m x (wM m) (wX x) a) (L.conv m x (wM m) (wX x) b)) + L.ec (wM m) (wX x) m x (L.mul (wM m) (wX x) (L.conv m x (wM m) (wX x) a) (L.conv m x (wM m) (wX
    x) b))) != 0) (Tr.ret (LB false)) (br (L.mul m x a b != L.conv (wM m) (wX x) m x (L.mul (wM m) (wX x) (L.conv m x (wM m) (wX x) a) (L.conv m x (wM m) (wX x) b))) (Tr.ret (LB
    false)) (Tr.again (lsWid a b (L.conv m x (wM m) (wX x) a) (L.conv m x (wM m) (wX x) b)) [LI (IntKind.i64.wrap (x_1 0 + 1)), LU a, LU b, LV.a (AV.s (SV.p 0 0)), LV.a (AV.s (SV.p
    1 0)), LU (L.conv m x (wM m) (wX x) a), LU (L.conv m x (wM m) (wX x) b)] none x_1 [(23, [si m, si x]), (23, [si (wM m), si (wX x)]), (41, [si (L.kd m x a), sb (L.neg m x a), si
    (L.ex m x a), su (L.mn m x a)]), (41, [si (L.kd m x b), sb (L.neg m x b), si (L.ex m x b), su (L.mn m x b)])] [(23, [si m, si x]), (23, [si (wM m), si (wX x)]), (41, [si (L.kd
    m x a), sb (L.neg m x a), si (L.ex m x a), su (L.mn m x a)]), (41, [si (L.kd m x b), sb (L.neg m x b), si (L.ex m x b), su (L.mn m x b)])] 185 185))))))))) (br (x_1 0 == 3)
    (Tr.call 21 [LV.agg [si m, si x], LU a, LU b] (LV.tup [au (L.div m x a b), ai (L.e2 m x a b)]) (Tr.call 21 [LV.agg [si (wM m), si (wX x)], LU (L.conv m x (wM m) (wX x) a), LU
    (L.conv m x (wM m) (wX x) b)] (LV.tup [au (L.div (wM m) (wX x) (L.conv m x (wM m) (wX x) a) (L.conv m x (wM m) (wX x) b)), ai (L.e2 (wM m) (wX x) (L.conv m x (wM m) (wX x) a)
    (L.conv m x (wM m) (wX x) b))]) (Tr.call 39 [LV.agg [si (wM m), si (wX x)], LV.agg [si m, si x], LU (L.div (wM m) (wX x) (L.conv m x (wM m) (wX x) a) (L.conv m x (wM m) (wX x)
    b))] (LV.tup [au (L.conv (wM m) (wX x) m x (L.div (wM m) (wX x) (L.conv m x (wM m) (wX x) a) (L.conv m x (wM m) (wX x) b))), ai (L.ec (wM m) (wX x) m x (L.div (wM m) (wX x)
    (L.conv m x (wM m) (wX x) a) (L.conv m x (wM m) (wX x) b)))]) (Tr.call 23 [LI (L.e2 m x a b)] (LI (L.e2 m x a b)) (Tr.call 23 [LI (L.e2 (wM m) (wX x) (L.conv m x (wM m) (wX x)
    a) (L.conv m x (wM m) (wX x) b))] (LI (L.e2 (wM m) (wX x) (L.conv m x (wM m) (wX x) a) (L.conv m x (wM m) (wX x) b))) (Tr.call 23 [LI (L.ec (wM m) (wX x) m x (L.div (wM m) (wX
    x) (L.conv m x (wM m) (wX x) a) (L.conv m x (wM m) (wX x) b)))] (LI (L.ec (wM m) (wX x) m x (L.div (wM m) (wX x) (L.conv m x (wM m) (wX x) a) (L.conv m x (wM m) (wX x) b))))
    (br (IntKind.i64.wrap (IntKind.i64.wrap (L.e2 m x a b + L.e2 (wM m) (wX x) (L.conv m x (wM m) (wX x) a) (L.conv m x (wM m) (wX x) b)) + L.ec (wM m) (wX x) m x (L.div (wM m) (wX
    x) (L.conv m x (wM m) (wX x) a) (L.conv m x (wM m) (wX x) b))) != 0) (Tr.ret (LB false)) (br (L.div m x a b != L.conv (wM m) (wX x) m x (L.div (wM m) (wX x) (L.conv m x (wM m)
    (wX x) a) (L.conv m x (wM m) (wX x) b))) (Tr.ret (LB false)) (Tr.again (lsWid a b (L.conv m x (wM m) (wX x) a) (L.conv m x (wM m) (wX x) b)) [LI (IntKind.i64.wrap (x_1 0 + 1)),
    LU a, LU b, LV.a (AV.s (SV.p 0 0)), LV.a (AV.s (SV.p 1 0)), LU (L.conv m x (wM m) (wX x) a), LU (L.conv m x (wM m) (wX x) b)] none x_1 [(23, [si m, si x]), (23, [si (wM m), si
    (wX x)]), (41, [si (L.kd m x a), sb (L.neg m x a), si (L.ex m x a), su (L.mn m x a)]), (41, [si (L.kd m x b), sb (L.neg m x b), si (L.ex m x b), su (L.mn m x b)])] [(23, [si m,
    si x]), (23, [si (wM m), si (wX x)]), (41, [si (L.kd m x a), sb (L.neg m x a), si (L.ex m x a), su (L.mn m x a)]), (41, [si (L.kd m x b), sb (L.neg m x b), si (L.ex m x b), su
    (L.mn m x b)])] 185 185))))))))) (br (x_1 0 == 4) (Tr.call 41 [LV.agg [si m, si x], LU a] (LV.tup [au (L.sq m x a), ai (L.e1 m x a)]) (Tr.call 41 [LV.agg [si (wM m), si (wX
    x)], LU (L.conv m x (wM m) (wX x) a)] (LV.tup [au (L.sq (wM m) (wX x) (L.conv m x (wM m) (wX x) a)), ai (L.e1 (wM m) (wX x) (L.conv m x (wM m) (wX x) a))]) (Tr.call 39 [LV.agg
    [si (wM m), si (wX x)], LV.agg [si m, si x], LU (L.sq (wM m) (wX x) (L.conv m x (wM m) (wX x) a))] (LV.tup [au (L.conv (wM m) (wX x) m x (L.sq (wM m) (wX x) (L.conv m x (wM m)
    (wX x) a))), ai (L.ec (wM m) (wX x) m x (L.sq (wM m) (wX x) (L.conv m x (wM m) (wX x) a)))]) (Tr.call 23 [LI (L.e1 m x a)] (LI (L.e1 m x a)) (Tr.call 23 [LI (L.e1 (wM m) (wX x)
    (L.conv m x (wM m) (wX x) a))] (LI (L.e1 (wM m) (wX x) (L.conv m x (wM m) (wX x) a))) (Tr.call 23 [LI (L.ec (wM m) (wX x) m x (L.sq (wM m) (wX x) (L.conv m x (wM m) (wX x)
    a)))] (LI (L.ec (wM m) (wX x) m x (L.sq (wM m) (wX x) (L.conv m x (wM m) (wX x) a)))) (br (IntKind.i64.wrap (IntKind.i64.wrap (L.e1 m x a + L.e1 (wM m) (wX x) (L.conv m x (wM
    m) (wX x) a)) + L.ec (wM m) (wX x) m x (L.sq (wM m) (wX x) (L.conv m x (wM m) (wX x) a))) != 0) (Tr.ret (LB false)) (br (L.sq m x a != L.conv (wM m) (wX x) m x (L.sq (wM m) (wX
    x) (L.conv m x (wM m) (wX x) a))) (Tr.ret (LB false)) (Tr.again (lsWid a b (L.conv m x (wM m) (wX x) a) (L.conv m x (wM m) (wX x) b)) [LI (IntKind.i64.wrap (x_1 0 + 1)), LU a,
    LU b, LV.a (AV.s (SV.p 0 0)), LV.a (AV.s (SV.p 1 0)), LU (L.conv m x (wM m) (wX x) a), LU (L.conv m x (wM m) (wX x) b)] none x_1 [(23, [si m, si x]), (23, [si (wM m), si (wX
    x)]), (41, [si (L.kd m x a), sb (L.neg m x a), si (L.ex m x a), su (L.mn m x a)]), (41, [si (L.kd m x b), sb (L.neg m x b), si (L.ex m x b), su (L.mn m x b)])] [(23, [si m, si
    x]), (23, [si (wM m), si (wX x)]), (41, [si (L.kd m x a), sb (L.neg m x a), si (L.ex m x a), su (L.mn m x a)]), (41, [si (L.kd m x b), sb (L.neg m x b), si (L.ex m x b), su
    (L.mn m x b)])] 185 185))))))))) (Tr.call 39 [LV.agg [si (wM m), si (wX x)], LV.agg [si m, si x], LU 0] (LV.tup [au (L.conv (wM m) (wX x) m x 0), ai (L.ec (wM m) (wX x) m x
    0)]) (Tr.call 23 [LI 0] (LI 0) (Tr.call 23 [LI 0] (LI 0) (Tr.call 23 [LI (L.ec (wM m) (wX x) m x 0)] (LI (L.ec (wM m) (wX x) m x 0)) (br (IntKind.i64.wrap (IntKind.i64.wrap (0
    + 0) + L.ec (wM m) (wX x) m x 0) != 0) (Tr.ret (LB false)) (br (0 != L.conv (wM m) (wX x) m x 0) (Tr.ret (LB false)) (Tr.again (lsWid a b (L.conv m x (wM m) (wX x) a) (L.conv m
    x (wM m) (wX x) b)) [LI (IntKind.i64.wrap (x_1 0 + 1)), LU a, LU b, LV.a (AV.s (SV.p 0 0)), LV.a (AV.s (SV.p 1 0)), LU (L.conv m x (wM m) (wX x) a), LU (L.conv m x (wM m) (wX
    x) b)] none x_1 [(23, [si m, si x]), (23, [si (wM m), si (wX x)]), (41, [si (L.kd m x a), sb (L.neg m x a), si (L.ex m x a), su (L.mn m x a)]), (41, [si (L.kd m x b), sb (L.neg
    m x b), si (L.ex m x b), su (L.mn m x b)])] [(23, [si m, si x]), (23, [si (wM m), si (wX x)]), (41, [si (L.kd m x a), sb (L.neg m x a), si (L.ex m x a), su (L.mn m x a)]), (41,
    [si (L.kd m x b), sb (L.neg m x b), si (L.ex m x b), su (L.mn m x b)])] 185 185)))))))))))) (Tr.call 24 [] (LB L.live) (Tr.ret (LB L.live)))))))))))))) := by kernel_rfl 
theorem lf_ex2 : ∃ L : LF, LL L ∧ (∀ M X M2 X2 a : Nat, L.conv M X M2 X2 a = (convN M X M2 X2 a : Nat)) ∧ (∀ m x m2 x2 a : Int, L.ec m x m2 x2 a = 0) := by
  obtain ⟨L, hL⟩ := lf_ex
  refine ⟨{ L with conv := fun m x m2 x2 a => (convN m.toNat x.toNat m2.toNat x2.toNat a.toNat : Nat), ec := fun _ _ _ _ _ => 0 }, ?_, fun _ _ _ _ _ => rfl, fun _ _ _ _ _ => rfl⟩
  exact { e1 := hL.e1, e2 := hL.e2, add := hL.add, sub := hL.sub, mul := hL.mul, div := hL.div, sq := hL.sq, cmp := hL.cmp, cok := hL.cok, st := hL.st, wh := hL.wh, neg := hL.neg, kd := hL.kd, ex := hL.ex, mn := hL.mn, nan := hL.nan, ze := hL.ze, tu := hL.tu, bias := hL.bias, chk := hL.chk, chkb := hL.chkb, one := hL.one, live := hL.live }
theorem mul_lt (hf : Okf M X) : mulN M X a b < 2^(1+X+M) := by
  have hm := hf.m1
  have inf : ∀ s, infc M X + sgn M X s < 2^(1+X+M) := fun s => by rw [Nat.add_comm]; exact made_lt s (infc_lt' M X)
  have nan : nanc M X < 2^(1+X+M) := by have := nanc_lt (M := M) (X := X) (by omega); rw [pw2]; omega
  have zer : ∀ s, sgn M X s < 2^(1+X+M) := fun s => made_lt (n := 0) s (two_pow_pos _)
  unfold mulN mulP
  split
  · exact nan
  · split
    · exact inf _
    · split
      · exact zer _
      · rw [packN_f]; exact made_lt _ (near_lt ..)
theorem div_lt (hf : Okf M X) : divN M X a b < 2^(1+X+M) := by
  have hm := hf.m1
  have inf : ∀ s, infc M X + sgn M X s < 2^(1+X+M) := fun s => by rw [Nat.add_comm]; exact made_lt s (infc_lt' M X)
  have nan : nanc M X < 2^(1+X+M) := by have := nanc_lt (M := M) (X := X) (by omega); rw [pw2]; omega
  have zer : ∀ s, sgn M X s < 2^(1+X+M) := fun s => made_lt (n := 0) s (two_pow_pos _)
  unfold divN divP
  split
  · exact nan
  · split
    · exact inf _
    · split
      · exact zer _
      · exact made_lt _ (near_lt ..)
theorem sqrt_lt (hf : Okf M X) (ha : a < 2^(1+X+M)) : sqrtN M X a < 2^(1+X+M) := by
  have hm := hf.m1
  have nan : nanc M X < 2^(1+X+M) := by have := nanc_lt (M := M) (X := X) (by omega); rw [pw2]; omega
  unfold sqrtN
  split
  · exact ha
  · split
    · exact nan
    · unfold sqN packN
      split
      · exact made_lt _ (near_lt ..)
      · exact made_lt _ (near_lt ..)
theorem law_wider (m x : Int) {a b : Nat} (ha : a < 2^64) (hb : b < 2^64) : Cp 8 [FM m x, LU a, LU b] (LB true) := by
  obtain ⟨L, hL, hC, hE⟩ := lf_ex2
  refine cpL_of (t8 L m x a b) ?_
  have lv : Wt (LB true) (.call 24 [] (LB true) (.ret (LB true))) := ⟨live3_cn, rfl⟩
  simp only [hL.e1, hL.kd, hL.neg, hL.ex, hL.mn, hL.live]
  refine ⟨open_all ha, open_all hb, brD (fun _ => lv) (fun h1 => brD (fun _ => lv) (fun h2 => ?_))⟩
  cases ka : okB m x a with
  | false => simp only [er1_no ka, n10, brt]; exact lv
  | true =>
  cases kb : okB m x b with
  | false => simp only [er1_ok ka, er1_no kb, n10, n00, brt, brf]; exact lv
  | true =>
  obtain ⟨M, X, rfl, rfl, hf, la⟩ := okB_ok ka
  have lb := (okB_lt hf).1 kb
  have W : Wd M X := ⟨hf, by omega, by omega⟩
  have hg := W.g
  have hwM : wM M = ((2*M+4 : Nat) : Int) := by
    unfold wM; rw [i64_in (n := 2 * (M : Int)) (by omega) (by omega), i64_in (by omega) (by omega)]; omega
  have hwX : wX X = ((X+2 : Nat) : Int) := by
    unfold wX; rw [i64_in (by omega) (by omega)]; omega
  have lx := cv_lt W (a := a)
  have ly := cv_lt W (a := b)
  have kx := (okB_lt hg).2 lx
  have ky := (okB_lt hg).2 ly
  have ex' : convN M X (2*M+4) (X+2) a = cv M X a := rfl
  have ey' : convN M X (2*M+4) (X+2) b = cv M X b := rfl
  have ne : ∀ {p q : Nat}, q = p → ((p : Int) != q) = false := fun {p q} h => neq_nat h.symm
  simp only [hwM, hwX, hC, hE, ex', ey', hL.add, hL.sub, hL.mul, hL.div, hL.sq, hL.e2, hL.e1]
  simp only [er1_ok ka, er1_ok kb, er1_ok kx, er2_ok ka kb, er2_ok kx ky, tot2_ok ka kb, tot2_ok kx ky, tot1_ok ka, tot1_ok kx, w00, n00, brf,
    ne (add_W W la lb), ne (sub_W W la lb), ne (mul_W W la lb), ne (div_W W la lb), ne (sqrt_W W la)]
  refine ⟨conv_cn hf hg la, conv_cn hf hg lb, num3_cn 0, num3_cn 0, ⟨fun _ => 0, rfl, ⟨by decide, by decide⟩, rfl⟩, ?_⟩
  rintro z rest ⟨h0, h5⟩
  dsimp only
  refine brD (fun hlt => ?_) (fun _ => lv)
  have hz : IntKind.i64.wrap (z 0 + 1) = z 0 + 1 := i64_in (by omega) (by omega)
  rw [hz]
  have ag : ∀ (hh : List (TypeId × List SV)) (n : Nat), Wt (LB true) (.again (lsWid a b (cv M X a : Nat) (cv M X b : Nat)) [LI (z 0 + 1), LU a, LU b, LV.a (AV.s (SV.p 0 0)), LV.a (AV.s (SV.p 1 0)), LU (cv M X a : Nat), LU (cv M X b : Nat)] none z hh hh n n) := fun hh n =>
    ⟨⟨fun _ => z 0 + 1, rfl, ⟨by show 0 ≤ z 0 + 1; omega, by show z 0 + 1 ≤ 5; omega⟩, by show (5 - (z 0 + 1)).toNat < (5 - z 0).toNat; omega, rfl⟩, rfl, rfl⟩
  have ez : ∀ k : Int, (z 0 == k) = decide (z 0 = k) := fun k => by rw [Bool.eq_iff_iff, beq_iff_eq, decide_eq_true_eq]
  rw [ez, ez, ez, ez, ez]
  refine brD (fun _ => ⟨add_cn hf la lb, add_cn hg lx ly, conv_cn hg hf (add_lt hg lx ly), num3_cn 0, num3_cn 0, num3_cn 0, ag _ _⟩) (fun n0 => ?_)
  refine brD (fun _ => ⟨sub_cn hf la lb, sub_cn hg lx ly, conv_cn hg hf (sub_lt hg lx ly), num3_cn 0, num3_cn 0, num3_cn 0, ag _ _⟩) (fun n1 => ?_)
  refine brD (fun _ => ⟨mulS_cn hf la lb, mulS_cn hg lx ly, conv_cn hg hf (mul_lt hg), num3_cn 0, num3_cn 0, num3_cn 0, ag _ _⟩) (fun n2 => ?_)
  refine brD (fun _ => ⟨divS_cn hf la lb, divS_cn hg lx ly, conv_cn hg hf (div_lt hg), num3_cn 0, num3_cn 0, num3_cn 0, ag _ _⟩) (fun n3 => ?_)
  refine brD (fun _ => ⟨sqrt_cn hf la, sqrt_cn hg lx, conv_cn hg hf (sqrt_lt hg lx), num3_cn 0, num3_cn 0, num3_cn 0, ag _ _⟩) (fun n4 => ?_)
  exact absurd hlt (by omega)
end Go.Proofs.Ytpliondhiahhnaa.K
