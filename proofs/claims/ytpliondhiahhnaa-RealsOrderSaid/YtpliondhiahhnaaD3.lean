/- grottoref02: Open, Pack; grottoref03; contracts. -/
import Derived.Test.YtpliondhiahhnaaD2
set_option linter.unusedVariables false
namespace Go.Proofs.Ytpliondhiahhnaa.K
open Sx Fl Go Go.RowKit
set_option maxRecDepth 100000
variable {M X : Nat}
theorem t70 (N : NF) (K E S H : Int → Int) (G : Int → Bool) (m x a b : Int) : tree Try.prog 3 ((31, fun l => match l with | [_, .a (.s (.v (.int _ z)))] => some (.tup [PA (K z) (G z) (E z) (S z), ai (H z)]) | _ => none) :: cNF N) 70 [FM m x, LU a, LU b] =
    Tr.call 31 [LV.agg [si m, si x], LU a] (LV.tup [AV.agg [si (K a), sb (G a), si (E a), su (S a)], ai (H a)]) (Tr.call 31 [LV.agg [si m, si x], LU b] (LV.tup [AV.agg [si (K b), sb (G
    b), si (E b), su (S b)], ai (H b)]) (br (H a != 0) (Tr.ret (LV.tup [AV.agg [si 0, sb false, si 0, su 0], AV.agg [si 0, sb false, si 0, su 0], ai 1])) (br (H b != 0) (Tr.ret
    (LV.tup [AV.agg [si 0, sb false, si 0, su 0], AV.agg [si 0, sb false, si 0, su 0], ai 1])) (Tr.ret (LV.tup [AV.agg [si (K a), sb (G a), si (E a), su (S a)], AV.agg [si (K b),
    sb (G b), si (E b), su (S b)], ai 0]))))) := by kernel_rfl

theorem t82 (N : NF) (k e : Int) (n : Bool) (y : Nat) : tree Try.prog 3 (cNF N) 82 [PL k n e y] =
    br n (Tr.call 74 [LU (y : Int)] (LV.n (N.N (y : Int))) (Tr.ret (LV.agg [si (-1), SV.n (N.N (y : Int)), si e]))) (Tr.call 74 [LU (y : Int)] (LV.n (N.N (y : Int))) (Tr.ret (LV.agg
    [si 1, SV.n (N.N (y : Int)), si e]))) := by kernel_rfl

theorem t42 (N : NF) (m x a : Int) : tree Try.prog 3 (cNF N) 42 [FM m x, LU a] =
    Tr.call 43 [LV.agg [si m, si x], LB true] (LU (N.ze m x true)) (br (decide (a ≥ N.ze m x true)) (Tr.ret (LU (IntKind.u64.wrap (a - N.ze m x true)))) (Tr.ret (LU (IntKind.u64.wrap
    (a + N.ze m x true))))) := by kernel_rfl

theorem t20 (N : NF) (m x a b : Int) (ka kb ea eb ma mb : Int) (na nb : Bool) (g : Int) : tree Try.prog 3 ((70, fun _ => some (.tup [PA ka na ea ma, PA kb nb eb mb, ai g])) :: cNF N) 20 [FM m x, LU a, LU b] =
    Tr.call 70 [LV.agg [si m, si x], LU a, LU b] (LV.tup [AV.agg [si ka, sb na, si ea, su ma], AV.agg [si kb, sb nb, si eb, su mb], ai g]) (br (g != 0) (Tr.ret (LV.tup [au 0, ai g]))
    (br (ka == 4) (Tr.call 28 [LV.agg [si m, si x]] (LU (N.na m x)) (Tr.ret (LV.tup [au (N.na m x), ai 0]))) (br (kb == 4) (Tr.call 28 [LV.agg [si m, si x]] (LU (N.na m x)) (Tr.ret
    (LV.tup [au (N.na m x), ai 0]))) (br (ka == 3) (br (kb == 1) (Tr.call 28 [LV.agg [si m, si x]] (LU (N.na m x)) (Tr.ret (LV.tup [au (N.na m x), ai 0]))) (br (ka == 1) (br (kb ==
    3) (Tr.call 28 [LV.agg [si m, si x]] (LU (N.na m x)) (Tr.ret (LV.tup [au (N.na m x), ai 0]))) (br (ka == 3) (Tr.call 71 [LV.agg [si m, si x], LB (!na == nb)] (LU (N.inf m x !na
    == nb)) (Tr.ret (LV.tup [au (N.inf m x !na == nb), ai 0]))) (br (kb == 3) (Tr.call 71 [LV.agg [si m, si x], LB (!na == nb)] (LU (N.inf m x !na == nb)) (Tr.ret (LV.tup [au
    (N.inf m x !na == nb), ai 0]))) (Tr.call 74 [LU ma] (LV.n (N.N ma)) (Tr.call 74 [LU mb] (LV.n (N.N mb)) (Tr.call 73 [LV.n (N.N ma), LV.n (N.N mb)] (LV.n (N.T (N.N ma) (N.N
    mb))) (Tr.call 75 [] (LV.n [1]) (Tr.call 72 [LV.agg [si m, si x], LB (!na == nb), LV.n (N.T (N.N ma) (N.N mb)), LV.n [1], LI (IntKind.i64.wrap (ea + eb))] (LU (N.nr m x (!na ==
    nb) (N.T (N.N ma) (N.N mb)) [1] (IntKind.i64.wrap (ea + eb)))) (Tr.ret (LV.tup [au (N.nr m x (!na == nb) (N.T (N.N ma) (N.N mb)) [1] (IntKind.i64.wrap (ea + eb))), ai
    0])))))))))) (br (ka == 3) (Tr.call 71 [LV.agg [si m, si x], LB (!na == nb)] (LU (N.inf m x !na == nb)) (Tr.ret (LV.tup [au (N.inf m x !na == nb), ai 0]))) (br (kb == 3)
    (Tr.call 71 [LV.agg [si m, si x], LB (!na == nb)] (LU (N.inf m x !na == nb)) (Tr.ret (LV.tup [au (N.inf m x !na == nb), ai 0]))) (Tr.call 74 [LU ma] (LV.n (N.N ma)) (Tr.call 74
    [LU mb] (LV.n (N.N mb)) (Tr.call 73 [LV.n (N.N ma), LV.n (N.N mb)] (LV.n (N.T (N.N ma) (N.N mb))) (Tr.call 75 [] (LV.n [1]) (Tr.call 72 [LV.agg [si m, si x], LB (!na == nb),
    LV.n (N.T (N.N ma) (N.N mb)), LV.n [1], LI (IntKind.i64.wrap (ea + eb))] (LU (N.nr m x (!na == nb) (N.T (N.N ma) (N.N mb)) [1] (IntKind.i64.wrap (ea + eb)))) (Tr.ret (LV.tup
    [au (N.nr m x (!na == nb) (N.T (N.N ma) (N.N mb)) [1] (IntKind.i64.wrap (ea + eb))), ai 0]))))))))))) (br (ka == 1) (br (kb == 3) (Tr.call 28 [LV.agg [si m, si x]] (LU (N.na m
    x)) (Tr.ret (LV.tup [au (N.na m x), ai 0]))) (br (ka == 3) (Tr.call 71 [LV.agg [si m, si x], LB (!na == nb)] (LU (N.inf m x !na == nb)) (Tr.ret (LV.tup [au (N.inf m x !na ==
    nb), ai 0]))) (br (kb == 3) (Tr.call 71 [LV.agg [si m, si x], LB (!na == nb)] (LU (N.inf m x !na == nb)) (Tr.ret (LV.tup [au (N.inf m x !na == nb), ai 0]))) (Tr.call 74 [LU ma]
    (LV.n (N.N ma)) (Tr.call 74 [LU mb] (LV.n (N.N mb)) (Tr.call 73 [LV.n (N.N ma), LV.n (N.N mb)] (LV.n (N.T (N.N ma) (N.N mb))) (Tr.call 75 [] (LV.n [1]) (Tr.call 72 [LV.agg [si
    m, si x], LB (!na == nb), LV.n (N.T (N.N ma) (N.N mb)), LV.n [1], LI (IntKind.i64.wrap (ea + eb))] (LU (N.nr m x (!na == nb) (N.T (N.N ma) (N.N mb)) [1] (IntKind.i64.wrap (ea +
    eb)))) (Tr.ret (LV.tup [au (N.nr m x (!na == nb) (N.T (N.N ma) (N.N mb)) [1] (IntKind.i64.wrap (ea + eb))), ai 0])))))))))) (br (ka == 3) (Tr.call 71 [LV.agg [si m, si x], LB
    (!na == nb)] (LU (N.inf m x !na == nb)) (Tr.ret (LV.tup [au (N.inf m x !na == nb), ai 0]))) (br (kb == 3) (Tr.call 71 [LV.agg [si m, si x], LB (!na == nb)] (LU (N.inf m x !na
    == nb)) (Tr.ret (LV.tup [au (N.inf m x !na == nb), ai 0]))) (Tr.call 74 [LU ma] (LV.n (N.N ma)) (Tr.call 74 [LU mb] (LV.n (N.N mb)) (Tr.call 73 [LV.n (N.N ma), LV.n (N.N mb)]
    (LV.n (N.T (N.N ma) (N.N mb))) (Tr.call 75 [] (LV.n [1]) (Tr.call 72 [LV.agg [si m, si x], LB (!na == nb), LV.n (N.T (N.N ma) (N.N mb)), LV.n [1], LI (IntKind.i64.wrap (ea +
    eb))] (LU (N.nr m x (!na == nb) (N.T (N.N ma) (N.N mb)) [1] (IntKind.i64.wrap (ea + eb)))) (Tr.ret (LV.tup [au (N.nr m x (!na == nb) (N.T (N.N ma) (N.N mb)) [1]
    (IntKind.i64.wrap (ea + eb))), ai 0])))))))))))))) := by kernel_rfl

theorem t22 (N : NF) (m x a b : Int) (ka kb ea eb ma mb : Int) (na nb : Bool) (g : Int) : tree Try.prog 3 ((70, fun _ => some (.tup [PA ka na ea ma, PA kb nb eb mb, ai g])) :: cNF N) 22 [FM m x, LU a, LU b] =
    Tr.call 70 [LV.agg [si m, si x], LU a, LU b] (LV.tup [AV.agg [si ka, sb na, si ea, su ma], AV.agg [si kb, sb nb, si eb, su mb], ai g]) (br (g != 0) (Tr.ret (LV.tup [au 0, ai g]))
    (br (ka == 4) (Tr.call 28 [LV.agg [si m, si x]] (LU (N.na m x)) (Tr.ret (LV.tup [au (N.na m x), ai 0]))) (br (kb == 4) (Tr.call 28 [LV.agg [si m, si x]] (LU (N.na m x)) (Tr.ret
    (LV.tup [au (N.na m x), ai 0]))) (br (ka == 3) (br (kb == 3) (Tr.call 28 [LV.agg [si m, si x]] (LU (N.na m x)) (Tr.ret (LV.tup [au (N.na m x), ai 0]))) (br (ka == 1) (br (kb ==
    1) (Tr.call 28 [LV.agg [si m, si x]] (LU (N.na m x)) (Tr.ret (LV.tup [au (N.na m x), ai 0]))) (br (ka == 3) (Tr.call 71 [LV.agg [si m, si x], LB (!na == nb)] (LU (N.inf m x !na
    == nb)) (Tr.ret (LV.tup [au (N.inf m x !na == nb), ai 0]))) (br (kb == 1) (Tr.call 71 [LV.agg [si m, si x], LB (!na == nb)] (LU (N.inf m x !na == nb)) (Tr.ret (LV.tup [au
    (N.inf m x !na == nb), ai 0]))) (br (kb == 3) (Tr.call 43 [LV.agg [si m, si x], LB (!na == nb)] (LU (N.ze m x !na == nb)) (Tr.ret (LV.tup [au (N.ze m x !na == nb), ai 0])))
    (Tr.call 74 [LU ma] (LV.n (N.N ma)) (Tr.call 74 [LU mb] (LV.n (N.N mb)) (Tr.call 72 [LV.agg [si m, si x], LB (!na == nb), LV.n (N.N ma), LV.n (N.N mb), LI (IntKind.i64.wrap (ea
    - eb))] (LU (N.nr m x (!na == nb) (N.N ma) (N.N mb) (IntKind.i64.wrap (ea - eb)))) (Tr.ret (LV.tup [au (N.nr m x (!na == nb) (N.N ma) (N.N mb) (IntKind.i64.wrap (ea - eb))), ai
    0]))))))))) (br (ka == 3) (Tr.call 71 [LV.agg [si m, si x], LB (!na == nb)] (LU (N.inf m x !na == nb)) (Tr.ret (LV.tup [au (N.inf m x !na == nb), ai 0]))) (br (kb == 1)
    (Tr.call 71 [LV.agg [si m, si x], LB (!na == nb)] (LU (N.inf m x !na == nb)) (Tr.ret (LV.tup [au (N.inf m x !na == nb), ai 0]))) (br (kb == 3) (Tr.call 43 [LV.agg [si m, si x],
    LB (!na == nb)] (LU (N.ze m x !na == nb)) (Tr.ret (LV.tup [au (N.ze m x !na == nb), ai 0]))) (Tr.call 74 [LU ma] (LV.n (N.N ma)) (Tr.call 74 [LU mb] (LV.n (N.N mb)) (Tr.call 72
    [LV.agg [si m, si x], LB (!na == nb), LV.n (N.N ma), LV.n (N.N mb), LI (IntKind.i64.wrap (ea - eb))] (LU (N.nr m x (!na == nb) (N.N ma) (N.N mb) (IntKind.i64.wrap (ea - eb))))
    (Tr.ret (LV.tup [au (N.nr m x (!na == nb) (N.N ma) (N.N mb) (IntKind.i64.wrap (ea - eb))), ai 0])))))))))) (br (ka == 1) (br (kb == 1) (Tr.call 28 [LV.agg [si m, si x]] (LU
    (N.na m x)) (Tr.ret (LV.tup [au (N.na m x), ai 0]))) (br (ka == 3) (Tr.call 71 [LV.agg [si m, si x], LB (!na == nb)] (LU (N.inf m x !na == nb)) (Tr.ret (LV.tup [au (N.inf m x
    !na == nb), ai 0]))) (br (kb == 1) (Tr.call 71 [LV.agg [si m, si x], LB (!na == nb)] (LU (N.inf m x !na == nb)) (Tr.ret (LV.tup [au (N.inf m x !na == nb), ai 0]))) (br (kb ==
    3) (Tr.call 43 [LV.agg [si m, si x], LB (!na == nb)] (LU (N.ze m x !na == nb)) (Tr.ret (LV.tup [au (N.ze m x !na == nb), ai 0]))) (Tr.call 74 [LU ma] (LV.n (N.N ma)) (Tr.call
    74 [LU mb] (LV.n (N.N mb)) (Tr.call 72 [LV.agg [si m, si x], LB (!na == nb), LV.n (N.N ma), LV.n (N.N mb), LI (IntKind.i64.wrap (ea - eb))] (LU (N.nr m x (!na == nb) (N.N ma)
    (N.N mb) (IntKind.i64.wrap (ea - eb)))) (Tr.ret (LV.tup [au (N.nr m x (!na == nb) (N.N ma) (N.N mb) (IntKind.i64.wrap (ea - eb))), ai 0]))))))))) (br (ka == 3) (Tr.call 71
    [LV.agg [si m, si x], LB (!na == nb)] (LU (N.inf m x !na == nb)) (Tr.ret (LV.tup [au (N.inf m x !na == nb), ai 0]))) (br (kb == 1) (Tr.call 71 [LV.agg [si m, si x], LB (!na ==
    nb)] (LU (N.inf m x !na == nb)) (Tr.ret (LV.tup [au (N.inf m x !na == nb), ai 0]))) (br (kb == 3) (Tr.call 43 [LV.agg [si m, si x], LB (!na == nb)] (LU (N.ze m x !na == nb))
    (Tr.ret (LV.tup [au (N.ze m x !na == nb), ai 0]))) (Tr.call 74 [LU ma] (LV.n (N.N ma)) (Tr.call 74 [LU mb] (LV.n (N.N mb)) (Tr.call 72 [LV.agg [si m, si x], LB (!na == nb),
    LV.n (N.N ma), LV.n (N.N mb), LI (IntKind.i64.wrap (ea - eb))] (LU (N.nr m x (!na == nb) (N.N ma) (N.N mb) (IntKind.i64.wrap (ea - eb)))) (Tr.ret (LV.tup [au (N.nr m x (!na ==
    nb) (N.N ma) (N.N mb) (IntKind.i64.wrap (ea - eb))), ai 0]))))))))))))) := by kernel_rfl

theorem t96 (N : NF) (k e y : Int) (n s : Bool) : tree Try.prog 3 (cNF N) 96 [PL k n e y, LB s] =
    br (decide (e ≥ 0)) (Tr.call 74 [LU y] (LV.n (N.N y)) (Tr.call 91 [LV.n (N.N y), LI e] (LV.n (N.U (N.N y) e)) (Tr.ret (LV.tup [AV.s (SV.n (N.U (N.N y) e)), ab false])))) (Tr.call
    75 [] (LV.n [1]) (Tr.call 91 [LV.n [1], LI (IntKind.i64.wrap (0 - e))] (LV.n (N.U [1] (IntKind.i64.wrap (0 - e)))) (Tr.call 74 [LU y] (LV.n (N.N y)) (Tr.call 124 [LV.n (N.N y),
    LV.n (N.U [1] (IntKind.i64.wrap (0 - e)))] (LV.tup [AV.s (SV.n (N.Q (N.N y) (N.U [1] (IntKind.i64.wrap (0 - e))))), AV.s (SV.n (N.R (N.N y) (N.U [1] (IntKind.i64.wrap (0 -
    e)))))]) (br s (Tr.call 91 [LV.n (N.R (N.N y) (N.U [1] (IntKind.i64.wrap (0 - e)))), LI 1] (LV.n (N.U (N.R (N.N y) (N.U [1] (IntKind.i64.wrap (0 - e)))) 1)) (Tr.call 97 [LV.n
    (N.U (N.R (N.N y) (N.U [1] (IntKind.i64.wrap (0 - e)))) 1), LV.n (N.U [1] (IntKind.i64.wrap (0 - e)))] (LI (N.C (N.U (N.R (N.N y) (N.U [1] (IntKind.i64.wrap (0 - e)))) 1) (N.U
    [1] (IntKind.i64.wrap (0 - e))))) (br (decide (N.C (N.U (N.R (N.N y) (N.U [1] (IntKind.i64.wrap (0 - e)))) 1) (N.U [1] (IntKind.i64.wrap (0 - e))) ≥ 0)) (Tr.call 75 [] (LV.n
    [1]) (Tr.call 90 [LV.n (N.Q (N.N y) (N.U [1] (IntKind.i64.wrap (0 - e)))), LV.n [1]] (LV.n (N.P (N.Q (N.N y) (N.U [1] (IntKind.i64.wrap (0 - e)))) [1])) (Tr.call 84 [LV.n (N.R
    (N.N y) (N.U [1] (IntKind.i64.wrap (0 - e))))] (LI (N.B (N.R (N.N y) (N.U [1] (IntKind.i64.wrap (0 - e)))))) (Tr.ret (LV.tup [AV.s (SV.n (N.P (N.Q (N.N y) (N.U [1]
    (IntKind.i64.wrap (0 - e)))) [1])), ab (decide (N.B (N.R (N.N y) (N.U [1] (IntKind.i64.wrap (0 - e)))) > 0))]))))) (Tr.call 84 [LV.n (N.R (N.N y) (N.U [1] (IntKind.i64.wrap (0
    - e))))] (LI (N.B (N.R (N.N y) (N.U [1] (IntKind.i64.wrap (0 - e)))))) (Tr.ret (LV.tup [AV.s (SV.n (N.Q (N.N y) (N.U [1] (IntKind.i64.wrap (0 - e))))), ab (decide (N.B (N.R
    (N.N y) (N.U [1] (IntKind.i64.wrap (0 - e)))) > 0))])))))) (Tr.call 84 [LV.n (N.R (N.N y) (N.U [1] (IntKind.i64.wrap (0 - e))))] (LI (N.B (N.R (N.N y) (N.U [1]
    (IntKind.i64.wrap (0 - e)))))) (Tr.ret (LV.tup [AV.s (SV.n (N.Q (N.N y) (N.U [1] (IntKind.i64.wrap (0 - e))))), ab (decide (N.B (N.R (N.N y) (N.U [1] (IntKind.i64.wrap (0 -
    e)))) > 0))])))))))) := by kernel_rfl

theorem t92 (N : NF) (K E S H : Int → Int) (G : Int → Bool) (m x a : Int) (s : Bool) (n : List Int) (mo : Bool) : tree Try.prog 3 ((96, fun _ => some (.tup [.s (.n n), ab mo])) :: (31, fun l => match l with | [_, .a (.s (.v (.int _ z)))] => some (.tup [PA (K z) (G z) (E z) (S z), ai (H z)]) | _ => none) :: cNF N) 92 [FM m x, LU a, LB s] =
    Tr.call 31 [LV.agg [si m, si x], LU a] (LV.tup [AV.agg [si (K a), sb (G a), si (E a), su (S a)], ai (H a)]) (br (H a != 0) (Tr.ret (LV.tup [au 0, ai (H a)])) (br (K a == 4)
    (Tr.call 28 [LV.agg [si m, si x]] (LU (N.na m x)) (Tr.ret (LV.tup [au (N.na m x), ai 0]))) (br (K a != 2) (Tr.ret (LV.tup [au a, ai 0])) (Tr.call 96 [LV.agg [si (K a), sb (G
    a), si (E a), su (S a)], LB false] (LV.tup [AV.s (SV.n n), ab mo]) (br mo (br (!s == G a) (Tr.call 75 [] (LV.n [1]) (Tr.call 90 [LV.n n, LV.n [1]] (LV.n (N.P n [1])) (Tr.call
    75 [] (LV.n [1]) (Tr.call 72 [LV.agg [si m, si x], LB (G a), LV.n (N.P n [1]), LV.n [1], LI 0] (LU (N.nr m x (G a) (N.P n [1]) [1] 0)) (Tr.ret (LV.tup [au (N.nr m x (G a) (N.P
    n [1]) [1] 0), ai 0])))))) (Tr.call 75 [] (LV.n [1]) (Tr.call 72 [LV.agg [si m, si x], LB (G a), LV.n n, LV.n [1], LI 0] (LU (N.nr m x (G a) n [1] 0)) (Tr.ret (LV.tup [au (N.nr
    m x (G a) n [1] 0), ai 0]))))) (Tr.call 75 [] (LV.n [1]) (Tr.call 72 [LV.agg [si m, si x], LB (G a), LV.n n, LV.n [1], LI 0] (LU (N.nr m x (G a) n [1] 0)) (Tr.ret (LV.tup [au
    (N.nr m x (G a) n [1] 0), ai 0]))))))))) := by kernel_rfl

theorem t81 (k e y : Int) (n : Bool) : tree Try.prog 3 [] 81 [PL k n e y] =
    br (k != 3) (Tr.ret (LI 0)) (br n (Tr.ret (LI (-1))) (Tr.ret (LI 1))) := by kernel_rfl

theorem t38 (N : NF) (K E S H : Int → Int) (G : Int → Bool) (m x a : Int) (s : Bool) (n : List Int) (mo : Bool) : tree Try.prog 3 ((96, fun _ => some (.tup [.s (.n n), ab mo])) :: (31, fun l => match l with | [_, .a (.s (.v (.int _ z)))] => some (.tup [PA (K z) (G z) (E z) (S z), ai (H z)]) | _ => none) :: cNF N) 38 [FM m x, LU a, LB s] =
    Tr.call 31 [LV.agg [si m, si x], LU a] (LV.tup [AV.agg [si (K a), sb (G a), si (E a), su (S a)], ai (H a)]) (br (H a != 0) (Tr.ret (LV.tup [au 0, ab false, ai (H a)])) (Tr.call 75
    [] (LV.n [1]) (Tr.call 91 [LV.n [1], LI 40] (LV.n (N.U [1] 40)) (br (K a == 4) (Tr.call 95 [LV.n (N.U [1] 40)] (LU (N.S (N.U [1] 40))) (Tr.ret (LV.tup [au (N.S (N.U [1] 40)),
    ab (G a), ai 0]))) (br (K a == 3) (Tr.call 95 [LV.n (N.U [1] 40)] (LU (N.S (N.U [1] 40))) (Tr.ret (LV.tup [au (N.S (N.U [1] 40)), ab (G a), ai 0]))) (Tr.call 96 [LV.agg [si (K
    a), sb (G a), si (E a), su (S a)], LB s] (LV.tup [AV.s (SV.n n), ab mo]) (Tr.call 97 [LV.n n, LV.n (N.U [1] 40)] (LI (N.C n (N.U [1] 40))) (br (decide (N.C n (N.U [1] 40) > 0))
    (Tr.call 95 [LV.n (N.U [1] 40)] (LU (N.S (N.U [1] 40))) (Tr.ret (LV.tup [au (N.S (N.U [1] 40)), ab (G a), ai 0]))) (Tr.call 95 [LV.n n] (LU (N.S n)) (Tr.ret (LV.tup [au (N.S
    n), ab (G a), ai 0]))))))))))) := by kernel_rfl

theorem t117 (N : NF) (K E S H : Int → Int) (G : Int → Bool) (m x m2 x2 a k : Int) : tree Try.prog 3 ((29, fun _ => some (LI k)) :: (31, fun l => match l with | [_, .a (.s (.v (.int _ z)))] => some (.tup [PA (K z) (G z) (E z) (S z), ai (H z)]) | _ => none) :: cNF N) 117 [FM m x, FM m2 x2, LU a] =
    Tr.call 31 [LV.agg [si m, si x], LU a] (LV.tup [AV.agg [si (K a), sb (G a), si (E a), su (S a)], ai (H a)]) (br (H a != 0) (Tr.ret (LV.tup [au 0, ai 1])) (Tr.call 29 [LV.agg [si
    m2, si x2]] (LI k) (br (k != 0) (Tr.ret (LV.tup [au 0, ai 1])) (br (K a == 4) (Tr.call 28 [LV.agg [si m2, si x2]] (LU (N.na m2 x2)) (Tr.ret (LV.tup [au (N.na m2 x2), ai 0])))
    (br (K a == 3) (Tr.call 71 [LV.agg [si m2, si x2], LB (G a)] (LU (N.inf m2 x2 (G a))) (Tr.ret (LV.tup [au (N.inf m2 x2 (G a)), ai 0]))) (Tr.call 74 [LU (S a)] (LV.n (N.N (S
    a))) (Tr.call 75 [] (LV.n [1]) (Tr.call 72 [LV.agg [si m2, si x2], LB (G a), LV.n (N.N (S a)), LV.n [1], LI (E a)] (LU (N.nr m2 x2 (G a) (N.N (S a)) [1] (E a))) (Tr.ret (LV.tup
    [au (N.nr m2 x2 (G a) (N.N (S a)) [1] (E a)), ai 0])))))))))) := by kernel_rfl

theorem t104 (N : NF) (K E S H : Int → Int) (G : Int → Bool) (m x a b t r : Int) : tree Try.prog 3 ((42, fun _ => some (LU t)) :: (103, fun _ => some (.tup [au r, ai 0])) :: (31, fun l => match l with | [_, .a (.s (.v (.int _ z)))] => some (.tup [PA (K z) (G z) (E z) (S z), ai (H z)]) | _ => none) :: cNF N) 104 [FM m x, LU a, LU b] =
    Tr.call 31 [LV.agg [si m, si x], LU b] (LV.tup [AV.agg [si (K b), sb (G b), si (E b), su (S b)], ai (H b)]) (br (H b != 0) (Tr.ret (LV.tup [au 0, ai (H b)])) (Tr.call 42 [LV.agg
    [si m, si x], LU b] (LU t) (Tr.call 103 [LV.agg [si m, si x], LU a, LU t] (LV.tup [au r, ai 0]) (Tr.ret (LV.tup [au r, ai 0]))))) := by kernel_rfl

theorem openR_cn (hf : Okf M X) {a : Nat} (ha : a < 2^(1+X+M)) : Cp 31 [FM M X, LU a] (.tup [PA (kd M X a : Nat) (ng M X a) (ex M X a) (mn M X a : Nat), ai 0]) := by
  obtain ⟨N, hN⟩ := nf_ex
  have m1 := hf.m1; have m2 := hf.m2; have x1 := hf.x1; have x2 := hf.x2
  have hx := pow_x hf
  have hx0 := two_pow_pos X
  have hx2 : 2^2 ≤ 2^X := pow_le hf.x1
  have hm0 := two_pow_pos M
  have hm53 : 2^M ≤ 2^52 := pow_le m2
  have hb := bia_lt hf
  have c1 := power_cn (n := M) (by omega)
  have c2 := power_cn (n := X) (by omega)
  rw [pw_lt (by omega)] at c1 c2
  have a64 : a < 2^64 := Nat.lt_of_lt_of_le ha (pow_le (by omega))
  refine cp_of (t31 N M X a 0) ?_
  rw [hN.pw, hN.pw, pw_lt (by omega), pw_lt (by omega), hN.le, hN.bi]
  have d1 : ((a : Int)).tdiv ((2^M : Nat) : Int) = ((a / 2^M : Nat) : Int) := rfl
  have d2 : ((a : Int)).tmod ((2^M : Nat) : Int) = ((a % 2^M : Nat) : Int) := rfl
  have l1 : a / 2^M < 2^64 := Nat.lt_of_le_of_lt (Nat.div_le_self _ _) a64
  rw [d1, d2, u64_nat l1]
  have d3 : ((a / 2^M : Nat) : Int).tdiv ((2^X : Nat) : Int) = ((a / 2^M / 2^X : Nat) : Int) := rfl
  have d4 : ((a / 2^M : Nat) : Int).tmod ((2^X : Nat) : Int) = ((a / 2^M % 2^X : Nat) : Int) := rfl
  have l2 : a / 2^M / 2^X < 2 := by
    rw [Nat.div_div_eq_div_mul, Nat.div_lt_iff_lt_mul (Nat.mul_pos hm0 hx0), Nat.mul_comm (2^M), ← Nat.pow_add, ← Nat.pow_succ']
    exact Nat.lt_of_lt_of_le ha (pow_le (by omega))
  obtain ⟨w, hw⟩ : ∃ w, a / 2^M / 2^X = w := ⟨_, rfl⟩
  rw [hw] at d3 l2
  rw [d3, d4, u64_nat (n := w) (by omega), show ((2^X : Nat) : Int) - 1 = ((2^X - 1 : Nat) : Int) from sub_cast hx0, u64_nat (n := 2^X - 1) (by omega)]
  have hneg : ((w : Int) == 1) = ng M X a := by
    unfold ng
    have e : 2^(X+M) ≤ a ↔ 1 ≤ w := by
      rw [← hw, Nat.div_div_eq_div_mul, Nat.le_div_iff_mul_le (Nat.mul_pos hm0 hx0), Nat.one_mul, Nat.mul_comm (2^M), ← Nat.pow_add]
    by_cases h : w = 1
    · rw [h, decide_eq_true (e.2 (by omega))]; rfl
    · have h0 : w = 0 := by omega
      rw [h0, decide_eq_false (fun c => by have := e.1 c; omega)]; rfl
  rw [hneg]
  have hF := fd_lt M X a
  have hR : fr M a < 2^M := Nat.mod_lt _ hm0
  have eF : a / 2^M % 2^X = fd M X a := rfl
  have eR : a % 2^M = fr M a := rfl
  rw [eF, eR]
  have ek : kd M X a = if fd M X a = 2^X - 1 then (if fr M a = 0 then 3 else 4) else if fd M X a = 0 then (if fr M a = 0 then 1 else 2) else 2 := rfl
  have em : mn M X a = if kd M X a = 2 then (if fd M X a = 0 then fr M a else fr M a + 2^M) else 0 := rfl
  have ee : ex M X a = if kd M X a = 2 then (if fd M X a = 0 then (1 : Int) - bia X - M else (fd M X a : Int) - bia X - M) else (0 : Int) := rfl
  have hcb := checkR_cn hf
  have hle := least_cn hf
  have hbi := bias_cn hf
  have dz1 : ∀ {t : Tr} {r : LV}, Wt r t → Wt r (br (decide (((2^M : Nat) : Int) = 0)) .bad t) := fun h => brF (by omega) h
  have dz2 : ∀ {t : Tr} {r : LV}, Wt r t → Wt r (br (decide (((2^X : Nat) : Int) = 0)) .bad t) := fun h => brF (by omega) h
  have dz3 : ∀ {t u : Tr} {r : LV}, Wt r t → Wt r (br (decide ((w : Int) > 1)) u t) := fun h => brF (by omega) h
  refine ⟨hcb, WT.br (fun h => absurd h (by decide)) (fun _ => ⟨c1, dz1 ⟨c1, dz1 ⟨c2, dz2 ⟨c2, dz2 (dz3 ⟨c2, ?_⟩)⟩⟩⟩⟩)⟩
  generalize ng M X a = s at *
  generalize fd M X a = F at *
  generalize fr M a = R at *
  have b1 : (((F : Nat) : Int) == ((2^X - 1 : Nat) : Int)) = decide (F = 2^X - 1) := by rw [Bool.eq_iff_iff]; simp only [beq_iff_eq, decide_eq_true_eq]; omega
  have b2 : (((F : Nat) : Int) == 0) = decide (F = 0) := by rw [Bool.eq_iff_iff]; simp only [beq_iff_eq, decide_eq_true_eq]; omega
  have b3 : (((R : Nat) : Int) == 0) = decide (R = 0) := by rw [Bool.eq_iff_iff]; simp only [beq_iff_eq, decide_eq_true_eq]; omega
  rw [b1, b2, b3]
  have ez : ((0 : Nat) : Int) = 0 := rfl
  -- the five ends
  have end3 : F = 2^X - 1 → R = 0 → Wt (.tup [PA (kd M X a : Nat) s (ex M X a) (mn M X a : Nat), ai 0]) (.ret (.tup [PA 3 s 0 0, ai 0])) := fun h1 h2 => by
    rw [if_pos h1, if_pos h2] at ek
    rw [ee, em, ek, if_neg (by decide), if_neg (by decide)]; rfl
  have end4 : F = 2^X - 1 → R ≠ 0 → Wt (.tup [PA (kd M X a : Nat) s (ex M X a) (mn M X a : Nat), ai 0]) (.ret (.tup [PA 4 s 0 0, ai 0])) := fun h1 h2 => by
    rw [if_pos h1, if_neg h2] at ek
    rw [ee, em, ek, if_neg (by decide), if_neg (by decide)]; rfl
  have end1 : F ≠ 2^X - 1 → F = 0 → R = 0 → Wt (.tup [PA (kd M X a : Nat) s (ex M X a) (mn M X a : Nat), ai 0]) (.ret (.tup [PA 1 s 0 0, ai 0])) := fun h1 h2 h3 => by
    rw [if_neg h1, if_pos h2, if_pos h3] at ek
    rw [ee, em, ek, if_neg (by decide), if_neg (by decide)]; rfl
  have end2 : F ≠ 2^X - 1 → F = 0 → R ≠ 0 → Wt (.tup [PA (kd M X a : Nat) s (ex M X a) (mn M X a : Nat), ai 0]) (.ret (.tup [PA 2 s (1 - (bia X : Int) - M) R, ai 0])) := fun h1 h2 h3 => by
    rw [if_neg h1, if_pos h2, if_neg h3] at ek
    rw [ee, em, ek, if_pos rfl, if_pos rfl, if_pos h2, if_pos h2]; rfl
  have endn : F ≠ 2^X - 1 → F ≠ 0 → Wt (.tup [PA (kd M X a : Nat) s (ex M X a) (mn M X a : Nat), ai 0]) (.call 87 [LI M] (LU (2^M : Nat)) (.call 30 [FM M X] (LI (bia X)) (.ret (.tup [PA 2 s (IntKind.i64.wrap (IntKind.i64.wrap (IntKind.i64.wrap (F : Int) - (bia X : Int)) - M)) (IntKind.u64.wrap (((2^M : Nat) : Int) + (R : Int))), ai 0])))) := fun h1 h2 => by
    rw [if_neg h1, if_neg h2] at ek
    refine ⟨c1, hbi, ?_⟩
    rw [ee, em, ek, if_pos rfl, if_pos rfl, if_neg h2, if_neg h2, i64_in (n := (F : Int)) (by omega) (by omega), i64_in (n := (F : Int) - bia X) (by omega) (by omega), i64_in (by omega) (by omega), ← Int.natCast_add, u64_nat (by omega), Nat.add_comm]; rfl
  refine brD (fun h1 => brD (fun h2 => end3 h1 h2) (fun h2 => ⟨c2, brD (fun _ => end4 h1 h2) (fun h => absurd h1 h)⟩)) (fun h1 => ⟨c2, brF h1 (brD (fun h2 => brD (fun h3 => end1 h1 h2 h3) (fun h3 => brT h2 ⟨hle, end2 h1 h2 h3⟩)) (fun h2 => brF h2 (endn h1 h2)))⟩)
theorem openRbad_cn {m x : Int} {a : Nat} (h64 : a < 2^64) (h : Bad m x a) : Cp 31 [FM m x, LU a] (.tup [PA 0 false 0 0, ai 1]) := by
  obtain ⟨N, hN⟩ := nf_ex
  by_cases hq : 2 ≤ m ∧ m ≤ 52 ∧ 2 ≤ x ∧ x ≤ 11
  · obtain ⟨M, rfl⟩ : ∃ M : Nat, m = M := ⟨m.toNat, by omega⟩
    obtain ⟨X, rfl⟩ : ∃ X : Nat, x = X := ⟨x.toNat, by omega⟩
    have hf : Okf M X := ⟨by omega, by omega, by omega, by omega⟩
    have h := h M X rfl rfl hf
    have m1 := hf.m1; have m2 := hf.m2; have x1 := hf.x1; have x2 := hf.x2
    have hx0 := two_pow_pos X
    have hm0 := two_pow_pos M
    have c1 := power_cn (n := M) (by omega)
    have c2 := power_cn (n := X) (by omega)
    rw [pw_lt (by omega)] at c1 c2
    refine cp_of (t31 N M X a 0) ?_
    rw [hN.pw, hN.pw, pw_lt (by omega), pw_lt (by omega)]
    have d1 : ((a : Int)).tdiv ((2^M : Nat) : Int) = ((a / 2^M : Nat) : Int) := rfl
    have l1 : a / 2^M < 2^64 := Nat.lt_of_le_of_lt (Nat.div_le_self _ _) h64
    rw [d1, u64_nat l1]
    have d3 : ((a / 2^M : Nat) : Int).tdiv ((2^X : Nat) : Int) = ((a / 2^M / 2^X : Nat) : Int) := rfl
    have l2 : 2 ≤ a / 2^M / 2^X := by
      rw [Nat.div_div_eq_div_mul, Nat.le_div_iff_mul_le (Nat.mul_pos hm0 hx0), Nat.mul_comm (2^M), ← Nat.pow_add, ← Nat.pow_succ']
      exact Nat.le_trans (pow_le (by omega)) h
    have l3 : a / 2^M / 2^X < 2^64 := Nat.lt_of_le_of_lt (Nat.div_le_self _ _) l1
    rw [d3, u64_nat l3]
    exact ⟨checkR_cn hf, WT.br (fun h => absurd h (by decide)) (fun _ => ⟨c1, brF (by omega) ⟨c1, brF (by omega) ⟨c2, brF (by omega) ⟨c2, brF (by omega) (brT (by omega) rfl)⟩⟩⟩⟩)⟩
  · exact cp_of (t31 N m x a 1) ⟨checkRbad_cn hq, WT.br (fun _ => rfl) (fun h => absurd h (by decide))⟩
/-! ### grottoref03.open, Turn, Mul, Div -/
theorem bad_or (m x : Int) (a : Nat) : Bad m x a ∨ ∃ M X : Nat, m = M ∧ x = X ∧ Okf M X ∧ a < 2^(1+X+M) := by
  by_cases h : ∃ M X : Nat, m = M ∧ x = X ∧ Okf M X ∧ a < 2^(1+X+M)
  · exact .inr h
  · left
    intro M X h1 h2 h3
    rcases Nat.lt_or_ge a (2^(1+X+M)) with c | c
    · exact absurd ⟨M, X, h1, h2, h3, c⟩ h
    · exact c
theorem twoR_cn (hf : Okf M X) {a b : Nat} (ha : a < 2^(1+X+M)) (hb : b < 2^(1+X+M)) : Cp 70 [FM M X, LU a, LU b] (.tup [PA (kd M X a : Nat) (ng M X a) (ex M X a) (mn M X a : Nat), PA (kd M X b : Nat) (ng M X b) (ex M X b) (mn M X b : Nat), ai 0]) := by
  obtain ⟨N, hN⟩ := nf_ex
  exact cp_of (t70 N (fun z => (kd M X z.toNat : Nat)) (fun z => ex M X z.toNat) (fun z => (mn M X z.toNat : Nat)) (fun _ => 0) (fun z => ng M X z.toNat) M X a b) ⟨openR_cn hf ha, openR_cn hf hb, WT.br (fun h => absurd h (by decide)) (fun _ => WT.br (fun h => absurd h (by decide)) (fun _ => rfl))⟩
theorem twoRbad_cn {m x : Int} {a b : Nat} (ha : a < 2^64) (hb : b < 2^64) (h : Bad m x a ∨ Bad m x b) : Cp 70 [FM m x, LU a, LU b] (.tup [PA 0 false 0 0, PA 0 false 0 0, ai 1]) := by
  obtain ⟨N, hN⟩ := nf_ex
  by_cases hab : Bad m x a
  · by_cases hbb : Bad m x b
    · exact cp_of (t70 N (fun z => 0) (fun z => 0) (fun z => 0) (fun _ => 1) (fun z => false) m x a b) ⟨openRbad_cn ha hab, openRbad_cn hb hbb, WT.br (fun _ => rfl) (fun h => absurd h (by decide))⟩
    · obtain ⟨M, X, rfl, rfl, hf, hlt⟩ := (bad_or m x b).resolve_left hbb
      by_cases he : a = b
      · subst he; exact absurd hab hbb
      have hne : ((b : Nat) : Int) ≠ a := by omega
      have ht := t70 N (fun z => if z = a then 0 else (kd M X b : Nat)) (fun z => if z = a then 0 else ex M X b) (fun z => if z = a then 0 else (mn M X b : Nat)) (fun z => if z = a then 1 else 0) (fun z => if z = a then false else ng M X b) M X a b
      refine cp_of ht ?_
      simp only [if_pos, if_neg hne]
      exact ⟨openRbad_cn ha hab, openR_cn hf hlt, WT.br (fun _ => rfl) (fun h => absurd h (by decide))⟩
  · have hbb := h.resolve_left hab
    obtain ⟨M, X, rfl, rfl, hf, hlt⟩ := (bad_or m x a).resolve_left hab
    by_cases he : a = b
    · subst he; exact absurd hbb hab
    have hne : ((b : Nat) : Int) ≠ a := by omega
    have ht := t70 N (fun z => if z = a then (kd M X a : Nat) else 0) (fun z => if z = a then ex M X a else 0) (fun z => if z = a then (mn M X a : Nat) else 0) (fun z => if z = a then 0 else 1) (fun z => if z = a then ng M X a else false) M X a b
    refine cp_of ht ?_
    simp only [if_pos, if_neg hne]
    exact ⟨openR_cn hf hlt, openRbad_cn hb hbb, WT.br (fun h => absurd h (by decide)) (fun _ => WT.br (fun _ => rfl) (fun h => absurd h (by decide)))⟩
theorem turnR_cn (hf : Okf M X) {b : Nat} (hb : b < 2^(1+X+M)) : Cp 42 [FM M X, LU b] (LU (turnN M X b)) := by
  obtain ⟨N, hN⟩ := nf_ex
  have m2 := hf.m2; have x2 := hf.x2
  have hp : 2^(1+X+M) = 2 * 2^(X+M) := by rw [← Nat.pow_succ']; congr 1; omega
  have hp2 : 2^(X+M) ≤ 2^63 := pow_le (by omega)
  refine cp_of (t42 N M X b) ?_
  rw [hN.ze]
  have es : sgn M X true = 2^(X+M) := rfl
  refine ⟨zeroR_cn hf true, ?_⟩
  rw [es]
  unfold turnN
  refine brD (fun h => ?_) (fun h => ?_)
  · rw [if_pos (by omega), show (b : Int) - ((2^(X+M) : Nat) : Int) = ((b - 2^(X+M) : Nat) : Int) by omega, u64_nat (by omega)]; rfl
  · rw [if_neg (by omega), ← Int.natCast_add, u64_nat (by omega)]; rfl
theorem mn_zero {a : Nat} (h : kd M X a ≠ 2) : mn M X a = 0 := by unfold mn; rw [if_neg h]
theorem bl53 {n : Nat} (h : n < 2^53) : bl n ≤ 53 := bl_le_iff.2 h
def mulN (M X a b : Nat) : Nat := mulP M X (kd M X a : Nat) (ng M X a) (ex M X a) (mn M X a) (kd M X b : Nat) (ng M X b) (ex M X b) (mn M X b)
def divN (M X a b : Nat) : Nat := divP M X (kd M X a : Nat) (ng M X a) (ex M X a) (mn M X a) (kd M X b : Nat) (ng M X b) (ex M X b) (mn M X b)
theorem mulR_cn (hf : Okf M X) {a b : Nat} (ha : a < 2^(1+X+M)) (hb : b < 2^(1+X+M)) : Cp 20 [FM M X, LU a, LU b] (.tup [au (mulN M X a b : Nat), ai 0]) := by
  obtain ⟨N, hN⟩ := nf_ex
  obtain ⟨a1, a2⟩ := ex_bounds hf.ok a
  obtain ⟨b1, b2⟩ := ex_bounds hf.ok b
  have hma := mn_lt53 (a := a) hf.ok
  have hmb := mn_lt53 (a := b) hf.ok
  have hza : (kd M X a : Int) = 1 → mn M X a = 0 := fun h => mn_zero (by omega)
  have hzb : (kd M X b : Int) = 1 → mn M X b = 0 := fun h => mn_zero (by omega)
  have ca := kdi M X a
  have cb := kdi M X b
  have htwo := twoR_cn hf ha hb
  unfold mulN
  refine cp_of (t20 N M X a b (kd M X a : Nat) (kd M X b : Nat) (ex M X a) (ex M X b) (mn M X a) (mn M X b) (ng M X a) (ng M X b) 0) ⟨htwo, WT.br (fun h => absurd h (by decide)) (fun _ => ?_)⟩
  clear htwo
  generalize (kd M X a : Int) = ka at *
  generalize (kd M X b : Int) = kb at *
  generalize mn M X a = ma at *
  generalize mn M X b = mb at *
  generalize ex M X a = ea at *
  generalize ex M X b = eb at *
  generalize ng M X a = na at *
  generalize ng M X b = nb at *
  rw [hN.na, hN.inf, hN.n, hN.n, hN.T, ← dig_one, hN.nr, i64_in (n := ea + eb) (by omega) (by omega)]
  have hmm : ma * mb < 2^53 * 2^53 := Nat.mul_lt_mul'' hma hmb
  have hbm : bl (ma * mb) ≤ 106 := bl_le_iff.2 (by rw [← Nat.pow_add] at hmm; exact hmm)
  have hba := bl53 hma
  have hbb := bl53 hmb
  have one : Cp 75 [] (.n (dig 1)) := by rw [dig_one]; exact one_cn
  have hb1 : bl 1 = 1 := by decide
  have nn : ∀ {R : Nat}, R = nanc M X → Wt (.tup [au R, ai 0]) (.call 28 [FM M X] (LU (nanc M X : Nat)) (.ret (.tup [au (nanc M X : Nat), ai 0]))) := by
    rintro R rfl; exact ⟨nanR_cn hf, rfl⟩
  have ii : ∀ {R : Nat}, R = infc M X + sgn M X (!(na == nb)) → Wt (.tup [au R, ai 0]) (.call 71 [FM M X, LB (!(na == nb))] (LU (infc M X + sgn M X (!(na == nb)) : Nat)) (.ret (.tup [au (infc M X + sgn M X (!(na == nb)) : Nat), ai 0]))) := by
    rintro R rfl; exact ⟨infR_cn hf _, rfl⟩
  have ff : ∀ {R : Nat}, R = sgn M X (!(na == nb)) + near M X (ma * mb) 1 (ea + eb) → Wt (.tup [au R, ai 0]) (.call 74 [LU ma] (.n (dig ma)) (.call 74 [LU mb] (.n (dig mb)) (.call 73 [.n (dig ma), .n (dig mb)] (.n (dig (ma * mb))) (.call 75 [] (.n (dig 1)) (.call 72 [FM M X, LB (!(na == nb)), .n (dig (ma * mb)), .n (dig 1), LI (ea + eb)] (LU (sgn M X (!(na == nb)) + near M X (ma * mb) 1 (ea + eb) : Nat)) (.ret (.tup [au (sgn M X (!(na == nb)) + near M X (ma * mb) 1 (ea + eb) : Nat), ai 0]))))))) := by
    rintro R rfl
    exact ⟨natof_cn (by omega), natof_cn (by omega), times_cn (by omega) (by omega), one, nearR_cn hf _ (by omega) (by omega) (by decide) (by omega) (by omega), rfl⟩
  have zz : ∀ {R : Nat}, ma = 0 ∨ mb = 0 → R = sgn M X (!(na == nb)) → R = sgn M X (!(na == nb)) + near M X (ma * mb) 1 (ea + eb) := by
    rintro R h rfl
    have : ma * mb = 0 := by rcases h with h | h <;> simp [h]
    rw [this, near_zero]; rfl
  have fp : ∀ {R : Nat}, R = packN M X (na != nb) (ma * mb) (ea + eb) false → R = sgn M X (!(na == nb)) + near M X (ma * mb) 1 (ea + eb) := by
    rintro R rfl; rw [packN_f]; rfl
  rcases ca with rfl | rfl | rfl | rfl <;> rcases cb with rfl | rfl | rfl | rfl
  all_goals
    repeat' first
      | exact absurd h (by decide)
      | exact nn rfl
      | exact ii rfl
      | exact ff (zz (.inl (hza rfl)) rfl)
      | exact ff (zz (.inr (hzb rfl)) rfl)
      | exact ff (fp rfl)
      | (refine WT.br (fun h => ?_) (fun h => ?_))
theorem divR_cn (hf : Okf M X) {a b : Nat} (ha : a < 2^(1+X+M)) (hb : b < 2^(1+X+M)) : Cp 22 [FM M X, LU a, LU b] (.tup [au (divN M X a b : Nat), ai 0]) := by
  obtain ⟨N, hN⟩ := nf_ex
  obtain ⟨a1, a2⟩ := ex_bounds hf.ok a
  obtain ⟨b1, b2⟩ := ex_bounds hf.ok b
  have hma := mn_lt53 (a := a) hf.ok
  have hmb := mn_lt53 (a := b) hf.ok
  have hza : (kd M X a : Int) = 1 → mn M X a = 0 := fun h => mn_zero (by omega)
  have hpb : (kd M X b : Int) = 2 → 0 < mn M X b := fun h => mn_pos (by omega)
  have ca := kdi M X a
  have cb := kdi M X b
  have htwo := twoR_cn hf ha hb
  unfold divN
  refine cp_of (t22 N M X a b (kd M X a : Nat) (kd M X b : Nat) (ex M X a) (ex M X b) (mn M X a) (mn M X b) (ng M X a) (ng M X b) 0) ⟨htwo, WT.br (fun h => absurd h (by decide)) (fun _ => ?_)⟩
  clear htwo
  generalize (kd M X a : Int) = ka at *
  generalize (kd M X b : Int) = kb at *
  generalize mn M X a = ma at *
  generalize mn M X b = mb at *
  generalize ex M X a = ea at *
  generalize ex M X b = eb at *
  generalize ng M X a = na at *
  generalize ng M X b = nb at *
  rw [hN.na, hN.inf, hN.ze, hN.n, hN.n, hN.nr, i64_in (n := ea - eb) (by omega) (by omega)]
  have hba := bl53 hma
  have hbb := bl53 hmb
  have nn : ∀ {R : Nat}, R = nanc M X → Wt (.tup [au R, ai 0]) (.call 28 [FM M X] (LU (nanc M X : Nat)) (.ret (.tup [au (nanc M X : Nat), ai 0]))) := by
    rintro R rfl; exact ⟨nanR_cn hf, rfl⟩
  have ii : ∀ {R : Nat}, R = infc M X + sgn M X (!(na == nb)) → Wt (.tup [au R, ai 0]) (.call 71 [FM M X, LB (!(na == nb))] (LU (infc M X + sgn M X (!(na == nb)) : Nat)) (.ret (.tup [au (infc M X + sgn M X (!(na == nb)) : Nat), ai 0]))) := by
    rintro R rfl; exact ⟨infR_cn hf _, rfl⟩
  have ze : ∀ {R : Nat}, R = sgn M X (!(na == nb)) → Wt (.tup [au R, ai 0]) (.call 43 [FM M X, LB (!(na == nb))] (LU (sgn M X (!(na == nb)) : Nat)) (.ret (.tup [au (sgn M X (!(na == nb)) : Nat), ai 0]))) := by
    rintro R rfl; exact ⟨zeroR_cn hf _, rfl⟩
  have ff : ∀ {R : Nat}, 0 < mb → R = sgn M X (!(na == nb)) + near M X ma mb (ea - eb) → Wt (.tup [au R, ai 0]) (.call 74 [LU ma] (.n (dig ma)) (.call 74 [LU mb] (.n (dig mb)) (.call 72 [FM M X, LB (!(na == nb)), .n (dig ma), .n (dig mb), LI (ea - eb)] (LU (sgn M X (!(na == nb)) + near M X ma mb (ea - eb) : Nat)) (.ret (.tup [au (sgn M X (!(na == nb)) + near M X ma mb (ea - eb) : Nat), ai 0]))))) := by
    rintro R h rfl
    exact ⟨natof_cn (by omega), natof_cn (by omega), nearR_cn hf _ (by omega) (by omega) h (by omega) (by omega), rfl⟩
  have zz : ∀ {R : Nat}, ma = 0 → R = sgn M X (!(na == nb)) → R = sgn M X (!(na == nb)) + near M X ma mb (ea - eb) := by
    rintro R h rfl
    rw [h, near_zeroD]; rfl
  rcases ca with rfl | rfl | rfl | rfl <;> rcases cb with rfl | rfl | rfl | rfl
  all_goals
    repeat' first
      | exact absurd h (by decide)
      | exact nn rfl
      | exact ii rfl
      | exact ze rfl
      | exact ff (hpb rfl) (zz (hza rfl) rfl)
      | exact ff (hpb rfl) rfl
      | (refine WT.br (fun h => ?_) (fun h => ?_))
end Go.Proofs.Ytpliondhiahhnaa.K
