/- grottoref03: Mod, Sqrt: contracts. -/
import Derived.Test.YtpliondhiahhnaaE10
set_option linter.unusedVariables false
namespace Go.Proofs.Ytpliondhiahhnaa.K
open Sx Fl Go Go.RowKit
set_option maxRecDepth 100000
variable {M X : Nat} {a b : Nat}
open Fl
def lsSq2 (D : Int → List Int) (m e : Int) : LS := ⟨[10, 11, 8, 9, 2], fun x => [.n (D (x 0)), LI (x 1), .n (D m), LI e, LV.p 0 0], fun x => ∃ r : Nat, x 0 = r ∧ r * r ≤ m.toNat ∧ m.toNat < (r + 2^(x 1 + 1).toNat) * (r + 2^(x 1 + 1).toNat) ∧ -1 ≤ x 1 ∧ x 1 ≤ 200, fun x => (x 1 + 1).toNat, fun _ => none, false, fun _ => []⟩
def lsSq1 (D : Int → List Int) (M y : Nat) (e : Int) : LS := ⟨[8, 9, 2], fun x => [.n (D (x 0)), LI (x 1), LV.p 0 0], fun x => ∃ t : Nat, x 0 = (y * 2^t : Nat) ∧ x 1 = e - t ∧ (bl y + t ≤ 2 * M + 8 ∨ (bl y + t = 2 * M + 9 ∧ (e - t) % 2 = 0)), fun x => (2 * M + 10 - bl (x 0).toNat), fun _ => none, false, fun x => [lsSq2 D (x 0) (x 1)]⟩

theorem t105 (N : NF) (m x a b : Int) (ka kb ea eb ma mb : Int) (na nb : Bool) (g : Int) (s1 s2 e : Int) (l r : List Int) : tree Try.prog 3 ((70, fun _ => some (.tup [PA ka na ea ma, PA kb nb eb mb, ai g])) :: (82, fun l => match l with | [.a (.agg [_, .v (.bool n), .v (.int _ e), .v (.int _ y)])] => some (.agg [si (sI n), .n (N.N y), si e]) | _ => none) :: (127, fun _ => some (.tup [(.agg [si s1, .n l, si e]), (.agg [si s2, .n r, si e])])) :: cNF N) 105 [FM m x, LU a, LU b] =
    Tr.call 70 [LV.agg [si m, si x], LU a, LU b] (LV.tup [AV.agg [si ka, sb na, si ea, su ma], AV.agg [si kb, sb nb, si eb, su mb], ai g]) (br (g != 0) (Tr.ret (LV.tup [au 0, au 0, ai
    g])) (br (ka == 4) (Tr.call 28 [LV.agg [si m, si x]] (LU (N.na m x)) (Tr.call 28 [LV.agg [si m, si x]] (LU (N.na m x)) (Tr.ret (LV.tup [au (N.na m x), au (N.na m x), ai 0]))))
    (br (kb == 4) (Tr.call 28 [LV.agg [si m, si x]] (LU (N.na m x)) (Tr.call 28 [LV.agg [si m, si x]] (LU (N.na m x)) (Tr.ret (LV.tup [au (N.na m x), au (N.na m x), ai 0])))) (br
    (ka == 3) (Tr.call 28 [LV.agg [si m, si x]] (LU (N.na m x)) (Tr.call 28 [LV.agg [si m, si x]] (LU (N.na m x)) (Tr.ret (LV.tup [au (N.na m x), au (N.na m x), ai 0])))) (br (kb
    == 1) (Tr.call 28 [LV.agg [si m, si x]] (LU (N.na m x)) (Tr.call 28 [LV.agg [si m, si x]] (LU (N.na m x)) (Tr.ret (LV.tup [au (N.na m x), au (N.na m x), ai 0])))) (br (kb == 3)
    (Tr.call 43 [LV.agg [si m, si x], LB (!na == nb)] (LU (N.ze m x !na == nb)) (Tr.ret (LV.tup [au a, au (N.ze m x !na == nb), ai 0]))) ((Tr.call 82 [LV.agg [si ka, sb na, si ea,
    su ma]] (LV.agg [si (sI na), SV.n (N.N ma), si ea]) ((Tr.call 82 [LV.agg [si kb, sb nb, si eb, su mb]] (LV.agg [si (sI nb), SV.n (N.N mb), si eb]) ((Tr.call 127 [LV.agg [si (sI
    na), SV.n (N.N ma), si ea], LV.agg [si (sI nb), SV.n (N.N mb), si eb]] (LV.tup [AV.agg [si s1, SV.n l, si e], AV.agg [si s2, SV.n r, si e]]) ((Tr.call 124 [LV.n l, LV.n r]
    (LV.tup [AV.s (SV.n (N.Q l r)), AV.s (SV.n (N.R l r))]) (Tr.call 75 [] (LV.n [1]) (Tr.call 72 [LV.agg [si m, si x], LB na, LV.n (N.R l r), LV.n [1], LI e] (LU (N.nr m x na (N.R
    l r) [1] e)) (Tr.call 75 [] (LV.n [1]) (Tr.call 72 [LV.agg [si m, si x], LB (!na == nb), LV.n (N.Q l r), LV.n [1], LI 0] (LU (N.nr m x (!na == nb) (N.Q l r) [1] 0)) (Tr.ret
    (LV.tup [au (N.nr m x na (N.R l r) [1] e), au (N.nr m x (!na == nb) (N.Q l r) [1] 0), ai 0]))))))).both (Tr.call 124 [LV.n l, LV.n r] (LV.tup [AV.s (SV.n (N.Q l r)), AV.s (SV.n
    (N.R l r))]) (Tr.call 75 [] (LV.n [1]) (Tr.call 72 [LV.agg [si m, si x], LB na, LV.n (N.R l r), LV.n [1], LI e] (LU (N.nr m x na (N.R l r) [1] e)) (Tr.call 75 [] (LV.n [1])
    (Tr.call 72 [LV.agg [si m, si x], LB (!na == nb), LV.n (N.Q l r), LV.n [1], LI 0] (LU (N.nr m x (!na == nb) (N.Q l r) [1] 0)) (Tr.ret (LV.tup [au (N.nr m x na (N.R l r) [1] e),
    au (N.nr m x (!na == nb) (N.Q l r) [1] 0), ai 0]))))))))).both (((Tr.call 127 [LV.agg [si (sI na), SV.n (N.N ma), si ea], LV.agg [si (sI nb), SV.n (N.N mb), si eb]] (LV.tup
    [AV.agg [si s1, SV.n l, si e], AV.agg [si s2, SV.n r, si e]]) (Tr.call 124 [LV.n l, LV.n r] (LV.tup [AV.s (SV.n (N.Q l r)), AV.s (SV.n (N.R l r))]) (Tr.call 75 [] (LV.n [1])
    (Tr.call 72 [LV.agg [si m, si x], LB na, LV.n (N.R l r), LV.n [1], LI e] (LU (N.nr m x na (N.R l r) [1] e)) (Tr.call 75 [] (LV.n [1]) (Tr.call 72 [LV.agg [si m, si x], LB (!na
    == nb), LV.n (N.Q l r), LV.n [1], LI 0] (LU (N.nr m x (!na == nb) (N.Q l r) [1] 0)) (Tr.ret (LV.tup [au (N.nr m x na (N.R l r) [1] e), au (N.nr m x (!na == nb) (N.Q l r) [1]
    0), ai 0])))))))).both (Tr.call 127 [LV.agg [si (sI na), SV.n (N.N ma), si ea], LV.agg [si (sI nb), SV.n (N.N mb), si eb]] (LV.tup [AV.agg [si s1, SV.n l, si e], AV.agg [si s2,
    SV.n r, si e]]) (Tr.call 124 [LV.n l, LV.n r] (LV.tup [AV.s (SV.n (N.Q l r)), AV.s (SV.n (N.R l r))]) (Tr.call 75 [] (LV.n [1]) (Tr.call 72 [LV.agg [si m, si x], LB na, LV.n
    (N.R l r), LV.n [1], LI e] (LU (N.nr m x na (N.R l r) [1] e)) (Tr.call 75 [] (LV.n [1]) (Tr.call 72 [LV.agg [si m, si x], LB (!na == nb), LV.n (N.Q l r), LV.n [1], LI 0] (LU
    (N.nr m x (!na == nb) (N.Q l r) [1] 0)) (Tr.ret (LV.tup [au (N.nr m x na (N.R l r) [1] e), au (N.nr m x (!na == nb) (N.Q l r) [1] 0), ai 0]))))))))).both ((Tr.call 127 [LV.agg
    [si (sI na), SV.n (N.N ma), si ea], LV.agg [si (sI nb), SV.n (N.N mb), si eb]] (LV.tup [AV.agg [si s1, SV.n l, si e], AV.agg [si s2, SV.n r, si e]]) (Tr.call 124 [LV.n l, LV.n
    r] (LV.tup [AV.s (SV.n (N.Q l r)), AV.s (SV.n (N.R l r))]) (Tr.call 75 [] (LV.n [1]) (Tr.call 72 [LV.agg [si m, si x], LB na, LV.n (N.R l r), LV.n [1], LI e] (LU (N.nr m x na
    (N.R l r) [1] e)) (Tr.call 75 [] (LV.n [1]) (Tr.call 72 [LV.agg [si m, si x], LB (!na == nb), LV.n (N.Q l r), LV.n [1], LI 0] (LU (N.nr m x (!na == nb) (N.Q l r) [1] 0))
    (Tr.ret (LV.tup [au (N.nr m x na (N.R l r) [1] e), au (N.nr m x (!na == nb) (N.Q l r) [1] 0), ai 0])))))))).both (Tr.call 127 [LV.agg [si (sI na), SV.n (N.N ma), si ea], LV.agg
    [si (sI nb), SV.n (N.N mb), si eb]] (LV.tup [AV.agg [si s1, SV.n l, si e], AV.agg [si s2, SV.n r, si e]]) (Tr.call 124 [LV.n l, LV.n r] (LV.tup [AV.s (SV.n (N.Q l r)), AV.s
    (SV.n (N.R l r))]) (Tr.call 75 [] (LV.n [1]) (Tr.call 72 [LV.agg [si m, si x], LB na, LV.n (N.R l r), LV.n [1], LI e] (LU (N.nr m x na (N.R l r) [1] e)) (Tr.call 75 [] (LV.n
    [1]) (Tr.call 72 [LV.agg [si m, si x], LB (!na == nb), LV.n (N.Q l r), LV.n [1], LI 0] (LU (N.nr m x (!na == nb) (N.Q l r) [1] 0)) (Tr.ret (LV.tup [au (N.nr m x na (N.R l r)
    [1] e), au (N.nr m x (!na == nb) (N.Q l r) [1] 0), ai 0])))))))))))).both (((Tr.call 82 [LV.agg [si kb, sb nb, si eb, su mb]] (LV.agg [si (sI nb), SV.n (N.N mb), si eb])
    ((Tr.call 127 [LV.agg [si (sI na), SV.n (N.N ma), si ea], LV.agg [si (sI nb), SV.n (N.N mb), si eb]] (LV.tup [AV.agg [si s1, SV.n l, si e], AV.agg [si s2, SV.n r, si e]])
    (Tr.call 124 [LV.n l, LV.n r] (LV.tup [AV.s (SV.n (N.Q l r)), AV.s (SV.n (N.R l r))]) (Tr.call 75 [] (LV.n [1]) (Tr.call 72 [LV.agg [si m, si x], LB na, LV.n (N.R l r), LV.n
    [1], LI e] (LU (N.nr m x na (N.R l r) [1] e)) (Tr.call 75 [] (LV.n [1]) (Tr.call 72 [LV.agg [si m, si x], LB (!na == nb), LV.n (N.Q l r), LV.n [1], LI 0] (LU (N.nr m x (!na ==
    nb) (N.Q l r) [1] 0)) (Tr.ret (LV.tup [au (N.nr m x na (N.R l r) [1] e), au (N.nr m x (!na == nb) (N.Q l r) [1] 0), ai 0])))))))).both (Tr.call 127 [LV.agg [si (sI na), SV.n
    (N.N ma), si ea], LV.agg [si (sI nb), SV.n (N.N mb), si eb]] (LV.tup [AV.agg [si s1, SV.n l, si e], AV.agg [si s2, SV.n r, si e]]) (Tr.call 124 [LV.n l, LV.n r] (LV.tup [AV.s
    (SV.n (N.Q l r)), AV.s (SV.n (N.R l r))]) (Tr.call 75 [] (LV.n [1]) (Tr.call 72 [LV.agg [si m, si x], LB na, LV.n (N.R l r), LV.n [1], LI e] (LU (N.nr m x na (N.R l r) [1] e))
    (Tr.call 75 [] (LV.n [1]) (Tr.call 72 [LV.agg [si m, si x], LB (!na == nb), LV.n (N.Q l r), LV.n [1], LI 0] (LU (N.nr m x (!na == nb) (N.Q l r) [1] 0)) (Tr.ret (LV.tup [au
    (N.nr m x na (N.R l r) [1] e), au (N.nr m x (!na == nb) (N.Q l r) [1] 0), ai 0])))))))))).both (Tr.call 82 [LV.agg [si kb, sb nb, si eb, su mb]] (LV.agg [si (sI nb), SV.n (N.N
    mb), si eb]) (Tr.call 127 [LV.agg [si (sI na), SV.n (N.N ma), si ea], LV.agg [si (sI nb), SV.n (N.N mb), si eb]] (LV.tup [AV.agg [si s1, SV.n l, si e], AV.agg [si s2, SV.n r,
    si e]]) (Tr.call 124 [LV.n l, LV.n r] (LV.tup [AV.s (SV.n (N.Q l r)), AV.s (SV.n (N.R l r))]) (Tr.call 75 [] (LV.n [1]) (Tr.call 72 [LV.agg [si m, si x], LB na, LV.n (N.R l r),
    LV.n [1], LI e] (LU (N.nr m x na (N.R l r) [1] e)) (Tr.call 75 [] (LV.n [1]) (Tr.call 72 [LV.agg [si m, si x], LB (!na == nb), LV.n (N.Q l r), LV.n [1], LI 0] (LU (N.nr m x
    (!na == nb) (N.Q l r) [1] 0)) (Tr.ret (LV.tup [au (N.nr m x na (N.R l r) [1] e), au (N.nr m x (!na == nb) (N.Q l r) [1] 0), ai 0])))))))))).both ((Tr.call 82 [LV.agg [si kb, sb
    nb, si eb, su mb]] (LV.agg [si (sI nb), SV.n (N.N mb), si eb]) ((Tr.call 127 [LV.agg [si (sI na), SV.n (N.N ma), si ea], LV.agg [si (sI nb), SV.n (N.N mb), si eb]] (LV.tup
    [AV.agg [si s1, SV.n l, si e], AV.agg [si s2, SV.n r, si e]]) (Tr.call 124 [LV.n l, LV.n r] (LV.tup [AV.s (SV.n (N.Q l r)), AV.s (SV.n (N.R l r))]) (Tr.call 75 [] (LV.n [1])
    (Tr.call 72 [LV.agg [si m, si x], LB na, LV.n (N.R l r), LV.n [1], LI e] (LU (N.nr m x na (N.R l r) [1] e)) (Tr.call 75 [] (LV.n [1]) (Tr.call 72 [LV.agg [si m, si x], LB (!na
    == nb), LV.n (N.Q l r), LV.n [1], LI 0] (LU (N.nr m x (!na == nb) (N.Q l r) [1] 0)) (Tr.ret (LV.tup [au (N.nr m x na (N.R l r) [1] e), au (N.nr m x (!na == nb) (N.Q l r) [1]
    0), ai 0])))))))).both (Tr.call 127 [LV.agg [si (sI na), SV.n (N.N ma), si ea], LV.agg [si (sI nb), SV.n (N.N mb), si eb]] (LV.tup [AV.agg [si s1, SV.n l, si e], AV.agg [si s2,
    SV.n r, si e]]) (Tr.call 124 [LV.n l, LV.n r] (LV.tup [AV.s (SV.n (N.Q l r)), AV.s (SV.n (N.R l r))]) (Tr.call 75 [] (LV.n [1]) (Tr.call 72 [LV.agg [si m, si x], LB na, LV.n
    (N.R l r), LV.n [1], LI e] (LU (N.nr m x na (N.R l r) [1] e)) (Tr.call 75 [] (LV.n [1]) (Tr.call 72 [LV.agg [si m, si x], LB (!na == nb), LV.n (N.Q l r), LV.n [1], LI 0] (LU
    (N.nr m x (!na == nb) (N.Q l r) [1] 0)) (Tr.ret (LV.tup [au (N.nr m x na (N.R l r) [1] e), au (N.nr m x (!na == nb) (N.Q l r) [1] 0), ai 0])))))))))).both (Tr.call 82 [LV.agg
    [si kb, sb nb, si eb, su mb]] (LV.agg [si (sI nb), SV.n (N.N mb), si eb]) (Tr.call 127 [LV.agg [si (sI na), SV.n (N.N ma), si ea], LV.agg [si (sI nb), SV.n (N.N mb), si eb]]
    (LV.tup [AV.agg [si s1, SV.n l, si e], AV.agg [si s2, SV.n r, si e]]) (Tr.call 124 [LV.n l, LV.n r] (LV.tup [AV.s (SV.n (N.Q l r)), AV.s (SV.n (N.R l r))]) (Tr.call 75 [] (LV.n
    [1]) (Tr.call 72 [LV.agg [si m, si x], LB na, LV.n (N.R l r), LV.n [1], LI e] (LU (N.nr m x na (N.R l r) [1] e)) (Tr.call 75 [] (LV.n [1]) (Tr.call 72 [LV.agg [si m, si x], LB
    (!na == nb), LV.n (N.Q l r), LV.n [1], LI 0] (LU (N.nr m x (!na == nb) (N.Q l r) [1] 0)) (Tr.ret (LV.tup [au (N.nr m x na (N.R l r) [1] e), au (N.nr m x (!na == nb) (N.Q l r)
    [1] 0), ai 0]))))))))))))).both (((Tr.call 82 [LV.agg [si ka, sb na, si ea, su ma]] (LV.agg [si (sI na), SV.n (N.N ma), si ea]) ((Tr.call 82 [LV.agg [si kb, sb nb, si eb, su
    mb]] (LV.agg [si (sI nb), SV.n (N.N mb), si eb]) ((Tr.call 127 [LV.agg [si (sI na), SV.n (N.N ma), si ea], LV.agg [si (sI nb), SV.n (N.N mb), si eb]] (LV.tup [AV.agg [si s1,
    SV.n l, si e], AV.agg [si s2, SV.n r, si e]]) (Tr.call 124 [LV.n l, LV.n r] (LV.tup [AV.s (SV.n (N.Q l r)), AV.s (SV.n (N.R l r))]) (Tr.call 75 [] (LV.n [1]) (Tr.call 72
    [LV.agg [si m, si x], LB na, LV.n (N.R l r), LV.n [1], LI e] (LU (N.nr m x na (N.R l r) [1] e)) (Tr.call 75 [] (LV.n [1]) (Tr.call 72 [LV.agg [si m, si x], LB (!na == nb), LV.n
    (N.Q l r), LV.n [1], LI 0] (LU (N.nr m x (!na == nb) (N.Q l r) [1] 0)) (Tr.ret (LV.tup [au (N.nr m x na (N.R l r) [1] e), au (N.nr m x (!na == nb) (N.Q l r) [1] 0), ai
    0])))))))).both (Tr.call 127 [LV.agg [si (sI na), SV.n (N.N ma), si ea], LV.agg [si (sI nb), SV.n (N.N mb), si eb]] (LV.tup [AV.agg [si s1, SV.n l, si e], AV.agg [si s2, SV.n
    r, si e]]) (Tr.call 124 [LV.n l, LV.n r] (LV.tup [AV.s (SV.n (N.Q l r)), AV.s (SV.n (N.R l r))]) (Tr.call 75 [] (LV.n [1]) (Tr.call 72 [LV.agg [si m, si x], LB na, LV.n (N.R l
    r), LV.n [1], LI e] (LU (N.nr m x na (N.R l r) [1] e)) (Tr.call 75 [] (LV.n [1]) (Tr.call 72 [LV.agg [si m, si x], LB (!na == nb), LV.n (N.Q l r), LV.n [1], LI 0] (LU (N.nr m x
    (!na == nb) (N.Q l r) [1] 0)) (Tr.ret (LV.tup [au (N.nr m x na (N.R l r) [1] e), au (N.nr m x (!na == nb) (N.Q l r) [1] 0), ai 0])))))))))).both (Tr.call 82 [LV.agg [si kb, sb
    nb, si eb, su mb]] (LV.agg [si (sI nb), SV.n (N.N mb), si eb]) (Tr.call 127 [LV.agg [si (sI na), SV.n (N.N ma), si ea], LV.agg [si (sI nb), SV.n (N.N mb), si eb]] (LV.tup
    [AV.agg [si s1, SV.n l, si e], AV.agg [si s2, SV.n r, si e]]) (Tr.call 124 [LV.n l, LV.n r] (LV.tup [AV.s (SV.n (N.Q l r)), AV.s (SV.n (N.R l r))]) (Tr.call 75 [] (LV.n [1])
    (Tr.call 72 [LV.agg [si m, si x], LB na, LV.n (N.R l r), LV.n [1], LI e] (LU (N.nr m x na (N.R l r) [1] e)) (Tr.call 75 [] (LV.n [1]) (Tr.call 72 [LV.agg [si m, si x], LB (!na
    == nb), LV.n (N.Q l r), LV.n [1], LI 0] (LU (N.nr m x (!na == nb) (N.Q l r) [1] 0)) (Tr.ret (LV.tup [au (N.nr m x na (N.R l r) [1] e), au (N.nr m x (!na == nb) (N.Q l r) [1]
    0), ai 0]))))))))))).both (Tr.call 82 [LV.agg [si ka, sb na, si ea, su ma]] (LV.agg [si (sI na), SV.n (N.N ma), si ea]) (Tr.call 82 [LV.agg [si kb, sb nb, si eb, su mb]]
    (LV.agg [si (sI nb), SV.n (N.N mb), si eb]) (Tr.call 127 [LV.agg [si (sI na), SV.n (N.N ma), si ea], LV.agg [si (sI nb), SV.n (N.N mb), si eb]] (LV.tup [AV.agg [si s1, SV.n l,
    si e], AV.agg [si s2, SV.n r, si e]]) (Tr.call 124 [LV.n l, LV.n r] (LV.tup [AV.s (SV.n (N.Q l r)), AV.s (SV.n (N.R l r))]) (Tr.call 75 [] (LV.n [1]) (Tr.call 72 [LV.agg [si m,
    si x], LB na, LV.n (N.R l r), LV.n [1], LI e] (LU (N.nr m x na (N.R l r) [1] e)) (Tr.call 75 [] (LV.n [1]) (Tr.call 72 [LV.agg [si m, si x], LB (!na == nb), LV.n (N.Q l r),
    LV.n [1], LI 0] (LU (N.nr m x (!na == nb) (N.Q l r) [1] 0)) (Tr.ret (LV.tup [au (N.nr m x na (N.R l r) [1] e), au (N.nr m x (!na == nb) (N.Q l r) [1] 0), ai 0]))))))))))).both
    ((Tr.call 82 [LV.agg [si ka, sb na, si ea, su ma]] (LV.agg [si (sI na), SV.n (N.N ma), si ea]) ((Tr.call 82 [LV.agg [si kb, sb nb, si eb, su mb]] (LV.agg [si (sI nb), SV.n (N.N
    mb), si eb]) ((Tr.call 127 [LV.agg [si (sI na), SV.n (N.N ma), si ea], LV.agg [si (sI nb), SV.n (N.N mb), si eb]] (LV.tup [AV.agg [si s1, SV.n l, si e], AV.agg [si s2, SV.n r,
    si e]]) (Tr.call 124 [LV.n l, LV.n r] (LV.tup [AV.s (SV.n (N.Q l r)), AV.s (SV.n (N.R l r))]) (Tr.call 75 [] (LV.n [1]) (Tr.call 72 [LV.agg [si m, si x], LB na, LV.n (N.R l r),
    LV.n [1], LI e] (LU (N.nr m x na (N.R l r) [1] e)) (Tr.call 75 [] (LV.n [1]) (Tr.call 72 [LV.agg [si m, si x], LB (!na == nb), LV.n (N.Q l r), LV.n [1], LI 0] (LU (N.nr m x
    (!na == nb) (N.Q l r) [1] 0)) (Tr.ret (LV.tup [au (N.nr m x na (N.R l r) [1] e), au (N.nr m x (!na == nb) (N.Q l r) [1] 0), ai 0])))))))).both (Tr.call 127 [LV.agg [si (sI na),
    SV.n (N.N ma), si ea], LV.agg [si (sI nb), SV.n (N.N mb), si eb]] (LV.tup [AV.agg [si s1, SV.n l, si e], AV.agg [si s2, SV.n r, si e]]) (Tr.call 124 [LV.n l, LV.n r] (LV.tup
    [AV.s (SV.n (N.Q l r)), AV.s (SV.n (N.R l r))]) (Tr.call 75 [] (LV.n [1]) (Tr.call 72 [LV.agg [si m, si x], LB na, LV.n (N.R l r), LV.n [1], LI e] (LU (N.nr m x na (N.R l r)
    [1] e)) (Tr.call 75 [] (LV.n [1]) (Tr.call 72 [LV.agg [si m, si x], LB (!na == nb), LV.n (N.Q l r), LV.n [1], LI 0] (LU (N.nr m x (!na == nb) (N.Q l r) [1] 0)) (Tr.ret (LV.tup
    [au (N.nr m x na (N.R l r) [1] e), au (N.nr m x (!na == nb) (N.Q l r) [1] 0), ai 0])))))))))).both (Tr.call 82 [LV.agg [si kb, sb nb, si eb, su mb]] (LV.agg [si (sI nb), SV.n
    (N.N mb), si eb]) (Tr.call 127 [LV.agg [si (sI na), SV.n (N.N ma), si ea], LV.agg [si (sI nb), SV.n (N.N mb), si eb]] (LV.tup [AV.agg [si s1, SV.n l, si e], AV.agg [si s2, SV.n
    r, si e]]) (Tr.call 124 [LV.n l, LV.n r] (LV.tup [AV.s (SV.n (N.Q l r)), AV.s (SV.n (N.R l r))]) (Tr.call 75 [] (LV.n [1]) (Tr.call 72 [LV.agg [si m, si x], LB na, LV.n (N.R l
    r), LV.n [1], LI e] (LU (N.nr m x na (N.R l r) [1] e)) (Tr.call 75 [] (LV.n [1]) (Tr.call 72 [LV.agg [si m, si x], LB (!na == nb), LV.n (N.Q l r), LV.n [1], LI 0] (LU (N.nr m x
    (!na == nb) (N.Q l r) [1] 0)) (Tr.ret (LV.tup [au (N.nr m x na (N.R l r) [1] e), au (N.nr m x (!na == nb) (N.Q l r) [1] 0), ai 0]))))))))))).both (Tr.call 82 [LV.agg [si ka, sb
    na, si ea, su ma]] (LV.agg [si (sI na), SV.n (N.N ma), si ea]) (Tr.call 82 [LV.agg [si kb, sb nb, si eb, su mb]] (LV.agg [si (sI nb), SV.n (N.N mb), si eb]) (Tr.call 127
    [LV.agg [si (sI na), SV.n (N.N ma), si ea], LV.agg [si (sI nb), SV.n (N.N mb), si eb]] (LV.tup [AV.agg [si s1, SV.n l, si e], AV.agg [si s2, SV.n r, si e]]) (Tr.call 124 [LV.n
    l, LV.n r] (LV.tup [AV.s (SV.n (N.Q l r)), AV.s (SV.n (N.R l r))]) (Tr.call 75 [] (LV.n [1]) (Tr.call 72 [LV.agg [si m, si x], LB na, LV.n (N.R l r), LV.n [1], LI e] (LU (N.nr
    m x na (N.R l r) [1] e)) (Tr.call 75 [] (LV.n [1]) (Tr.call 72 [LV.agg [si m, si x], LB (!na == nb), LV.n (N.Q l r), LV.n [1], LI 0] (LU (N.nr m x (!na == nb) (N.Q l r) [1] 0))
    (Tr.ret (LV.tup [au (N.nr m x na (N.R l r) [1] e), au (N.nr m x (!na == nb) (N.Q l r) [1] 0), ai 0]))))))))))))))))))) := by kernel_rfl

theorem t106 (N : NF) (D : Int → List Int) (M y : Nat) (m x a k e : Int) (n : Bool) : treeL Try.prog 3 ((31, fun _ => some (.tup [PA k n e y, ai 0])) :: (74, fun l => match l with | [.a (.s (.v (.int _ k)))] => some (.n (D k)) | _ => none) :: cNF N) [lsSq1 D M y e] 106 [FM m x, LU a] =
    Tr.call 31 [LV.agg [si m, si x], LU a] (LV.tup [AV.agg [si k, sb n, si e, su (y : Int)], ai 0]) (br (k == 4) (Tr.call 28 [LV.agg [si m, si x]] (LU (N.na m x)) (Tr.ret (LV.tup [au
    (N.na m x), ai 0]))) (br n (br (k != 1) (Tr.call 28 [LV.agg [si m, si x]] (LU (N.na m x)) (Tr.ret (LV.tup [au (N.na m x), ai 0]))) (br (k != 2) (Tr.ret (LV.tup [au a, ai 0]))
    (Tr.call 74 [LU (y : Int)] (LV.n (D (y : Int))) (Tr.loop (lsSq1 D M y e) [LV.n (D (y : Int)), LI e, LV.a (AV.s (SV.p 0 0))] none fun (x_1 : Nat → Int) (rest : List (Nat × LV))
    => Tr.call 84 [LV.n (D (x_1 0))] (LI (N.B (D (x_1 0)))) (br (decide (N.B (D (x_1 0)) < IntKind.i64.wrap (IntKind.i64.wrap (2 * m) + 8))) (Tr.call 91 [LV.n (D (x_1 0)), LI 1]
    (LV.n (N.U (D (x_1 0)) 1)) (Tr.again (lsSq1 D M y e) [LV.n (N.U (D (x_1 0)) 1), LI (IntKind.i64.wrap (x_1 1 - 1)), LV.a (AV.s (SV.p 0 0))] none x_1 [(23, [si m, si x]), (41,
    [si k, sb n, si e, su (y : Int)])] [(23, [si m, si x]), (41, [si k, sb n, si e, su (y : Int)])] 103 103)) (br ((x_1 1).tmod 2 != 0) (Tr.call 91 [LV.n (D (x_1 0)), LI 1] (LV.n
    (N.U (D (x_1 0)) 1)) (Tr.again (lsSq1 D M y e) [LV.n (N.U (D (x_1 0)) 1), LI (IntKind.i64.wrap (x_1 1 - 1)), LV.a (AV.s (SV.p 0 0))] none x_1 [(23, [si m, si x]), (41, [si k,
    sb n, si e, su (y : Int)])] [(23, [si m, si x]), (41, [si k, sb n, si e, su (y : Int)])] 103 103)) (Tr.call 84 [LV.n (D (x_1 0))] (LI (N.B (D (x_1 0)))) (Tr.loop (lsSq2 D (x_1
    0) (x_1 1)) [LV.n [], LI (IntKind.i64.wrap (IntKind.i64.wrap ((N.B (D (x_1 0))).tdiv 2) + 1)), LV.n (D (x_1 0)), LI (x_1 1), LV.a (AV.s (SV.p 0 0))] none fun (x_2 : Nat → Int)
    (rest : List (Nat × LV)) => br (decide (x_2 1 ≥ 0)) (Tr.call 75 [] (LV.n [1]) (Tr.call 91 [LV.n [1], LI (x_2 1)] (LV.n (N.U [1] (x_2 1))) (Tr.call 90 [LV.n (D (x_2 0)), LV.n
    (N.U [1] (x_2 1))] (LV.n (N.P (D (x_2 0)) (N.U [1] (x_2 1)))) (Tr.call 73 [LV.n (N.P (D (x_2 0)) (N.U [1] (x_2 1))), LV.n (N.P (D (x_2 0)) (N.U [1] (x_2 1)))] (LV.n (N.T (N.P
    (D (x_2 0)) (N.U [1] (x_2 1))) (N.P (D (x_2 0)) (N.U [1] (x_2 1))))) (Tr.call 97 [LV.n (N.T (N.P (D (x_2 0)) (N.U [1] (x_2 1))) (N.P (D (x_2 0)) (N.U [1] (x_2 1)))), LV.n (D
    (x_1 0))] (LI (N.C (N.T (N.P (D (x_2 0)) (N.U [1] (x_2 1))) (N.P (D (x_2 0)) (N.U [1] (x_2 1)))) (D (x_1 0)))) (br (decide (N.C (N.T (N.P (D (x_2 0)) (N.U [1] (x_2 1))) (N.P (D
    (x_2 0)) (N.U [1] (x_2 1)))) (D (x_1 0)) ≤ 0)) (Tr.again (lsSq2 D (x_1 0) (x_1 1)) [LV.n (N.P (D (x_2 0)) (N.U [1] (x_2 1))), LI (IntKind.i64.wrap (x_2 1 - 1)), LV.n (D (x_1
    0)), LI (x_1 1), LV.a (AV.s (SV.p 0 0))] none x_2 [(23, [si m, si x]), (41, [si k, sb n, si e, su (y : Int)])] [(23, [si m, si x]), (41, [si k, sb n, si e, su (y : Int)])] 103
    103) (Tr.again (lsSq2 D (x_1 0) (x_1 1)) [LV.n (D (x_2 0)), LI (IntKind.i64.wrap (x_2 1 - 1)), LV.n (D (x_1 0)), LI (x_1 1), LV.a (AV.s (SV.p 0 0))] none x_2 [(23, [si m, si
    x]), (41, [si k, sb n, si e, su (y : Int)])] [(23, [si m, si x]), (41, [si k, sb n, si e, su (y : Int)])] 103 103))))))) (Tr.call 91 [LV.n (D (x_2 0)), LI 1] (LV.n (N.U (D (x_2
    0)) 1)) (Tr.call 73 [LV.n (D (x_2 0)), LV.n (D (x_2 0))] (LV.n (N.T (D (x_2 0)) (D (x_2 0)))) (Tr.call 97 [LV.n (N.T (D (x_2 0)) (D (x_2 0))), LV.n (D (x_1 0))] (LI (N.C (N.T
    (D (x_2 0)) (D (x_2 0))) (D (x_1 0)))) (br (decide (N.C (N.T (D (x_2 0)) (D (x_2 0))) (D (x_1 0)) < 0)) (Tr.call 75 [] (LV.n [1]) (Tr.call 90 [LV.n (N.U (D (x_2 0)) 1), LV.n
    [1]] (LV.n (N.P (N.U (D (x_2 0)) 1) [1])) (Tr.call 75 [] (LV.n [1]) (Tr.call 72 [LV.agg [si m, si x], LB false, LV.n (N.P (N.U (D (x_2 0)) 1) [1]), LV.n [1], LI
    (IntKind.i64.wrap (IntKind.i64.wrap ((x_1 1).tdiv 2) - 1))] (LU (N.nr m x false (N.P (N.U (D (x_2 0)) 1) [1]) [1] (IntKind.i64.wrap (IntKind.i64.wrap ((x_1 1).tdiv 2) - 1))))
    (Tr.ret (LV.tup [au (N.nr m x false (N.P (N.U (D (x_2 0)) 1) [1]) [1] (IntKind.i64.wrap (IntKind.i64.wrap ((x_1 1).tdiv 2) - 1))), ai 0])))))) (Tr.call 75 [] (LV.n [1])
    (Tr.call 72 [LV.agg [si m, si x], LB false, LV.n (N.U (D (x_2 0)) 1), LV.n [1], LI (IntKind.i64.wrap (IntKind.i64.wrap ((x_1 1).tdiv 2) - 1))] (LU (N.nr m x false (N.U (D (x_2
    0)) 1) [1] (IntKind.i64.wrap (IntKind.i64.wrap ((x_1 1).tdiv 2) - 1)))) (Tr.ret (LV.tup [au (N.nr m x false (N.U (D (x_2 0)) 1) [1] (IntKind.i64.wrap (IntKind.i64.wrap ((x_1
    1).tdiv 2) - 1))), ai 0])))))))))))))))) (br (k != 2) (Tr.ret (LV.tup [au a, ai 0])) (Tr.call 74 [LU (y : Int)] (LV.n (D (y : Int))) (Tr.loop (lsSq1 D M y e) [LV.n (D (y :
    Int)), LI e, LV.a (AV.s (SV.p 0 0))] none fun (x_1 : Nat → Int) (rest : List (Nat × LV)) => Tr.call 84 [LV.n (D (x_1 0))] (LI (N.B (D (x_1 0)))) (br (decide (N.B (D (x_1 0)) <
    IntKind.i64.wrap (IntKind.i64.wrap (2 * m) + 8))) (Tr.call 91 [LV.n (D (x_1 0)), LI 1] (LV.n (N.U (D (x_1 0)) 1)) (Tr.again (lsSq1 D M y e) [LV.n (N.U (D (x_1 0)) 1), LI
    (IntKind.i64.wrap (x_1 1 - 1)), LV.a (AV.s (SV.p 0 0))] none x_1 [(23, [si m, si x]), (41, [si k, sb n, si e, su (y : Int)])] [(23, [si m, si x]), (41, [si k, sb n, si e, su (y
    : Int)])] 103 103)) (br ((x_1 1).tmod 2 != 0) (Tr.call 91 [LV.n (D (x_1 0)), LI 1] (LV.n (N.U (D (x_1 0)) 1)) (Tr.again (lsSq1 D M y e) [LV.n (N.U (D (x_1 0)) 1), LI
    (IntKind.i64.wrap (x_1 1 - 1)), LV.a (AV.s (SV.p 0 0))] none x_1 [(23, [si m, si x]), (41, [si k, sb n, si e, su (y : Int)])] [(23, [si m, si x]), (41, [si k, sb n, si e, su (y
    : Int)])] 103 103)) (Tr.call 84 [LV.n (D (x_1 0))] (LI (N.B (D (x_1 0)))) (Tr.loop (lsSq2 D (x_1 0) (x_1 1)) [LV.n [], LI (IntKind.i64.wrap (IntKind.i64.wrap ((N.B (D (x_1
    0))).tdiv 2) + 1)), LV.n (D (x_1 0)), LI (x_1 1), LV.a (AV.s (SV.p 0 0))] none fun (x_2 : Nat → Int) (rest : List (Nat × LV)) => br (decide (x_2 1 ≥ 0)) (Tr.call 75 [] (LV.n
    [1]) (Tr.call 91 [LV.n [1], LI (x_2 1)] (LV.n (N.U [1] (x_2 1))) (Tr.call 90 [LV.n (D (x_2 0)), LV.n (N.U [1] (x_2 1))] (LV.n (N.P (D (x_2 0)) (N.U [1] (x_2 1)))) (Tr.call 73
    [LV.n (N.P (D (x_2 0)) (N.U [1] (x_2 1))), LV.n (N.P (D (x_2 0)) (N.U [1] (x_2 1)))] (LV.n (N.T (N.P (D (x_2 0)) (N.U [1] (x_2 1))) (N.P (D (x_2 0)) (N.U [1] (x_2 1)))))
    (Tr.call 97 [LV.n (N.T (N.P (D (x_2 0)) (N.U [1] (x_2 1))) (N.P (D (x_2 0)) (N.U [1] (x_2 1)))), LV.n (D (x_1 0))] (LI (N.C (N.T (N.P (D (x_2 0)) (N.U [1] (x_2 1))) (N.P (D
    (x_2 0)) (N.U [1] (x_2 1)))) (D (x_1 0)))) (br (decide (N.C (N.T (N.P (D (x_2 0)) (N.U [1] (x_2 1))) (N.P (D (x_2 0)) (N.U [1] (x_2 1)))) (D (x_1 0)) ≤ 0)) (Tr.again (lsSq2 D
    (x_1 0) (x_1 1)) [LV.n (N.P (D (x_2 0)) (N.U [1] (x_2 1))), LI (IntKind.i64.wrap (x_2 1 - 1)), LV.n (D (x_1 0)), LI (x_1 1), LV.a (AV.s (SV.p 0 0))] none x_2 [(23, [si m, si
    x]), (41, [si k, sb n, si e, su (y : Int)])] [(23, [si m, si x]), (41, [si k, sb n, si e, su (y : Int)])] 103 103) (Tr.again (lsSq2 D (x_1 0) (x_1 1)) [LV.n (D (x_2 0)), LI
    (IntKind.i64.wrap (x_2 1 - 1)), LV.n (D (x_1 0)), LI (x_1 1), LV.a (AV.s (SV.p 0 0))] none x_2 [(23, [si m, si x]), (41, [si k, sb n, si e, su (y : Int)])] [(23, [si m, si x]),
    (41, [si k, sb n, si e, su (y : Int)])] 103 103))))))) (Tr.call 91 [LV.n (D (x_2 0)), LI 1] (LV.n (N.U (D (x_2 0)) 1)) (Tr.call 73 [LV.n (D (x_2 0)), LV.n (D (x_2 0))] (LV.n
    (N.T (D (x_2 0)) (D (x_2 0)))) (Tr.call 97 [LV.n (N.T (D (x_2 0)) (D (x_2 0))), LV.n (D (x_1 0))] (LI (N.C (N.T (D (x_2 0)) (D (x_2 0))) (D (x_1 0)))) (br (decide (N.C (N.T (D
    (x_2 0)) (D (x_2 0))) (D (x_1 0)) < 0)) (Tr.call 75 [] (LV.n [1]) (Tr.call 90 [LV.n (N.U (D (x_2 0)) 1), LV.n [1]] (LV.n (N.P (N.U (D (x_2 0)) 1) [1])) (Tr.call 75 [] (LV.n
    [1]) (Tr.call 72 [LV.agg [si m, si x], LB false, LV.n (N.P (N.U (D (x_2 0)) 1) [1]), LV.n [1], LI (IntKind.i64.wrap (IntKind.i64.wrap ((x_1 1).tdiv 2) - 1))] (LU (N.nr m x
    false (N.P (N.U (D (x_2 0)) 1) [1]) [1] (IntKind.i64.wrap (IntKind.i64.wrap ((x_1 1).tdiv 2) - 1)))) (Tr.ret (LV.tup [au (N.nr m x false (N.P (N.U (D (x_2 0)) 1) [1]) [1]
    (IntKind.i64.wrap (IntKind.i64.wrap ((x_1 1).tdiv 2) - 1))), ai 0])))))) (Tr.call 75 [] (LV.n [1]) (Tr.call 72 [LV.agg [si m, si x], LB false, LV.n (N.U (D (x_2 0)) 1), LV.n
    [1], LI (IntKind.i64.wrap (IntKind.i64.wrap ((x_1 1).tdiv 2) - 1))] (LU (N.nr m x false (N.U (D (x_2 0)) 1) [1] (IntKind.i64.wrap (IntKind.i64.wrap ((x_1 1).tdiv 2) - 1))))
    (Tr.ret (LV.tup [au (N.nr m x false (N.U (D (x_2 0)) 1) [1] (IntKind.i64.wrap (IntKind.i64.wrap ((x_1 1).tdiv 2) - 1))), ai 0]))))))))))))))))) := by kernel_rfl

theorem mdA_up (ea : Int) (ma : Nat) (eb : Int) : mdA ea ma eb = upA ma ea eb := rfl
theorem modRef_cn (hf : Okf M X) (ha : a < 2^(1+X+M)) (hb : b < 2^(1+X+M)) :
    Cp 105 [FM M X, LU a, LU b] (.tup [au (modR M X a (kd M X a : Nat) (ng M X a) (ex M X a) (mn M X a) (kd M X b : Nat) (ex M X b) (mn M X b) : Nat), au (modQ M X (kd M X a : Nat) (ng M X a) (ex M X a) (mn M X a) (kd M X b : Nat) (ng M X b) (ex M X b) (mn M X b) : Nat), ai 0]) := by
  obtain ⟨N, hN⟩ := nf_ex
  have hm1 := hf.m1
  obtain ⟨a1, a2⟩ := ex_bounds hf.ok a
  obtain ⟨b1, b2⟩ := ex_bounds hf.ok b
  have hma := mn_lt53 (a := a) hf.ok
  have hmb := mn_lt53 (a := b) hf.ok
  have ubA := upA_bl (a := mn M X a) (e1 := ex M X a) (e2 := ex M X b) (by omega) (by omega) (by omega) (by omega) (by omega)
  have ubB := upA_bl (a := mn M X b) (e1 := ex M X b) (e2 := ex M X a) (by omega) (by omega) (by omega) (by omega) (by omega)
  have hal := alike_cn (sI (ng M X a)) (sI (ng M X b)) (e1 := ex M X a) (e2 := ex M X b) (a := mn M X a) (b := mn M X b) (by omega) (by omega) (by omega) (by omega) (by omega) (by omega)
  have x1 := exact_cn (kd M X a : Nat) (ex M X a) (ng M X a) (y := mn M X a) (by omega)
  have x2 := exact_cn (kd M X b : Nat) (ex M X b) (ng M X b) (y := mn M X b) (by omega)
  have zA : kd M X a = 1 → upA (mn M X a) (ex M X a) (ex M X b) = 0 ∧ a = sgn M X (ng M X a) := fun h => ⟨by rw [mn0 h, upA_zero], self_zero ha h⟩
  have pB : kd M X b = 2 → 0 < upA (mn M X b) (ex M X b) (ex M X a) := fun h => by
    have := upA_pos (mn_pos h) (ex M X b) (ex M X a); omega
  have htwo := twoR_cn hf ha hb
  have ht := t105 N M X a b (kd M X a : Nat) (kd M X b : Nat) (ex M X a) (ex M X b) (mn M X a) (mn M X b) (ng M X a) (ng M X b) 0 (sI (ng M X a)) (sI (ng M X b)) (min (ex M X a) (ex M X b)) (dig (upA (mn M X a) (ex M X a) (ex M X b))) (dig (upA (mn M X b) (ex M X b) (ex M X a)))
  refine cp_of ht ⟨htwo, WT.br (fun h => absurd h (by decide)) (fun _ => ?_)⟩
  clear ht htwo
  rw [hN.n, hN.n, hN.na, hN.ze, ← dig_one, hN.Q, hN.R, hN.nr, hN.nr]
  have sR : modR M X a (kd M X a : Nat) (ng M X a) (ex M X a) (mn M X a) (kd M X b : Nat) (ex M X b) (mn M X b) = if (kd M X a : Int) = 4 ∨ (kd M X b : Int) = 4 ∨ (kd M X a : Int) = 3 ∨ (kd M X b : Int) = 1 then nanc M X else if (kd M X a : Int) = 1 ∨ (kd M X b : Int) = 3 then a else sgn M X (ng M X a) + near M X (upA (mn M X a) (ex M X a) (ex M X b) % upA (mn M X b) (ex M X b) (ex M X a)) 1 (min (ex M X a) (ex M X b)) := rfl
  have sQ : modQ M X (kd M X a : Nat) (ng M X a) (ex M X a) (mn M X a) (kd M X b : Nat) (ng M X b) (ex M X b) (mn M X b) = if (kd M X a : Int) = 4 ∨ (kd M X b : Int) = 4 ∨ (kd M X a : Int) = 3 ∨ (kd M X b : Int) = 1 then nanc M X else if (kd M X a : Int) = 1 ∨ (kd M X b : Int) = 3 then sgn M X (!(ng M X a == ng M X b)) else sgn M X (!(ng M X a == ng M X b)) + near M X (upA (mn M X a) (ex M X a) (ex M X b) / upA (mn M X b) (ex M X b) (ex M X a)) 1 0 := rfl
  generalize modR M X a (kd M X a : Nat) (ng M X a) (ex M X a) (mn M X a) (kd M X b : Nat) (ex M X b) (mn M X b) = V at *
  generalize modQ M X (kd M X a : Nat) (ng M X a) (ex M X a) (mn M X a) (kd M X b : Nat) (ng M X b) (ex M X b) (mn M X b) = V2 at *
  generalize upA (mn M X a) (ex M X a) (ex M X b) = A at *
  generalize upA (mn M X b) (ex M X b) (ex M X a) = C at *
  have he1 : -1500 ≤ min (ex M X a) (ex M X b) := by omega
  have he2 : min (ex M X a) (ex M X b) ≤ 1500 := by omega
  generalize min (ex M X a) (ex M X b) = E at *
  have tail : (kd M X a = 1 ∨ kd M X a = 2) → kd M X b = 2 → Wt (.tup [au V, au V2, ai 0]) (.call 124 [.n (dig A), .n (dig C)] (.tup [.s (.n (dig (A / C))), .s (.n (dig (A % C)))]) (.call 75 [] (.n (dig 1)) (.call 72 [FM M X, LB (ng M X a), .n (dig (A % C)), .n (dig 1), LI E] (LU (sgn M X (ng M X a) + near M X (A % C) 1 E : Nat)) (.call 75 [] (.n (dig 1)) (.call 72 [FM M X, LB (!(ng M X a == ng M X b)), .n (dig (A / C)), .n (dig 1), LI 0] (LU (sgn M X (!(ng M X a == ng M X b)) + near M X (A / C) 1 0 : Nat))
      (.ret (.tup [au (sgn M X (ng M X a) + near M X (A % C) 1 E : Nat), au (sgn M X (!(ng M X a == ng M X b)) + near M X (A / C) 1 0 : Nat), ai 0])))))))  := fun ka kb => by
    have hC := pB kb
    have bA1 : bl (A / C) ≤ 5000 := Nat.le_trans (bl_mono (Nat.div_le_self _ _)) ubA
    have bA2 : bl (A % C) ≤ 5000 := Nat.le_trans (bl_mono (Nat.mod_le _ _)) ubA
    have hV : V = sgn M X (ng M X a) + near M X (A % C) 1 E := by
      rw [sR, if_neg (by omega)]
      rcases ka with ka | ka
      · obtain ⟨z1, z2⟩ := zA ka
        rw [if_pos (by omega), z1, Nat.zero_mod, near_zero, Nat.add_zero]; exact z2
      · rw [if_neg (by omega)]
    have hV2 : V2 = sgn M X (!(ng M X a == ng M X b)) + near M X (A / C) 1 0 := by
      rw [sQ, if_neg (by omega)]
      rcases ka with ka | ka
      · obtain ⟨z1, z2⟩ := zA ka
        rw [if_pos (by omega), z1, Nat.zero_div, near_zero, Nat.add_zero]
      · rw [if_neg (by omega)]
    rw [hV, hV2]
    exact ⟨quo_cn (by omega) (by omega) hC, oneD_cn, nearR_cn hf _ (by omega) (by rw [bl1]; decide) (by decide) (by omega) (by omega), oneD_cn, nearR_cn hf _ (by omega) (by rw [bl1]; decide) (by decide) (by omega) (by omega), rfl⟩
  have ca := kd_cases M X a
  have cb := kd_cases M X b
  clear zA pB hma hmb a1 a2 b1 b2
  generalize kd M X a = ka at *
  generalize kd M X b = kb at *
  generalize ng M X a = na at *
  generalize ng M X b = nb at *
  generalize mn M X a = ma at *
  generalize mn M X b = mb at *
  generalize ex M X a = ea at *
  generalize ex M X b = eb at *
  have nn : V = nanc M X → V2 = nanc M X → Wt (.tup [au V, au V2, ai 0]) (.call 28 [FM M X] (LU (nanc M X : Nat)) (.call 28 [FM M X] (LU (nanc M X : Nat)) (.ret (.tup [au (nanc M X : Nat), au (nanc M X : Nat), ai 0])))) := by
    rintro rfl rfl; exact ⟨nanR_cn hf, nanR_cn hf, rfl⟩
  have zz : V = a → V2 = sgn M X (!(na == nb)) → Wt (.tup [au V, au V2, ai 0]) (.call 43 [FM M X, LB (!(na == nb))] (LU (sgn M X (!(na == nb)) : Nat)) (.ret (.tup [au a, au (sgn M X (!(na == nb)) : Nat), ai 0]))) := by
    rintro rfl rfl; exact ⟨zeroR_cn hf _, rfl⟩
  rcases ca with rfl | rfl | rfl | rfl <;> rcases cb with rfl | rfl | rfl | rfl
  all_goals (simp at sR sQ)
  all_goals
    repeat' first
      | exact absurd h (by decide)
      | exact x1
      | exact x2
      | exact hal
      | exact nn sR sQ
      | exact zz sR sQ
      | exact tail (by omega) rfl
      | (refine WT.br (fun h => ?_) (fun h => ?_))
      | (refine And.intro ?_ ?_)
theorem t105b (m x a b : Int) : tree Try.prog 3 [(70, fun _ => some (.tup [PA 0 false 0 0, PA 0 false 0 0, ai 1]))] 105 [FM m x, LU a, LU b] =
    .call 70 [FM m x, LU a, LU b] (.tup [PA 0 false 0 0, PA 0 false 0 0, ai 1]) (.ret (.tup [au 0, au 0, ai 1])) := by kernel_rfl
theorem modRef_bad {m x : Int} (ha : a < 2^64) (hb : b < 2^64) (h : Bad m x a ∨ Bad m x b) : Cp 105 [FM m x, LU a, LU b] (.tup [au 0, au 0, ai 1]) :=
  cp_of (t105b m x a b) ⟨twoRbad_cn ha hb h, rfl⟩
/-! ### Sqrt -/
theorem bl_prod (n m : Nat) : bl (n * m) ≤ bl n + bl m := bl_le_iff.2 (by rw [Nat.pow_add]; exact Nat.mul_lt_mul'' (bl_lt _) (bl_lt _))
theorem lt_of_sq {x y : Nat} (h : x * x < y * y) : x < y := sq_lt_sq h
theorem le_of_sq {x y : Nat} (h : x * x ≤ y * y) : x ≤ y := by
  rcases Nat.lt_or_ge y x with l | l
  · have := Nat.mul_lt_mul'' l l; omega
  · exact l
theorem root_same (hf : Okf M X) {y t r : Nat} {e x : Int} (hy0 : 0 < y) (hy : y < 2^53) (hex : x = e - t) (hev : x % 2 = 0) (r1 : r * r ≤ y * 2^t) (r2 : y * 2^t < (r + 1) * (r + 1)) (hb : 2 * M + 8 ≤ bl y + t) (hb2 : bl y + t ≤ 2 * M + 9) (he1 : -1500 ≤ e) (he2 : e ≤ 1500) :
    sqN M X e y = near M X (if r * r < y * 2^t then 2 * r + 1 else 2 * r) 1 (x / 2 - 1) := by
  have hm1 := hf.m1
  have hm2 := hf.m2
  have b53 := bl53 hy
  have hb0 := bl_pos (a := y) (by omega)
  obtain ⟨s1, s2, s3⟩ := sqS_even e hy0 (by omega)
  have fit := isq_fit (ea := e) hy0 hy
  obtain ⟨R1, R2⟩ := isq_spec fit
  unfold sqN
  generalize sqS e y = s at *
  generalize isq (y * 2^s * 2^64) = R at *
  obtain ⟨j, hj⟩ : ∃ j : Nat, s + 64 = t + 2 * j := ⟨(s + 64 - t) / 2, by omega⟩
  have eQ : y * 2^s * 2^64 = (y * 2^t) * (2^j * 2^j) := by
    rw [Nat.mul_assoc, Nat.mul_assoc, ← Nat.pow_add, ← Nat.pow_add, ← Nat.pow_add]; congr 2; omega
  have e0 : (e - (s : Int) - 64) / 2 = x / 2 - j := by omega
  rw [e0]
  rw [eQ] at R1 R2 ⊢
  have hmb : 2^(2 * M + 7) ≤ y * 2^t := by
    have h1 := bl_le (a := y) (by omega)
    have h2 := Nat.mul_le_mul_right (2^t) h1
    rw [← Nat.pow_add] at h2
    exact Nat.le_trans (pow_le (by omega)) h2
  generalize y * 2^t = m at *
  have hj0 := two_pow_pos j
  have sq : ∀ z : Nat, (z * 2^j) * (z * 2^j) = z * z * (2^j * 2^j) := fun z => by ac_rfl
  have lo : r * 2^j ≤ R := by
    have : (r * 2^j) * (r * 2^j) < (R + 1) * (R + 1) := by rw [sq]; exact Nat.lt_of_le_of_lt (Nat.mul_le_mul_right _ r1) R2
    have := lt_of_sq this; omega
  have hi : R < (r + 1) * 2^j := by
    have : R * R < ((r + 1) * 2^j) * ((r + 1) * 2^j) := by rw [sq]; exact Nat.lt_of_le_of_lt R1 (Nat.mul_lt_mul_of_pos_right r2 (Nat.mul_pos hj0 hj0))
    exact lt_of_sq this
  unfold packN
  rw [sgn_false, Nat.zero_add]
  have up : ∀ z : Nat, near M X (2 * z) 1 (x / 2 - 1) = near M X z 1 (x / 2) := fun z => by
    have := near_scale (M := M) (X := X) (N := z) (D := 1) (e := x / 2) (by omega) (by decide) 1
    rw [Nat.mul_comm 2]; exact this
  by_cases hex2 : r * r < m
  · rw [if_pos hex2]
    have hrm : 2^(M+2) ≤ r := by
      have h1 : 2^(M+3) * 2^(M+3) < (r + 1) * (r + 1) := by
        rw [← Nat.pow_add]
        exact Nat.lt_of_le_of_lt (Nat.le_trans (pow_le (by omega)) hmb) r2
      have h2 := lt_of_sq h1
      have h3 : 2^(M+3) = 2 * 2^(M+2) := by rw [Nat.pow_succ 2 (M+2), Nat.mul_comm]
      have := two_pow_pos (M+2)
      omega
    obtain ⟨K, hK⟩ : ∃ K : Nat, K = 4000 := ⟨_, rfl⟩
    by_cases hE : R * R = m * (2^j * 2^j)
    · rw [if_neg (by simp [hE])]
      have hne : r * 2^j ≠ R := fun h => by
        rw [← h, sq] at hE
        have := Nat.eq_of_mul_eq_mul_right (Nat.mul_pos hj0 hj0) hE
        omega
      have ee : (x / 2 + (K : Int)).toNat = j + (x / 2 - (j : Int) + (K : Int)).toNat := by omega
      refine near_sticky (K := K) (by omega) (by decide) hrm (by omega) (by omega) ?_ ?_
      · rw [Nat.mul_one, ee, Nat.pow_add, ← Nat.mul_assoc]; exact Nat.mul_lt_mul_of_pos_right (by omega) (two_pow_pos _)
      · rw [Nat.mul_one, ee, Nat.pow_add, ← Nat.mul_assoc]; exact Nat.mul_lt_mul_of_pos_right hi (two_pow_pos _)
    · rw [if_pos (by simp [hE])]
      have ee : (x / 2 + (K : Int)).toNat = j + 1 + (x / 2 - (j : Int) - 1 + (K : Int)).toNat := by omega
      have e2 : ∀ z : Nat, z * 2^(j+1) = 2 * (z * 2^j) := fun z => by rw [Nat.pow_succ]; ac_rfl
      refine near_sticky (K := K) (by omega) (by decide) hrm (by omega) (by omega) ?_ ?_
      · rw [Nat.mul_one, ee, Nat.pow_add 2 (j+1), ← Nat.mul_assoc, e2]; exact Nat.mul_lt_mul_of_pos_right (by omega) (two_pow_pos _)
      · rw [Nat.mul_one, ee, Nat.pow_add 2 (j+1), ← Nat.mul_assoc, e2]; exact Nat.mul_lt_mul_of_pos_right (by omega) (two_pow_pos _)
  · rw [if_neg hex2, up]
    have hrm : r * r = m := by omega
    have hR : R = r * 2^j := by
      have : R * R ≤ (r * 2^j) * (r * 2^j) := by rw [sq, hrm]; exact R1
      have := le_of_sq this; omega
    have hE : R * R = m * (2^j * 2^j) := by rw [hR, sq, hrm]
    rw [if_neg (by simp [hE]), hR, near_scale (by omega) (by decide) j]
theorem sqrtR_cn (hf : Okf M X) (ha : a < 2^(1+X+M)) : Cp 106 [FM M X, LU a] (.tup [au (sqrtN M X a : Nat), ai 0]) := by
  obtain ⟨N, hN⟩ := nf_ex
  obtain ⟨D, hD⟩ : ∃ D : Int → List Int, ∀ n : Nat, D n = dig n := ⟨fun z => dig z.toNat, fun n => rfl⟩
  have hm1 := hf.m1
  have hm2 := hf.m2
  obtain ⟨a1, a2⟩ := ex_bounds hf.ok a
  have hma := mn_lt53 (a := a) hf.ok
  have hml := mn_lt M X a
  have pa : kd M X a = 2 → 0 < mn M X a := fun h => mn_pos h
  have hop := openR_cn hf ha
  have ht := t106 N D M (mn M X a) M X a (kd M X a : Nat) (ex M X a) (ng M X a)
  refine cpL_of ht ⟨hop, ?_⟩
  clear ht hop
  have ck := kd_cases M X a
  have spec : sqrtN M X a = if kd M X a = 1 ∨ (kd M X a = 3 ∧ ng M X a = false) then a else if kd M X a = 4 ∨ ng M X a = true then nanc M X else sqN M X (ex M X a) (mn M X a) := rfl
  generalize sqrtN M X a = V at *
  rw [hN.na]
  generalize kd M X a = k at *
  generalize ng M X a = n at *
  have nn : V = nanc M X → Wt (.tup [au V, ai 0]) (.call 28 [FM M X] (LU (nanc M X : Nat)) (.ret (.tup [au (nanc M X : Nat), ai 0]))) := by
    rintro rfl; exact ⟨nanR_cn hf, rfl⟩
  by_cases hk : k = 2 ∧ n = false
  · obtain ⟨rfl, rfl⟩ := hk
    have hV : V = sqN M X (ex M X a) (mn M X a) := by rw [spec, if_neg (by simp), if_neg (by simp)]
    have hy0 := pa rfl
    subst hV
    generalize mn M X a = y at *
    generalize ex M X a = e at *
    have by1 : bl y ≤ M + 1 := bl_le_iff.2 hml
    refine WT.br (fun h => absurd h (by decide)) (fun _ => WT.br (fun h => absurd h (by decide)) (fun _ => WT.br (fun h => absurd h (by decide)) (fun _ => ?_)))
    have hnat : Cp 74 [LU y] (.n (D y)) := by rw [hD]; exact natof_cn (by omega)
    refine ⟨hnat, ⟨fun i => if i = 0 then (y : Nat) else e, rfl, ⟨0, ?_, ?_, .inl (by omega)⟩, rfl⟩, ?_⟩
    · show (y : Int) = ((y * 2^0 : Nat) : Int); rw [Nat.pow_zero, Nat.mul_one]
    · show e = e - ((0 : Nat) : Int); omega
    rintro x rest ⟨t, h0, h1, hb⟩
    dsimp only
    have hbl : bl (y * 2^t) = bl y + t := bl_mulpow hy0 t
    have hU : N.U (dig (y * 2^t)) 1 = dig (y * 2^t * 2^1) := hN.U _ 1
    rw [h0, h1, hD, hN.B, hU, hbl, i64_in (n := 2 * (M : Int)) (by omega) (by omega), i64_in (n := 2 * (M : Int) + 8) (by omega) (by omega)]
    have hbits : Cp 84 [.n (dig (y * 2^t))] (LI (bl y + t : Nat)) := by rw [← hbl]; exact bits_cn (by omega)
    have hup : Cp 91 [.n (dig (y * 2^t)), LI 1] (.n (dig (y * 2^t * 2^1))) := up_cn (n := y * 2^t) (K := 1) (by omega)
    have eup : y * 2^t * 2^1 = y * 2^(t+1) := by rw [Nat.mul_assoc, ← Nat.pow_add]
    have more : (bl y + t + 1 ≤ 2 * M + 8 ∨ (bl y + t + 1 = 2 * M + 9 ∧ (e - ((t + 1 : Nat) : Int)) % 2 = 0)) → ∀ (hh : List (TypeId × List SV)) (q : Nat), Wt (.tup [au (sqN M X e y : Nat), ai 0]) (.again (lsSq1 D M y e) [.n (dig (y * 2^t * 2^1)), LI (IntKind.i64.wrap (e - (t : Int) - 1)), LV.a (AV.s (SV.p 0 0))] none x hh hh q q) := fun hb2 hh q => by
      refine ⟨⟨fun i => if i = 0 then ((y * 2^(t+1) : Nat) : Int) else e - ((t + 1 : Nat) : Int), ?_, ⟨t + 1, rfl, rfl, by omega⟩, ?_, rfl⟩, rfl, rfl⟩
      · rw [i64_in (by omega) (by omega), eup]
        show [LV.n (dig (y * 2^(t+1))), LI (e - (t : Int) - 1), LV.p 0 0] = [LV.n (D ((y * 2^(t+1) : Nat) : Int)), LI (e - ((t + 1 : Nat) : Int)), LV.p 0 0]
        rw [hD, show e - (t : Int) - 1 = e - ((t + 1 : Nat) : Int) by omega]
      · show 2 * M + 10 - bl ((y * 2^(t+1) : Nat) : Int).toNat < 2 * M + 10 - bl (x 0).toNat
        rw [h0, Int.toNat_natCast, Int.toNat_natCast, bl_mulpow hy0, bl_mulpow hy0]; omega
    refine ⟨hbits, brD (fun h => ⟨hup, more (by omega) _ _⟩) (fun h => ?_)⟩
    rw [tmod2]
    refine brD (fun h2 => ⟨hup, more (by omega) _ _⟩) (fun h2 => ?_)
    have hev : (e - (t : Int)) % 2 = 0 := by omega
    have e1 : (((bl y + t : Nat) : Int)).tdiv 2 = (((bl y + t) / 2 : Nat) : Int) := rfl
    rw [e1, i64_in (n := (((bl y + t) / 2 : Nat) : Int)) (by omega) (by omega), i64_in (by omega) (by omega)]
    refine ⟨hbits, ⟨fun i => if i = 0 then 0 else (((bl y + t) / 2 : Nat) : Int) + 1, ?_, ⟨0, rfl, Nat.zero_le _, ?_, by show -1 ≤ (((bl y + t) / 2 : Nat) : Int) + 1; omega, by show (((bl y + t) / 2 : Nat) : Int) + 1 ≤ 200; omega⟩, rfl⟩, ?_⟩
    · show [LV.n [], LI ((((bl y + t) / 2 : Nat) : Int) + 1), LV.n (dig (y * 2^t)), LI (e - (t : Int)), LV.p 0 0] = [LV.n (D ((0 : Nat) : Int)), LI ((((bl y + t) / 2 : Nat) : Int) + 1), LV.n (D ((y * 2^t : Nat) : Int)), LI (e - (t : Int)), LV.p 0 0]
      rw [hD, hD, dig_zero]
    · show (((y * 2^t : Nat) : Int)).toNat < (0 + 2^((((bl y + t) / 2 : Nat) : Int) + 1 + 1).toNat) * (0 + 2^((((bl y + t) / 2 : Nat) : Int) + 1 + 1).toNat)
      rw [Int.toNat_natCast, Nat.zero_add, ← Nat.pow_add]
      refine Nat.lt_of_lt_of_le (bl_lt _) (pow_le ?_)
      rw [hbl]; omega
    generalize hm : y * 2^t = m at *
    rintro z rest2 ⟨r, g0, g1, g2, g3, g4⟩
    dsimp only at g1 g2 ⊢
    rw [Int.toNat_natCast] at g1 g2
    have hrm : r ≤ m := Nat.le_trans (Nat.le_mul_self r) g1
    have br1 := bl_mono hrm
    have bm : bl m ≤ 2 * M + 9 := by omega
    rw [g0, hD]
    refine brD (fun h3 => ?_) (fun h3 => ?_)
    · obtain ⟨i, hi⟩ : ∃ i : Nat, z 1 = i := ⟨(z 1).toNat, by omega⟩
      rw [hi] at g2 g4 ⊢
      have hUi : N.U (dig 1) i = dig (1 * 2^i) := hN.U 1 i
      rw [← dig_one, hUi, Nat.one_mul, hN.P, hN.T, hN.C]
      have up1 : Cp 91 [.n (dig 1), LI i] (.n (dig (2^i))) := by rw [dig_one]; exact up1_cn (by omega)
      have b2 := bl_two i
      have bs := bl_add r (2^i) 201 (by omega) (by omega)
      have pl : Cp 90 [.n (dig r), .n (dig (2^i))] (.n (dig (r + 2^i))) := plus_cn (by omega) (by omega)
      have tm : Cp 73 [.n (dig (r + 2^i)), .n (dig (r + 2^i))] (.n (dig ((r + 2^i) * (r + 2^i)))) := times_cn (by omega) (by omega)
      have bt := bl_prod (r + 2^i) (r + 2^i)
      have cm : Cp 97 [.n (dig ((r + 2^i) * (r + 2^i))), .n (dig m)] (LI (cmpZ ((r + 2^i) * (r + 2^i)) m)) := cmp_nat (by omega) (by omega)
      have e2 : ((i : Int) + 1).toNat = i + 1 := by omega
      rw [e2] at g2
      have hw : IntKind.i64.wrap ((i : Int) - 1) = (i : Int) - 1 := i64_in (by omega) (by omega)
      rw [hw]
      have hi1 : ((i : Int) - 1 + 1).toNat = i := by omega
      have ag : ∀ (r' : Nat), r' * r' ≤ m → m < (r' + 2^i) * (r' + 2^i) → ∀ (hh : List (TypeId × List SV)) (q : Nat), Wt (.tup [au (sqN M X e y : Nat), ai 0]) (.again (lsSq2 D (m : Nat) (e - t)) [.n (dig r'), LI ((i : Int) - 1), .n (dig m), LI (e - t), LV.a (AV.s (SV.p 0 0))] none z hh hh q q) := fun r' q1 q2 hh q => by
        refine ⟨⟨fun j => if j = 0 then (r' : Nat) else (i : Int) - 1, ?_, ⟨r', rfl, by rw [Int.toNat_natCast]; exact q1, ?_, by show -1 ≤ (i : Int) - 1; omega, by show (i : Int) - 1 ≤ 200; omega⟩, ?_, rfl⟩, rfl, rfl⟩
        · show _ = [LV.n (D ((r' : Nat) : Int)), LI ((i : Int) - 1), LV.n (D (m : Nat)), LI (e - t), LV.p 0 0]
          rw [hD, hD]
        · show ((m : Nat) : Int).toNat < (r' + 2^((i : Int) - 1 + 1).toNat) * (r' + 2^((i : Int) - 1 + 1).toNat)
          rw [hi1, Int.toNat_natCast]; exact q2
        · show ((i : Int) - 1 + 1).toNat < (z 1 + 1).toNat; omega
      have le0 : cmpZ ((r + 2^i) * (r + 2^i)) m ≤ 0 ↔ (r + 2^i) * (r + 2^i) ≤ m := by
        have := cmpZ_gt ((r + 2^i) * (r + 2^i)) m
        omega
      refine ⟨oneD_cn, up1, pl, tm, cm, brD (fun h6 => ag _ (le0.1 h6) ?_ _ _) (fun h6 => ag _ g1 (by have := fun h => h6 (le0.2 h); omega) _ _)⟩
      rw [Nat.add_assoc, ← Nat.two_mul, ← Nat.pow_succ']; exact g2
    · have hz : z 1 = -1 := by omega
      rw [hz, show ((-1 : Int) + 1).toNat = 0 from rfl, Nat.pow_zero] at g2
      have hU1 : N.U (dig r) 1 = dig (r * 2^1) := hN.U r 1
      rw [hU1, hN.T, hN.C, ← dig_one, hN.P, hN.nr, hN.nr]
      have br : bl r ≤ 200 := by omega
      have bt : bl (r * r) ≤ 700 := Nat.le_trans (bl_mono g1) (by omega)
      have tm : Cp 73 [.n (dig r), .n (dig r)] (.n (dig (r * r))) := times_cn (by omega) (by omega)
      have cm : Cp 97 [.n (dig (r * r)), .n (dig m)] (LI (cmpZ (r * r) m)) := cmp_nat (by omega) (by omega)
      have bu := bl_mul2 r 1
      have up2 : Cp 91 [.n (dig r), LI 1] (.n (dig (r * 2^1))) := up_cn (n := r) (K := 1) (by omega)
      have root := root_same hf (y := y) (t := t) (r := r) (e := e) (x := e - t) hy0 hma rfl hev (by rw [hm]; exact g1) (by rw [hm]; exact g2) (by omega) (by omega) a1 a2
      rw [hm] at root
      have td : (e - (t : Int)).tdiv 2 = (e - (t : Int)) / 2 := tdiv2 hev
      rw [td, i64_in (n := (e - (t : Int)) / 2) (by omega) (by omega), i64_in (by omega) (by omega), sgn_false, Nat.zero_add, Nat.zero_add]
      have lt0 : cmpZ (r * r) m < 0 ↔ r * r < m := by
        have h7 := cmpZ_ge (r * r) m
        omega
      have b1 := bl_add (r * 2^1) 1 300 (by omega) (by rw [bl1]; decide)
      refine ⟨up2, tm, cm, brD (fun h6 => ?_) (fun h6 => ?_)⟩
      · rw [root, if_pos (lt0.1 h6), show 2 * r + 1 = r * 2^1 + 1 by omega]
        have nr := nearR_cn hf false (a := r * 2^1 + 1) (b := 1) (e := (e - (t : Int)) / 2 - 1) (by omega) (by rw [bl1]; decide) (by decide) (by omega) (by omega)
        rw [sgn_false, Nat.zero_add] at nr
        exact ⟨oneD_cn, plus_cn (by omega) (by rw [bl1]; decide), oneD_cn, nr, rfl⟩
      · rw [root, if_neg (fun h => h6 (lt0.2 h)), show 2 * r = r * 2^1 by omega]
        have nr := nearR_cn hf false (a := r * 2^1) (b := 1) (e := (e - (t : Int)) / 2 - 1) (by omega) (by rw [bl1]; decide) (by decide) (by omega) (by omega)
        rw [sgn_false, Nat.zero_add] at nr
        exact ⟨oneD_cn, nr, rfl⟩
  · rcases ck with rfl | rfl | rfl | rfl <;> cases n
    all_goals (simp at spec hk)
    all_goals
      repeat' first
        | exact absurd h (by decide)
        | exact nn spec
        | (subst spec; rfl)
        | (refine WT.br (fun h => ?_) (fun h => ?_))
theorem t106b (m x a : Int) : tree Try.prog 3 [(31, fun _ => some (.tup [PA 0 false 0 0, ai 1]))] 106 [FM m x, LU a] =
    .call 31 [FM m x, LU a] (.tup [PA 0 false 0 0, ai 1]) (.ret (.tup [au 0, ai 1])) := by kernel_rfl
theorem sqrtR_bad {m x : Int} (ha : a < 2^64) (h : Bad m x a) : Cp 106 [FM m x, LU a] (.tup [au 0, ai 1]) := cp_of (t106b m x a) ⟨openRbad_cn ha h, rfl⟩
end Go.Proofs.Ytpliondhiahhnaa.K
