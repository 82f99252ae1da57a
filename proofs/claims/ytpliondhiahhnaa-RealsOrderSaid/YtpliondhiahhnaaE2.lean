/- grottoref03: exact, alike, plus, Cmp, whole, Ceil, Floor, Whole, Add, Sub, Convert: contracts. -/
import Derived.Test.YtpliondhiahhnaaE1
set_option linter.unusedVariables false
namespace Go.Proofs.Ytpliondhiahhnaa.K
open Sx Fl Go Go.RowKit
set_option maxRecDepth 100000
variable {M X a b : Nat}
def sI (n : Bool) : Int := bif n then -1 else 1
def sdI (k : Int) (n : Bool) : Int := if k = 3 then (if n then -1 else 1) else 0

theorem t127 (N : NF) (s1 s2 e1 e2 : Int) (l m : List Int) : tree Try.prog 3 (cNF N) 127 [.a (.agg [si s1, .n l, si e1]), .a (.agg [si s2, .n m, si e2])] =
    Tr.call 91 [LV.n l, LI (IntKind.i64.wrap (e1 - if e2 < e1 then e2 else e1))] (LV.n (N.U l (IntKind.i64.wrap (e1 - if e2 < e1 then e2 else e1)))) (Tr.call 91 [LV.n m, LI
    (IntKind.i64.wrap (e2 - if e2 < e1 then e2 else e1))] (LV.n (N.U m (IntKind.i64.wrap (e2 - if e2 < e1 then e2 else e1)))) (Tr.ret (LV.tup [AV.agg [si s1, SV.n (N.U l
    (IntKind.i64.wrap (e1 - if e2 < e1 then e2 else e1))), si (if e2 < e1 then e2 else e1)], AV.agg [si s2, SV.n (N.U m (IntKind.i64.wrap (e2 - if e2 < e1 then e2 else e1))), si
    (if e2 < e1 then e2 else e1)]]))) := by kernel_rfl

theorem t83 (N : NF) (s1 s2 e1 e2 e : Int) (l m x y : List Int) : tree Try.prog 3 ((127, fun _ => some (.tup [(.agg [si s1, .n x, si e]), (.agg [si s2, .n y, si e])])) :: cNF N) 83 [.a (.agg [si s1, .n l, si e1]), .a (.agg [si s2, .n m, si e2])] =
    Tr.call 127 [LV.agg [si s1, SV.n l, si e1], LV.agg [si s2, SV.n m, si e2]] (LV.tup [AV.agg [si s1, SV.n x, si e], AV.agg [si s2, SV.n y, si e]]) (br (s1 == s2) (Tr.call 90 [LV.n x,
    LV.n y] (LV.n (N.P x y)) (Tr.ret (LV.agg [si s1, SV.n (N.P x y), si e]))) (Tr.call 97 [LV.n x, LV.n y] (LI (N.C x y)) (br (decide (N.C x y ≥ 0)) (Tr.call 128 [LV.n x, LV.n y]
    (LV.n (N.D x y)) (Tr.ret (LV.agg [si s1, SV.n (N.D x y), si e]))) (Tr.call 128 [LV.n y, LV.n x] (LV.n (N.D y x)) (Tr.ret (LV.agg [si s2, SV.n (N.D y x), si e])))))) := by kernel_rfl

theorem t26 (N : NF) (m x a b : Int) (ka kb ea eb ma mb : Int) (na nb : Bool) (g : Int) (s1 e : Int) (l : List Int) : tree Try.prog 3 ((70, fun _ => some (.tup [PA ka na ea ma, PA kb nb eb mb, ai g])) :: (81, fun l => match l with | [.a (.agg [.v (.int _ k), .v (.bool n), _, _])] => some (LI (sdI k n)) | _ => none) :: (82, fun l => match l with | [.a (.agg [_, .v (.bool n), .v (.int _ e), .v (.int _ y)])] => some (.agg [si (sI n), .n (N.N y), si e]) | _ => none) :: (83, fun _ => some (.agg [si s1, .n l, si e])) :: cNF N) 26 [FM m x, LU a, LU b] =
    Tr.call 70 [LV.agg [si m, si x], LU a, LU b] (LV.tup [AV.agg [si ka, sb na, si ea, su ma], AV.agg [si kb, sb nb, si eb, su mb], ai g]) (br (g != 0) (Tr.ret (LV.tup [ai 0, ab false,
    ai g])) (br (ka == 4) (Tr.ret (LV.tup [ai 0, ab false, ai 0])) (br (kb == 4) (Tr.ret (LV.tup [ai 0, ab false, ai 0])) (Tr.call 81 [LV.agg [si ka, sb na, si ea, su ma]] (LI (sdI
    ka na)) (Tr.call 81 [LV.agg [si kb, sb nb, si eb, su mb]] (LI (sdI kb nb)) (br (sdI ka na != 0) (Tr.ret (LV.tup [ai (if (if IntKind.i64.wrap (sdI ka na - sdI kb nb) < 1 then
    IntKind.i64.wrap (sdI ka na - sdI kb nb) else 1) > -1 then if IntKind.i64.wrap (sdI ka na - sdI kb nb) < 1 then IntKind.i64.wrap (sdI ka na - sdI kb nb) else 1 else -1), ab
    true, ai 0])) (br (sdI kb nb != 0) (Tr.ret (LV.tup [ai (if (if IntKind.i64.wrap (sdI ka na - sdI kb nb) < 1 then IntKind.i64.wrap (sdI ka na - sdI kb nb) else 1) > -1 then if
    IntKind.i64.wrap (sdI ka na - sdI kb nb) < 1 then IntKind.i64.wrap (sdI ka na - sdI kb nb) else 1 else -1), ab true, ai 0])) (Tr.call 82 [LV.agg [si kb, sb nb, si eb, su mb]]
    (LV.agg [si (sI nb), SV.n (N.N mb), si eb]) ((Tr.call 82 [LV.agg [si ka, sb na, si ea, su ma]] (LV.agg [si (sI na), SV.n (N.N ma), si ea]) ((Tr.call 83 [LV.agg [si (sI na),
    SV.n (N.N ma), si ea], LV.agg [si (IntKind.i64.wrap (0 - sI nb)), SV.n (N.N mb), si eb]] (LV.agg [si s1, SV.n l, si e]) (Tr.call 84 [LV.n l] (LI (N.B l)) (br (N.B l == 0)
    (Tr.ret (LV.tup [ai 0, ab true, ai 0])) (Tr.ret (LV.tup [ai s1, ab true, ai 0]))))).both (Tr.call 83 [LV.agg [si (sI na), SV.n (N.N ma), si ea], LV.agg [si (IntKind.i64.wrap (0
    - sI nb)), SV.n (N.N mb), si eb]] (LV.agg [si s1, SV.n l, si e]) (Tr.call 84 [LV.n l] (LI (N.B l)) (br (N.B l == 0) (Tr.ret (LV.tup [ai 0, ab true, ai 0])) (Tr.ret (LV.tup [ai
    s1, ab true, ai 0]))))))).both (Tr.call 82 [LV.agg [si ka, sb na, si ea, su ma]] (LV.agg [si (sI na), SV.n (N.N ma), si ea]) (Tr.call 83 [LV.agg [si (sI na), SV.n (N.N ma), si
    ea], LV.agg [si (IntKind.i64.wrap (0 - sI nb)), SV.n (N.N mb), si eb]] (LV.agg [si s1, SV.n l, si e]) (Tr.call 84 [LV.n l] (LI (N.B l)) (br (N.B l == 0) (Tr.ret (LV.tup [ai 0,
    ab true, ai 0])) (Tr.ret (LV.tup [ai s1, ab true, ai 0]))))))))))))))) := by kernel_rfl

theorem t103 (N : NF) (m x a b : Int) (ka kb ea eb ma mb : Int) (na nb : Bool) (g : Int) (s1 e : Int) (l : List Int) : tree Try.prog 3 ((70, fun _ => some (.tup [PA ka na ea ma, PA kb nb eb mb, ai g])) :: (82, fun l => match l with | [.a (.agg [_, .v (.bool n), .v (.int _ e), .v (.int _ y)])] => some (.agg [si (sI n), .n (N.N y), si e]) | _ => none) :: (83, fun _ => some (.agg [si s1, .n l, si e])) :: cNF N) 103 [FM m x, LU a, LU b] =
    Tr.call 70 [LV.agg [si m, si x], LU a, LU b] (LV.tup [AV.agg [si ka, sb na, si ea, su ma], AV.agg [si kb, sb nb, si eb, su mb], ai g]) (br (g != 0) (Tr.ret (LV.tup [au 0, ai g]))
    (br (ka == 4) (Tr.call 28 [LV.agg [si m, si x]] (LU (N.na m x)) (Tr.ret (LV.tup [au (N.na m x), ai 0]))) (br (kb == 4) (Tr.call 28 [LV.agg [si m, si x]] (LU (N.na m x)) (Tr.ret
    (LV.tup [au (N.na m x), ai 0]))) (br (ka == 3) (br (ka == kb) (br (!na == nb) (Tr.call 28 [LV.agg [si m, si x]] (LU (N.na m x)) (Tr.ret (LV.tup [au (N.na m x), ai 0]))) (br (ka
    == 3) (br na (Tr.call 71 [LV.agg [si m, si x], LB true] (LU (N.inf m x true)) (Tr.ret (LV.tup [au (N.inf m x true), ai 0]))) (br (kb == 3) (Tr.call 71 [LV.agg [si m, si x], LB
    nb] (LU (N.inf m x nb)) (Tr.ret (LV.tup [au (N.inf m x nb), ai 0]))) (Tr.call 71 [LV.agg [si m, si x], LB false] (LU (N.inf m x false)) (Tr.ret (LV.tup [au (N.inf m x false),
    ai 0]))))) (br (kb == 3) (Tr.call 71 [LV.agg [si m, si x], LB nb] (LU (N.inf m x nb)) (Tr.ret (LV.tup [au (N.inf m x nb), ai 0]))) (Tr.call 71 [LV.agg [si m, si x], LB false]
    (LU (N.inf m x false)) (Tr.ret (LV.tup [au (N.inf m x false), ai 0])))))) (br (ka == 3) (br na (Tr.call 71 [LV.agg [si m, si x], LB true] (LU (N.inf m x true)) (Tr.ret (LV.tup
    [au (N.inf m x true), ai 0]))) (br (kb == 3) (Tr.call 71 [LV.agg [si m, si x], LB nb] (LU (N.inf m x nb)) (Tr.ret (LV.tup [au (N.inf m x nb), ai 0]))) (Tr.call 71 [LV.agg [si
    m, si x], LB false] (LU (N.inf m x false)) (Tr.ret (LV.tup [au (N.inf m x false), ai 0]))))) (br (kb == 3) (Tr.call 71 [LV.agg [si m, si x], LB nb] (LU (N.inf m x nb)) (Tr.ret
    (LV.tup [au (N.inf m x nb), ai 0]))) (Tr.call 71 [LV.agg [si m, si x], LB false] (LU (N.inf m x false)) (Tr.ret (LV.tup [au (N.inf m x false), ai 0])))))) (br (kb == 3) (br (ka
    == kb) (br (!na == nb) (Tr.call 28 [LV.agg [si m, si x]] (LU (N.na m x)) (Tr.ret (LV.tup [au (N.na m x), ai 0]))) (br (ka == 3) (br na (Tr.call 71 [LV.agg [si m, si x], LB
    true] (LU (N.inf m x true)) (Tr.ret (LV.tup [au (N.inf m x true), ai 0]))) (br (kb == 3) (Tr.call 71 [LV.agg [si m, si x], LB nb] (LU (N.inf m x nb)) (Tr.ret (LV.tup [au (N.inf
    m x nb), ai 0]))) (Tr.call 71 [LV.agg [si m, si x], LB false] (LU (N.inf m x false)) (Tr.ret (LV.tup [au (N.inf m x false), ai 0]))))) (br (kb == 3) (Tr.call 71 [LV.agg [si m,
    si x], LB nb] (LU (N.inf m x nb)) (Tr.ret (LV.tup [au (N.inf m x nb), ai 0]))) (Tr.call 71 [LV.agg [si m, si x], LB false] (LU (N.inf m x false)) (Tr.ret (LV.tup [au (N.inf m x
    false), ai 0])))))) (br (ka == 3) (br na (Tr.call 71 [LV.agg [si m, si x], LB true] (LU (N.inf m x true)) (Tr.ret (LV.tup [au (N.inf m x true), ai 0]))) (br (kb == 3) (Tr.call
    71 [LV.agg [si m, si x], LB nb] (LU (N.inf m x nb)) (Tr.ret (LV.tup [au (N.inf m x nb), ai 0]))) (Tr.call 71 [LV.agg [si m, si x], LB false] (LU (N.inf m x false)) (Tr.ret
    (LV.tup [au (N.inf m x false), ai 0]))))) (br (kb == 3) (Tr.call 71 [LV.agg [si m, si x], LB nb] (LU (N.inf m x nb)) (Tr.ret (LV.tup [au (N.inf m x nb), ai 0]))) (Tr.call 71
    [LV.agg [si m, si x], LB false] (LU (N.inf m x false)) (Tr.ret (LV.tup [au (N.inf m x false), ai 0])))))) (br (ka == 1) (br (kb == 1) (br na (Tr.call 43 [LV.agg [si m, si x],
    LB nb] (LU (N.ze m x nb)) (Tr.ret (LV.tup [au (N.ze m x nb), ai 0]))) (Tr.call 43 [LV.agg [si m, si x], LB false] (LU (N.ze m x false)) (Tr.ret (LV.tup [au (N.ze m x false), ai
    0])))) ((Tr.call 82 [LV.agg [si ka, sb na, si ea, su ma]] (LV.agg [si (sI na), SV.n (N.N ma), si ea]) ((Tr.call 82 [LV.agg [si kb, sb nb, si eb, su mb]] (LV.agg [si (sI nb),
    SV.n (N.N mb), si eb]) ((Tr.call 83 [LV.agg [si (sI na), SV.n (N.N ma), si ea], LV.agg [si (sI nb), SV.n (N.N mb), si eb]] (LV.agg [si s1, SV.n l, si e]) (Tr.call 84 [LV.n l]
    (LI (N.B l)) (br (N.B l == 0) (Tr.call 43 [LV.agg [si m, si x], LB false] (LU (N.ze m x false)) (Tr.ret (LV.tup [au (N.ze m x false), ai 0]))) (Tr.call 75 [] (LV.n [1])
    (Tr.call 72 [LV.agg [si m, si x], LB (decide (s1 < 0)), LV.n l, LV.n [1], LI e] (LU (N.nr m x (decide (s1 < 0)) l [1] e)) (Tr.ret (LV.tup [au (N.nr m x (decide (s1 < 0)) l [1]
    e), ai 0]))))))).both (Tr.call 83 [LV.agg [si (sI na), SV.n (N.N ma), si ea], LV.agg [si (sI nb), SV.n (N.N mb), si eb]] (LV.agg [si s1, SV.n l, si e]) (Tr.call 84 [LV.n l] (LI
    (N.B l)) (br (N.B l == 0) (Tr.call 43 [LV.agg [si m, si x], LB false] (LU (N.ze m x false)) (Tr.ret (LV.tup [au (N.ze m x false), ai 0]))) (Tr.call 75 [] (LV.n [1]) (Tr.call 72
    [LV.agg [si m, si x], LB (decide (s1 < 0)), LV.n l, LV.n [1], LI e] (LU (N.nr m x (decide (s1 < 0)) l [1] e)) (Tr.ret (LV.tup [au (N.nr m x (decide (s1 < 0)) l [1] e), ai
    0]))))))))).both (Tr.call 82 [LV.agg [si kb, sb nb, si eb, su mb]] (LV.agg [si (sI nb), SV.n (N.N mb), si eb]) (Tr.call 83 [LV.agg [si (sI na), SV.n (N.N ma), si ea], LV.agg
    [si (sI nb), SV.n (N.N mb), si eb]] (LV.agg [si s1, SV.n l, si e]) (Tr.call 84 [LV.n l] (LI (N.B l)) (br (N.B l == 0) (Tr.call 43 [LV.agg [si m, si x], LB false] (LU (N.ze m x
    false)) (Tr.ret (LV.tup [au (N.ze m x false), ai 0]))) (Tr.call 75 [] (LV.n [1]) (Tr.call 72 [LV.agg [si m, si x], LB (decide (s1 < 0)), LV.n l, LV.n [1], LI e] (LU (N.nr m x
    (decide (s1 < 0)) l [1] e)) (Tr.ret (LV.tup [au (N.nr m x (decide (s1 < 0)) l [1] e), ai 0])))))))))).both (Tr.call 82 [LV.agg [si ka, sb na, si ea, su ma]] (LV.agg [si (sI
    na), SV.n (N.N ma), si ea]) (Tr.call 82 [LV.agg [si kb, sb nb, si eb, su mb]] (LV.agg [si (sI nb), SV.n (N.N mb), si eb]) (Tr.call 83 [LV.agg [si (sI na), SV.n (N.N ma), si
    ea], LV.agg [si (sI nb), SV.n (N.N mb), si eb]] (LV.agg [si s1, SV.n l, si e]) (Tr.call 84 [LV.n l] (LI (N.B l)) (br (N.B l == 0) (Tr.call 43 [LV.agg [si m, si x], LB false]
    (LU (N.ze m x false)) (Tr.ret (LV.tup [au (N.ze m x false), ai 0]))) (Tr.call 75 [] (LV.n [1]) (Tr.call 72 [LV.agg [si m, si x], LB (decide (s1 < 0)), LV.n l, LV.n [1], LI e]
    (LU (N.nr m x (decide (s1 < 0)) l [1] e)) (Tr.ret (LV.tup [au (N.nr m x (decide (s1 < 0)) l [1] e), ai 0]))))))))))) ((Tr.call 82 [LV.agg [si ka, sb na, si ea, su ma]] (LV.agg
    [si (sI na), SV.n (N.N ma), si ea]) ((Tr.call 82 [LV.agg [si kb, sb nb, si eb, su mb]] (LV.agg [si (sI nb), SV.n (N.N mb), si eb]) ((Tr.call 83 [LV.agg [si (sI na), SV.n (N.N
    ma), si ea], LV.agg [si (sI nb), SV.n (N.N mb), si eb]] (LV.agg [si s1, SV.n l, si e]) (Tr.call 84 [LV.n l] (LI (N.B l)) (br (N.B l == 0) (Tr.call 43 [LV.agg [si m, si x], LB
    false] (LU (N.ze m x false)) (Tr.ret (LV.tup [au (N.ze m x false), ai 0]))) (Tr.call 75 [] (LV.n [1]) (Tr.call 72 [LV.agg [si m, si x], LB (decide (s1 < 0)), LV.n l, LV.n [1],
    LI e] (LU (N.nr m x (decide (s1 < 0)) l [1] e)) (Tr.ret (LV.tup [au (N.nr m x (decide (s1 < 0)) l [1] e), ai 0]))))))).both (Tr.call 83 [LV.agg [si (sI na), SV.n (N.N ma), si
    ea], LV.agg [si (sI nb), SV.n (N.N mb), si eb]] (LV.agg [si s1, SV.n l, si e]) (Tr.call 84 [LV.n l] (LI (N.B l)) (br (N.B l == 0) (Tr.call 43 [LV.agg [si m, si x], LB false]
    (LU (N.ze m x false)) (Tr.ret (LV.tup [au (N.ze m x false), ai 0]))) (Tr.call 75 [] (LV.n [1]) (Tr.call 72 [LV.agg [si m, si x], LB (decide (s1 < 0)), LV.n l, LV.n [1], LI e]
    (LU (N.nr m x (decide (s1 < 0)) l [1] e)) (Tr.ret (LV.tup [au (N.nr m x (decide (s1 < 0)) l [1] e), ai 0]))))))))).both (Tr.call 82 [LV.agg [si kb, sb nb, si eb, su mb]]
    (LV.agg [si (sI nb), SV.n (N.N mb), si eb]) (Tr.call 83 [LV.agg [si (sI na), SV.n (N.N ma), si ea], LV.agg [si (sI nb), SV.n (N.N mb), si eb]] (LV.agg [si s1, SV.n l, si e])
    (Tr.call 84 [LV.n l] (LI (N.B l)) (br (N.B l == 0) (Tr.call 43 [LV.agg [si m, si x], LB false] (LU (N.ze m x false)) (Tr.ret (LV.tup [au (N.ze m x false), ai 0]))) (Tr.call 75
    [] (LV.n [1]) (Tr.call 72 [LV.agg [si m, si x], LB (decide (s1 < 0)), LV.n l, LV.n [1], LI e] (LU (N.nr m x (decide (s1 < 0)) l [1] e)) (Tr.ret (LV.tup [au (N.nr m x (decide
    (s1 < 0)) l [1] e), ai 0])))))))))).both (Tr.call 82 [LV.agg [si ka, sb na, si ea, su ma]] (LV.agg [si (sI na), SV.n (N.N ma), si ea]) (Tr.call 82 [LV.agg [si kb, sb nb, si eb,
    su mb]] (LV.agg [si (sI nb), SV.n (N.N mb), si eb]) (Tr.call 83 [LV.agg [si (sI na), SV.n (N.N ma), si ea], LV.agg [si (sI nb), SV.n (N.N mb), si eb]] (LV.agg [si s1, SV.n l,
    si e]) (Tr.call 84 [LV.n l] (LI (N.B l)) (br (N.B l == 0) (Tr.call 43 [LV.agg [si m, si x], LB false] (LU (N.ze m x false)) (Tr.ret (LV.tup [au (N.ze m x false), ai 0])))
    (Tr.call 75 [] (LV.n [1]) (Tr.call 72 [LV.agg [si m, si x], LB (decide (s1 < 0)), LV.n l, LV.n [1], LI e] (LU (N.nr m x (decide (s1 < 0)) l [1] e)) (Tr.ret (LV.tup [au (N.nr m
    x (decide (s1 < 0)) l [1] e), ai 0])))))))))))))))) := by kernel_rfl

theorem t35 (m x a r e : Int) : tree Try.prog 3 [(92, fun _ => some (.tup [au r, ai e]))] 35 [FM m x, LU a] =
    Tr.call 92 [LV.agg [si m, si x], LU a, LB true] (LV.tup [au r, ai e]) (Tr.ret (LV.tup [au r, ai e])) := by kernel_rfl

theorem t36 (m x a r e : Int) : tree Try.prog 3 [(92, fun _ => some (.tup [au r, ai e]))] 36 [FM m x, LU a] =
    Tr.call 92 [LV.agg [si m, si x], LU a, LB false] (LV.tup [au r, ai e]) (Tr.ret (LV.tup [au r, ai e])) := by kernel_rfl

abbrev RA (s : Int) (l : List Int) (e : Int) : AV := .agg [si s, .n l, si e]
theorem exact_cn (k e : Int) (n : Bool) {y : Nat} (hy : y < 2^64) : Cp 82 [PL k n e y] (.a (RA (sI n) (dig y) e)) := by
  obtain ⟨N, hN⟩ := nf_ex
  refine cp_of (t82 N k e n y) ?_
  rw [hN.n]
  refine WT.br (fun h => ?_) (fun h => ?_)
  · subst h; exact ⟨natof_cn hy, rfl⟩
  · subst h; exact ⟨natof_cn hy, rfl⟩
theorem bl_up {n : Nat} (h : n < 2^64) : bl n ≤ 64 := bl_le_iff.2 h
theorem bl_mul2 (n k : Nat) : bl (n * 2^k) ≤ bl n + k := by
  rw [bl_le_iff, Nat.pow_add]; exact Nat.mul_lt_mul_of_pos_right (bl_lt n) (two_pow_pos k)
theorem bl_add (n m k : Nat) (h1 : bl n ≤ k) (h2 : bl m ≤ k) : bl (n + m) ≤ k + 1 := by
  rw [bl_le_iff] at *; rw [Nat.pow_succ]; omega
def upA (a : Nat) (e1 e2 : Int) : Nat := a * 2^(e1 - min e1 e2).toNat
theorem upA_bl {a : Nat} {e1 e2 : Int} (ha : a < 2^64) (h1 : -2000 ≤ e1) (h2 : e1 ≤ 2000) (h3 : -2000 ≤ e2) (h4 : e2 ≤ 2000) : bl (upA a e1 e2) ≤ 5000 := by
  have := bl_mul2 a (e1 - min e1 e2).toNat
  have := bl_up ha
  unfold upA; omega
theorem alike_cn (s1 s2 : Int) {e1 e2 : Int} {a b : Nat} (ha : a < 2^64) (hb : b < 2^64) (h1 : -2000 ≤ e1) (h2 : e1 ≤ 2000) (h3 : -2000 ≤ e2) (h4 : e2 ≤ 2000) :
    Cp 127 [.a (RA s1 (dig a) e1), .a (RA s2 (dig b) e2)] (.tup [RA s1 (dig (upA a e1 e2)) (min e1 e2), RA s2 (dig (upA b e2 e1)) (min e1 e2)]) := by
  obtain ⟨N, hN⟩ := nf_ex
  refine cp_of (t127 N s1 s2 e1 e2 (dig a) (dig b)) ?_
  have em : (if e2 < e1 then e2 else e1) = min e1 e2 := by split <;> omega
  obtain ⟨u, hu⟩ : ∃ u : Nat, e1 - min e1 e2 = u := ⟨(e1 - min e1 e2).toNat, by omega⟩
  obtain ⟨v, hv⟩ : ∃ v : Nat, e2 - min e1 e2 = v := ⟨(e2 - min e1 e2).toNat, by omega⟩
  have := bl_up ha
  have := bl_up hb
  unfold upA
  rw [em, i64_in (n := e1 - min e1 e2) (by omega) (by omega), i64_in (n := e2 - min e1 e2) (by omega) (by omega), show min e2 e1 = min e1 e2 by omega, hu, hv, hN.U, hN.U]
  exact ⟨up_cn (by omega), up_cn (by omega), rfl⟩
def plS (s1 s2 : Int) (A B : Nat) : Int := if s1 = s2 then s1 else if B ≤ A then s1 else s2
def plA (s1 s2 : Int) (A B : Nat) : Nat := if s1 = s2 then A + B else if B ≤ A then A - B else B - A
theorem cmpZ_ge (n m : Nat) : cmpZ n m ≥ 0 ↔ m ≤ n := by
  unfold cmpZ; split
  · constructor
    · intro h; exact absurd h (by decide)
    · intro h; omega
  · split
    · constructor
      · intro; omega
      · intro; decide
    · constructor
      · intro; omega
      · intro; decide
theorem plusR_cn (s1 s2 : Int) {e1 e2 : Int} {a b : Nat} (ha : a < 2^64) (hb : b < 2^64) (h1 : -2000 ≤ e1) (h2 : e1 ≤ 2000) (h3 : -2000 ≤ e2) (h4 : e2 ≤ 2000) :
    Cp 83 [.a (RA s1 (dig a) e1), .a (RA s2 (dig b) e2)] (.a (RA (plS s1 s2 (upA a e1 e2) (upA b e2 e1)) (dig (plA s1 s2 (upA a e1 e2) (upA b e2 e1))) (min e1 e2))) := by
  obtain ⟨N, hN⟩ := nf_ex
  have hl := alike_cn s1 s2 ha hb h1 h2 h3 h4
  have b1 := upA_bl (e2 := e2) ha h1 h2 h3 h4
  have b2 := upA_bl (e2 := e1) hb h3 h4 h1 h2
  generalize upA a e1 e2 = A at *
  generalize upA b e2 e1 = B at *
  refine cp_of (t83 N s1 s2 e1 e2 (min e1 e2) (dig a) (dig b) (dig A) (dig B)) ⟨hl, ?_⟩
  rw [hN.P, hN.C, hN.D, hN.D]
  unfold plS plA
  refine WT.br (fun h => ?_) (fun h => ?_)
  · have h : s1 = s2 := by simpa using h
    rw [if_pos h, if_pos h]
    exact ⟨plus_cn (by omega) (by omega), rfl⟩
  · have h : s1 ≠ s2 := by simpa using h
    rw [if_neg h, if_neg h]
    refine ⟨cmp_nat (by omega) (by omega), brD (fun h => ?_) (fun h => ?_)⟩
    · have h := (cmpZ_ge A B).1 h
      rw [if_pos h, if_pos h]
      exact ⟨minus_cn (by omega) h, rfl⟩
    · have h : ¬ B ≤ A := fun h2 => h ((cmpZ_ge A B).2 h2)
      rw [if_neg h, if_neg h]
      exact ⟨minus_cn (by omega) (by omega), rfl⟩
theorem sideR_cn (k e y : Int) (n : Bool) : Cp 81 [PL k n e y] (LI (sdI k n)) := by
  refine cp_of (t81 k e y n) ?_
  unfold sdI
  refine WT.br (fun h => ?_) (fun h => ?_)
  · rw [if_neg (by simpa using h)]; rfl
  · rw [if_pos (by simpa using h)]
    refine WT.br (fun h => ?_) (fun h => ?_)
    · subst h; rfl
    · subst h; rfl
/-! ### Cmp -/
theorem odd4 (h : kd M X a = 4 ∨ kd M X b = 4) : oddN M X a b = true ∧ cmpN M X a b = 0 := by
  have : oddN M X a b = true := by unfold oddN oddB; rcases h with h | h <;> rw [h] <;> simp
  exact ⟨this, by unfold cmpN; rw [if_pos this]⟩
theorem notodd (h : kd M X a ≠ 4) (k : kd M X b ≠ 4) : oddN M X a b = false := by
  unfold oddN oddB
  have h1 : ((kd M X a : Int) == 4) = false := by simp; omega
  have h2 : ((kd M X b : Int) == 4) = false := by simp; omega
  simp [h1, h2]
theorem infc_pos (hX : 1 ≤ X) : 0 < infc M X := by
  have : 2^1 ≤ 2^X := pow_le hX
  rw [infc_eq]; exact Nat.mul_pos (by omega) (two_pow_pos _)
def clamp (z : Int) : Int := if (if z < 1 then z else 1) > -1 then if z < 1 then z else 1 else -1
theorem cmp_inf (hX : 1 ≤ X) (ha : a < 2^(1+X+M)) (hb : b < 2^(1+X+M)) (h : kd M X a ≠ 4) (k : kd M X b ≠ 4) (h3 : kd M X a = 3 ∨ kd M X b = 3) : cmpN M X a b = clamp (sdI (kd M X a : Nat) (ng M X a) - sdI (kd M X b : Nat) (ng M X b)) := by
  unfold cmpN
  rw [notodd h k, if_neg (by decide), plc_sg ha, plc_sg hb]
  have hp := infc_pos (M := M) hX
  have key : ∀ {c : Nat}, kd M X c ≠ 4 → (kd M X c = 3 ∧ mg M X c = infc M X ∧ sdI (kd M X c : Nat) (ng M X c) = (if ng M X c = true then -1 else 1)) ∨ (kd M X c ≠ 3 ∧ mg M X c < infc M X ∧ sdI (kd M X c : Nat) (ng M X c) = 0) := fun {c} h => by
    by_cases e : kd M X c = 3
    · refine .inl ⟨e, mg_inf e, ?_⟩
      unfold sdI; rw [if_pos (by omega)]
    · refine .inr ⟨e, mg_lt_inf hX ?_, ?_⟩
      · have := kd_cases M X c; unfold fin12; omega
      · unfold sdI; rw [if_neg (by omega)]
  have ka := key h
  have kb := key k
  clear key
  generalize mg M X a = A at *
  generalize mg M X b = B at *
  generalize infc M X = I at *
  generalize sdI (kd M X a : Nat) (ng M X a) = S at *
  generalize sdI (kd M X b : Nat) (ng M X b) = T at *
  unfold cmpI sg clamp
  rcases ka with ⟨a1, a2, a3⟩ | ⟨a1, a2, a3⟩ <;> rcases kb with ⟨b1, b2, b3⟩ | ⟨b1, b2, b3⟩
  · subst a3 b3 a2 b2
    cases ng M X a <;> cases ng M X b <;> simp <;> omega
  · subst a3 b3 a2
    cases ng M X a <;> cases ng M X b <;> simp <;> omega
  · subst a3 b3 b2
    cases ng M X a <;> cases ng M X b <;> simp <;> omega
  · omega
theorem sv_up (h : fin12 M X a) (k : fin12 M X b) : ∃ P : Nat, 0 < P ∧ sv M X a = sg (ng M X a) (upA (mn M X a) (ex M X a) (ex M X b)) * P ∧ sv M X b = sg (ng M X b) (upA (mn M X b) (ex M X b) (ex M X a)) * P := by
  have h1 := ex_bs h
  have h2 := ex_bs k
  refine ⟨2^(min (ex M X a) (ex M X b) + (bs M X : Int)).toNat, two_pow_pos _, ?_, ?_⟩
  · rw [← sg_mul]; unfold sv va upA; rw [Nat.mul_assoc, ← Nat.pow_add]; congr 3; omega
  · rw [← sg_mul]; unfold sv va upA; rw [Nat.mul_assoc, ← Nat.pow_add]; congr 3; omega
theorem cmp_fin (ha : a < 2^(1+X+M)) (hb : b < 2^(1+X+M)) (h : fin12 M X a) (k : fin12 M X b) : cmpN M X a b = cmpI (sg (ng M X a) (upA (mn M X a) (ex M X a) (ex M X b))) (sg (ng M X b) (upA (mn M X b) (ex M X b) (ex M X a))) := by
  unfold cmpN
  rw [notodd (by unfold fin12 at h; omega) (by unfold fin12 at k; omega), if_neg (by decide)]
  obtain ⟨P, hP, e1, e2⟩ := sv_up h k
  have i1 := plc_lt_iff ha hb h k
  have i2 := plc_lt_iff hb ha k h
  rw [e1, e2] at i1 i2
  have hP' : (0 : Int) < P := by omega
  have m1 : ∀ {u v : Int}, u * P < v * P ↔ u < v := fun {u v} => ⟨fun h => Int.lt_of_mul_lt_mul_right h (by omega), fun h => Int.mul_lt_mul_of_pos_right h hP'⟩
  rw [m1] at i1 i2
  unfold cmpI
  simp only [i1, i2]
theorem cmp_pl (na nb : Bool) (A B : Nat) : cmpI (sg na A) (sg nb B) = if plA (sI na) (-sI nb) A B = 0 then 0 else plS (sI na) (-sI nb) A B := by
  unfold cmpI sg plA plS sI
  rcases Nat.lt_trichotomy A B with h | h | h
  · have h1 : ¬ B ≤ A := by omega
    have h2 : ¬ B < A := by omega
    have h3 : B - A ≠ 0 := by omega
    cases na <;> cases nb <;> simp [h, h1, h2, h3] <;> omega
  · subst h
    cases na <;> cases nb <;> simp <;> omega
  · have h1 : B ≤ A := by omega
    have h2 : ¬ A < B := by omega
    have h3 : A - B ≠ 0 := by omega
    cases na <;> cases nb <;> simp [h, h1, h2, h3] <;> omega
theorem bl_eq0 (n : Nat) : (((bl n : Nat) : Int) == 0) = decide (n = 0) := by
  rw [Bool.eq_iff_iff]
  simp only [beq_iff_eq, decide_eq_true_eq]
  constructor
  · intro h
    have : bl n ≤ 0 := by omega
    rw [bl_le_iff] at this; omega
  · intro h; subst h; rfl
theorem cmpR_cn (hf : Okf M X) (ha : a < 2^(1+X+M)) (hb : b < 2^(1+X+M)) : Cp 26 [FM M X, LU a, LU b] (.tup [ai (cmpN M X a b), ab (!oddN M X a b), ai 0]) := by
  obtain ⟨N, hN⟩ := nf_ex
  have hX := hf.x1
  obtain ⟨a1, a2⟩ := ex_bounds hf.ok a
  obtain ⟨b1, b2⟩ := ex_bounds hf.ok b
  have hma := mn_lt53 (a := a) hf.ok
  have hmb := mn_lt53 (a := b) hf.ok
  have ub := bl_add (upA (mn M X a) (ex M X a) (ex M X b)) (upA (mn M X b) (ex M X b) (ex M X a)) 5000 (upA_bl (by omega) (by omega) (by omega) (by omega) (by omega)) (upA_bl (by omega) (by omega) (by omega) (by omega) (by omega))
  have hpl : ∀ s t : Int, plA s t (upA (mn M X a) (ex M X a) (ex M X b)) (upA (mn M X b) (ex M X b) (ex M X a)) ≤ upA (mn M X a) (ex M X a) (ex M X b) + upA (mn M X b) (ex M X b) (ex M X a) := fun s t => by
    unfold plA; split
    · omega
    · split <;> omega
  have hbits := fun s t => bits_cn (n := plA s t (upA (mn M X a) (ex M X a) (ex M X b)) (upA (mn M X b) (ex M X b) (ex M X a))) (Nat.le_trans (bl_mono (hpl s t)) (by omega))
  have hplus := plusR_cn (sI (ng M X a)) (-sI (ng M X b)) (e1 := ex M X a) (e2 := ex M X b) (a := mn M X a) (b := mn M X b) (by omega) (by omega) (by omega) (by omega) (by omega) (by omega)
  have s4 : kd M X a = 4 ∨ kd M X b = 4 → oddN M X a b = true ∧ cmpN M X a b = 0 := odd4
  have s3 : kd M X a ≠ 4 → kd M X b ≠ 4 → kd M X a = 3 ∨ kd M X b = 3 → oddN M X a b = false ∧ cmpN M X a b = clamp (sdI (kd M X a : Nat) (ng M X a) - sdI (kd M X b : Nat) (ng M X b)) := fun h k l => ⟨notodd h k, cmp_inf (by omega) ha hb h k l⟩
  have s2 : kd M X a ≠ 4 → kd M X b ≠ 4 → kd M X a ≠ 3 → kd M X b ≠ 3 → oddN M X a b = false ∧ cmpN M X a b = _ := fun h k l r => ⟨notodd h k, by
    have ca := kd_cases M X a
    have cb := kd_cases M X b
    rw [cmp_fin ha hb (by unfold fin12; omega) (by unfold fin12; omega), cmp_pl]⟩
  refine cp_of (t26 N M X a b (kd M X a : Nat) (kd M X b : Nat) (ex M X a) (ex M X b) (mn M X a) (mn M X b) (ng M X a) (ng M X b) 0 (plS (sI (ng M X a)) (-sI (ng M X b)) (upA (mn M X a) (ex M X a) (ex M X b)) (upA (mn M X b) (ex M X b) (ex M X a))) (min (ex M X a) (ex M X b)) (dig (plA (sI (ng M X a)) (-sI (ng M X b)) (upA (mn M X a) (ex M X a) (ex M X b)) (upA (mn M X b) (ex M X b) (ex M X a))))) ⟨twoR_cn hf ha hb, WT.br (fun h => absurd h (by decide)) (fun _ => ?_)⟩
  rw [hN.n, hN.n, hN.B, bl_eq0]
  have ew : IntKind.i64.wrap (0 - sI (ng M X b)) = -sI (ng M X b) := by cases ng M X b <;> rfl
  rw [ew]
  have cs : IntKind.i64.wrap (sdI (kd M X a : Nat) (ng M X a) - sdI (kd M X b : Nat) (ng M X b)) = sdI (kd M X a : Nat) (ng M X a) - sdI (kd M X b : Nat) (ng M X b) := by
    have : ∀ (k : Int) (n : Bool), -1 ≤ sdI k n ∧ sdI k n ≤ 1 := fun k n => by
      unfold sdI; split
      · cases n <;> simp
      · omega
    have h1 := this (kd M X a : Nat) (ng M X a)
    have h2 := this (kd M X b : Nat) (ng M X b)
    exact i64_in (by omega) (by omega)
  have x1 := exact_cn (kd M X a : Nat) (ex M X a) (ng M X a) (y := mn M X a) (by omega)
  have x2 := exact_cn (kd M X b : Nat) (ex M X b) (ng M X b) (y := mn M X b) (by omega)
  have leaf : ∀ {z : Int} {o : Bool}, oddN M X a b = !o → cmpN M X a b = z → Wt (.tup [ai (cmpN M X a b), ab (!oddN M X a b), ai 0]) (.ret (.tup [ai z, ab o, ai 0])) := fun {z o} h1 h2 => by
    rw [h1, h2, Bool.not_not]; rfl
  refine WT.br (fun h => ?_) (fun h4 => WT.br (fun h => ?_) (fun h5 => ?_))
  · have h : kd M X a = 4 := by have : (kd M X a : Int) = 4 := by simpa using h
                                omega
    exact leaf (s4 (.inl h)).1 (s4 (.inl h)).2
  · have h : kd M X b = 4 := by have : (kd M X b : Int) = 4 := by simpa using h
                                omega
    exact leaf (s4 (.inr h)).1 (s4 (.inr h)).2
  have h4 : kd M X a ≠ 4 := by
    intro e; rw [e] at h4; exact absurd h4 (by decide)
  have h5 : kd M X b ≠ 4 := by
    intro e; rw [e] at h5; exact absurd h5 (by decide)
  refine ⟨sideR_cn _ _ _ _, sideR_cn _ _ _ _, ?_⟩
  rw [cs]
  have sd3 : ∀ (k : Nat) (n : Bool), (sdI (k : Int) n != 0) = decide (k = 3) := fun k n => by
    unfold sdI
    by_cases e : k = 3
    · subst e; cases n <;> rfl
    · rw [if_neg (by omega), decide_eq_false e]; rfl
  rw [sd3, sd3]
  refine brD (fun h => ?_) (fun h6 => brD (fun h => ?_) (fun h7 => ?_))
  · exact leaf (s3 h4 h5 (.inl h)).1 (s3 h4 h5 (.inl h)).2
  · exact leaf (s3 h4 h5 (.inr h)).1 (s3 h4 h5 (.inr h)).2
  have s2 := s2 h4 h5 h6 h7
  have tail : Wt (.tup [ai (cmpN M X a b), ab (!oddN M X a b), ai 0]) (br (decide (plA (sI (ng M X a)) (-sI (ng M X b)) (upA (mn M X a) (ex M X a) (ex M X b)) (upA (mn M X b) (ex M X b) (ex M X a)) = 0)) (Tr.ret (LV.tup [ai 0, ab true, ai 0])) (Tr.ret (LV.tup [ai (plS (sI (ng M X a)) (-sI (ng M X b)) (upA (mn M X a) (ex M X a) (ex M X b)) (upA (mn M X b) (ex M X b) (ex M X a))), ab true, ai 0]))) := by
    refine brD (fun h => ?_) (fun h => ?_)
    · exact leaf s2.1 (by rw [s2.2, if_pos h])
    · exact leaf s2.1 (by rw [s2.2, if_neg h])
  exact ⟨x2, ⟨x1, ⟨hplus, hbits _ _, tail⟩, hplus, hbits _ _, tail⟩, x1, hplus, hbits _ _, tail⟩
theorem t26b (m x a b : Int) : tree Try.prog 3 [(70, fun _ => some (.tup [PA 0 false 0 0, PA 0 false 0 0, ai 1]))] 26 [FM m x, LU a, LU b] =
    .call 70 [FM m x, LU a, LU b] (.tup [PA 0 false 0 0, PA 0 false 0 0, ai 1]) (.ret (.tup [ai 0, ab false, ai 1])) := by kernel_rfl
theorem cmpR_bad {m x : Int} (ha : a < 2^64) (hb : b < 2^64) (h : Bad m x a ∨ Bad m x b) : Cp 26 [FM m x, LU a, LU b] (.tup [ai 0, ab false, ai 1]) :=
  cp_of (t26b m x a b) ⟨twoRbad_cn ha hb h, rfl⟩
end Go.Proofs.Ytpliondhiahhnaa.K
