/- grottoref02: numbers by digits; contracts. -/
import Derived.Test.YtpliondhiahhnaaC5
import Derived.Test.YtpliondhiahhnaaM8
set_option linter.unusedVariables false
namespace Go.Proofs.Ytpliondhiahhnaa.K
open Sx Fl Go Go.RowKit
set_option maxRecDepth 100000
abbrev jT : (Nat → Int) → Prop := fun _ => True
abbrev m0 : (Nat → Int) → Nat := fun _ => 0
def lsTrim (l : List Int) : LS := ⟨[3, 0], fun x => [LI (x 0), .n l], fun x => ∃ n : Nat, x 0 = n ∧ n ≤ l.length ∧ Fl.vl (l.drop n) = 0, fun x => (x 0).toNat, fun _ => none, false, fun _ => []⟩
def lsNatOf (n : Nat) (F : (Nat → Int) → List Int) : LS := ⟨[3, 0], fun x => [LV.a (AV.s SV.ow), LU (x 0)], fun x => ∃ j : Nat, x 1 = j ∧ x 0 = (n / 65536^j : Nat) ∧ Fl.lowD n j ++ Fl.dig (n / 65536^j) = Fl.dig n, fun x => (x 0).toNat, fun x => some (F x), true, fun _ => []⟩
def lsBits (n : Nat) : LS := ⟨[4, 3], fun x => [LI (x 0), LI (x 1)], fun x => ∃ s : Nat, x 0 = s ∧ s < 65536 ∧ 0 ≤ x 1 ∧ x 1 + Fl.bl s = Fl.bl n, fun x => (x 0).toNat, fun _ => none, false, fun _ => []⟩
def lsUp1 (l : List Int) (k : Nat) (o : List Int) : LS := ⟨[7, 6, 5, 1, 0], fun x => [LI (x 0), LI (x 1), LV.a (AV.s SV.ow), LI k, .n l], fun x => ∃ i : Nat, x 0 = i ∧ i ≤ k % 16 ∧ x 1 = (2^i : Nat), fun x => k % 16 - (x 0).toNat, fun _ => some o, true, fun _ => []⟩
def lsUp2 (l : List Int) (k P : Nat) (F : (Nat → Int) → List Int) : LS := ⟨[9, 8, 5, 1, 0, 6], fun x => [LI (x 0), LI (x 1), LV.a (AV.s SV.ow), LI k, .n l, LI P], fun x => ∃ i : Nat, x 0 = i ∧ i ≤ l.length ∧ x 1 = (Fl.vl (l.take i) * P / 65536^i : Nat), fun x => l.length - (x 0).toNat, fun x => some (F x), true, fun _ => []⟩
def lsCmp (a b : List Int) : LS := ⟨[5, 0, 1], fun x => [LI (x 0), .n a, .n b], fun x => ∃ j : Nat, x 0 = (j : Int) - 1 ∧ j ≤ a.length ∧ Fl.vl (a.drop j) = Fl.vl (b.drop j), fun x => (x 0 + 1).toNat, fun _ => none, false, fun _ => []⟩
def lsPlus (a b : List Int) (F : (Nat → Int) → List Int) : LS := ⟨[7, 6, 5, 0, 1], fun x => [LI (x 0), LI (x 1), LV.a (AV.s SV.ow), .n a, .n b], fun x => ∃ i : Nat, x 0 = i ∧ i ≤ max a.length b.length ∧ x 1 = ((Fl.vl (a.take i) + Fl.vl (b.take i)) / 65536^i : Nat), fun x => max a.length b.length - (x 0).toNat, fun x => some (F x), true, fun _ => []⟩
def lsMinus (a b : List Int) (F : (Nat → Int) → List Int) : LS := ⟨[7, 6, 5, 0, 1], fun x => [LI (x 0), LI (x 1), LV.a (AV.s SV.ow), .n a, .n b], fun x => ∃ i : Nat, x 0 = i ∧ i ≤ a.length ∧ x 1 = (Fl.sbB a b i).2, fun x => a.length - (x 0).toNat, fun x => some (F x), true, fun _ => []⟩
def lsSmall (a : List Int) : LS := ⟨[3, 4, 0], fun x => [LU (x 0), LI (x 1), .n a], fun x => ∃ j : Nat, x 1 = (j : Int) - 1 ∧ j ≤ a.length ∧ x 0 = Fl.vl (a.drop j), fun x => (x 1 + 1).toNat, fun _ => none, false, fun _ => []⟩
def lsIn (a b : List Int) (G : (Nat → Int) → List Int) (L : Nat) (i : Int) : LS := ⟨[8, 7, 5, 6, 0, 1], fun x => [LI (x 0), LI (x 1), LV.a (AV.s SV.ow), LI i, .n a, .n b],
  fun x => ∃ k c T : Nat, x 0 = k ∧ x 1 = c ∧ x 2 = T ∧ c ≤ 65535 ∧ k ≤ b.length + 1 ∧ T < 65536^L ∧ T + c * 65536^(i.toNat + k) = Fl.vl (a.take i.toNat) * Fl.vl b + 65536^i.toNat * ((a.getD i.toNat 0).toNat * Fl.vl (b.take k)),
  fun x => b.length + 1 - (x 0).toNat, fun x => some (G x), true, fun _ => []⟩
def lsTimes (a b : List Int) (F G : (Nat → Int) → List Int) (L : Nat) : LS := ⟨[6, 5, 0, 1], fun x => [LI (x 0), LV.a (AV.s SV.ow), .n a, .n b], fun x => ∃ i : Nat, x 0 = i ∧ i ≤ a.length, fun x => a.length - (x 0).toNat, fun x => some (F x), true, fun x => [lsIn a b G L (x 0)]⟩
def dg (l : List Int) : List Int := l
theorem t73 (a b r : List Int) (F G : (Nat → Int) → List Int) (L : Nat) : treeL Try.prog 3 [(123, fun _ => some (.n r))] [lsTimes a b F G L] 73 [.n a, .n b] =
    Tr.need (IntKind.i64.wrap (IntKind.i64.wrap (((a.length : Nat) : Int) + ((b.length : Nat) : Int)) + 1) = IntKind.i64.wrap (IntKind.i64.wrap (((a.length : Nat) : Int) + ((b.length :
    Nat) : Int)) + 1) ∧ 0 ≤ IntKind.i64.wrap (IntKind.i64.wrap (((a.length : Nat) : Int) + ((b.length : Nat) : Int)) + 1) ∧ IntKind.i64.wrap (IntKind.i64.wrap (((a.length : Nat) :
    Int) + ((b.length : Nat) : Int)) + 1) ≤ 1099511627776) (Tr.loop (lsTimes a b F G L) [LI 0, LV.a (AV.s SV.ow), LV.n a, LV.n b] (some (List.replicate (IntKind.i64.wrap
    (IntKind.i64.wrap (((a.length : Nat) : Int) + ((b.length : Nat) : Int)) + 1)).toNat 0)) fun (x : Nat → Int) (rest : List (Nat × LV)) => br (decide (x 0 < ((a.length : Nat) :
    Int))) (Tr.loop (lsIn a b G L (x 0)) [LI 0, LI 0, LV.a (AV.s SV.ow), LI (x 0), LV.n a, LV.n b] (some (F x)) fun (x_1 : Nat → Int) (rest : List (Nat × LV)) => br (decide (x_1 0
    < ((b.length : Nat) : Int))) (br (decide (0 ≤ IntKind.i64.wrap (x 0 + x_1 0))) (br (decide (IntKind.i64.wrap (x 0 + x_1 0) < (((G x_1).length : Nat) : Int))) (br (decide (x_1 0
    < ((b.length : Nat) : Int))) (br (decide (0 ≤ x 0)) (br (decide (x 0 < ((a.length : Nat) : Int))) (br (decide (0 ≤ x_1 0)) (br (decide (x_1 0 < ((b.length : Nat) : Int))) (br
    (decide (0 ≤ IntKind.i64.wrap (x 0 + x_1 0))) (br (decide (IntKind.i64.wrap (x 0 + x_1 0) < (((G x_1).length : Nat) : Int))) (Tr.again (lsIn a b G L (x 0)) [LI
    (IntKind.i64.wrap (x_1 0 + 1)), LI (IntKind.i64.wrap ((IntKind.i64.wrap (IntKind.i64.wrap ((G x_1).getD (IntKind.i64.wrap (x 0 + x_1 0)).toNat 0 + x_1 1) + IntKind.i64.wrap
    (a.getD (x 0).toNat 0 * b.getD (x_1 0).toNat 0))).tdiv 65536)), LV.a (AV.s SV.ow), LI (x 0), LV.n a, LV.n b] (some ((G x_1).set (IntKind.i64.wrap (x 0 + x_1 0)).toNat
    ((IntKind.i64.wrap (IntKind.i64.wrap ((G x_1).getD (IntKind.i64.wrap (x 0 + x_1 0)).toNat 0 + x_1 1) + IntKind.i64.wrap (a.getD (x 0).toNat 0 * b.getD (x_1 0).toNat 0))).tmod
    65536))) x_1 [] [] 67 67) Tr.bad) Tr.bad) Tr.bad) Tr.bad) Tr.bad) Tr.bad) (br (decide (0 ≤ IntKind.i64.wrap (x 0 + x_1 0))) (br (decide (IntKind.i64.wrap (x 0 + x_1 0) < (((G
    x_1).length : Nat) : Int))) (Tr.again (lsIn a b G L (x 0)) [LI (IntKind.i64.wrap (x_1 0 + 1)), LI (IntKind.i64.wrap ((IntKind.i64.wrap ((G x_1).getD (IntKind.i64.wrap (x 0 +
    x_1 0)).toNat 0 + x_1 1)).tdiv 65536)), LV.a (AV.s SV.ow), LI (x 0), LV.n a, LV.n b] (some ((G x_1).set (IntKind.i64.wrap (x 0 + x_1 0)).toNat ((IntKind.i64.wrap ((G x_1).getD
    (IntKind.i64.wrap (x 0 + x_1 0)).toNat 0 + x_1 1)).tmod 65536))) x_1 [] [] 67 67) Tr.bad) Tr.bad)) Tr.bad) Tr.bad) (br (decide (x_1 1 > 0)) (br (decide (0 ≤ IntKind.i64.wrap (x
    0 + x_1 0))) (br (decide (IntKind.i64.wrap (x 0 + x_1 0) < (((G x_1).length : Nat) : Int))) (br (decide (x_1 0 < ((b.length : Nat) : Int))) (br (decide (0 ≤ x 0)) (br (decide
    (x 0 < ((a.length : Nat) : Int))) (br (decide (0 ≤ x_1 0)) (br (decide (x_1 0 < ((b.length : Nat) : Int))) (br (decide (0 ≤ IntKind.i64.wrap (x 0 + x_1 0))) (br (decide
    (IntKind.i64.wrap (x 0 + x_1 0) < (((G x_1).length : Nat) : Int))) (Tr.again (lsIn a b G L (x 0)) [LI (IntKind.i64.wrap (x_1 0 + 1)), LI (IntKind.i64.wrap ((IntKind.i64.wrap
    (IntKind.i64.wrap ((G x_1).getD (IntKind.i64.wrap (x 0 + x_1 0)).toNat 0 + x_1 1) + IntKind.i64.wrap (a.getD (x 0).toNat 0 * b.getD (x_1 0).toNat 0))).tdiv 65536)), LV.a (AV.s
    SV.ow), LI (x 0), LV.n a, LV.n b] (some ((G x_1).set (IntKind.i64.wrap (x 0 + x_1 0)).toNat ((IntKind.i64.wrap (IntKind.i64.wrap ((G x_1).getD (IntKind.i64.wrap (x 0 + x_1
    0)).toNat 0 + x_1 1) + IntKind.i64.wrap (a.getD (x 0).toNat 0 * b.getD (x_1 0).toNat 0))).tmod 65536))) x_1 [] [] 67 67) Tr.bad) Tr.bad) Tr.bad) Tr.bad) Tr.bad) Tr.bad) (br
    (decide (0 ≤ IntKind.i64.wrap (x 0 + x_1 0))) (br (decide (IntKind.i64.wrap (x 0 + x_1 0) < (((G x_1).length : Nat) : Int))) (Tr.again (lsIn a b G L (x 0)) [LI
    (IntKind.i64.wrap (x_1 0 + 1)), LI (IntKind.i64.wrap ((IntKind.i64.wrap ((G x_1).getD (IntKind.i64.wrap (x 0 + x_1 0)).toNat 0 + x_1 1)).tdiv 65536)), LV.a (AV.s SV.ow), LI (x
    0), LV.n a, LV.n b] (some ((G x_1).set (IntKind.i64.wrap (x 0 + x_1 0)).toNat ((IntKind.i64.wrap ((G x_1).getD (IntKind.i64.wrap (x 0 + x_1 0)).toNat 0 + x_1 1)).tmod 65536)))
    x_1 [] [] 67 67) Tr.bad) Tr.bad)) Tr.bad) Tr.bad) (Tr.again (lsTimes a b F G L) [LI (IntKind.i64.wrap (x 0 + 1)), LV.a (AV.s SV.ow), LV.n a, LV.n b] (some (G x_1)) x [] [] 67
    67))) (Tr.call 123 [LV.n (F x)] (LV.n r) (Tr.ret (LV.n r)))) := by kernel_rfl

theorem t123 (l : List Int) : treeL Try.prog 3 [] [lsTrim l] 123 [.n l] =
    Tr.loop (lsTrim l) [LI ((l.length : Nat) : Int), LV.n l] none fun (x : Nat → Int) (rest : List (Nat × LV)) => br (decide (x 0 > 0)) (br (decide (0 ≤ IntKind.i64.wrap (x 0 - 1)))
    (br (decide (IntKind.i64.wrap (x 0 - 1) < ((l.length : Nat) : Int))) (br (l.getD (IntKind.i64.wrap (x 0 - 1)).toNat 0 == 0) (Tr.again (lsTrim l) [LI (IntKind.i64.wrap (x 0 -
    1)), LV.n l] none x [] [] 21 21) (br (decide (0 ≤ x 0)) (br (decide (x 0 ≤ ((l.length : Nat) : Int))) (Tr.ret (LV.n (List.take (x 0).toNat l))) Tr.bad) Tr.bad)) Tr.bad) Tr.bad)
    (br (decide (0 ≤ x 0)) (br (decide (x 0 ≤ ((l.length : Nat) : Int))) (Tr.ret (LV.n (List.take (x 0).toNat l))) Tr.bad) Tr.bad) := by kernel_rfl

theorem t74 (n : Nat) (F : (Nat → Int) → List Int) : treeL Try.prog 3 [] [lsNatOf n F] 74 [LU n] =
    Tr.loop (lsNatOf n F) [LV.a (AV.s SV.ow), LU (n : Int)] (some []) fun (x : Nat → Int) (rest : List (Nat × LV)) => br (decide (x 0 > 0)) (Tr.need ((F x).length + 1 ≤ 1099511627776)
    (Tr.again (lsNatOf n F) [LV.a (AV.s SV.ow), LU (IntKind.u64.wrap ((x 0).tdiv 65536))] (some (F x ++ [IntKind.i64.wrap ((x 0).tmod 65536)])) x [] [] 15 15)) (Tr.ret (LV.n (F
    x))) := by kernel_rfl

theorem t84 (l a : List Int) (n : Nat) : treeL Try.prog 3 [(123, fun _ => some (.n a))] [lsBits n] 84 [.n l] =
    Tr.call 123 [LV.n l] (LV.n a) (br (((a.length : Nat) : Int) == 0) (Tr.ret (LI 0)) (br (decide (0 ≤ IntKind.i64.wrap (((a.length : Nat) : Int) - 1))) (br (decide (IntKind.i64.wrap
    (((a.length : Nat) : Int) - 1) < ((a.length : Nat) : Int))) (Tr.loop (lsBits n) [LI (a.getD (IntKind.i64.wrap (((a.length : Nat) : Int) - 1)).toNat 0), LI (IntKind.i64.wrap (16
    * IntKind.i64.wrap (((a.length : Nat) : Int) - 1)))] none fun (x : Nat → Int) (rest : List (Nat × LV)) => br (decide (x 0 > 0)) (Tr.again (lsBits n) [LI (IntKind.i64.wrap ((x
    0).tdiv 2)), LI (IntKind.i64.wrap (x 1 + 1))] none x [] [] 27 27) (Tr.ret (LI (x 1)))) Tr.bad) Tr.bad)) := by kernel_rfl

theorem t91 (l o r : List Int) (k P : Nat) (F : (Nat → Int) → List Int) : treeL Try.prog 3 [(123, fun _ => some (.n r))] [lsUp1 l k o, lsUp2 l k P F] 91 [.n l, LI k] =
    Tr.need (IntKind.i64.wrap (((k : Int)).tdiv 16) = IntKind.i64.wrap (((k : Int)).tdiv 16) ∧ 0 ≤ IntKind.i64.wrap (((k : Int)).tdiv 16) ∧ IntKind.i64.wrap (((k : Int)).tdiv 16) ≤
    1099511627776) (Tr.loop (lsUp1 l k o) [LI 0, LI 1, LV.a (AV.s SV.ow), LI (k : Int), LV.n l] (some (List.replicate (IntKind.i64.wrap (((k : Int)).tdiv 16)).toNat 0)) fun (x :
    Nat → Int) (rest : List (Nat × LV)) => br (decide (x 0 < ((k : Int)).tmod 16)) (Tr.again (lsUp1 l k o) [LI (IntKind.i64.wrap (x 0 + 1)), LI (IntKind.i64.wrap (2 * x 1)), LV.a
    (AV.s SV.ow), LI (k : Int), LV.n l] (some o) x [] [] 48 48) (Tr.loop (lsUp2 l k P F) [LI 0, LI 0, LV.a (AV.s SV.ow), LI (k : Int), LV.n l, LI (x 1)] (some o) fun (x : Nat →
    Int) (rest : List (Nat × LV)) => br (decide (x 0 < ((l.length : Nat) : Int))) (br (decide (0 ≤ x 0)) (br (decide (x 0 < ((l.length : Nat) : Int))) (Tr.need ((F x).length + 1 ≤
    1099511627776) (Tr.again (lsUp2 l k P F) [LI (IntKind.i64.wrap (x 0 + 1)), LI (IntKind.i64.wrap ((IntKind.i64.wrap (IntKind.i64.wrap (l.getD (x 0).toNat 0 * (P : Int)) + x
    1)).tdiv 65536)), LV.a (AV.s SV.ow), LI (k : Int), LV.n l, LI (P : Int)] (some (F x ++ [(IntKind.i64.wrap (IntKind.i64.wrap (l.getD (x 0).toNat 0 * (P : Int)) + x 1)).tmod
    65536])) x [] [] 48 48)) Tr.bad) Tr.bad) (Tr.need ((F x).length + 1 ≤ 1099511627776) (Tr.call 123 [LV.n (F x ++ [x 1])] (LV.n r) (Tr.ret (LV.n r)))))) := by kernel_rfl

theorem t97 (l m a b : List Int) : treeL Try.prog 3 [(123, fun x => match x with | [.a (.s (.n y))] => some (.n (dg y)) | _ => none)] [lsCmp (dg l) (dg m)] 97 [.n l, .n m] =
    Tr.call 123 [LV.n l] (LV.n l) (Tr.call 123 [LV.n m] (LV.n m) (br (((l.length : Nat) : Int) != ((m.length : Nat) : Int)) (br (decide (((l.length : Nat) :
    Int) < ((m.length : Nat) : Int))) (Tr.ret (LI (-1))) (Tr.ret (LI 1))) (Tr.loop (lsCmp l m) [LI (IntKind.i64.wrap (((l.length : Nat) : Int) - 1)), LV.n l, LV.n m] none fun (x : Nat → Int) (rest : List (Nat × LV)) => br (decide (x 0 ≥ 0)) (br (decide (0 ≤ x 0)) (br (decide (x 0 < ((l.length : Nat) : Int))) (br
    (decide (0 ≤ x 0)) (br (decide (x 0 < ((m.length : Nat) : Int))) (br (decide (l.getD (x 0).toNat 0 < m.getD (x 0).toNat 0)) (Tr.ret (LI (-1))) (br (decide (0 ≤ x
    0)) (br (decide (x 0 < ((l.length : Nat) : Int))) (br (decide (0 ≤ x 0)) (br (decide (x 0 < ((m.length : Nat) : Int))) (br (decide (l.getD (x 0).toNat 0 > m.getD (x 0).toNat 0)) (Tr.ret (LI 1)) (Tr.again (lsCmp l m) [LI (IntKind.i64.wrap (x 0 - 1)), LV.n l, LV.n m] none x [] [] 45 45)) Tr.bad) Tr.bad) Tr.bad)
    Tr.bad)) Tr.bad) Tr.bad) Tr.bad) Tr.bad) (Tr.ret (LI 0))))) := by kernel_rfl

theorem t90 (a b r : List Int) (F : (Nat → Int) → List Int) : treeL Try.prog 3 [(123, fun _ => some (.n r))] [lsPlus a b F] 90 [.n a, .n b] =
    Tr.loop (lsPlus a b F) [LI 0, LI 0, LV.a (AV.s SV.ow), LV.n a, LV.n b] (some []) fun (x : Nat → Int) (rest : List (Nat × LV)) => br (decide (x 0 < ((a.length : Nat) : Int))) (br
    (decide (x 0 < ((a.length : Nat) : Int))) (br (decide (0 ≤ x 0)) (br (decide (x 0 < ((a.length : Nat) : Int))) (br (decide (x 0 < ((b.length : Nat) : Int))) (br (decide (0 ≤ x
    0)) (br (decide (x 0 < ((b.length : Nat) : Int))) (Tr.need ((F x).length + 1 ≤ 1099511627776) (Tr.again (lsPlus a b F) [LI (IntKind.i64.wrap (x 0 + 1)), LI (IntKind.i64.wrap
    ((IntKind.i64.wrap (IntKind.i64.wrap (x 1 + a.getD (x 0).toNat 0) + b.getD (x 0).toNat 0)).tdiv 65536)), LV.a (AV.s SV.ow), LV.n a, LV.n b] (some (F x ++ [(IntKind.i64.wrap
    (IntKind.i64.wrap (x 1 + a.getD (x 0).toNat 0) + b.getD (x 0).toNat 0)).tmod 65536])) x [] [] 54 54)) Tr.bad) Tr.bad) (Tr.need ((F x).length + 1 ≤ 1099511627776) (Tr.again
    (lsPlus a b F) [LI (IntKind.i64.wrap (x 0 + 1)), LI (IntKind.i64.wrap ((IntKind.i64.wrap (x 1 + a.getD (x 0).toNat 0)).tdiv 65536)), LV.a (AV.s SV.ow), LV.n a, LV.n b] (some (F
    x ++ [(IntKind.i64.wrap (x 1 + a.getD (x 0).toNat 0)).tmod 65536])) x [] [] 54 54))) Tr.bad) Tr.bad) (br (decide (x 0 < ((b.length : Nat) : Int))) (br (decide (0 ≤ x 0)) (br
    (decide (x 0 < ((b.length : Nat) : Int))) (Tr.need ((F x).length + 1 ≤ 1099511627776) (Tr.again (lsPlus a b F) [LI (IntKind.i64.wrap (x 0 + 1)), LI (IntKind.i64.wrap
    ((IntKind.i64.wrap (x 1 + b.getD (x 0).toNat 0)).tdiv 65536)), LV.a (AV.s SV.ow), LV.n a, LV.n b] (some (F x ++ [(IntKind.i64.wrap (x 1 + b.getD (x 0).toNat 0)).tmod 65536])) x
    [] [] 54 54)) Tr.bad) Tr.bad) (Tr.need ((F x).length + 1 ≤ 1099511627776) (Tr.again (lsPlus a b F) [LI (IntKind.i64.wrap (x 0 + 1)), LI (IntKind.i64.wrap ((x 1).tdiv 65536)),
    LV.a (AV.s SV.ow), LV.n a, LV.n b] (some (F x ++ [(x 1).tmod 65536])) x [] [] 54 54)))) (br (decide (x 0 < ((b.length : Nat) : Int))) (br (decide (x 0 < ((a.length : Nat) :
    Int))) (br (decide (0 ≤ x 0)) (br (decide (x 0 < ((a.length : Nat) : Int))) (br (decide (x 0 < ((b.length : Nat) : Int))) (br (decide (0 ≤ x 0)) (br (decide (x 0 < ((b.length :
    Nat) : Int))) (Tr.need ((F x).length + 1 ≤ 1099511627776) (Tr.again (lsPlus a b F) [LI (IntKind.i64.wrap (x 0 + 1)), LI (IntKind.i64.wrap ((IntKind.i64.wrap (IntKind.i64.wrap
    (x 1 + a.getD (x 0).toNat 0) + b.getD (x 0).toNat 0)).tdiv 65536)), LV.a (AV.s SV.ow), LV.n a, LV.n b] (some (F x ++ [(IntKind.i64.wrap (IntKind.i64.wrap (x 1 + a.getD (x
    0).toNat 0) + b.getD (x 0).toNat 0)).tmod 65536])) x [] [] 54 54)) Tr.bad) Tr.bad) (Tr.need ((F x).length + 1 ≤ 1099511627776) (Tr.again (lsPlus a b F) [LI (IntKind.i64.wrap (x
    0 + 1)), LI (IntKind.i64.wrap ((IntKind.i64.wrap (x 1 + a.getD (x 0).toNat 0)).tdiv 65536)), LV.a (AV.s SV.ow), LV.n a, LV.n b] (some (F x ++ [(IntKind.i64.wrap (x 1 + a.getD
    (x 0).toNat 0)).tmod 65536])) x [] [] 54 54))) Tr.bad) Tr.bad) (br (decide (x 0 < ((b.length : Nat) : Int))) (br (decide (0 ≤ x 0)) (br (decide (x 0 < ((b.length : Nat) :
    Int))) (Tr.need ((F x).length + 1 ≤ 1099511627776) (Tr.again (lsPlus a b F) [LI (IntKind.i64.wrap (x 0 + 1)), LI (IntKind.i64.wrap ((IntKind.i64.wrap (x 1 + b.getD (x 0).toNat
    0)).tdiv 65536)), LV.a (AV.s SV.ow), LV.n a, LV.n b] (some (F x ++ [(IntKind.i64.wrap (x 1 + b.getD (x 0).toNat 0)).tmod 65536])) x [] [] 54 54)) Tr.bad) Tr.bad) (Tr.need ((F
    x).length + 1 ≤ 1099511627776) (Tr.again (lsPlus a b F) [LI (IntKind.i64.wrap (x 0 + 1)), LI (IntKind.i64.wrap ((x 1).tdiv 65536)), LV.a (AV.s SV.ow), LV.n a, LV.n b] (some (F
    x ++ [(x 1).tmod 65536])) x [] [] 54 54)))) (Tr.need ((F x).length + 1 ≤ 1099511627776) (Tr.call 123 [LV.n (F x ++ [x 1])] (LV.n r) (Tr.ret (LV.n r))))) := by kernel_rfl

theorem t128 (a b r : List Int) (F : (Nat → Int) → List Int) : treeL Try.prog 3 [(123, fun _ => some (.n r))] [lsMinus a b F] 128 [.n a, .n b] =
    Tr.loop (lsMinus a b F) [LI 0, LI 0, LV.a (AV.s SV.ow), LV.n a, LV.n b] (some []) fun (x : Nat → Int) (rest : List (Nat × LV)) => br (decide (x 0 < ((a.length : Nat) : Int))) (br
    (decide (0 ≤ x 0)) (br (decide (x 0 < ((a.length : Nat) : Int))) (br (decide (x 0 < ((b.length : Nat) : Int))) (br (decide (0 ≤ x 0)) (br (decide (x 0 < ((b.length : Nat) :
    Int))) (br (decide (IntKind.i64.wrap (IntKind.i64.wrap (a.getD (x 0).toNat 0 - x 1) - b.getD (x 0).toNat 0) < 0)) (Tr.need ((F x).length + 1 ≤ 1099511627776) (Tr.again (lsMinus
    a b F) [LI (IntKind.i64.wrap (x 0 + 1)), LI 1, LV.a (AV.s SV.ow), LV.n a, LV.n b] (some (F x ++ [IntKind.i64.wrap (IntKind.i64.wrap (IntKind.i64.wrap (a.getD (x 0).toNat 0 - x
    1) - b.getD (x 0).toNat 0) + 65536)])) x [] [] 41 41)) (Tr.need ((F x).length + 1 ≤ 1099511627776) (Tr.again (lsMinus a b F) [LI (IntKind.i64.wrap (x 0 + 1)), LI 0, LV.a (AV.s
    SV.ow), LV.n a, LV.n b] (some (F x ++ [IntKind.i64.wrap (IntKind.i64.wrap (a.getD (x 0).toNat 0 - x 1) - b.getD (x 0).toNat 0)])) x [] [] 41 41))) Tr.bad) Tr.bad) (br (decide
    (IntKind.i64.wrap (a.getD (x 0).toNat 0 - x 1) < 0)) (Tr.need ((F x).length + 1 ≤ 1099511627776) (Tr.again (lsMinus a b F) [LI (IntKind.i64.wrap (x 0 + 1)), LI 1, LV.a (AV.s
    SV.ow), LV.n a, LV.n b] (some (F x ++ [IntKind.i64.wrap (IntKind.i64.wrap (a.getD (x 0).toNat 0 - x 1) + 65536)])) x [] [] 41 41)) (Tr.need ((F x).length + 1 ≤ 1099511627776)
    (Tr.again (lsMinus a b F) [LI (IntKind.i64.wrap (x 0 + 1)), LI 0, LV.a (AV.s SV.ow), LV.n a, LV.n b] (some (F x ++ [IntKind.i64.wrap (a.getD (x 0).toNat 0 - x 1)])) x [] [] 41
    41)))) Tr.bad) Tr.bad) (Tr.call 123 [LV.n (F x)] (LV.n r) (Tr.ret (LV.n r))) := by kernel_rfl

theorem t95 (a : List Int) : treeL Try.prog 3 [] [lsSmall a] 95 [.n a] =
    Tr.loop (lsSmall a) [LU 0, LI (IntKind.i64.wrap (((a.length : Nat) : Int) - 1)), LV.n a] none fun (x : Nat → Int) (rest : List (Nat × LV)) => br (decide (x 1 ≥ 0)) (br (decide (0 ≤
    x 1)) (br (decide (x 1 < ((a.length : Nat) : Int))) (Tr.again (lsSmall a) [LU (IntKind.u64.wrap (IntKind.u64.wrap (x 0 * 65536) + IntKind.u64.wrap (a.getD (x 1).toNat 0))), LI
    (IntKind.i64.wrap (x 1 - 1)), LV.n a] none x [] [] 21 21) Tr.bad) Tr.bad) (Tr.ret (LU (x 0))) := by kernel_rfl

/-- digits of a list that is not too long -/
abbrev Sz (l : List Int) : Prop := okd l ∧ l.length ≤ 1000000
theorem dig_len {n k : Nat} (h : bl n ≤ k) : (dig n).length ≤ k / 16 + 1 := by
  refine dig_len_le (Nat.lt_of_lt_of_le (bl_lt n) ?_)
  rw [show (65536:Nat) = 2^16 from rfl, ← Nat.pow_mul]
  exact pow_le (by omega)
theorem trim_cn {l : List Int} (h : Sz l) : Cp 123 [.n l] (.n (dig (vl l))) := by
  obtain ⟨ho, hl⟩ := h
  refine cpL_of (t123 l) ⟨⟨fun _ => (l.length : Nat), rfl, ⟨l.length, rfl, Nat.le_refl _, by simp [vl]⟩, rfl⟩, ?_⟩
  rintro x rest ⟨n, hx, hn, hz⟩
  dsimp only
  rw [hx]
  have fin : (n = 0 ∨ l.getD (n-1) 0 ≠ 0) → Wt (.n (dig (vl l))) (br (decide ((0 : Int) ≤ (n : Int))) (br (decide ((n : Int) ≤ ((l.length : Nat) : Int))) (Tr.ret (LV.n (List.take ((n : Int)).toNat l))) Tr.bad) Tr.bad) := fun h => by
    refine WT.br (fun _ => WT.br (fun _ => ?_) (fun h => absurd (of_decide_eq_false h) (by omega))) (fun h => absurd (of_decide_eq_false h) (by omega))
    show LV.n (l.take n) = _
    rw [trim_eq ho hn hz h]
  refine WT.br (fun h => ?_) (fun h => ?_)
  · have h := of_decide_eq_true h
    obtain ⟨k, rfl⟩ : ∃ k, n = k + 1 := ⟨n - 1, by omega⟩
    have ek : IntKind.i64.wrap (((k + 1 : Nat) : Int) - 1) = k := by rw [i64_in (by omega) (by omega)]; omega
    rw [ek]
    refine WT.br (fun _ => WT.br (fun _ => WT.br (fun h2 => ?_) (fun h2 => fin (.inr ?_))) (fun h => absurd (of_decide_eq_false h) (by omega))) (fun h => absurd (of_decide_eq_false h) (by omega))
    · have h2 : l.getD k 0 = 0 := by simpa using h2
      refine ⟨⟨fun _ => (k : Nat), rfl, ⟨k, rfl, by omega, ?_⟩, ?_, rfl⟩, rfl, rfl⟩
      · rw [vl_drop_succ (by omega), h2, hz]; rfl
      · show ((k : Int)).toNat < (x 0).toNat
        rw [hx]; omega
    · have h2 : ((l.getD k 0) == 0) = false := h2
      rw [Nat.add_sub_cancel]; intro e; rw [e] at h2; cases h2
  · have h := of_decide_eq_false h
    exact fin (.inl (by omega))
theorem natof_cn {n : Nat} (hn : n < 2^64) : Cp 74 [LU n] (.n (dig n)) := by
  refine cpL_of (t74 n fun x => lowD n (x 1).toNat) ⟨⟨fun i => if i = 0 then n else 0, rfl, ⟨0, rfl, by show (n : Int) = _; simp, by simp [lowD]⟩, rfl⟩, ?_⟩
  rintro x rest ⟨j, h1, h0, hj⟩
  dsimp only
  rw [h0, h1, Int.toNat_natCast]
  refine WT.br (fun h => ?_) (fun h => ?_)
  · have h := of_decide_eq_true h
    have hm : n / 65536^j ≠ 0 := by intro e; rw [e] at h; exact absurd h (by decide)
    have hj4 : j < 4 := by
      rcases Nat.lt_or_ge j 4 with l | l
      · exact l
      · exfalso; apply hm
        refine Nat.div_eq_of_lt (Nat.lt_of_lt_of_le hn ?_)
        rw [show (2:Nat)^64 = 65536^4 from rfl]
        exact Nat.pow_le_pow_right (by decide) l
    have e1 : ((n / 65536^j : Nat) : Int).tmod 65536 = ((n / 65536^j % 65536 : Nat) : Int) := rfl
    have e2 : ((n / 65536^j : Nat) : Int).tdiv 65536 = ((n / 65536^(j+1) : Nat) : Int) := by rw [Nat.pow_succ, ← Nat.div_div_eq_div_mul]; rfl
    have hq : n / 65536^(j+1) < 2^64 := Nat.lt_of_le_of_lt (Nat.div_le_self _ _) hn
    rw [e1, e2, u64_nat hq, i64_in (by omega) (by omega)]
    refine ⟨by rw [lowD_len]; omega, ⟨fun i => if i = 0 then (n / 65536^(j+1) : Nat) else (j + 1 : Nat), rfl, ⟨j+1, rfl, rfl, ?_⟩, ?_, rfl⟩, rfl, rfl⟩
    · rw [← hj, lowD, List.append_assoc, dig_pos hm, Nat.pow_succ, ← Nat.div_div_eq_div_mul]; rfl
    · show ((n / 65536^(j+1) : Nat) : Int).toNat < (x 0).toNat
      rw [h0, Nat.pow_succ, ← Nat.div_div_eq_div_mul]
      have := Nat.div_lt_self (n := n / 65536^j) (k := 65536) (by omega) (by decide)
      omega
  · have h := of_decide_eq_false h
    have hm : n / 65536^j = 0 := by generalize n / 65536^j = q at h; omega
    rw [hm, dig_zero, List.append_nil] at hj
    show LV.n _ = _
    rw [hj]
theorem bl_half {t : Nat} (h : t ≠ 0) : bl t = bl (t/2) + 1 := by
  by_cases c : t / 2 = 0
  · have : t = 1 := by omega
    subst this; decide
  · exact bl_shift (k := 1) c
theorem bl_zero : bl 0 = 0 := rfl
/-- the bits of a number by its highest digit -/
theorem bl_dig {n : Nat} (h : n ≠ 0) : ∃ t : Nat, (dig n).getD ((dig n).length - 1) 0 = t ∧ bl n = 16 * ((dig n).length - 1) + bl t ∧ 0 < (dig n).length ∧ t < 65536 := by
  have hne : dig n ≠ [] := by rw [dig_pos h]; simp
  have hp : 0 < (dig n).length := List.length_pos_iff.2 hne
  have hg := okd_get (okd_dig n) ((dig n).length - 1)
  have h3 : (dig n).length - 1 < (dig n).length := by omega
  have h1 := dig_last hne
  have h2 := vl_take (dig n) ((dig n).length - 1)
  have h4 := vl_drop_succ h3
  have h5 : vl ((dig n).drop ((dig n).length - 1 + 1)) = 0 := by rw [List.drop_of_length_le (by omega)]; rfl
  have h6 := vl_lt (okd_take (okd_dig n) ((dig n).length - 1))
  have e : (dig n).getD ((dig n).length - 1) 0 = (dig n).getLast hne := by
    rw [List.getLast_eq_getElem, List.getD_eq_getElem?_getD, List.getElem?_eq_getElem h3]; rfl
  rw [vl_dig, h4, h5] at h2
  have h7 : ((dig n).take ((dig n).length - 1)).length = (dig n).length - 1 := by simp
  rw [h7] at h2 h6
  rw [← e] at h1
  obtain ⟨t, ht⟩ : ∃ t : Nat, (dig n).getD ((dig n).length - 1) 0 = t := ⟨((dig n).getD ((dig n).length - 1) 0).toNat, by omega⟩
  refine ⟨t, ht, ?_, hp, by omega⟩
  rw [ht] at h2 h1
  generalize (dig n).length - 1 = k at *
  generalize vl ((dig n).take k) = lo at *
  have e16 : 65536^k = 2^(16*k) := by rw [Nat.pow_mul]
  rw [e16] at h2 h6
  have hd : n / 2^(16*k) = t := by
    rw [h2, Nat.add_mul_div_left _ _ (two_pow_pos _), Nat.div_eq_of_lt h6]; simp
  rw [bl_shift (k := 16*k) (by rw [hd]; omega), hd]; omega
theorem bits_cn {n : Nat} (h : bl n ≤ 1000000) : Cp 84 [.n (dig n)] (LI (bl n : Nat)) := by
  have hlen := dig_len h
  refine cpL_of (t84 (dig n) (dig n) n) ⟨by have := trim_cn (l := dig n) ⟨okd_dig n, by omega⟩; rwa [vl_dig] at this, ?_⟩
  refine WT.br (fun h0 => ?_) (fun h0 => ?_)
  · have h0 : ((dig n).length : Int) = 0 := by simpa using h0
    have : n = 0 := by
      rcases Nat.eq_zero_or_pos n with c | c
      · exact c
      · have := List.length_pos_iff.2 (show dig n ≠ [] by rw [dig_pos (by omega)]; simp); omega
    subst this; rfl
  · have hn : n ≠ 0 := by intro e; subst e; rw [dig_zero] at h0; cases h0
    obtain ⟨t, ht, hb, hp, ht6⟩ := bl_dig hn
    have e1 : IntKind.i64.wrap (((dig n).length : Int) - 1) = (((dig n).length - 1 : Nat) : Int) := by rw [i64_in (by omega) (by omega)]; omega
    rw [e1, Int.toNat_natCast, ht, i64_in (n := 16 * _) (by omega) (by omega)]
    refine WT.br (fun _ => WT.br (fun _ => ?_) (fun h => absurd (of_decide_eq_false h) (by omega))) (fun h => absurd (of_decide_eq_false h) (by omega))
    refine ⟨⟨fun i => if i = 0 then t else 16 * (((dig n).length - 1 : Nat) : Int), rfl, ⟨t, rfl, ht6, ?_, ?_⟩, rfl⟩, ?_⟩
    · show 0 ≤ 16 * (((dig n).length - 1 : Nat) : Int); omega
    · show 16 * (((dig n).length - 1 : Nat) : Int) + bl t = bl n; omega
    rintro x rest ⟨s, hs, hs6, hx1, hsum⟩
    dsimp only
    rw [hs]
    have hb0 : 0 ≤ bl s := Nat.zero_le _
    refine WT.br (fun h => ?_) (fun h => ?_)
    · have h := of_decide_eq_true h
      have hh := bl_half (t := s) (by omega)
      have e2 : ((s : Int)).tdiv 2 = ((s / 2 : Nat) : Int) := rfl
      rw [e2, i64_in (by omega) (by omega), i64_in (by omega) (by omega)]
      refine ⟨⟨fun i => if i = 0 then (s / 2 : Nat) else x 1 + 1, rfl, ⟨s / 2, rfl, by omega, ?_, ?_⟩, ?_, rfl⟩, rfl, rfl⟩
      · show 0 ≤ x 1 + 1; omega
      · show x 1 + 1 + bl (s/2) = bl n; omega
      · show ((s / 2 : Nat) : Int).toNat < (x 0).toNat
        rw [hs]; omega
    · have h := of_decide_eq_false h
      have : s = 0 := by omega
      subst this
      show LI _ = LI _
      rw [← hsum, bl_zero]; simp
theorem brT {p : Prop} [Decidable p] {x y : Tr} {r : LV} (h : p) (k : Wt r x) : Wt r (br (decide p) x y) := WT.br (fun _ => k) (fun h2 => absurd h (of_decide_eq_false h2))
theorem brF {p : Prop} [Decidable p] {x y : Tr} {r : LV} (h : ¬ p) (k : Wt r y) : Wt r (br (decide p) x y) := WT.br (fun h2 => absurd (of_decide_eq_true h2) h) (fun _ => k)
theorem brD {p : Prop} [Decidable p] {x y : Tr} {r : LV} (h : p → Wt r x) (k : ¬ p → Wt r y) : Wt r (br (decide p) x y) := WT.br (fun h2 => h (of_decide_eq_true h2)) (fun h2 => k (of_decide_eq_false h2))
theorem trim_to {l : List Int} {n : Nat} (h : Sz l) (e : vl l = n) : Cp 123 [.n l] (.n (dig n)) := by subst e; exact trim_cn h
/-! ### Up -/
theorem up_cn {n K : Nat} (h : bl n + K ≤ 1000000) : Cp 91 [.n (dig n), LI K] (.n (dig (n * 2^K))) := by
  have hlen := dig_len (n := n) (k := 1000000) (by omega)
  have hk1 : ((K : Int)).tdiv 16 = ((K / 16 : Nat) : Int) := rfl
  have hk2 : ((K : Int)).tmod 16 = ((K % 16 : Nat) : Int) := rfl
  have hP : 2^(K%16) ≤ 32768 := pow_le (a := K%16) (b := 15) (by omega)
  have hP0 := two_pow_pos (K%16)
  refine cpL_of (t91 (dig n) (List.replicate (K/16) 0) (dig (n * 2^K)) K (2^(K%16)) fun x => List.replicate (K/16) 0 ++ lowD (vl ((dig n).take (x 0).toNat) * 2^(K%16)) (x 0).toNat) ?_
  rw [hk1, hk2, i64_in (n := ((K/16 : Nat) : Int)) (by omega) (by omega)]
  refine ⟨⟨rfl, by omega, by omega⟩, ⟨fun i => if i = 0 then 0 else 1, rfl, ⟨0, rfl, Nat.zero_le _, rfl⟩, rfl⟩, ?_⟩
  rintro x rest ⟨i, hi, hi2, hx1⟩
  dsimp only
  rw [hi, hx1]
  refine brD (fun h1 => ?_) (fun h1 => ?_)
  · have hp : 2^i ≤ 32768 := pow_le (a := i) (b := 15) (by omega)
    have hp2 : ((2^(i+1) : Nat) : Int) = 2 * ((2^i : Nat) : Int) := by rw [Nat.pow_succ, Nat.mul_comm, Int.natCast_mul]; rfl
    generalize 2^i = z at *
    rw [i64_in (n := (i : Int) + 1) (by omega) (by omega), i64_in (n := 2 * (z : Int)) (by omega) (by omega)]
    refine ⟨⟨fun j => if j = 0 then (i : Int) + 1 else 2 * (z : Int), rfl, ⟨i+1, rfl, by omega, hp2.symm⟩, ?_, rfl⟩, rfl, rfl⟩
    · show K % 16 - ((i : Int) + 1).toNat < K % 16 - (x 0).toNat
      rw [hi]; omega
  · have e : i = K % 16 := by omega
    subst e
    generalize hPe : 2^(K%16) = P at *
    refine ⟨⟨fun _ => 0, rfl, ⟨0, rfl, Nat.zero_le _, by show (0 : Int) = _; simp [vl]⟩, by show some (List.replicate (K/16) 0) = some (List.replicate (K/16) 0 ++ []); rw [List.append_nil]⟩, ?_⟩
    rintro y rest2 ⟨j, hj, hj2, hy1⟩
    dsimp only
    rw [hj, hy1, Int.toNat_natCast]
    have hok := okd_dig n
    have hc : vl ((dig n).take j) * P / 65536^j < P := by
      rw [Nat.div_lt_iff_lt_mul (Nat.pow_pos (by decide)), Nat.mul_comm]
      exact Nat.mul_lt_mul_of_pos_left (vl_take_lt hok j) hP0
    refine brD (fun h2 => ?_) (fun h2 => ?_)
    · refine brT (by omega) (brT (by omega) ⟨?_, ?_⟩)
      · rw [List.length_append, List.length_replicate, lowD_len]; omega
      obtain ⟨d1, d2⟩ := okd_get hok j
      obtain ⟨d, hd⟩ : ∃ d : Nat, (dig n).getD j 0 = d := ⟨((dig n).getD j 0).toNat, by omega⟩
      rw [hd] at d1 d2 ⊢
      have hdP : d * P ≤ 65535 * 32768 := Nat.mul_le_mul (by omega) hP
      obtain ⟨s1, s2⟩ := lowD_step (vl ((dig n).take j) * P) (d * P) j
      have hN : vl ((dig n).take j) * P + 65536^j * (d * P) = vl ((dig n).take (j+1)) * P := by
        rw [vl_take_step, hd, Int.toNat_natCast, Nat.add_mul, Nat.mul_assoc]
      rw [hN] at s1 s2
      rw [← Int.natCast_mul, i64_in (n := ((d * P : Nat) : Int)) (by omega) (by omega), ← Int.natCast_add, Nat.add_comm, i64_in (n := (j : Int) + 1) (by omega) (by omega)]
      generalize vl ((dig n).take j) * P / 65536^j = cc at *
      rw [i64_in (n := ((cc + d * P : Nat) : Int)) (by omega) (by omega)]
      have e1 : (((cc + d * P : Nat) : Int)).tmod 65536 = (((cc + d * P) % 65536 : Nat) : Int) := rfl
      have e2 : (((cc + d * P : Nat) : Int)).tdiv 65536 = (((cc + d * P) / 65536 : Nat) : Int) := rfl
      rw [e1, e2, ← s2, List.append_assoc, s1]
      have hq : vl ((dig n).take (j+1)) * P / 65536^(j+1) < P := by
        rw [Nat.div_lt_iff_lt_mul (Nat.pow_pos (by decide)), Nat.mul_comm]
        exact Nat.mul_lt_mul_of_pos_left (vl_take_lt hok (j+1)) hP0
      rw [i64_in (by omega) (by omega)]
      refine ⟨⟨fun q => if q = 0 then ((j + 1 : Nat) : Int) else ((vl ((dig n).take (j+1)) * P / 65536^(j+1) : Nat) : Int), rfl, ⟨j+1, rfl, by omega, rfl⟩, ?_, rfl⟩, rfl, rfl⟩
      show (dig n).length - (j + 1) < (dig n).length - (y 0).toNat
      rw [hj]; omega
    · have e : j = (dig n).length := by omega
      refine ⟨by rw [List.length_append, List.length_replicate, lowD_len]; omega, trim_to ⟨?_, ?_⟩ ?_, rfl⟩
      · exact okd_append (okd_append (okd_rep _) (lowD_ok _ _)) (okd_one (Int.natCast_nonneg _) (by generalize vl ((dig n).take j) * P / 65536^j = q at hc ⊢; omega))
      · rw [List.length_append, List.length_append, List.length_replicate, lowD_len]; simp; omega
      · rw [List.append_assoc, vl_append, vl_rep, List.length_replicate, Nat.zero_add, lowD_top, e, vl_take_all (Nat.le_refl _), vl_dig]
        rw [← hPe, show (65536 : Nat) = 2^16 from rfl, ← Nat.pow_mul, Nat.mul_left_comm, ← Nat.pow_add]
        congr 2; omega
/-! ### Cmp -/
def cmpZ (n m : Nat) : Int := if n < m then -1 else if n > m then 1 else 0
theorem cmp_nat {n m : Nat} (hn : bl n ≤ 1000000) (hm : bl m ≤ 1000000) : Cp 97 [.n (dig n), .n (dig m)] (LI (cmpZ n m)) := by
  have l1 := dig_len hn
  have l2 := dig_len hm
  have tn : Cp 123 [.n (dig n)] (.n (dig n)) := trim_to ⟨okd_dig n, by omega⟩ (vl_dig n)
  have tm : Cp 123 [.n (dig m)] (.n (dig m)) := trim_to ⟨okd_dig m, by omega⟩ (vl_dig m)
  have key : ∀ {n m : Nat}, (dig n).length < (dig m).length → n < m := fun {n m} h => by
    rcases Nat.lt_or_ge n m with l | l
    · exact l
    · have := dig_mono l; omega
  have lt : n < m → Wt (LI (cmpZ n m)) (.ret (LI (-1))) := fun h => by unfold cmpZ; rw [if_pos h]; rfl
  have gt : m < n → Wt (LI (cmpZ n m)) (.ret (LI 1)) := fun h => by unfold cmpZ; rw [if_neg (by omega), if_pos h]; rfl
  refine cpL_of (t97 (dig n) (dig m) [] []) ⟨tn, tm, ?_⟩
  show Wt _ (br ((((dig n).length : Nat) : Int) != (((dig m).length : Nat) : Int)) (br (decide ((((dig n).length : Nat) : Int) < (((dig m).length : Nat) : Int))) _ _) _)
  refine WT.br (fun h => ?_) (fun h => ?_)
  · exact brD (fun h1 => lt (key (by omega))) (fun h1 => gt (key (by have : ((dig n).length : Int) ≠ (dig m).length := by simpa using h
                                                                     omega)))
  · have he : ((dig n).length : Int) = (dig m).length := by simpa using h
    refine ⟨⟨fun _ => ((dig n).length : Int) - 1, by rw [i64_in (by omega) (by omega)]; rfl, ⟨(dig n).length, rfl, Nat.le_refl _, ?_⟩, rfl⟩, ?_⟩
    · rw [List.drop_of_length_le (Nat.le_refl _), List.drop_of_length_le (by omega)]
    rintro x rest ⟨j, hx, hj, hv⟩
    dsimp only
    rw [hx]
    refine brD (fun h0 => ?_) (fun h0 => ?_)
    · obtain ⟨k, rfl⟩ : ∃ k, j = k + 1 := ⟨j - 1, by omega⟩
      have ek : ((k + 1 : Nat) : Int) - 1 = k := by omega
      rw [ek, Int.toNat_natCast]
      have hk1 : k < (dig n).length := by omega
      have hk2 : k < (dig m).length := by omega
      have d1 := vl_drop_succ hk1
      have d2 := vl_drop_succ hk2
      have n1 := vl_take (dig n) k
      have n2 := vl_take (dig m) k
      rw [vl_dig, List.length_take, Nat.min_eq_left (by omega)] at n1 n2
      have t1 := vl_take_lt (okd_dig n) k
      have t2 := vl_take_lt (okd_dig m) k
      obtain ⟨a1, a2⟩ := okd_get (okd_dig n) k
      obtain ⟨b1, b2⟩ := okd_get (okd_dig m) k
      have cmp : vl ((dig n).drop k) < vl ((dig m).drop k) → n < m := fun h => by
        have := Nat.mul_le_mul_left (65536^k) (show vl ((dig n).drop k) + 1 ≤ vl ((dig m).drop k) from h)
        rw [Nat.mul_add, Nat.mul_one] at this; omega
      have cmp2 : vl ((dig m).drop k) < vl ((dig n).drop k) → m < n := fun h => by
        have := Nat.mul_le_mul_left (65536^k) (show vl ((dig m).drop k) + 1 ≤ vl ((dig n).drop k) from h)
        rw [Nat.mul_add, Nat.mul_one] at this; omega
      refine brT (by omega) (brT (by omega) (brT (by omega) (brT (by omega) (brD (fun h1 => lt (cmp (by omega))) fun h1 => brT (by omega) (brT (by omega) (brT (by omega) (brT (by omega) (brD (fun h2 => gt (cmp2 (by omega))) fun h2 => ?_)))))))) 
      rw [i64_in (by omega) (by omega)]
      refine ⟨⟨fun _ => (k : Int) - 1, rfl, ⟨k, rfl, by omega, by omega⟩, ?_, rfl⟩, rfl, rfl⟩
      show ((k : Int) - 1 + 1).toNat < (x 0 + 1).toNat
      rw [hx]; omega
    · have e : j = 0 := by omega
      subst e
      rw [List.drop_zero, List.drop_zero, vl_dig, vl_dig] at hv
      show LI 0 = _
      unfold cmpZ; rw [if_neg (by omega), if_neg (by omega)]
/-! ### Plus -/
theorem tm65 (n : Nat) : ((n : Int)).tmod 65536 = ((n % 65536 : Nat) : Int) := rfl
theorem td65 (n : Nat) : ((n : Int)).tdiv 65536 = ((n / 65536 : Nat) : Int) := rfl
theorem getD_out {l : List Int} {j : Nat} (h : l.length ≤ j) : l.getD j 0 = 0 := by rw [List.getD_eq_getElem?_getD, List.getElem?_eq_none h]; rfl
theorem plus_cn {n m : Nat} (hn : bl n ≤ 1000000) (hm : bl m ≤ 1000000) : Cp 90 [.n (dig n), .n (dig m)] (.n (dig (n + m))) := by
  have l1 := dig_len hn
  have l2 := dig_len hm
  have hon := okd_dig n
  have hom := okd_dig m
  refine cpL_of (t90 (dig n) (dig m) (dig (n + m)) fun x => lowD (vl ((dig n).take (x 0).toNat) + vl ((dig m).take (x 0).toNat)) (x 0).toNat) ⟨⟨fun _ => 0, rfl, ⟨0, rfl, Nat.zero_le _, by show (0 : Int) = _; simp [vl]⟩, rfl⟩, ?_⟩
  rintro x rest ⟨i, hi, hi2, hx⟩
  dsimp only
  rw [hi, hx, Int.toNat_natCast]
  have hc : (vl ((dig n).take i) + vl ((dig m).take i)) / 65536^i < 2 := by
    rw [Nat.div_lt_iff_lt_mul (Nat.pow_pos (by decide))]
    have := vl_take_lt hon i
    have := vl_take_lt hom i
    omega
  obtain ⟨a1, a2⟩ := okd_get hon i
  obtain ⟨b1, b2⟩ := okd_get hom i
  obtain ⟨d, hd⟩ : ∃ d : Nat, (dig n).getD i 0 = d := ⟨((dig n).getD i 0).toNat, by omega⟩
  obtain ⟨e, he⟩ : ∃ e : Nat, (dig m).getD i 0 = e := ⟨((dig m).getD i 0).toNat, by omega⟩
  have hd0 : (dig n).length ≤ i → d = 0 := fun h => by have := getD_out h; omega
  have he0 : (dig m).length ≤ i → e = 0 := fun h => by have := getD_out h; omega
  rw [hd] at a1 a2 ⊢
  rw [he] at b1 b2 ⊢
  obtain ⟨s1, s2⟩ := lowD_step (vl ((dig n).take i) + vl ((dig m).take i)) (d + e) i
  have hN : vl ((dig n).take i) + vl ((dig m).take i) + 65536^i * (d + e) = vl ((dig n).take (i+1)) + vl ((dig m).take (i+1)) := by
    rw [vl_take_step, vl_take_step, hd, he, Int.toNat_natCast, Int.toNat_natCast, Nat.mul_add]; omega
  rw [hN] at s1 s2
  obtain ⟨c, hcd⟩ : ∃ c, (vl ((dig n).take i) + vl ((dig m).take i)) / 65536^i = c := ⟨_, rfl⟩
  rw [hcd] at s1 s2 hc ⊢
  have step : ∀ t : Int, t = ((c + (d + e) : Nat) : Int) → i < max (dig n).length (dig m).length →
      Wt (.n (dig (n + m))) (Tr.need ((lowD (vl ((dig n).take i) + vl ((dig m).take i)) i).length + 1 ≤ 1099511627776) (Tr.again (lsPlus (dig n) (dig m) fun x => lowD (vl ((dig n).take (x 0).toNat) + vl ((dig m).take (x 0).toNat)) (x 0).toNat) [LI (IntKind.i64.wrap ((i : Int) + 1)), LI (IntKind.i64.wrap (t.tdiv 65536)), LV.a (AV.s SV.ow), LV.n (dig n), LV.n (dig m)] (some (lowD (vl ((dig n).take i) + vl ((dig m).take i)) i ++ [t.tmod 65536])) x [] [] 54 54)) := fun t ht hlt => by
    subst ht
    refine ⟨by rw [lowD_len]; omega, ?_⟩
    rw [tm65, td65, s1, ← s2, i64_in (n := (i : Int) + 1) (by omega) (by omega)]
    have hc2 : (vl ((dig n).take (i+1)) + vl ((dig m).take (i+1))) / 65536^(i+1) < 65536 := by rw [s2]; omega
    generalize hq : (vl ((dig n).take (i+1)) + vl ((dig m).take (i+1))) / 65536^(i+1) = q at hc2 ⊢
    rw [i64_in (by omega) (by omega)]
    refine ⟨⟨fun j => if j = 0 then ((i + 1 : Nat) : Int) else q, rfl, ⟨i+1, rfl, by omega, by rw [hq]; rfl⟩, ?_, rfl⟩, rfl, rfl⟩
    show max (dig n).length (dig m).length - (i + 1) < max (dig n).length (dig m).length - (x 0).toNat
    rw [hi]; omega
  refine brD (fun h1 => ?_) (fun h1 => ?_)
  · refine brT h1 (brT (by omega) (brT h1 (brD (fun h2 => ?_) (fun h2 => ?_))))
    · refine brT (by omega) (brT h2 (step _ ?_ (by omega)))
      rw [i64_in (n := (c : Int) + d) (by omega) (by omega), i64_in (by omega) (by omega)]; omega
    · refine step _ ?_ (by omega)
      rw [i64_in (n := (c : Int) + d) (by omega) (by omega), he0 (by omega)]; omega
  · refine brD (fun h2 => ?_) (fun h2 => ?_)
    · refine brF h1 (brT h2 (brT (by omega) (brT h2 (step _ ?_ (by omega)))))
      rw [i64_in (n := (c : Int) + e) (by omega) (by omega), hd0 (by omega)]; omega
    · have hiN : i = max (dig n).length (dig m).length := by omega
      refine ⟨by rw [lowD_len]; omega, trim_to ⟨okd_append (lowD_ok _ _) (okd_one (by omega) (by omega)), ?_⟩ ?_, rfl⟩
      · rw [List.length_append, lowD_len]; simp; omega
      · rw [← hcd, lowD_top, vl_take_all (by omega), vl_take_all (by omega), vl_dig, vl_dig]
/-! ### Minus -/
theorem minus_cn {n m : Nat} (hn : bl n ≤ 1000000) (h : m ≤ n) : Cp 128 [.n (dig n), .n (dig m)] (.n (dig (n - m))) := by
  have l1 := dig_len hn
  have l2 := dig_mono h
  have hon := okd_dig n
  have hom := okd_dig m
  refine cpL_of (t128 (dig n) (dig m) (dig (n - m)) fun x => (sbB (dig n) (dig m) (x 0).toNat).1) ⟨⟨fun _ => 0, rfl, ⟨0, rfl, Nat.zero_le _, rfl⟩, rfl⟩, ?_⟩
  rintro x rest ⟨i, hi, hi2, hx⟩
  dsimp only
  rw [hi, hx, Int.toNat_natCast]
  obtain ⟨k1, k2, k3, k4⟩ := sbB_spec hon hom i
  obtain ⟨a1, a2⟩ := okd_get hon i
  obtain ⟨b1, b2⟩ := okd_get hom i
  have hS := show sbB (dig n) (dig m) (i+1) = _ by rw [sbB]
  have he0 : (dig m).length ≤ i → (dig m).getD i 0 = 0 := getD_out
  generalize hdd : (dig n).getD i 0 = d at *
  generalize hee : (dig m).getD i 0 = e at *
  have again : ∀ t c : Int, sbB (dig n) (dig m) (i+1) = ((sbB (dig n) (dig m) i).1 ++ [t], c) → i < (dig n).length →
      Wt (.n (dig (n - m))) (Tr.need ((sbB (dig n) (dig m) i).1.length + 1 ≤ 1099511627776) (Tr.again (lsMinus (dig n) (dig m) fun x => (sbB (dig n) (dig m) (x 0).toNat).1) [LI (IntKind.i64.wrap ((i : Int) + 1)), LI c, LV.a (AV.s SV.ow), LV.n (dig n), LV.n (dig m)] (some ((sbB (dig n) (dig m) i).1 ++ [t])) x [] [] 41 41)) := fun t c ht hlt => by
    refine ⟨by rw [k2]; omega, ?_⟩
    rw [i64_in (n := (i : Int) + 1) (by omega) (by omega)]
    refine ⟨⟨fun j => if j = 0 then ((i + 1 : Nat) : Int) else c, rfl, ⟨i+1, rfl, by omega, by rw [ht]; rfl⟩, ?_, ?_⟩, rfl, rfl⟩
    · show (dig n).length - (i + 1) < (dig n).length - (x 0).toNat
      rw [hi]; omega
    · show _ = some (sbB (dig n) (dig m) (i+1)).1
      rw [ht]
  generalize hcc : (sbB (dig n) (dig m) i).2 = c at *
  rw [i64_in (n := d - c) (by omega) (by omega)]
  refine brD (fun h1 => ?_) (fun h1 => ?_)
  · refine brT (by omega) (brT h1 (brD (fun h2 => brT (by omega) (brT h2 ?_)) (fun h2 => ?_)))
    · rw [i64_in (n := d - c - e) (by omega) (by omega), i64_in (n := d - c - e + 65536) (by omega) (by omega)]
      refine brD (fun h3 => again _ _ ?_ (by omega)) (fun h3 => again _ _ ?_ (by omega))
      · rw [hS, if_pos h3]
      · rw [hS, if_neg h3]
    · have he0 := he0 (by omega)
      rw [i64_in (n := d - c + 65536) (by omega) (by omega)]
      refine brD (fun h3 => again _ _ ?_ (by omega)) (fun h3 => again _ _ ?_ (by omega))
      · rw [hS, he0, Int.sub_zero, if_pos h3]
      · rw [hS, he0, Int.sub_zero, if_neg h3]
  · have e : i = (dig n).length := by omega
    subst e
    exact ⟨trim_to ⟨k1, by omega⟩ (sbB_dig h), rfl⟩
/-! ### Small -/
theorem small_cn {n : Nat} (h : n < 2^64) : Cp 95 [.n (dig n)] (LU n) := by
  have hl : (dig n).length ≤ 4 := dig_len_le h
  refine cpL_of (t95 (dig n)) ⟨⟨fun i => if i = 0 then 0 else ((dig n).length : Int) - 1, by rw [i64_in (by omega) (by omega)]; rfl, ⟨(dig n).length, rfl, Nat.le_refl _, ?_⟩, rfl⟩, ?_⟩
  · rw [List.drop_of_length_le (Nat.le_refl _)]; rfl
  rintro x rest ⟨j, hx, hj, hv⟩
  dsimp only
  rw [hx, hv]
  refine brD (fun h0 => ?_) (fun h0 => ?_)
  · obtain ⟨k, rfl⟩ : ∃ k, j = k + 1 := ⟨j - 1, by omega⟩
    have ek : ((k + 1 : Nat) : Int) - 1 = k := by omega
    rw [ek, Int.toNat_natCast]
    refine brT (by omega) (brT (by omega) ?_)
    have d1 := vl_drop_succ (l := dig n) (n := k) (by omega)
    obtain ⟨a1, a2⟩ := okd_get (okd_dig n) k
    obtain ⟨d, hd⟩ : ∃ d : Nat, (dig n).getD k 0 = d := ⟨((dig n).getD k 0).toNat, by omega⟩
    have n1 := vl_take (dig n) k
    rw [vl_dig] at n1
    have hle : vl ((dig n).drop k) ≤ n := by
      have : 1 * vl ((dig n).drop k) ≤ 65536 ^ ((dig n).take k).length * vl ((dig n).drop k) := Nat.mul_le_mul_right _ (Nat.pow_pos (by decide))
      omega
    rw [hd] at d1 ⊢
    rw [Int.toNat_natCast] at d1
    have e1 : ((vl ((dig n).drop (k+1)) : Nat) : Int) * 65536 = ((vl ((dig n).drop (k+1)) * 65536 : Nat) : Int) := rfl
    rw [e1, u64_nat (by omega), u64_nat (n := d) (by omega), ← Int.natCast_add, u64_nat (by omega), i64_in (by omega) (by omega)]
    refine ⟨⟨fun i => if i = 0 then ((vl ((dig n).drop (k+1)) * 65536 + d : Nat) : Int) else (k : Int) - 1, rfl, ⟨k, rfl, by omega, ?_⟩, ?_, rfl⟩, rfl, rfl⟩
    · show ((vl ((dig n).drop (k+1)) * 65536 + d : Nat) : Int) = _
      rw [d1]; congr 1; omega
    · show ((k : Int) - 1 + 1).toNat < (x 1 + 1).toNat
      rw [hx]; omega
  · have e : j = 0 := by omega
    subst e
    rw [List.drop_zero, vl_dig]; rfl
/-! ### Times -/
theorem times_cn {n m : Nat} (hn : bl n ≤ 1000000) (hm : bl m ≤ 1000000) : Cp 73 [.n (dig n), .n (dig m)] (.n (dig (n * m))) := by
  have l1 := dig_len hn
  have l2 := dig_len hm
  have hon := okd_dig n
  have hom := okd_dig m
  obtain ⟨la, hla⟩ : ∃ la, (dig n).length = la := ⟨_, rfl⟩
  obtain ⟨lb, hlb⟩ : ∃ lb, (dig m).length = lb := ⟨_, rfl⟩
  have hvb : vl (dig m) = m := vl_dig m
  have hmlt : m < 65536^lb := by have := vl_lt hom; rwa [hvb, hlb] at this
  have hfit : ∀ i, i ≤ la → vl ((dig n).take i) * m < 65536^(la + lb + 1) := fun i hi => by
    have h1 := vl_take_lt hon i
    have h2 : vl ((dig n).take i) * m ≤ 65536^i * 65536^lb := Nat.mul_le_mul (by omega) (by omega)
    rw [← Nat.pow_add] at h2
    have h3 : 65536^(i+lb) < 65536^(la+lb+1) := Nat.pow_lt_pow_right (by decide) (by omega)
    omega
  refine cpL_of (t73 (dig n) (dig m) (dig (n * m)) (fun x => lowD (vl ((dig n).take (x 0).toNat) * m) (la + lb + 1)) (fun x => lowD (x 2).toNat (la + lb + 1)) (la + lb + 1)) ?_
  rw [hla, hlb, i64_in (n := (la : Int) + lb) (by omega) (by omega), i64_in (n := (la : Int) + lb + 1) (by omega) (by omega)]
  refine ⟨⟨rfl, by omega, by omega⟩, ⟨fun _ => 0, rfl, ⟨0, rfl, Nat.zero_le _⟩, ?_⟩, ?_⟩
  · show some (List.replicate ((la : Int) + lb + 1).toNat 0) = some (lowD (vl ((dig n).take 0) * m) (la + lb + 1))
    rw [show ((la : Int) + lb + 1).toNat = la + lb + 1 by omega, List.take_zero]
    have := lowD_of (la + lb + 1) (okd_rep (la + lb + 1)) List.length_replicate
    rw [vl_rep] at this
    rw [show vl [] = 0 from rfl, Nat.zero_mul, this]
  rintro x rest ⟨i, hi, hi2⟩
  rw [hla] at hi2
  dsimp only
  rw [hi, Int.toNat_natCast]
  refine brD (fun h1 => ?_) (fun h1 => ?_)
  · have hi3 : i < la := by omega
    have hVm : vl ((dig n).take (i+1)) * m = vl ((dig n).take i) * m + 65536^i * (((dig n).getD i 0).toNat * m) := by
      rw [vl_take_step, Nat.add_mul, Nat.mul_assoc]
    refine ⟨⟨fun j => if j = 2 then ((vl ((dig n).take i) * m : Nat) : Int) else 0, rfl, ⟨0, 0, vl ((dig n).take i) * m, rfl, rfl, rfl, by decide, by omega, hfit i hi2, ?_⟩, rfl⟩, ?_⟩
    · rw [Int.toNat_natCast, hvb]; simp [vl]
    rintro y rest2 ⟨k, c, T, hk, hc, hT, hc6, hk2, hTL, hv⟩
    rw [Int.toNat_natCast, hvb] at hv
    rw [hlb] at hk2
    dsimp only
    rw [hk, hc, hT, Int.toNat_natCast T, Int.toNat_natCast k]
    obtain ⟨a1, a2⟩ := okd_get hon i
    obtain ⟨b1, b2⟩ := okd_get hom k
    obtain ⟨d, hd⟩ : ∃ d : Nat, (dig n).getD i 0 = d := ⟨((dig n).getD i 0).toNat, by omega⟩
    obtain ⟨e, he⟩ : ∃ e : Nat, (dig m).getD k 0 = e := ⟨((dig m).getD k 0).toNat, by omega⟩
    have he0 : lb ≤ k → e = 0 := fun h => by have := getD_out (l := dig m) (j := k) (by omega); omega
    have ho := lowD_ok T (la+lb+1)
    have hlen := lowD_len T (la+lb+1)
    have hvT : vl (lowD T (la+lb+1)) = T := by rw [lowD_vl, Nat.mod_eq_of_lt hTL]
    have hsz : c ≠ 0 → lb ≤ k → k = lb := fun h0 hb => by
      have e1 : T + c * 65536^(i+k) = vl ((dig n).take (i+1)) * m := by rw [hv, hVm, vl_take_all (l := dig m) (by omega), hvb]
      have e2 : 65536^(i+k) ≤ c * 65536^(i+k) := Nat.le_mul_of_pos_left _ (by omega)
      have e3 : vl ((dig n).take (i+1)) * m < 65536^(i+1) * 65536^lb := Nat.mul_lt_mul'' (vl_take_lt hon (i+1)) hmlt
      rw [← Nat.pow_add] at e3
      have e4 : 65536^(i+k) < 65536^(i+1+lb) := by omega
      have := (Nat.pow_lt_pow_iff_right (by decide : 1 < 65536)).1 e4
      omega
    rw [hd] at a1 a2 hv
    rw [hd]
    rw [he] at b1 b2
    rw [he]
    obtain ⟨g1, g2⟩ := okd_get ho (i+k)
    obtain ⟨g, hg⟩ : ∃ g : Nat, (lowD T (la+lb+1)).getD (i+k) 0 = g := ⟨((lowD T (la+lb+1)).getD (i+k) 0).toNat, by omega⟩
    have eik : (k < lb ∨ c ≠ 0) → IntKind.i64.wrap ((i : Int) + k) = ((i + k : Nat) : Int) := fun _ => by rw [i64_in (by omega) (by omega)]; rfl
    have eik := i64_in (n := (i : Int) + k) (by omega) (by omega)
    rw [eik, show ((i : Int) + k).toNat = i + k by omega, hg, hlen]
    rw [hg] at g1 g2
    have hde : d * e ≤ 65535 * 65535 := Nat.mul_le_mul (by omega) (by omega)
    have step : ∀ t : Int, t = ((g + c + d * e : Nat) : Int) → k ≤ lb → (Wt (.n (dig (n * m))) (Tr.again (lsIn (dig n) (dig m) (fun x => lowD (x 2).toNat (la + lb + 1)) (la + lb + 1) i) [LI (IntKind.i64.wrap ((k : Int) + 1)), LI (IntKind.i64.wrap (t.tdiv 65536)), LV.a (AV.s SV.ow), LI i, LV.n (dig n), LV.n (dig m)] (some ((lowD T (la + lb + 1)).set (i + k) (t.tmod 65536))) y [] [] 67 67)) := fun t ht hlt => by
      subst ht
      rw [tm65, td65, i64_in (n := (k : Int) + 1) (by omega) (by omega), i64_in (n := ((_ : Nat) : Int)) (by omega) (by omega)]
      have hs := vl_set (lowD T (la+lb+1)) (i+k) (((g + c + d * e) % 65536 : Nat) : Int) (by omega)
      have hso := okd_set ho (i+k) (d := (((g + c + d * e) % 65536 : Nat) : Int)) (by omega) (by omega)
      have hsl : ((lowD T (la+lb+1)).set (i+k) (((g + c + d * e) % 65536 : Nat) : Int)).length = la+lb+1 := by rw [List.length_set, hlen]
      rw [hvT, hg, Int.toNat_natCast, Int.toNat_natCast] at hs
      obtain ⟨T', hT'⟩ : ∃ T', vl ((lowD T (la+lb+1)).set (i+k) (((g + c + d * e) % 65536 : Nat) : Int)) = T' := ⟨_, rfl⟩
      have hlo := lowD_of _ hso hsl
      have hTl := vl_lt hso
      rw [hsl] at hTl
      rw [hT'] at hs hlo hTl
      refine ⟨⟨fun j => if j = 0 then ((k + 1 : Nat) : Int) else if j = 1 then (((g + c + d * e) / 65536 : Nat) : Int) else (T' : Int), rfl, ⟨k + 1, (g + c + d * e) / 65536, T', rfl, rfl, rfl, by omega, by omega, hTl, ?_⟩, ?_, ?_⟩, rfl, rfl⟩
      · rw [Int.toNat_natCast, hvb, hd, Int.toNat_natCast, vl_take_step, he, Int.toNat_natCast, ← Nat.add_assoc i k 1, Nat.pow_succ]
        rw [Int.toNat_natCast] at hv
        have e1 : g + c + d * e = 65536 * ((g + c + d * e) / 65536) + (g + c + d * e) % 65536 := (Nat.div_add_mod _ _).symm
        generalize (g + c + d * e) / 65536 = q at *
        generalize (g + c + d * e) % 65536 = r at *
        have e2 : 65536^(i+k) * (g + c + d * e) = 65536^(i+k) * (65536 * q + r) := by rw [e1]
        simp only [Nat.mul_add] at e2 hv ⊢
        have e3 : 65536^(i+k) * (d * e) = 65536^i * (d * (65536^k * e)) := by rw [Nat.pow_add]; ac_rfl
        have e4 : q * (65536^(i+k) * 65536) = 65536^(i+k) * (65536 * q) := by ac_rfl
        have e5 : c * 65536^(i+k) = 65536^(i+k) * c := Nat.mul_comm _ _
        omega
      · show (dig m).length + 1 - (k + 1) < (dig m).length + 1 - (y 0).toNat
        rw [hk]; omega
      · show _ = some (lowD T' (la+lb+1))
        rw [hlo]
    have big : k < lb → ∀ {z : Tr}, (Wt (.n (dig (n * m))) z) → True := fun _ _ _ => trivial
    have w1 : IntKind.i64.wrap (IntKind.i64.wrap ((g : Int) + c) + IntKind.i64.wrap ((d : Int) * e)) = ((g + c + d * e : Nat) : Int) := by
      rw [← Int.natCast_mul, i64_in (n := (g : Int) + c) (by omega) (by omega), i64_in (n := ((d * e : Nat) : Int)) (by omega) (by omega), i64_in (by omega) (by omega)]; omega
    have w2 : lb ≤ k → IntKind.i64.wrap ((g : Int) + c) = ((g + c + d * e : Nat) : Int) := fun h => by
      rw [he0 h, i64_in (by omega) (by omega)]; omega
    refine brD (fun h2 => ?_) (fun h2 => ?_)
    · exact brT (by omega) (brT (by omega) (brT (by omega) (brT (by omega) (brT (by omega) (brT (by omega) (brT (by omega) (brT (by omega) (brT (by omega) (step _ w1 (by omega))))))))))
    · refine brD (fun h3 => ?_) (fun h3 => ?_)
      · have hkl := hsz (by omega) (by omega)
        exact brT (by omega) (brT (by omega) (brF (by omega) (brT (by omega) (brT (by omega) (step _ (w2 (by omega)) (by omega))))))
      · have c0 : c = 0 := by omega
        subst c0
        rw [i64_in (n := (i : Int) + 1) (by omega) (by omega)]
        have hTT : T = vl ((dig n).take (i+1)) * m := by
          have e7 : vl ((dig m).take k) = m := by rw [vl_take_all (by omega), hvb]
          rw [e7] at hv
          rw [hVm, hd]
          simpa using hv
        refine ⟨⟨fun _ => ((i + 1 : Nat) : Int), rfl, ⟨i + 1, rfl, by omega⟩, ?_, ?_⟩, rfl, rfl⟩
        · show (dig n).length - (i + 1) < (dig n).length - (x 0).toNat
          rw [hi]; omega
        · show _ = some (lowD (vl ((dig n).take (i+1)) * m) (la+lb+1))
          rw [hTT]
  · have e : i = la := by omega
    subst e
    refine ⟨trim_to ⟨lowD_ok _ _, by rw [lowD_len]; omega⟩ ?_, rfl⟩
    rw [lowD_vl, Nat.mod_eq_of_lt (hfit i hi2), vl_take_all (by omega), vl_dig]
end Go.Proofs.Ytpliondhiahhnaa.K
