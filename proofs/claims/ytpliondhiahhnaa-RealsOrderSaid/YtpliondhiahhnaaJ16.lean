/- RealsOrder: whatever the two doubles and the two tolerances, the law returns true and the input reads as it did. No conditions. -/
import Derived.Test.YtpliondhiahhnaaF6
import Derived.Test.YtpliondhiahhnaaRows
import Derived.JoinedOf
import Derived.JoinedAt
import Derived.RowKit3
import Derived.ProofKit
import Derived.Lib.SmallJoins
set_option linter.unusedVariables false
namespace Go.Proofs.Ytpliondhiahhnaa.K
open Sx Fl Go Go.ChangeShapes Go.WideShapes Go.ChangeAt Go.RowKit Go.Joins
set_option maxRecDepth 100000
theorem Try.own' : ownKnob Try.prog.godebug = none := by kernel_rfl
theorem wfU {k : IntKind} {N : Nat} {n : Int} (h : (Lit.int k n).wf = true) (e1 : k.min = 0) (e2 : k.max = (N : Int) - 1) (hN : 0 < N) : ∃ j : Nat, n = j ∧ j < N := by
  have h2 : k.min ≤ n ∧ n ≤ k.max := by simpa [Lit.wf] using h
  rw [e1, e2] at h2
  exact ⟨n.toNat, by omega, by omega⟩
theorem wfI {n : Int} (h : (Lit.int .i64 n).wf = true) : -9223372036854775808 ≤ n ∧ n ≤ 9223372036854775807 := by
  have h2 : IntKind.i64.min ≤ n ∧ n ≤ IntKind.i64.max := by simpa [Lit.wf] using h
  exact h2
theorem realsOrder_lifted (os : Os) (started : os.Started) (H : Type) (enc : TypeId × Value → H) :
    ReturnsInHanded {} Try.checked os 13 .any (Rows.realsOrderSpec.pre6 enc Try.prog Try.f13 Rows.realsOrderRow.domain false) (Rows.realsOrderSpec.post enc Try.prog Try.f13 false true false false) := by
  refine returnsInHanded_of_change (C := Try.checked) Try.own' started (by kernel_rfl) Try.func13
    (ChangeSpec.witness6 (enc := enc) (C := Try.checked) false ⟨#[], #[.int .u64 0, .int .u64 0, .int .u64 0, .int .u64 0], []⟩ 8 (by kernel_rfl) (by kernel_rfl) (by kernel_rfl) (by kernel_rfl)) ?_
  intro W base args ds gs before hval0 hW _ _
  have hval : ∀ (j : Nat) t v, Try.f13.params[j]? = some t → args[j]? = some v → Value.okWide Try.prog W .any base t v := hval0
  have hW' := hW
  obtain ⟨p, q, hA0, hV, rfl, _, _⟩ := hW
  have hA : DataW.TrodAll enc Try.prog W 0 (fun _ => true) true Try.f13.params.toList args.toList ds p := hA0
  rw [Try.params13] at hA hval
  obtain ⟨v0, vs0, d0, ds0, p0, q0, hargs, rfl, rfl, h0, r0⟩ := trodAll_cons hA
  obtain ⟨v1, vs1, d1, ds1, p1, q1, rfl, rfl, rfl, h1, r1⟩ := trodAll_cons r0
  obtain ⟨v2, vs2, d2, ds2, p2, q2, rfl, rfl, rfl, h2, r2⟩ := trodAll_cons r1
  obtain ⟨v3, vs3, d3, ds3, p3, q3, rfl, rfl, rfl, h3, r3⟩ := trodAll_cons r2
  obtain ⟨rfl, rfl, rfl⟩ := trodAll_nil r3
  have eargs : args = #[v0, v1, v2, v3] := by cases args; simp_all
  subst eargs
  clear hargs
  obtain ⟨rfl, rfl⟩ := trodVars_none hV
  obtain ⟨n0, rfl, rfl, rfl, w0⟩ := open_int Try.underlying24 (hval 0 24 v0 rfl rfl) h0
  obtain ⟨n1, rfl, rfl, rfl, w1⟩ := open_int Try.underlying24 (hval 1 24 v1 rfl rfl) h1
  obtain ⟨n2, rfl, rfl, rfl, w2⟩ := open_int Try.underlying24 (hval 2 24 v2 rfl rfl) h2
  obtain ⟨n3, rfl, rfl, rfl, w3⟩ := open_int Try.underlying24 (hval 3 24 v3 rfl rfl) h3
  clear hA0 hval0
  try simp only [List.append_nil] at hW'
  obtain ⟨a0, rfl, l0⟩ := wfU (N := 2^64) w0 rfl rfl (by decide)
  obtain ⟨a1, rfl, l1⟩ := wfU (N := 2^64) w1 rfl rfl (by decide)
  obtain ⟨a2, rfl, l2⟩ := wfU (N := 2^64) w2 rfl rfl (by decide)
  obtain ⟨a3, rfl, l3⟩ := wfU (N := 2^64) w3 rfl rfl (by decide)
  refine (Cn.to (vs := [.int .u64 a0, .int .u64 a1, .int .u64 a2, .int .u64 a3]) (v := .bool true) rfl rfl (law_order  l0 l1 l2 l3) W).mono fun e W' ⟨he, hw⟩ => ?_
  subst he
  exact ⟨_, rfl, ⟨_, _, _, [], [], [], hW', trodAll_mk1 (shut_bool Try.underlying4 true), ⟨_, _, (shut_int Try.underlying24 w0), ⟨_, _, (shut_int Try.underlying24 w1), ⟨_, _, (shut_int Try.underlying24 w2), trodAll_mk1 (shut_int Try.underlying24 w3), rfl⟩, rfl⟩, rfl⟩, rfl, hw.frame _, fun h => by cases h⟩⟩
theorem realsOrder_holds : Rows.RealsOrderSaid :=
  OpenClaim.holds_of_wide 13 Try.f13 rfl rfl rfl rfl rfl rfl rfl ⟨rfl, rfl, rfl, rfl, rfl⟩ rfl rfl rfl rfl rfl (by kernel_rfl) Try.func13 (by kernel_rfl)
    (of_decide_eq_true (by kernel_rfl)) (by unfold Func.isWrapper; first | (rw [if_pos (by decide +kernel)]; kernel_rfl) | (rw [if_neg (by decide +kernel)]; exact ⟨rfl, rfl⟩))
    (fun os started H enc _ => realsOrder_lifted os started H enc)
end Go.Proofs.Ytpliondhiahhnaa.K
