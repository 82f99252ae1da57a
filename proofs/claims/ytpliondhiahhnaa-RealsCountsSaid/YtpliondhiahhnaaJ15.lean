/- RealsCounts: whatever the two integers and the way of rounding, the law returns true and the input reads as it did. No conditions. -/
import Derived.Test.YtpliondhiahhnaaF5
import Derived.Test.YtpliondhiahhnaaRows
import Derived.JoinedOf
import Derived.JoinedAt
import Derived.RowKit3
import Derived.ProofKit
import Derived.Lib.SmallJoins
set_option linter.unusedVariables false
namespace Go.Proofs.Ytpliondhiahhnaa.K
open Sx Fl Go Go.ChangeShapes Go.WideShapes Go.ChangeAt Go.RowKit Go.Joins
set_option maxRecDepth 100000
theorem Try.own' : ownKnob Try.prog.godebug = none := by kernel_rfl
theorem wfU {k : IntKind} {N : Nat} {n : Int} (h : (Lit.int k n).wf = true) (e1 : k.min = 0) (e2 : k.max = (N : Int) - 1) (hN : 0 < N) : ∃ j : Nat, n = j ∧ j < N := by
  have h2 : k.min ≤ n ∧ n ≤ k.max := by simpa [Lit.wf] using h
  rw [e1, e2] at h2
  exact ⟨n.toNat, by omega, by omega⟩
theorem wfI {n : Int} (h : (Lit.int .i64 n).wf = true) : -9223372036854775808 ≤ n ∧ n ≤ 9223372036854775807 := by
  have h2 : IntKind.i64.min ≤ n ∧ n ≤ IntKind.i64.max := by simpa [Lit.wf] using h
  exact h2
theorem realsCounts_lifted (os : Os) (started : os.Started) (H : Type) (enc : TypeId × Value → H) :
    ReturnsInHanded {} Try.checked os 18 .any (Rows.realsCountsSpec.pre6 enc Try.prog Try.f18 Rows.realsCountsRow.domain false) (Rows.realsCountsSpec.post enc Try.prog Try.f18 false true false false) := by
  refine returnsInHanded_of_change (C := Try.checked) Try.own' started (by kernel_rfl) Try.func18
    (ChangeSpec.witness6 (enc := enc) (C := Try.checked) false ⟨#[], #[.int .u32 0, .int .u32 0, .bool false], []⟩ 8 (by kernel_rfl) (by kernel_rfl) (by kernel_rfl) (by kernel_rfl)) ?_
  intro W base args ds gs before hval0 hW _ _
  have hval : ∀ (j : Nat) t v, Try.f18.params[j]? = some t → args[j]? = some v → Value.okWide Try.prog W .any base t v := hval0
  have hW' := hW
  obtain ⟨p, q, hA0, hV, rfl, _, _⟩ := hW
  have hA : DataW.TrodAll enc Try.prog W 0 (fun _ => true) true Try.f18.params.toList args.toList ds p := hA0
  rw [Try.params18] at hA hval
  obtain ⟨v0, vs0, d0, ds0, p0, q0, hargs, rfl, rfl, h0, r0⟩ := trodAll_cons hA
  obtain ⟨v1, vs1, d1, ds1, p1, q1, rfl, rfl, rfl, h1, r1⟩ := trodAll_cons r0
  obtain ⟨v2, vs2, d2, ds2, p2, q2, rfl, rfl, rfl, h2, r2⟩ := trodAll_cons r1
  obtain ⟨rfl, rfl, rfl⟩ := trodAll_nil r2
  have eargs : args = #[v0, v1, v2] := by cases args; simp_all
  subst eargs
  clear hargs
  obtain ⟨rfl, rfl⟩ := trodVars_none hV
  obtain ⟨n0, rfl, rfl, rfl, w0⟩ := open_int Try.underlying56 (hval 0 56 v0 rfl rfl) h0
  obtain ⟨n1, rfl, rfl, rfl, w1⟩ := open_int Try.underlying56 (hval 1 56 v1 rfl rfl) h1
  obtain ⟨b2, rfl, rfl, rfl⟩ := open_bool Try.underlying4 (hval 2 4 v2 rfl rfl) h2
  clear hA0 hval0
  try simp only [List.append_nil] at hW'
  obtain ⟨a0, rfl, l0⟩ := wfU (N := 2^32) w0 rfl rfl (by decide)
  obtain ⟨a1, rfl, l1⟩ := wfU (N := 2^32) w1 rfl rfl (by decide)
  refine (Cn.to (vs := [.int .u32 a0, .int .u32 a1, .bool b2]) (v := .bool true) rfl rfl (law_counts b2 l0 l1) W).mono fun e W' ⟨he, hw⟩ => ?_
  subst he
  exact ⟨_, rfl, ⟨_, _, _, [], [], [], hW', trodAll_mk1 (shut_bool Try.underlying4 true), ⟨_, _, (shut_int Try.underlying56 w0), ⟨_, _, (shut_int Try.underlying56 w1), trodAll_mk1 (shut_bool Try.underlying4 b2), rfl⟩, rfl⟩, rfl, hw.frame _, fun h => by cases h⟩⟩
theorem realsCounts_holds : Rows.RealsCountsSaid :=
  OpenClaim.holds_of_wide 18 Try.f18 rfl rfl rfl rfl rfl rfl rfl ⟨rfl, rfl, rfl, rfl, rfl⟩ rfl rfl rfl rfl rfl (by kernel_rfl) Try.func18 (by kernel_rfl)
    (of_decide_eq_true (by kernel_rfl)) (by unfold Func.isWrapper; first | (rw [if_pos (by decide +kernel)]; kernel_rfl) | (rw [if_neg (by decide +kernel)]; exact ⟨rfl, rfl⟩))
    (fun os started H enc _ => realsCounts_lifted os started H enc)
end Go.Proofs.Ytpliondhiahhnaa.K
