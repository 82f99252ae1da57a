/- SoftMuls: whatever the format and the two patterns, the law returns true and the input reads as it did. No conditions. -/
import Derived.Test.YtpliondhiahhnaaL1
import Derived.Test.YtpliondhiahhnaaRows
import Derived.JoinedOf
import Derived.JoinedAt
import Derived.RowKit3
import Derived.ProofKit
import Derived.Lib.SmallJoins
namespace Go.Proofs.Ytpliondhiahhnaa.K
open Sx Fl Go Go.ChangeShapes Go.WideShapes Go.ChangeAt Go.RowKit Go.Joins
set_option maxRecDepth 100000
theorem Try.own' : ownKnob Try.prog.godebug = none := by kernel_rfl
theorem Try.cells23' : Try.prog.cellsOf 23 = 2 := by kernel_rfl
theorem wf64 {n : Int} (h : (Lit.int .u64 n).wf = true) : ∃ k : Nat, n = k ∧ k < 2^64 := by
  have h2 : IntKind.u64.min ≤ n ∧ n ≤ IntKind.u64.max := by simpa [Lit.wf] using h
  have e1 : IntKind.u64.min = 0 := rfl
  have e2 : IntKind.u64.max = 18446744073709551615 := rfl
  exact ⟨n.toNat, by omega, by omega⟩
theorem softMuls_lifted (os : Os) (started : os.Started) (H : Type) (enc : TypeId × Value → H) :
    ReturnsInHanded {} Try.checked os 3 .any (Rows.softMulsSpec.pre6 enc Try.prog Try.f3 Rows.softMulsRow.domain false) (Rows.softMulsSpec.post enc Try.prog Try.f3 false true false false) := by
  refine returnsInHanded_of_change (C := Try.checked) Try.own' started (by kernel_rfl) Try.func3
    (ChangeSpec.witness6 (enc := enc) (C := Try.checked) false ⟨#[], #[.agg #[.int .i64 0, .int .i64 0], .int .u64 0, .int .u64 0], []⟩ 8 (by kernel_rfl) (by kernel_rfl) (by kernel_rfl) (by kernel_rfl)) ?_
  intro W base args ds gs before hval0 hW _ _
  have hval : ∀ (j : Nat) t v, Try.f3.params[j]? = some t → args[j]? = some v → Value.okWide Try.prog W .any base t v := hval0
  have hW' := hW
  obtain ⟨p, q, hA0, hV, rfl, _, _⟩ := hW
  have hA : DataW.TrodAll enc Try.prog W 0 (fun _ => true) true Try.f3.params.toList args.toList ds p := hA0
  rw [Try.params3] at hA hval
  obtain ⟨v0, v1, v2, d0, d1, d2, p0, p1, p2, rfl, rfl, rfl, h0, h1, h2⟩ := trodAll_three hA
  obtain ⟨rfl, rfl⟩ := trodVars_none hV
  obtain ⟨c0, c1, y0, y1, m, rfl, rfl, rfl, hy0, hy1⟩ := open_agg2 Try.underlying23 (by kernel_rfl) Try.cells23' (hval 0 23 v0 rfl rfl) h0
  obtain ⟨mm, e0, rfl, wa⟩ := DataW.trod_int Try.underlying3 hy0
  obtain ⟨xx, e1, rfl, wb⟩ := DataW.trod_int Try.underlying3 hy1
  simp at e0 e1
  subst e0 e1
  obtain ⟨a, rfl, rfl, rfl, wA⟩ := open_int Try.underlying24 (hval 1 24 v1 rfl rfl) h1
  obtain ⟨b, rfl, rfl, rfl, wB⟩ := open_int Try.underlying24 (hval 2 24 v2 rfl rfl) h2
  clear hA0 hval0
  simp only [List.append_nil] at hW'
  have structReads : ∀ (W' : World) (sp : Nat → Bool), DataW.Trod enc Try.prog W' 0 sp true 23 (.agg #[.int .i64 mm, .int .i64 xx]) (.agg [.lit (.int .i64 mm), .lit (.int .i64 xx)]) [] := fun W' sp =>
    shut_agg2 (y0 := (.lit (.int .i64 mm), [])) (y1 := (.lit (.int .i64 xx), [])) Try.underlying23 (by kernel_rfl) Try.cells23' ⟨1, by simp [DataW.trod, Try.underlying3, wa]⟩ ⟨1, by simp [DataW.trod, Try.underlying3, wb]⟩
  obtain ⟨a', rfl, ha⟩ := wf64 wA
  obtain ⟨b', rfl, hb⟩ := wf64 wB
  refine (Cn.to (vs := [.agg #[.int .i64 mm, .int .i64 xx], .int .u64 a', .int .u64 b']) (v := .bool true) rfl rfl (law_muls mm xx ha hb) W).mono fun e W' ⟨he, hw⟩ => ?_
  subst he
  exact ⟨_, rfl, ⟨_, _, _, [], [], [], hW', trodAll_mk1 (shut_bool Try.underlying4 true), trodAll_mk3 (structReads _ _) (shut_int Try.underlying24 wA) (shut_int Try.underlying24 wB), rfl, hw.frame _, fun h => by cases h⟩⟩
theorem softMuls_holds : Rows.SoftMulsSaid :=
  OpenClaim.holds_of_wide 3 Try.f3 rfl rfl rfl rfl rfl rfl rfl ⟨rfl, rfl, rfl, rfl, rfl⟩ rfl rfl rfl rfl rfl (by kernel_rfl) Try.func3 (by kernel_rfl)
    (of_decide_eq_true (by kernel_rfl)) (by unfold Func.isWrapper; first | (rw [if_pos (by decide +kernel)]; kernel_rfl) | (rw [if_neg (by decide +kernel)]; exact ⟨rfl, rfl⟩))
    (fun os started H enc _ => softMuls_lifted os started H enc)
end Go.Proofs.Ytpliondhiahhnaa.K
