/- The law LinkReceivesAsSpecified holds of the given program. No condition beyond the given statement's. -/
import Derived.Test.YtbfoafhopmgffaaP0
import Derived.Test.YtbfoafhopmgffaaRows
import Derived.WalkKit
import Derived.ProofKit
import Derived.OpenShut
import Derived.ShutString
import Derived.ChangeOld
import Derived.Below
import Derived.SizedLaws
namespace Go.Proofs.Ytbfoafhopmgffaa.linkReceivesAsSpecified
open Go.ChangeShapes Go.WideShapes Go.ChangeAt Go.RowKit
open Go.Abs (Kd AV)
set_option linter.unusedVariables false
theorem own : ownKnob Try.prog.godebug = none := by kernel_rfl
theorem laidOut : laidOutB Try.prog = true := by kernel_rfl
theorem spec (y0 : (Int × (List (Bool × (Int × (ByteArray × Unit))) × Unit))) (y1 : (Bool × (Int × (ByteArray × Unit)))) (f0 : Kd.Fits (Kd.pair (Kd.int .i64) (Kd.pair (Kd.sl (Kd.pair Kd.bool (Kd.pair (Kd.int .i64) (Kd.pair Kd.str Kd.unit)))) Kd.unit)) y0) (f1 : Kd.Fits (Kd.pair Kd.bool (Kd.pair (Kd.int .i64) (Kd.pair Kd.str Kd.unit))) y1) : Go.Abs.SpecOk Try.prog ⟨5, [AV.nf (.p (Kd.pair (Kd.int .i64) (Kd.pair (Kd.sl (Kd.pair Kd.bool (Kd.pair (Kd.int .i64) (Kd.pair Kd.str Kd.unit)))) Kd.unit)) y0), AV.nf (.p (Kd.pair Kd.bool (Kd.pair (Kd.int .i64) (Kd.pair Kd.str Kd.unit))) y1)], [], .v (.p .bool true), []⟩ := by
  obtain ⟨k, hk⟩ := Go.Proofs.G2.pureLinkReceivesAsSpecified y0 y1 f0 f1
  exact Go.Proofs.G2.antiquarylaw41_LinkReceivesAsSpecified_ok k y0.1 y0.2.1 y1.1 y1.2.1 y1.2.2.1 true hk
set_option maxRecDepth 100000 in
theorem lifted (os : Os) (started : os.Started) (H : Type) (enc : TypeId × Value → H) :
    ReturnsInHanded {} Try.checked os 5 .any (Rows.linkReceivesAsSpecifiedSpec.pre6 enc Try.prog Try.f5 Rows.linkReceivesAsSpecifiedRow.domain false) (Rows.linkReceivesAsSpecifiedSpec.post enc Try.prog Try.f5 false true false false) := by
  refine returnsInHanded_of_change_sized (C := Try.checked) own started (by kernel_rfl) Try.func5
    (ChangeSpec.witness6 (enc := enc) (C := Try.checked) false ⟨#[], #[.agg #[.int .i64 0, .slice none 0 0], .agg #[.bool false, .int .i64 0, .string ByteArray.empty]], []⟩ 8 (by kernel_rfl) (by kernel_rfl) (by kernel_rfl) (by kernel_rfl)) ?_
  intro W base args ds gs before hval0 hW hcnd hsz0 _
  have hval : ∀ (j : Nat) t v, Try.f5.params[j]? = some t → args[j]? = some v → Value.okWide Try.prog W .any base t v := hval0
  have hW' := hW
  obtain ⟨p, q, hA0, hV, rfl, hfz, hnd⟩ := hW
  have hA : DataW.TrodAll enc Try.prog W 0 (fun _ => true) true Try.f5.params.toList args.toList ds p := hA0
  rw [Try.params5] at hA hval
  obtain ⟨v0, vs0, d0, ds0, p0, q0, hargs, rfl, rfl, h0, r0⟩ := trodAll_cons hA
  obtain ⟨v1, vs1, d1, ds1, p1, q1, rfl, rfl, rfl, h1, r1⟩ := trodAll_cons r0
  obtain ⟨rfl, rfl, rfl⟩ := trodAll_nil r1
  obtain rfl : args = #[v0, v1] := by cases args; simp_all
  obtain ⟨rfl, rfl⟩ := trodVars_none hV
  have lt0 : ∀ x ∈ p0, x.block < W.heap.size := by obtain ⟨m, hm⟩ := h0; exact DataW.trod_lt m _ _ _ hm
  obtain ⟨y0, e0, f0⟩ := Go.Abs.arg_rel (ρ := fun _ => Go.Abs.Loc.box 0) (n := 12) (k := (Kd.pair (Kd.int .i64) (Kd.pair (Kd.sl (Kd.pair Kd.bool (Kd.pair (Kd.int .i64) (Kd.pair Kd.str Kd.unit)))) Kd.unit))) (by kernel_rfl) (hval 0 47 v0 rfl rfl) h0
  have lt1 : ∀ x ∈ p1, x.block < W.heap.size := by obtain ⟨m, hm⟩ := h1; exact DataW.trod_lt m _ _ _ hm
  obtain ⟨y1, e1, f1⟩ := Go.Abs.arg_rel (ρ := fun _ => Go.Abs.Loc.box 0) (n := 12) (k := (Kd.pair Kd.bool (Kd.pair (Kd.int .i64) (Kd.pair Kd.str Kd.unit)))) (by kernel_rfl) (hval 1 49 v1 rfl rfl) h1
  refine (Go.Abs.law_calls (cargs := [v0, v1]) (spec y0 y1 f0 f1) ⟨e0, e1, trivial⟩).mono fun e W' ⟨he, bel⟩ => ?_
  subst he
  exact ⟨_, rfl, _, _, _, [], _, [], hW', trodAll_mk1 (shut_bool Try.underlying4 _), (trodAll_cons_mk (Below.trod laidOut (by kernel_rfl) (of_decide_eq_true (by kernel_rfl)) h0 bel lt0) (trodAll_cons_mk (Below.trod laidOut (by kernel_rfl) (of_decide_eq_true (by kernel_rfl)) h1 bel lt1) trodAll_mk0)), rfl, bel.frame _, fun h => by cases h⟩
theorem over : Rows.linkReceivesAsSpecifiedRow.holds Try.pinned (OpenSpec.ofChange Rows.linkReceivesAsSpecifiedSpec) :=
  OpenClaim.holds_of_wide 5 Try.f5 rfl rfl rfl rfl rfl rfl rfl ⟨rfl, rfl, rfl, rfl, rfl⟩ rfl rfl rfl rfl rfl (by kernel_rfl) Try.func5 (by kernel_rfl)
    (of_decide_eq_true (by kernel_rfl)) (by unfold Func.isWrapper; first | (rw [if_pos (by decide +kernel)]; kernel_rfl) | (rw [if_neg (by decide +kernel)]; exact ⟨rfl, rfl⟩))
    (fun os started H enc _ => lifted os started H enc)
end Go.Proofs.Ytbfoafhopmgffaa.linkReceivesAsSpecified
namespace Go.Proofs.Ytbfoafhopmgffaa
/-- The row, under a short name, for the claim. -/
theorem linkReceivesAsSpecified_holds : Rows.LinkReceivesAsSpecifiedSaid := linkReceivesAsSpecified.over
#print axioms linkReceivesAsSpecified_holds
end Go.Proofs.Ytbfoafhopmgffaa
