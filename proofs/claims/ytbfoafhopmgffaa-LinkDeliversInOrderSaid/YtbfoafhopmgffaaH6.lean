/- The law LinkDeliversInOrder holds of the given program. No condition beyond the given statement's. -/
import Derived.Test.YtbfoafhopmgffaaP0
import Derived.Test.YtbfoafhopmgffaaRows
import Derived.WalkKit
import Derived.ProofKit
import Derived.OpenShut
import Derived.ShutString
import Derived.ChangeOld
import Derived.Below
import Derived.SizedLaws
namespace Go.Proofs.Ytbfoafhopmgffaa.linkDeliversInOrder
open Go.ChangeShapes Go.WideShapes Go.ChangeAt Go.RowKit
open Go.Abs (Kd AV)
set_option linter.unusedVariables false
theorem own : ownKnob Try.prog.godebug = none := by kernel_rfl
theorem laidOut : laidOutB Try.prog = true := by kernel_rfl
theorem spec (y0 : List (Int × (Int × Unit))) (f0 : Kd.Fits (Kd.sl (Kd.pair (Kd.int .u8) (Kd.pair (Kd.int .u8) Kd.unit))) y0) : Go.Abs.SpecOk Try.prog ⟨6, [AV.nf (.p (Kd.sl (Kd.pair (Kd.int .u8) (Kd.pair (Kd.int .u8) Kd.unit))) y0)], [], .v (.p .bool true), []⟩ := by
  obtain ⟨k, hk⟩ := Go.Proofs.G2.pureLinkDeliversInOrder y0 f0
  exact Go.Proofs.G2.antiquarylaw41_LinkDeliversInOrder_ok k y0 true hk
set_option maxRecDepth 100000 in
theorem lifted (os : Os) (started : os.Started) (H : Type) (enc : TypeId × Value → H) :
    ReturnsInHanded {} Try.checked os 6 .any (Rows.linkDeliversInOrderSpec.pre6 enc Try.prog Try.f6 Rows.linkDeliversInOrderRow.domain false) (Rows.linkDeliversInOrderSpec.post enc Try.prog Try.f6 false true false false) := by
  refine returnsInHanded_of_change_sized (C := Try.checked) own started (by kernel_rfl) Try.func6
    (ChangeSpec.witness6 (enc := enc) (C := Try.checked) false ⟨#[], #[.slice none 0 0], []⟩ 8 (by kernel_rfl) (by kernel_rfl) (by kernel_rfl) (by kernel_rfl)) ?_
  intro W base args ds gs before hval0 hW hcnd hsz0 _
  have hval : ∀ (j : Nat) t v, Try.f6.params[j]? = some t → args[j]? = some v → Value.okWide Try.prog W .any base t v := hval0
  have hW' := hW
  obtain ⟨p, q, hA0, hV, rfl, hfz, hnd⟩ := hW
  have hA : DataW.TrodAll enc Try.prog W 0 (fun _ => true) true Try.f6.params.toList args.toList ds p := hA0
  rw [Try.params6] at hA hval
  obtain ⟨v0, vs0, d0, ds0, p0, q0, hargs, rfl, rfl, h0, r0⟩ := trodAll_cons hA
  obtain ⟨rfl, rfl, rfl⟩ := trodAll_nil r0
  obtain rfl : args = #[v0] := by cases args; simp_all
  obtain ⟨rfl, rfl⟩ := trodVars_none hV
  have lt0 : ∀ x ∈ p0, x.block < W.heap.size := by obtain ⟨m, hm⟩ := h0; exact DataW.trod_lt m _ _ _ hm
  obtain ⟨y0, e0, f0⟩ := Go.Abs.arg_rel (ρ := fun _ => Go.Abs.Loc.box 0) (n := 12) (k := (Kd.sl (Kd.pair (Kd.int .u8) (Kd.pair (Kd.int .u8) Kd.unit)))) (by kernel_rfl) (hval 0 59 v0 rfl rfl) h0
  refine (Go.Abs.law_calls (cargs := [v0]) (spec y0 f0) ⟨e0, trivial⟩).mono fun e W' ⟨he, bel⟩ => ?_
  subst he
  exact ⟨_, rfl, _, _, _, [], _, [], hW', trodAll_mk1 (shut_bool Try.underlying4 _), (trodAll_cons_mk (Below.trod laidOut (by kernel_rfl) (of_decide_eq_true (by kernel_rfl)) h0 bel lt0) trodAll_mk0), rfl, bel.frame _, fun h => by cases h⟩
theorem over : Rows.linkDeliversInOrderRow.holds Try.pinned (OpenSpec.ofChange Rows.linkDeliversInOrderSpec) :=
  OpenClaim.holds_of_wide 6 Try.f6 rfl rfl rfl rfl rfl rfl rfl ⟨rfl, rfl, rfl, rfl, rfl⟩ rfl rfl rfl rfl rfl (by kernel_rfl) Try.func6 (by kernel_rfl)
    (of_decide_eq_true (by kernel_rfl)) (by unfold Func.isWrapper; first | (rw [if_pos (by decide +kernel)]; kernel_rfl) | (rw [if_neg (by decide +kernel)]; exact ⟨rfl, rfl⟩))
    (fun os started H enc _ => lifted os started H enc)
end Go.Proofs.Ytbfoafhopmgffaa.linkDeliversInOrder
namespace Go.Proofs.Ytbfoafhopmgffaa
/-- The row, under a short name, for the claim. -/
theorem linkDeliversInOrder_holds : Rows.LinkDeliversInOrderSaid := linkDeliversInOrder.over
#print axioms linkDeliversInOrder_holds
end Go.Proofs.Ytbfoafhopmgffaa
