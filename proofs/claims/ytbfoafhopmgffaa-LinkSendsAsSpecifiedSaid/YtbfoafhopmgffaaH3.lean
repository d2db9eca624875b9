/- The law LinkSendsAsSpecified holds of the given program. No condition beyond the given statement's. -/
import Derived.Test.YtbfoafhopmgffaaP0
import Derived.Test.YtbfoafhopmgffaaRows
import Derived.WalkKit
import Derived.ProofKit
import Derived.OpenShut
import Derived.ShutString
import Derived.ChangeOld
import Derived.Below
import Derived.SizedLaws
namespace Go.Proofs.Ytbfoafhopmgffaa.linkSendsAsSpecified
open Go.ChangeShapes Go.WideShapes Go.ChangeAt Go.RowKit
open Go.Abs (Kd AV)
set_option linter.unusedVariables false
theorem own : ownKnob Try.prog.godebug = none := by kernel_rfl
theorem laidOut : laidOutB Try.prog = true := by kernel_rfl
theorem spec (y0 : (Int × (Int × (ByteArray × (List ByteArray × Unit))))) (y1 : ByteArray) (y2 : Int) (f0 : Kd.Fits (Kd.pair (Kd.int .i64) (Kd.pair (Kd.int .i64) (Kd.pair Kd.str (Kd.pair (Kd.sl Kd.str) Kd.unit)))) y0) (f1 : Kd.Fits Kd.str y1) (f2 : Kd.Fits (Kd.int .i64) y2) : Go.Abs.SpecOk Try.prog ⟨3, [AV.nf (.p (Kd.pair (Kd.int .i64) (Kd.pair (Kd.int .i64) (Kd.pair Kd.str (Kd.pair (Kd.sl Kd.str) Kd.unit)))) y0), AV.nf (.p Kd.str y1), AV.nf (.p (Kd.int .i64) y2)], [], .v (.p .bool true), []⟩ := by
  obtain ⟨k, hk⟩ := Go.Proofs.G2.pureLinkSendsAsSpecified y0 y1 y2 f0 f1 f2
  exact Go.Proofs.G2.antiquarylaw41_LinkSendsAsSpecified_ok k y0.1 y0.2.1 y0.2.2.1 y0.2.2.2.1 y1 y2 true hk
set_option maxRecDepth 100000 in
theorem lifted (os : Os) (started : os.Started) (H : Type) (enc : TypeId × Value → H) :
    ReturnsInHanded {} Try.checked os 3 .any (Rows.linkSendsAsSpecifiedSpec.pre6 enc Try.prog Try.f3 Rows.linkSendsAsSpecifiedRow.domain false) (Rows.linkSendsAsSpecifiedSpec.post enc Try.prog Try.f3 false true false false) := by
  refine returnsInHanded_of_change_sized (C := Try.checked) own started (by kernel_rfl) Try.func3
    (ChangeSpec.witness6 (enc := enc) (C := Try.checked) false ⟨#[], #[.agg #[.int .i64 0, .int .i64 0, .string ByteArray.empty, .slice none 0 0], .string ByteArray.empty, .int .i64 0], []⟩ 8 (by kernel_rfl) (by kernel_rfl) (by kernel_rfl) (by kernel_rfl)) ?_
  intro W base args ds gs before hval0 hW hcnd hsz0 _
  have hval : ∀ (j : Nat) t v, Try.f3.params[j]? = some t → args[j]? = some v → Value.okWide Try.prog W .any base t v := hval0
  have hW' := hW
  obtain ⟨p, q, hA0, hV, rfl, hfz, hnd⟩ := hW
  have hA : DataW.TrodAll enc Try.prog W 0 (fun _ => true) true Try.f3.params.toList args.toList ds p := hA0
  rw [Try.params3] at hA hval
  obtain ⟨v0, vs0, d0, ds0, p0, q0, hargs, rfl, rfl, h0, r0⟩ := trodAll_cons hA
  obtain ⟨v1, vs1, d1, ds1, p1, q1, rfl, rfl, rfl, h1, r1⟩ := trodAll_cons r0
  obtain ⟨v2, vs2, d2, ds2, p2, q2, rfl, rfl, rfl, h2, r2⟩ := trodAll_cons r1
  obtain ⟨rfl, rfl, rfl⟩ := trodAll_nil r2
  obtain rfl : args = #[v0, v1, v2] := by cases args; simp_all
  obtain ⟨rfl, rfl⟩ := trodVars_none hV
  have lt0 : ∀ x ∈ p0, x.block < W.heap.size := by obtain ⟨m, hm⟩ := h0; exact DataW.trod_lt m _ _ _ hm
  obtain ⟨y0, e0, f0⟩ := Go.Abs.arg_rel (ρ := fun _ => Go.Abs.Loc.box 0) (n := 12) (k := (Kd.pair (Kd.int .i64) (Kd.pair (Kd.int .i64) (Kd.pair Kd.str (Kd.pair (Kd.sl Kd.str) Kd.unit))))) (by kernel_rfl) (hval 0 24 v0 rfl rfl) h0
  have lt1 : ∀ x ∈ p1, x.block < W.heap.size := by obtain ⟨m, hm⟩ := h1; exact DataW.trod_lt m _ _ _ hm
  obtain ⟨y1, e1, f1⟩ := Go.Abs.arg_rel (ρ := fun _ => Go.Abs.Loc.box 0) (n := 12) (k := Kd.str) (by kernel_rfl) (hval 1 9 v1 rfl rfl) h1
  have lt2 : ∀ x ∈ p2, x.block < W.heap.size := by obtain ⟨m, hm⟩ := h2; exact DataW.trod_lt m _ _ _ hm
  obtain ⟨y2, e2, f2⟩ := Go.Abs.arg_rel (ρ := fun _ => Go.Abs.Loc.box 0) (n := 12) (k := (Kd.int .i64)) (by kernel_rfl) (hval 2 3 v2 rfl rfl) h2
  refine (Go.Abs.law_calls (cargs := [v0, v1, v2]) (spec y0 y1 y2 f0 f1 f2) ⟨e0, e1, e2, trivial⟩).mono fun e W' ⟨he, bel⟩ => ?_
  subst he
  exact ⟨_, rfl, _, _, _, [], _, [], hW', trodAll_mk1 (shut_bool Try.underlying4 _), (trodAll_cons_mk (Below.trod laidOut (by kernel_rfl) (of_decide_eq_true (by kernel_rfl)) h0 bel lt0) (trodAll_cons_mk (Below.trod laidOut (by kernel_rfl) (of_decide_eq_true (by kernel_rfl)) h1 bel lt1) (trodAll_cons_mk (Below.trod laidOut (by kernel_rfl) (of_decide_eq_true (by kernel_rfl)) h2 bel lt2) trodAll_mk0))), rfl, bel.frame _, fun h => by cases h⟩
theorem over : Rows.linkSendsAsSpecifiedRow.holds Try.pinned (OpenSpec.ofChange Rows.linkSendsAsSpecifiedSpec) :=
  OpenClaim.holds_of_wide 3 Try.f3 rfl rfl rfl rfl rfl rfl rfl ⟨rfl, rfl, rfl, rfl, rfl⟩ rfl rfl rfl rfl rfl (by kernel_rfl) Try.func3 (by kernel_rfl)
    (of_decide_eq_true (by kernel_rfl)) (by unfold Func.isWrapper; first | (rw [if_pos (by decide +kernel)]; kernel_rfl) | (rw [if_neg (by decide +kernel)]; exact ⟨rfl, rfl⟩))
    (fun os started H enc _ => lifted os started H enc)
end Go.Proofs.Ytbfoafhopmgffaa.linkSendsAsSpecified
namespace Go.Proofs.Ytbfoafhopmgffaa
/-- The row, under a short name, for the claim. -/
theorem linkSendsAsSpecified_holds : Rows.LinkSendsAsSpecifiedSaid := linkSendsAsSpecified.over
#print axioms linkSendsAsSpecified_holds
end Go.Proofs.Ytbfoafhopmgffaa
