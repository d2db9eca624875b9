/- The card of the law ExchangeSendsOnlyWhatIsNeeded holds of the given program. No condition beyond the given statement's. -/
import Derived.Test.YtbcbhhpbgnmpaaaDoorP1
import Derived.WalkKit
import Derived.ProofKit
import Derived.OpenShut
import Derived.ShutString
import Derived.ChangeOld
import Derived.Below
import Derived.SizedLaws
import Derived.LaidMore
import Derived.Stop.Joined
import Derived.SevenTiedAt
set_option linter.unusedVariables false
namespace Go.Proofs.YtbcbhhpbgnmpaaaDoor.exchangeSendsOnlyWhatIsNeeded
open Go.ChangeShapes Go.WideShapes Go.ChangeAt Go.RowKit
open Go.Abs (Kd AV)
open Go.Proofs.K1 (KI KX KP It Px Pt)
theorem own : ownKnob Tryd.prog.godebug = none := by kernel_rfl
theorem laidOut : laidOutB Tryd.prog = true := by kernel_rfl
theorem spec (y0 : List ByteArray) (y1 : List ByteArray) (f0 : Kd.Fits (Kd.sl Kd.str) y0) (f1 : Kd.Fits (Kd.sl Kd.str) y1) : Go.Abs.SpecOk Tryd.prog ⟨7, [AV.nf (.p (Kd.sl Kd.str) y0), AV.nf (.p (Kd.sl Kd.str) y1)], [], .v (.p .bool true), []⟩ := by
  obtain ⟨k, hk⟩ := Go.Proofs.P44.pureExchangeSendsOnlyWhatIsNeeded y0 y1 f0 f1
  exact Go.Proofs.G44.antiquarylaw44_ExchangeSendsOnlyWhatIsNeeded_ok k y0 y1 true hk
set_option maxRecDepth 100000 in
theorem lifted (os : Os) (started : os.Started) (H : Type) (enc : TypeId × Value → H) :
    ReturnsInHanded {} Tryd.checked os 7 .any (fun w args => (Rows.exchangeSendsOnlyWhatIsNeededSpec.pre enc Tryd.prog Tryd.f7 [] false w args ∧ laidMetH Tryd.prog laid2 w) ∧ sizedMet enc Tryd.prog Tryd.f7 (OpenSpec.ofChange Rows.exchangeSendsOnlyWhatIsNeededSpec) false w args)
      (Rows.exchangeSendsOnlyWhatIsNeededSpec.post enc Tryd.prog Tryd.f7 false true false false) := by
  refine returnsInHanded_of_change_and (C := Tryd.checked) (X := fun w _ => laidMetH Tryd.prog laid2 w) (fun _ _ _ hh h => h.of_heap hh) own started (by kernel_rfl) Tryd.func7
    (ChangeSpec.witness_shaped (enc := enc) (C := Tryd.checked) (os := os) (X := fun w _ => laidMetH Tryd.prog laid2 w) false (World.doorLaid Tryd.prog 400 os) #[.slice none 0 0, .slice none 0 0] 8 rfl (World.shaped_of_RefB (by kernel_rfl) (by kernel_rfl)) (by kernel_rfl) (by kernel_rfl) (by kernel_rfl) (door_met os _)) ?_
  intro W base args ds gs before hval0 hW _ _ hL _
  have hval : ∀ (j : Nat) t v, Tryd.f7.params[j]? = some t → args[j]? = some v → Value.okWide Tryd.prog W .any base t v := hval0
  have hW' := hW
  obtain ⟨p, q, hA0, hV, rfl, hfz, hnd⟩ := hW
  have hA : DataW.TrodAll enc Tryd.prog W 0 (fun _ => true) true Tryd.f7.params.toList args.toList ds p := hA0
  rw [Tryd.params7] at hA hval
  obtain ⟨v0, vs0, d0, ds0, p0, q0, hargs, rfl, rfl, h0, r0⟩ := trodAll_cons hA
  obtain ⟨v1, vs1, d1, ds1, p1, q1, rfl, rfl, rfl, h1, r1⟩ := trodAll_cons r0
  obtain ⟨rfl, rfl, rfl⟩ := trodAll_nil r1
  obtain rfl : args = #[v0, v1] := by cases args; simp_all
  obtain ⟨rfl, rfl⟩ := trodVars_none hV
  have lt0 : ∀ x ∈ p0, x.block < W.heap.size := by obtain ⟨m, hm⟩ := h0; exact DataW.trod_lt m _ _ _ hm
  obtain ⟨y0, e0, f0⟩ := Go.Abs.arg_rel (ρ := fun _ => Go.Abs.Loc.box 0) (n := 12) (k := (Kd.sl Kd.str)) (by kernel_rfl) (hval 0 66 v0 rfl rfl) h0
  have lt1 : ∀ x ∈ p1, x.block < W.heap.size := by obtain ⟨m, hm⟩ := h1; exact DataW.trod_lt m _ _ _ hm
  obtain ⟨y1, e1, f1⟩ := Go.Abs.arg_rel (ρ := fun _ => Go.Abs.Loc.box 0) (n := 12) (k := (Kd.sl Kd.str)) (by kernel_rfl) (hval 1 66 v1 rfl rfl) h1
  refine (Go.Abs.law_calls (cargs := [v0, v1]) (spec y0 y1 f0 f1) (globals_hold hL) ⟨e0, e1, trivial⟩).mono fun e W' ⟨he, bel⟩ => ?_
  subst he
  exact ⟨_, rfl, _, _, _, [], _, [], hW', trodAll_mk1 (shut_bool Tryd.underlying4 _), (trodAll_cons_mk (Below.trod laidOut (by kernel_rfl) (of_decide_eq_true (by kernel_rfl)) h0 bel lt0) (trodAll_cons_mk (Below.trod laidOut (by kernel_rfl) (of_decide_eq_true (by kernel_rfl)) h1 bel lt1) trodAll_mk0)), rfl, bel.frame _, fun h => by cases h⟩
theorem over : Rows.exchangeSendsOnlyWhatIsNeededRow.holds Tryd.pinned (OpenSpec.ofChange Rows.exchangeSendsOnlyWhatIsNeededSpec) :=
  OpenClaim.holds_of_wide 7 Tryd.f7 rfl rfl rfl rfl rfl rfl rfl ⟨rfl, rfl, rfl, rfl, rfl⟩ rfl rfl rfl rfl rfl (by kernel_rfl) Tryd.func7 (by kernel_rfl)
    (of_decide_eq_true (by kernel_rfl)) (by unfold Func.isWrapper; first | (rw [if_pos (by decide +kernel)]; kernel_rfl) | (rw [if_neg (by decide +kernel)]; exact ⟨rfl, rfl⟩))
    (fun os started H enc _ => lifted os started H enc)
theorem card_over : Rows.ExchangeSendsOnlyWhatIsNeededCardSaid :=
  Claim7.holds_tied_plain_at .later [] [.data, .data] true (true, "e346103cda88ba0ad97871390008402c7bd6cf37e956d4475f4664520be57fbf") false
    over (fun _ h => by cases h) (by kernel_rfl) (fun _ h => by cases h) exchangeSendsOnlyWhatIsNeeded_row_tie rfl ⟨rfl, rfl⟩ (by kernel_rfl) rfl
    (fun f fn hf hfn => by
      obtain rfl : f = 7 := Option.some.inj ((show Tryd.prog.funcNamed "antiquary/antiquarylaw44.ExchangeSendsOnlyWhatIsNeeded" = some 7 by kernel_rfl).symm.trans hf) |>.symm
      obtain rfl : fn = Tryd.f7 := (Option.some.inj (Tryd.func7.symm.trans hfn)).symm
      exact ⟨by kernel_rfl, fun j t ht => by
        rw [Tryd.params7] at ht
        have hm : t ∈ [66, 66] := by simpa using Array.mem_of_getElem? ht
        have hall : ([66, 66].all fun u => !Tryd.prog.wantsStandIn u) = true := by kernel_rfl
        exact (show Tryd.prog.wantsStandIn t = false by simpa using List.all_eq_true.1 hall t hm)⟩)
    (by kernel_rfl)
end Go.Proofs.YtbcbhhpbgnmpaaaDoor.exchangeSendsOnlyWhatIsNeeded
namespace Go.Proofs.YtbcbhhpbgnmpaaaDoor
theorem exchangeSendsOnlyWhatIsNeeded_card_holds : Rows.ExchangeSendsOnlyWhatIsNeededCardSaid := exchangeSendsOnlyWhatIsNeeded.card_over
#print axioms exchangeSendsOnlyWhatIsNeeded_card_holds
end Go.Proofs.YtbcbhhpbgnmpaaaDoor
