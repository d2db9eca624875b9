/- The walks: each function of the program that the law reaches computes the Lean function that is printed beside it. No condition but that the Lean function has a result. -/
import Derived.Test.YtbfoafhopmgffaaG1
import Derived.Test.YtbfoafhopmgffaaProg
set_option linter.unusedVariables false
namespace Go.Proofs.G2
open Go.Abs
set_option maxRecDepth 10000
open Go.Proofs.I1 (insert41_ok KF Fr framesOut frames_spec)
theorem antiquarylaw41_LinkCatchesUp_ok (k : Nat) (a1 : List (Int × (Int × Unit))) (r : Bool) (h : antiquarylaw41_LinkCatchesUp k a1 = some r) : SpecOk P ⟨7, [.p (Kd.sl (Kd.pair (Kd.int .u8) (Kd.pair (Kd.int .u8) Kd.unit))) a1], [], .v (.p Kd.bool r), []⟩ := by
  refine spec_at Try.func7 (by kernel_rfl) (Nat.le_of_ble_eq_true (by kernel_rfl)) ?_
  unfold antiquarylaw41_LinkCatchesUp at h
  rcases br_inv h with ⟨h28, h⟩ | ⟨h28, h⟩
  · obtain ⟨x29, h30, h⟩ := bind_inv h
    replace h := Option.some.inj h; subst h
    exact Abs.Good.path_ret hm [.reg [], .reg [], .cond true, .reg [(0, { call := some { lend := [], pass := [], res := .v (.p Kd.bool x29), outs := [], back := [] } })]] [] Try.func7 (cs := [_, _]) (by kernel_rfl) ⟨h28, (antiquarylaw41_sanity_ok k  _ h30), trivial⟩ (by kernel_rfl)
  · exact Abs.Good.path hm [.reg [], .reg [], .cond false, .reg [], .co (ek 3) 3 (.nsl Kd.str), .co (ek 3) 5 (.nsl (Kd.pair Kd.bool (Kd.pair (Kd.int .i64) (Kd.pair Kd.str Kd.unit)))), .co (ek 3) 6 (.nsl (Kd.pair Kd.bool (Kd.pair (Kd.int .i64) (Kd.pair Kd.str Kd.unit)))), .co (ek 3) 7 (.nsl (Kd.int .i64)), .co (ek 3) 8 (.mk 900001 (Kd.pair Kd.bool (Kd.pair (Kd.int .i64) (Kd.pair Kd.str Kd.unit))) 49), .reg [], .keep [sk 0, sk 3, sk 4, ek 3, ek 900001], .ren [(3, 500001), (900001, 500002)]] (cs := [_]) (by kernel_rfl) ⟨h28, trivial⟩ (antiquarylaw41_LinkCatchesUp_l0_ok k a1 (0 : Int) (0 : Int) (0 : Int) (⟨#[]⟩ : ByteArray) ([] : List ByteArray) (0 : Int) ([] : List (Bool × (Int × (ByteArray × Unit)))) ([] : List (Bool × (Int × (ByteArray × Unit)))) ([] : List Int) false ([] : List (Bool × (Int × (ByteArray × Unit)))) r h)


end Go.Proofs.G2
