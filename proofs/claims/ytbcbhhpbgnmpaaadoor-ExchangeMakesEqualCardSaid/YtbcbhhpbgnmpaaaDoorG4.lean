/- The walks: each function of the program that the law reaches computes the Lean function that is printed beside it. No condition but that the Lean function has a result. -/
import Derived.Test.YtbcbhhpbgnmpaaaDoorG3
set_option linter.unusedVariables false
namespace Go.Proofs.G44
open Go.Abs
set_option maxRecDepth 10000
open Go.Proofs.K1
theorem exchange_Hear_n_ok (k : Nat) (a1 : List It) (a2 : Int) (a3 : List Int) (a4 : Int) (a5 : List Int) (a6 : Int) (a8 : ByteArray) (r : List It × List Pt × Int) (h : exchange_Hear k a1 a2 a3 a4 a5 a6 [] a8 = some r) :
    SpecOk P ⟨33, [.agg [.p (Kd.sl KI) a1], .agg [.p (Kd.int .i64) a2, .p (Kd.arr 16 (Kd.int .u8)) a3, .p (Kd.int .i64) a4, .p (Kd.arr 16 (Kd.int .u8)) a5, .p (Kd.int .i64) a6, .nilsl, .p Kd.str a8]], [], .t [.agg [.p (Kd.sl KI) r.1], .p (Kd.sl KP) r.2.1, .p (Kd.int .i64) r.2.2], []⟩ :=
  hear_nil (exchange_Hear_ok k a1 a2 a3 a4 a5 a6 [] a8 r h)

def antiquaryref44_Same_l0 : Nat → Int → List It → List It → Option (Bool)
  | 0, _, _, _ => none
  | k + 1, p1, p2, p3 =>
    if (decide (p1 < (List.length p2 : Int))) = true then
      if 0 ≤ p1 ∧ p1 < (List.length p2 : Int) then
        if p1 < (List.length p3 : Int) then
          if (!(Kd.eqb KI ((List.getD p2 (Int.toNat p1) (Kd.dflt KI)).1, (((List.getD p2 (Int.toNat p1) (Kd.dflt KI)).2).1, ())) ((List.getD p3 (Int.toNat p1) (Kd.dflt KI)).1, (((List.getD p3 (Int.toNat p1) (Kd.dflt KI)).2).1, ())))) = true then
            some (false)
          else
            antiquaryref44_Same_l0 k (IntKind.i64.wrap (p1 + (1 : Int))) p2 p3
        else none
      else none
    else
      some (true)
def antiquaryref44_Same (k : Nat) (a1 : List It) (a2 : List It) : Option (Bool) :=
  if ((List.length a1 : Int) != (List.length a2 : Int)) = true then
    some (false)
  else
    antiquaryref44_Same_l0 k (0 : Int) a1 a2
theorem antiquaryref44_Same_l0_ok (k : Nat) : ∀ (p1 : Int) (p2 : List It) (p3 : List It) (r : Bool), antiquaryref44_Same_l0 k p1 p2 p3 = some r →
    Abs.Good P 22 Tryd.f22.ntmps [] [] (.v (.p Kd.bool r)) (pos Tryd.f22 [.r, .r, .c false, .r]) [(sk 2, some (.v (.ptr 500001 0))), (sk 3, some (.v (.ptr 500002 0))), (sk 5, some (.v (.p (Kd.int .i64) p1))), (ek 500001, some (.box [.p (Kd.sl KI) p2])), (ek 500002, some (.box [.p (Kd.sl KI) p3]))] := by
  induction k with
  | zero => intro p1 p2 p3 r h; cases h
  | succ k ih =>
    intro p1 p2 p3 r h
    unfold antiquaryref44_Same_l0 at h
    rcases br_inv h with ⟨h852, h⟩ | ⟨h852, h⟩
    · obtain ⟨h853, h⟩ := gd_inv h
      obtain ⟨h854, h⟩ := gd_inv h
      rcases br_inv h with ⟨h855, h⟩ | ⟨h855, h⟩
      · replace h := Option.some.inj h; subst h
        exact Abs.Good.path_ret hm [.reg [], .cond true, .reg [], .cond true, .reg []] [] Tryd.func22 (cs := [_, _, _, _, _, _, _]) (by kernel_rfl) ⟨h852, h853.1, h853.2, h853.1, h854, eq50, h855, trivial⟩ (by kernel_rfl)
      · exact Abs.Good.path hm [.reg [], .cond true, .reg [], .cond false, .reg [], .keep [sk 2, sk 3, sk 5, ek 500001, ek 500002]] (cs := [_, _, _, _, _, _, _]) (by kernel_rfl) ⟨h852, h853.1, h853.2, h853.1, h854, eq50, h855, trivial⟩ (ih (IntKind.i64.wrap (p1 + (1 : Int))) p2 p3 r h)
    · replace h := Option.some.inj h; subst h
      exact Abs.Good.path_ret hm [.reg [], .cond false, .reg []] [] Tryd.func22 (cs := [_]) (by kernel_rfl) ⟨h852, trivial⟩ (by kernel_rfl)
theorem antiquaryref44_Same_ok (k : Nat) (a1 : List It) (a2 : List It) (r : Bool) (h : antiquaryref44_Same k a1 a2 = some r) : SpecOk P ⟨22, [.agg [.p (Kd.sl KI) a1], .agg [.p (Kd.sl KI) a2]], [], .v (.p Kd.bool r), []⟩ := by
  refine spec_at Tryd.func22 (by kernel_rfl) (Nat.le_of_ble_eq_true (by kernel_rfl)) ?_
  unfold antiquaryref44_Same at h
  rcases br_inv h with ⟨h851, h⟩ | ⟨h851, h⟩
  · replace h := Option.some.inj h; subst h
    exact Abs.Good.path_ret hm [.reg [], .reg [], .cond true, .reg []] [] Tryd.func22 (cs := [_]) (by kernel_rfl) ⟨h851, trivial⟩ (by kernel_rfl)
  · exact Abs.Good.path hm [.reg [], .reg [], .cond false, .reg [], .keep [sk 2, sk 3, sk 5, ek 2, ek 3], .ren [(2, 500001), (3, 500002)]] (cs := [_]) (by kernel_rfl) ⟨h851, trivial⟩ (antiquaryref44_Same_l0_ok k (0 : Int) a1 a2 r h)

def antiquarylaw44_sanity_l3 (k : Nat) (p1 : List Pt) (p2 : Bool) (p3 : List It) (p4 : List It) : Option (Bool) :=
  if p2 = true then
    some (false)
  else
    if (0 : Int) < (List.length p1 : Int) then
      Option.bind (exchange_Hear k p3 ((List.getD p1 (0) (Kd.dflt KP)).1) ((((List.getD p1 (0) (Kd.dflt KP)).2).1).1) (((((List.getD p1 (0) (Kd.dflt KP)).2).1).2).1) ((((List.getD p1 (0) (Kd.dflt KP)).2).2).1) (((((List.getD p1 (0) (Kd.dflt KP)).2).2).2).1) ((((((List.getD p1 (0) (Kd.dflt KP)).2).2).2).2).1) (((((((List.getD p1 (0) (Kd.dflt KP)).2).2).2).2).2).1)) fun x839 =>
      Option.bind (exchange_Open k x839.1) fun x841 =>
      Option.bind (exchange_Hear k p4 x841.1 x841.2.1 x841.2.2.1 x841.2.2.2.1 x841.2.2.2.2.1 ([] : List (List Int)) x841.2.2.2.2.2) fun x843 =>
      if (x839.2.2 == (0 : Int)) = true then
        if (x843.2.2 == (0 : Int)) = true then
          if ((List.length x843.2.1 : Int) == (0 : Int)) = true then
            if ((List.length x839.1 : Int) == (3 : Int)) = true then
              Option.bind (antiquaryref44_Same k x839.1 p4) fun x856 =>
              some (x856)
            else
              some (false)
          else
            some (false)
        else
          some (false)
      else
        some (false)
    else none
def antiquarylaw44_sanity_l2 (k : Nat) (p1 : List Pt) (p2 : Bool) (p3 : List It) (p4 : List It) : Option (Bool) :=
  if p2 = true then
    some (false)
  else
    if (0 : Int) < (List.length p1 : Int) then
      Option.bind (exchange_Hear k p4 ((List.getD p1 (0) (Kd.dflt KP)).1) ((((List.getD p1 (0) (Kd.dflt KP)).2).1).1) (((((List.getD p1 (0) (Kd.dflt KP)).2).1).2).1) ((((List.getD p1 (0) (Kd.dflt KP)).2).2).1) (((((List.getD p1 (0) (Kd.dflt KP)).2).2).2).1) ((((((List.getD p1 (0) (Kd.dflt KP)).2).2).2).2).1) (((((((List.getD p1 (0) (Kd.dflt KP)).2).2).2).2).2).1)) fun x828 =>
      if (1 : Int) < (List.length p1 : Int) then
        Option.bind (exchange_Hear k x828.1 ((List.getD p1 (1) (Kd.dflt KP)).1) ((((List.getD p1 (1) (Kd.dflt KP)).2).1).1) (((((List.getD p1 (1) (Kd.dflt KP)).2).1).2).1) ((((List.getD p1 (1) (Kd.dflt KP)).2).2).1) (((((List.getD p1 (1) (Kd.dflt KP)).2).2).2).1) ((((((List.getD p1 (1) (Kd.dflt KP)).2).2).2).2).1) (((((((List.getD p1 (1) (Kd.dflt KP)).2).2).2).2).2).1)) fun x831 =>
        if (x828.2.2 != (0 : Int)) = true then
          antiquarylaw44_sanity_l3 k x828.2.1 true p3 x831.1
        else
          if (x831.2.2 != (0 : Int)) = true then
            antiquarylaw44_sanity_l3 k x828.2.1 true p3 x831.1
          else
            if ((List.length x828.2.1 : Int) != (1 : Int)) = true then
              antiquarylaw44_sanity_l3 k x828.2.1 true p3 x831.1
            else
              if (0 : Int) < (List.length x828.2.1 : Int) then
                antiquarylaw44_sanity_l3 k x828.2.1 (!(ByteArray.toList (((((((List.getD x828.2.1 (0) (Kd.dflt KP)).2).2).2).2).2).1) == ByteArray.toList (⟨#[122]⟩ : ByteArray))) p3 x831.1
              else none
      else none
    else none
def antiquarylaw44_sanity_l1 (k : Nat) (p1 : List Pt) (p2 : Bool) (p3 : List It) (p4 : List It) : Option (Bool) :=
  if p2 = true then
    some (false)
  else
    if (0 : Int) < (List.length p1 : Int) then
      Option.bind (exchange_Hear k p3 ((List.getD p1 (0) (Kd.dflt KP)).1) ((((List.getD p1 (0) (Kd.dflt KP)).2).1).1) (((((List.getD p1 (0) (Kd.dflt KP)).2).1).2).1) ((((List.getD p1 (0) (Kd.dflt KP)).2).2).1) (((((List.getD p1 (0) (Kd.dflt KP)).2).2).2).1) ((((((List.getD p1 (0) (Kd.dflt KP)).2).2).2).2).1) (((((((List.getD p1 (0) (Kd.dflt KP)).2).2).2).2).2).1)) fun x818 =>
      if (x818.2.2 != (0 : Int)) = true then
        antiquarylaw44_sanity_l2 k x818.2.1 true x818.1 p4
      else
        if ((List.length x818.2.1 : Int) != (2 : Int)) = true then
          antiquarylaw44_sanity_l2 k x818.2.1 true x818.1 p4
        else
          if (0 : Int) < (List.length x818.2.1 : Int) then
            if ((List.getD x818.2.1 (0) (Kd.dflt KP)).1 != (3 : Int)) = true then
              antiquarylaw44_sanity_l2 k x818.2.1 true x818.1 p4
            else
              if ((List.length ((((((List.getD x818.2.1 (0) (Kd.dflt KP)).2).2).2).2).1) : Int) != (1 : Int)) = true then
                antiquarylaw44_sanity_l2 k x818.2.1 true x818.1 p4
              else
                if (1 : Int) < (List.length x818.2.1 : Int) then
                  antiquarylaw44_sanity_l2 k x818.2.1 (!(ByteArray.toList (((((((List.getD x818.2.1 (1) (Kd.dflt KP)).2).2).2).2).2).1) == ByteArray.toList (⟨#[120]⟩ : ByteArray))) x818.1 p4
                else none
          else none
    else none
def antiquarylaw44_sanity_l0 (k : Nat) (p1 : Bool) (p2 : List It) (p3 : List It) : Option (Bool) :=
  if p1 = true then
    some (false)
  else
    Option.bind (exchange_Open k p2) fun x808 =>
    Option.bind (exchange_Hear k p3 x808.1 x808.2.1 x808.2.2.1 x808.2.2.2.1 x808.2.2.2.2.1 ([] : List (List Int)) x808.2.2.2.2.2) fun x810 =>
    if (x810.2.2 != (0 : Int)) = true then
      antiquarylaw44_sanity_l1 k x810.2.1 true p2 x810.1
    else
      if ((List.length x810.2.1 : Int) != (1 : Int)) = true then
        antiquarylaw44_sanity_l1 k x810.2.1 true p2 x810.1
      else
        if (0 : Int) < (List.length x810.2.1 : Int) then
          if ((List.getD x810.2.1 (0) (Kd.dflt KP)).1 != (2 : Int)) = true then
            antiquarylaw44_sanity_l1 k x810.2.1 true p2 x810.1
          else
            antiquarylaw44_sanity_l1 k x810.2.1 ((List.length ((((((List.getD x810.2.1 (0) (Kd.dflt KP)).2).2).2).2).1) : Int) != (2 : Int)) p2 x810.1
        else none
def antiquarylaw44_sanity (k : Nat) : Option (Bool) :=
  Option.bind (antiquarylaw44_of k ([(⟨#[120]⟩ : ByteArray), (⟨#[121]⟩ : ByteArray)] : List ByteArray)) fun x798 =>
  Option.bind (antiquarylaw44_of k ([(⟨#[121]⟩ : ByteArray), (⟨#[122]⟩ : ByteArray)] : List ByteArray)) fun x800 =>
  if (!x798.2) = true then
    antiquarylaw44_sanity_l0 k true x798.1 x800.1
  else
    if (!x800.2) = true then
      antiquarylaw44_sanity_l0 k true x798.1 x800.1
    else
      if ((List.length x798.1 : Int) != (2 : Int)) = true then
        antiquarylaw44_sanity_l0 k true x798.1 x800.1
      else
        Option.bind (exchange_Valid k x798.1) fun x805 =>
        antiquarylaw44_sanity_l0 k (!x805) x798.1 x800.1
theorem antiquarylaw44_sanity_l3_ok (k : Nat) (p1 : List Pt) (p2 : Bool) (p3 : List It) (p4 : List It) (r : Bool) (h : antiquarylaw44_sanity_l3 k p1 p2 p3 p4 = some r) :
    Abs.Good P 10 Tryd.f10.ntmps [] [] (.v (.p Kd.bool r)) (pos Tryd.f10 [.r, .r, .r, .r, .c false, .r, .r, .c false, .r, .r, .c false, .r, .r, .r]) [(sk 1, some (.v (.ptr 503001 0))), (sk 3, some (.v (.ptr 503002 0))), (sk 9, some (.v (.p (Kd.sl KP) p1))), (sk 148, some (.v (.p Kd.bool p2))), (ek 503001, some (.box [.p (Kd.sl KI) p3])), (ek 503002, some (.box [.p (Kd.sl KI) p4]))] := by
  unfold antiquarylaw44_sanity_l3 at h
  rcases br_inv h with ⟨h837, h⟩ | ⟨h837, h⟩
  · replace h := Option.some.inj h; subst h
    exact Abs.Good.path_ret hm [.cond true, .reg []] [] Tryd.func10 (cs := [_]) (by kernel_rfl) ⟨h837, trivial⟩ (by kernel_rfl)
  · obtain ⟨h838, h⟩ := gd_inv h
    obtain ⟨x839, h840, h⟩ := bind_inv h
    obtain ⟨x841, h842, h⟩ := bind_inv h
    obtain ⟨x843, h844, h⟩ := bind_inv h
    rcases br_inv h with ⟨h845, h⟩ | ⟨h845, h⟩
    · rcases br_inv h with ⟨h846, h⟩ | ⟨h846, h⟩
      · rcases br_inv h with ⟨h847, h⟩ | ⟨h847, h⟩
        · rcases br_inv h with ⟨h848, h⟩ | ⟨h848, h⟩
          · obtain ⟨x856, h857, h⟩ := bind_inv h
            replace h := Option.some.inj h; subst h
            exact Abs.Good.path_ret hm [.cond false, .reg [(4, { call := some { lend := [], pass := [], res := .t [.agg [.p (Kd.sl KI) x839.1], .p (Kd.sl KP) x839.2.1, .p (Kd.int .i64) x839.2.2], outs := [], back := [] } })], .reg [(2, { call := some { lend := [], pass := [], res := .v (.agg [.p (Kd.int .i64) x841.1, .p (Kd.arr 16 (Kd.int .u8)) x841.2.1, .p (Kd.int .i64) x841.2.2.1, .p (Kd.arr 16 (Kd.int .u8)) x841.2.2.2.1, .p (Kd.int .i64) x841.2.2.2.2.1, .nilsl, .p Kd.str x841.2.2.2.2.2]), outs := [], back := [] } }), (3, { call := some { lend := [], pass := [], res := .t [.agg [.p (Kd.sl KI) x843.1], .p (Kd.sl KP) x843.2.1, .p (Kd.int .i64) x843.2.2], outs := [], back := [] } })], .reg [(3, { dec := some true }), (4, { dec := some true }), (5, { pick := some true }), (7, { dec := some true }), (8, { dec := some true }), (9, { dec := some true }), (10, { pick := some true }), (12, { dec := some true }), (13, { dec := some true }), (14, { dec := some true }), (15, { dec := some true }), (16, { pick := some true }), (18, { dec := some true }), (19, { dec := some true }), (20, { dec := some true, call := some { lend := [], pass := [], res := .v (.p Kd.bool x856), outs := [], back := [] } }), (21, { pick := some true })]] [] Tryd.func10 (cs := [_, _, _, _, _, _, _, _, _, _, _, _, _, _, _, _, _, _, _, _, _, _, _]) (by kernel_rfl) ⟨h837, (by decide : 0 ≤ (0 : Int)), h838, (exchange_Hear_ok k p3 ((List.getD p1 (0) (Kd.dflt KP)).1) ((((List.getD p1 (0) (Kd.dflt KP)).2).1).1) (((((List.getD p1 (0) (Kd.dflt KP)).2).1).2).1) ((((List.getD p1 (0) (Kd.dflt KP)).2).2).1) (((((List.getD p1 (0) (Kd.dflt KP)).2).2).2).1) ((((((List.getD p1 (0) (Kd.dflt KP)).2).2).2).2).1) (((((((List.getD p1 (0) (Kd.dflt KP)).2).2).2).2).2).1) _ h840), (exchange_Open_ok k x839.1 _ h842), (exchange_Hear_n_ok k p4 x841.1 x841.2.1 x841.2.2.1 x841.2.2.2.1 x841.2.2.2.2.1 x841.2.2.2.2.2 _ h844), h845, h845, h845, h846, h846, h846, h846, h847, h847, h847, h847, h847, h848, h848, h848, (antiquaryref44_Same_ok k x839.1 p4 _ h857), h848, trivial⟩ (by kernel_rfl)
          · replace h := Option.some.inj h; subst h
            exact Abs.Good.path_ret hm [.cond false, .reg [(4, { call := some { lend := [], pass := [], res := .t [.agg [.p (Kd.sl KI) x839.1], .p (Kd.sl KP) x839.2.1, .p (Kd.int .i64) x839.2.2], outs := [], back := [] } })], .reg [(2, { call := some { lend := [], pass := [], res := .v (.agg [.p (Kd.int .i64) x841.1, .p (Kd.arr 16 (Kd.int .u8)) x841.2.1, .p (Kd.int .i64) x841.2.2.1, .p (Kd.arr 16 (Kd.int .u8)) x841.2.2.2.1, .p (Kd.int .i64) x841.2.2.2.2.1, .nilsl, .p Kd.str x841.2.2.2.2.2]), outs := [], back := [] } }), (3, { call := some { lend := [], pass := [], res := .t [.agg [.p (Kd.sl KI) x843.1], .p (Kd.sl KP) x843.2.1, .p (Kd.int .i64) x843.2.2], outs := [], back := [] } })], .reg [(3, { dec := some true }), (4, { dec := some true }), (5, { pick := some true }), (7, { dec := some true }), (8, { dec := some true }), (9, { dec := some true }), (10, { pick := some true }), (12, { dec := some true }), (13, { dec := some true }), (14, { dec := some true }), (15, { dec := some true }), (16, { pick := some true }), (18, { dec := some false }), (19, { dec := some false }), (20, { dec := some false }), (21, { pick := some false })]] [] Tryd.func10 (cs := [_, _, _, _, _, _, _, _, _, _, _, _, _, _, _, _, _, _, _, _, _, _]) (by kernel_rfl) ⟨h837, (by decide : 0 ≤ (0 : Int)), h838, (exchange_Hear_ok k p3 ((List.getD p1 (0) (Kd.dflt KP)).1) ((((List.getD p1 (0) (Kd.dflt KP)).2).1).1) (((((List.getD p1 (0) (Kd.dflt KP)).2).1).2).1) ((((List.getD p1 (0) (Kd.dflt KP)).2).2).1) (((((List.getD p1 (0) (Kd.dflt KP)).2).2).2).1) ((((((List.getD p1 (0) (Kd.dflt KP)).2).2).2).2).1) (((((((List.getD p1 (0) (Kd.dflt KP)).2).2).2).2).2).1) _ h840), (exchange_Open_ok k x839.1 _ h842), (exchange_Hear_n_ok k p4 x841.1 x841.2.1 x841.2.2.1 x841.2.2.2.1 x841.2.2.2.2.1 x841.2.2.2.2.2 _ h844), h845, h845, h845, h846, h846, h846, h846, h847, h847, h847, h847, h847, h848, h848, h848, h848, trivial⟩ (by kernel_rfl)
        · replace h := Option.some.inj h; subst h
          exact Abs.Good.path_ret hm [.cond false, .reg [(4, { call := some { lend := [], pass := [], res := .t [.agg [.p (Kd.sl KI) x839.1], .p (Kd.sl KP) x839.2.1, .p (Kd.int .i64) x839.2.2], outs := [], back := [] } })], .reg [(2, { call := some { lend := [], pass := [], res := .v (.agg [.p (Kd.int .i64) x841.1, .p (Kd.arr 16 (Kd.int .u8)) x841.2.1, .p (Kd.int .i64) x841.2.2.1, .p (Kd.arr 16 (Kd.int .u8)) x841.2.2.2.1, .p (Kd.int .i64) x841.2.2.2.2.1, .nilsl, .p Kd.str x841.2.2.2.2.2]), outs := [], back := [] } }), (3, { call := some { lend := [], pass := [], res := .t [.agg [.p (Kd.sl KI) x843.1], .p (Kd.sl KP) x843.2.1, .p (Kd.int .i64) x843.2.2], outs := [], back := [] } })], .reg [(3, { dec := some true }), (4, { dec := some true }), (5, { pick := some true }), (7, { dec := some true }), (8, { dec := some true }), (9, { dec := some true }), (10, { pick := some true }), (12, { dec := some false }), (13, { dec := some false }), (14, { dec := some false }), (15, { dec := some false }), (16, { pick := some false }), (18, { dec := some false }), (19, { dec := some false }), (20, { dec := some false }), (21, { pick := some false })]] [] Tryd.func10 (cs := [_, _, _, _, _, _, _, _, _, _, _, _, _, _, _, _, _, _, _, _, _, _]) (by kernel_rfl) ⟨h837, (by decide : 0 ≤ (0 : Int)), h838, (exchange_Hear_ok k p3 ((List.getD p1 (0) (Kd.dflt KP)).1) ((((List.getD p1 (0) (Kd.dflt KP)).2).1).1) (((((List.getD p1 (0) (Kd.dflt KP)).2).1).2).1) ((((List.getD p1 (0) (Kd.dflt KP)).2).2).1) (((((List.getD p1 (0) (Kd.dflt KP)).2).2).2).1) ((((((List.getD p1 (0) (Kd.dflt KP)).2).2).2).2).1) (((((((List.getD p1 (0) (Kd.dflt KP)).2).2).2).2).2).1) _ h840), (exchange_Open_ok k x839.1 _ h842), (exchange_Hear_n_ok k p4 x841.1 x841.2.1 x841.2.2.1 x841.2.2.2.1 x841.2.2.2.2.1 x841.2.2.2.2.2 _ h844), h845, h845, h845, h846, h846, h846, h846, h847, h847, h847, h847, h847, (rfl : false = false), (rfl : false = false), (rfl : false = false), (rfl : false = false), trivial⟩ (by kernel_rfl)
      · replace h := Option.some.inj h; subst h
        exact Abs.Good.path_ret hm [.cond false, .reg [(4, { call := some { lend := [], pass := [], res := .t [.agg [.p (Kd.sl KI) x839.1], .p (Kd.sl KP) x839.2.1, .p (Kd.int .i64) x839.2.2], outs := [], back := [] } })], .reg [(2, { call := some { lend := [], pass := [], res := .v (.agg [.p (Kd.int .i64) x841.1, .p (Kd.arr 16 (Kd.int .u8)) x841.2.1, .p (Kd.int .i64) x841.2.2.1, .p (Kd.arr 16 (Kd.int .u8)) x841.2.2.2.1, .p (Kd.int .i64) x841.2.2.2.2.1, .nilsl, .p Kd.str x841.2.2.2.2.2]), outs := [], back := [] } }), (3, { call := some { lend := [], pass := [], res := .t [.agg [.p (Kd.sl KI) x843.1], .p (Kd.sl KP) x843.2.1, .p (Kd.int .i64) x843.2.2], outs := [], back := [] } })], .reg [(3, { dec := some true }), (4, { dec := some true }), (5, { pick := some true }), (7, { dec := some false }), (8, { dec := some false }), (9, { dec := some false }), (10, { pick := some false }), (12, { dec := some false }), (13, { dec := some false }), (14, { dec := some false }), (15, { dec := some false }), (16, { pick := some false }), (18, { dec := some false }), (19, { dec := some false }), (20, { dec := some false }), (21, { pick := some false })]] [] Tryd.func10 (cs := [_, _, _, _, _, _, _, _, _, _, _, _, _, _, _, _, _, _, _, _, _, _]) (by kernel_rfl) ⟨h837, (by decide : 0 ≤ (0 : Int)), h838, (exchange_Hear_ok k p3 ((List.getD p1 (0) (Kd.dflt KP)).1) ((((List.getD p1 (0) (Kd.dflt KP)).2).1).1) (((((List.getD p1 (0) (Kd.dflt KP)).2).1).2).1) ((((List.getD p1 (0) (Kd.dflt KP)).2).2).1) (((((List.getD p1 (0) (Kd.dflt KP)).2).2).2).1) ((((((List.getD p1 (0) (Kd.dflt KP)).2).2).2).2).1) (((((((List.getD p1 (0) (Kd.dflt KP)).2).2).2).2).2).1) _ h840), (exchange_Open_ok k x839.1 _ h842), (exchange_Hear_n_ok k p4 x841.1 x841.2.1 x841.2.2.1 x841.2.2.2.1 x841.2.2.2.2.1 x841.2.2.2.2.2 _ h844), h845, h845, h845, h846, h846, h846, h846, (rfl : false = false), (rfl : false = false), (rfl : false = false), (rfl : false = false), (rfl : false = false), (rfl : false = false), (rfl : false = false), (rfl : false = false), (rfl : false = false), trivial⟩ (by kernel_rfl)
    · replace h := Option.some.inj h; subst h
      exact Abs.Good.path_ret hm [.cond false, .reg [(4, { call := some { lend := [], pass := [], res := .t [.agg [.p (Kd.sl KI) x839.1], .p (Kd.sl KP) x839.2.1, .p (Kd.int .i64) x839.2.2], outs := [], back := [] } })], .reg [(2, { call := some { lend := [], pass := [], res := .v (.agg [.p (Kd.int .i64) x841.1, .p (Kd.arr 16 (Kd.int .u8)) x841.2.1, .p (Kd.int .i64) x841.2.2.1, .p (Kd.arr 16 (Kd.int .u8)) x841.2.2.2.1, .p (Kd.int .i64) x841.2.2.2.2.1, .nilsl, .p Kd.str x841.2.2.2.2.2]), outs := [], back := [] } }), (3, { call := some { lend := [], pass := [], res := .t [.agg [.p (Kd.sl KI) x843.1], .p (Kd.sl KP) x843.2.1, .p (Kd.int .i64) x843.2.2], outs := [], back := [] } })], .reg [(3, { dec := some false }), (4, { dec := some false }), (5, { pick := some false }), (7, { dec := some false }), (8, { dec := some false }), (9, { dec := some false }), (10, { pick := some false }), (12, { dec := some false }), (13, { dec := some false }), (14, { dec := some false }), (15, { dec := some false }), (16, { pick := some false }), (18, { dec := some false }), (19, { dec := some false }), (20, { dec := some false }), (21, { pick := some false })]] [] Tryd.func10 (cs := [_, _, _, _, _, _, _, _, _, _, _, _, _, _, _, _, _, _, _, _, _, _]) (by kernel_rfl) ⟨h837, (by decide : 0 ≤ (0 : Int)), h838, (exchange_Hear_ok k p3 ((List.getD p1 (0) (Kd.dflt KP)).1) ((((List.getD p1 (0) (Kd.dflt KP)).2).1).1) (((((List.getD p1 (0) (Kd.dflt KP)).2).1).2).1) ((((List.getD p1 (0) (Kd.dflt KP)).2).2).1) (((((List.getD p1 (0) (Kd.dflt KP)).2).2).2).1) ((((((List.getD p1 (0) (Kd.dflt KP)).2).2).2).2).1) (((((((List.getD p1 (0) (Kd.dflt KP)).2).2).2).2).2).1) _ h840), (exchange_Open_ok k x839.1 _ h842), (exchange_Hear_n_ok k p4 x841.1 x841.2.1 x841.2.2.1 x841.2.2.2.1 x841.2.2.2.2.1 x841.2.2.2.2.2 _ h844), h845, h845, h845, (rfl : false = false), (rfl : false = false), (rfl : false = false), (rfl : false = false), (rfl : false = false), (rfl : false = false), (rfl : false = false), (rfl : false = false), (rfl : false = false), (rfl : false = false), (rfl : false = false), (rfl : false = false), (rfl : false = false), trivial⟩ (by kernel_rfl)
theorem antiquarylaw44_sanity_l2_ok (k : Nat) (p1 : List Pt) (p2 : Bool) (p3 : List It) (p4 : List It) (r : Bool) (h : antiquarylaw44_sanity_l2 k p1 p2 p3 p4 = some r) :
    Abs.Good P 10 Tryd.f10.ntmps [] [] (.v (.p Kd.bool r)) (pos Tryd.f10 [.r, .r, .r, .r, .c false, .r, .r, .c false, .r, .r]) [(sk 1, some (.v (.ptr 502001 0))), (sk 3, some (.v (.ptr 502002 0))), (sk 7, some (.v (.p (Kd.sl KP) p1))), (sk 112, some (.v (.p Kd.bool p2))), (ek 502001, some (.box [.p (Kd.sl KI) p3])), (ek 502002, some (.box [.p (Kd.sl KI) p4]))] := by
  unfold antiquarylaw44_sanity_l2 at h
  rcases br_inv h with ⟨h826, h⟩ | ⟨h826, h⟩
  · replace h := Option.some.inj h; subst h
    exact Abs.Good.path_ret hm [.cond true, .reg []] [] Tryd.func10 (cs := [_]) (by kernel_rfl) ⟨h826, trivial⟩ (by kernel_rfl)
  · obtain ⟨h827, h⟩ := gd_inv h
    obtain ⟨x828, h829, h⟩ := bind_inv h
    obtain ⟨h830, h⟩ := gd_inv h
    obtain ⟨x831, h832, h⟩ := bind_inv h
    rcases br_inv h with ⟨h833, h⟩ | ⟨h833, h⟩
    · exact Abs.Good.path hm [.cond false, .reg [(4, { call := some { lend := [], pass := [], res := .t [.agg [.p (Kd.sl KI) x828.1], .p (Kd.sl KP) x828.2.1, .p (Kd.int .i64) x828.2.2], outs := [], back := [] } })], .reg [(4, { call := some { lend := [], pass := [], res := .t [.agg [.p (Kd.sl KI) x831.1], .p (Kd.sl KP) x831.2.1, .p (Kd.int .i64) x831.2.2], outs := [], back := [] } })], .reg [(3, { dec := some true }), (4, { dec := some true }), (5, { pick := some true }), (7, { dec := some true }), (8, { dec := some true }), (9, { dec := some true }), (10, { pick := some true }), (12, { dec := some true }), (13, { dec := some true }), (14, { dec := some true }), (15, { dec := some true }), (16, { dec := some true }), (17, { pick := some true })], .keep [sk 1, sk 3, sk 9, sk 148, ek 502001, ek 502002], .ren [(502001, 503001), (502002, 503002)]] (cs := [_, _, _, _, _, _, _, _, _, _, _, _, _, _, _, _, _, _, _, _]) (by kernel_rfl) ⟨h826, (by decide : 0 ≤ (0 : Int)), h827, (exchange_Hear_ok k p4 ((List.getD p1 (0) (Kd.dflt KP)).1) ((((List.getD p1 (0) (Kd.dflt KP)).2).1).1) (((((List.getD p1 (0) (Kd.dflt KP)).2).1).2).1) ((((List.getD p1 (0) (Kd.dflt KP)).2).2).1) (((((List.getD p1 (0) (Kd.dflt KP)).2).2).2).1) ((((((List.getD p1 (0) (Kd.dflt KP)).2).2).2).2).1) (((((((List.getD p1 (0) (Kd.dflt KP)).2).2).2).2).2).1) _ h829), (by decide : 0 ≤ (1 : Int)), h830, (exchange_Hear_ok k x828.1 ((List.getD p1 (1) (Kd.dflt KP)).1) ((((List.getD p1 (1) (Kd.dflt KP)).2).1).1) (((((List.getD p1 (1) (Kd.dflt KP)).2).1).2).1) ((((List.getD p1 (1) (Kd.dflt KP)).2).2).1) (((((List.getD p1 (1) (Kd.dflt KP)).2).2).2).1) ((((((List.getD p1 (1) (Kd.dflt KP)).2).2).2).2).1) (((((((List.getD p1 (1) (Kd.dflt KP)).2).2).2).2).2).1) _ h832), h833, h833, h833, (rfl : true = true), (rfl : true = true), (rfl : true = true), (rfl : true = true), (rfl : true = true), (rfl : true = true), (rfl : true = true), (rfl : true = true), (rfl : true = true), (rfl : true = true), trivial⟩ (antiquarylaw44_sanity_l3_ok k x828.2.1 true p3 x831.1 r h)
    · rcases br_inv h with ⟨h834, h⟩ | ⟨h834, h⟩
      · exact Abs.Good.path hm [.cond false, .reg [(4, { call := some { lend := [], pass := [], res := .t [.agg [.p (Kd.sl KI) x828.1], .p (Kd.sl KP) x828.2.1, .p (Kd.int .i64) x828.2.2], outs := [], back := [] } })], .reg [(4, { call := some { lend := [], pass := [], res := .t [.agg [.p (Kd.sl KI) x831.1], .p (Kd.sl KP) x831.2.1, .p (Kd.int .i64) x831.2.2], outs := [], back := [] } })], .reg [(3, { dec := some false }), (4, { dec := some false }), (5, { pick := some false }), (7, { dec := some true }), (8, { dec := some true }), (9, { dec := some true }), (10, { pick := some true }), (12, { dec := some true }), (13, { dec := some true }), (14, { dec := some true }), (15, { dec := some true }), (16, { dec := some true }), (17, { pick := some true })], .keep [sk 1, sk 3, sk 9, sk 148, ek 502001, ek 502002], .ren [(502001, 503001), (502002, 503002)]] (cs := [_, _, _, _, _, _, _, _, _, _, _, _, _, _, _, _, _, _, _, _]) (by kernel_rfl) ⟨h826, (by decide : 0 ≤ (0 : Int)), h827, (exchange_Hear_ok k p4 ((List.getD p1 (0) (Kd.dflt KP)).1) ((((List.getD p1 (0) (Kd.dflt KP)).2).1).1) (((((List.getD p1 (0) (Kd.dflt KP)).2).1).2).1) ((((List.getD p1 (0) (Kd.dflt KP)).2).2).1) (((((List.getD p1 (0) (Kd.dflt KP)).2).2).2).1) ((((((List.getD p1 (0) (Kd.dflt KP)).2).2).2).2).1) (((((((List.getD p1 (0) (Kd.dflt KP)).2).2).2).2).2).1) _ h829), (by decide : 0 ≤ (1 : Int)), h830, (exchange_Hear_ok k x828.1 ((List.getD p1 (1) (Kd.dflt KP)).1) ((((List.getD p1 (1) (Kd.dflt KP)).2).1).1) (((((List.getD p1 (1) (Kd.dflt KP)).2).1).2).1) ((((List.getD p1 (1) (Kd.dflt KP)).2).2).1) (((((List.getD p1 (1) (Kd.dflt KP)).2).2).2).1) ((((((List.getD p1 (1) (Kd.dflt KP)).2).2).2).2).1) (((((((List.getD p1 (1) (Kd.dflt KP)).2).2).2).2).2).1) _ h832), h833, h833, h833, h834, h834, h834, h834, (rfl : true = true), (rfl : true = true), (rfl : true = true), (rfl : true = true), (rfl : true = true), (rfl : true = true), trivial⟩ (antiquarylaw44_sanity_l3_ok k x828.2.1 true p3 x831.1 r h)
      · rcases br_inv h with ⟨h835, h⟩ | ⟨h835, h⟩
        · exact Abs.Good.path hm [.cond false, .reg [(4, { call := some { lend := [], pass := [], res := .t [.agg [.p (Kd.sl KI) x828.1], .p (Kd.sl KP) x828.2.1, .p (Kd.int .i64) x828.2.2], outs := [], back := [] } })], .reg [(4, { call := some { lend := [], pass := [], res := .t [.agg [.p (Kd.sl KI) x831.1], .p (Kd.sl KP) x831.2.1, .p (Kd.int .i64) x831.2.2], outs := [], back := [] } })], .reg [(3, { dec := some false }), (4, { dec := some false }), (5, { pick := some false }), (7, { dec := some false }), (8, { dec := some false }), (9, { dec := some false }), (10, { pick := some false }), (12, { dec := some true }), (13, { dec := some true }), (14, { dec := some true }), (15, { dec := some true }), (16, { dec := some true }), (17, { pick := some true })], .keep [sk 1, sk 3, sk 9, sk 148, ek 502001, ek 502002], .ren [(502001, 503001), (502002, 503002)]] (cs := [_, _, _, _, _, _, _, _, _, _, _, _, _, _, _, _, _, _, _, _]) (by kernel_rfl) ⟨h826, (by decide : 0 ≤ (0 : Int)), h827, (exchange_Hear_ok k p4 ((List.getD p1 (0) (Kd.dflt KP)).1) ((((List.getD p1 (0) (Kd.dflt KP)).2).1).1) (((((List.getD p1 (0) (Kd.dflt KP)).2).1).2).1) ((((List.getD p1 (0) (Kd.dflt KP)).2).2).1) (((((List.getD p1 (0) (Kd.dflt KP)).2).2).2).1) ((((((List.getD p1 (0) (Kd.dflt KP)).2).2).2).2).1) (((((((List.getD p1 (0) (Kd.dflt KP)).2).2).2).2).2).1) _ h829), (by decide : 0 ≤ (1 : Int)), h830, (exchange_Hear_ok k x828.1 ((List.getD p1 (1) (Kd.dflt KP)).1) ((((List.getD p1 (1) (Kd.dflt KP)).2).1).1) (((((List.getD p1 (1) (Kd.dflt KP)).2).1).2).1) ((((List.getD p1 (1) (Kd.dflt KP)).2).2).1) (((((List.getD p1 (1) (Kd.dflt KP)).2).2).2).1) ((((((List.getD p1 (1) (Kd.dflt KP)).2).2).2).2).1) (((((((List.getD p1 (1) (Kd.dflt KP)).2).2).2).2).2).1) _ h832), h833, h833, h833, h834, h834, h834, h834, h835, h835, h835, h835, h835, h835, trivial⟩ (antiquarylaw44_sanity_l3_ok k x828.2.1 true p3 x831.1 r h)
        · obtain ⟨h836, h⟩ := gd_inv h
          exact Abs.Good.path hm [.cond false, .reg [(4, { call := some { lend := [], pass := [], res := .t [.agg [.p (Kd.sl KI) x828.1], .p (Kd.sl KP) x828.2.1, .p (Kd.int .i64) x828.2.2], outs := [], back := [] } })], .reg [(4, { call := some { lend := [], pass := [], res := .t [.agg [.p (Kd.sl KI) x831.1], .p (Kd.sl KP) x831.2.1, .p (Kd.int .i64) x831.2.2], outs := [], back := [] } })], .reg [(3, { dec := some false }), (4, { dec := some false }), (5, { pick := some false }), (7, { dec := some false }), (8, { dec := some false }), (9, { dec := some false }), (10, { pick := some false }), (12, { dec := some false }), (13, { dec := some false }), (14, { dec := some false }), (15, { dec := some false }), (16, { dec := some false }), (17, { pick := some false })], .keep [sk 1, sk 3, sk 9, sk 148, ek 502001, ek 502002], .ren [(502001, 503001), (502002, 503002)]] (cs := [_, _, _, _, _, _, _, _, _, _, _, _, _, _, _, _, _, _, _, _, _, _]) (by kernel_rfl) ⟨h826, (by decide : 0 ≤ (0 : Int)), h827, (exchange_Hear_ok k p4 ((List.getD p1 (0) (Kd.dflt KP)).1) ((((List.getD p1 (0) (Kd.dflt KP)).2).1).1) (((((List.getD p1 (0) (Kd.dflt KP)).2).1).2).1) ((((List.getD p1 (0) (Kd.dflt KP)).2).2).1) (((((List.getD p1 (0) (Kd.dflt KP)).2).2).2).1) ((((((List.getD p1 (0) (Kd.dflt KP)).2).2).2).2).1) (((((((List.getD p1 (0) (Kd.dflt KP)).2).2).2).2).2).1) _ h829), (by decide : 0 ≤ (1 : Int)), h830, (exchange_Hear_ok k x828.1 ((List.getD p1 (1) (Kd.dflt KP)).1) ((((List.getD p1 (1) (Kd.dflt KP)).2).1).1) (((((List.getD p1 (1) (Kd.dflt KP)).2).1).2).1) ((((List.getD p1 (1) (Kd.dflt KP)).2).2).1) (((((List.getD p1 (1) (Kd.dflt KP)).2).2).2).1) ((((((List.getD p1 (1) (Kd.dflt KP)).2).2).2).2).1) (((((((List.getD p1 (1) (Kd.dflt KP)).2).2).2).2).2).1) _ h832), h833, h833, h833, h834, h834, h834, h834, h835, h835, (by decide : 0 ≤ (0 : Int)), h836, h835, h835, h835, h835, trivial⟩ (antiquarylaw44_sanity_l3_ok k x828.2.1 (!(ByteArray.toList (((((((List.getD x828.2.1 (0) (Kd.dflt KP)).2).2).2).2).2).1) == ByteArray.toList (⟨#[122]⟩ : ByteArray))) p3 x831.1 r h)
theorem antiquarylaw44_sanity_l1_ok (k : Nat) (p1 : List Pt) (p2 : Bool) (p3 : List It) (p4 : List It) (r : Bool) (h : antiquarylaw44_sanity_l1 k p1 p2 p3 p4 = some r) :
    Abs.Good P 10 Tryd.f10.ntmps [] [] (.v (.p Kd.bool r)) (pos Tryd.f10 [.r, .r, .r, .r, .c false, .r, .r]) [(sk 1, some (.v (.ptr 501001 0))), (sk 3, some (.v (.ptr 501002 0))), (sk 5, some (.v (.p (Kd.sl KP) p1))), (sk 74, some (.v (.p Kd.bool p2))), (ek 501001, some (.box [.p (Kd.sl KI) p3])), (ek 501002, some (.box [.p (Kd.sl KI) p4]))] := by
  unfold antiquarylaw44_sanity_l1 at h
  rcases br_inv h with ⟨h816, h⟩ | ⟨h816, h⟩
  · replace h := Option.some.inj h; subst h
    exact Abs.Good.path_ret hm [.cond true, .reg []] [] Tryd.func10 (cs := [_]) (by kernel_rfl) ⟨h816, trivial⟩ (by kernel_rfl)
  · obtain ⟨h817, h⟩ := gd_inv h
    obtain ⟨x818, h819, h⟩ := bind_inv h
    rcases br_inv h with ⟨h820, h⟩ | ⟨h820, h⟩
    · exact Abs.Good.path hm [.cond false, .reg [(4, { call := some { lend := [], pass := [], res := .t [.agg [.p (Kd.sl KI) x818.1], .p (Kd.sl KP) x818.2.1, .p (Kd.int .i64) x818.2.2], outs := [], back := [] } })], .reg [(3, { dec := some true }), (4, { dec := some true }), (5, { dec := some true }), (6, { pick := some true }), (8, { dec := some true }), (9, { dec := some true }), (10, { dec := some true }), (11, { dec := some true }), (12, { dec := some true }), (13, { pick := some true }), (15, { dec := some true }), (16, { dec := some true }), (17, { dec := some true }), (18, { dec := some true }), (19, { dec := some true }), (20, { dec := some true }), (21, { pick := some true }), (23, { dec := some true }), (24, { dec := some true }), (25, { dec := some true }), (26, { dec := some true }), (27, { dec := some true }), (28, { pick := some true })], .keep [sk 1, sk 3, sk 7, sk 112, ek 501001, ek 501002], .ren [(501001, 502001), (501002, 502002)]] (cs := [_, _, _, _, _, _, _, _, _, _, _, _, _, _, _, _, _, _, _, _, _, _, _, _, _, _, _]) (by kernel_rfl) ⟨h816, (by decide : 0 ≤ (0 : Int)), h817, (exchange_Hear_ok k p3 ((List.getD p1 (0) (Kd.dflt KP)).1) ((((List.getD p1 (0) (Kd.dflt KP)).2).1).1) (((((List.getD p1 (0) (Kd.dflt KP)).2).1).2).1) ((((List.getD p1 (0) (Kd.dflt KP)).2).2).1) (((((List.getD p1 (0) (Kd.dflt KP)).2).2).2).1) ((((((List.getD p1 (0) (Kd.dflt KP)).2).2).2).2).1) (((((((List.getD p1 (0) (Kd.dflt KP)).2).2).2).2).2).1) _ h819), h820, h820, h820, h820, (rfl : true = true), (rfl : true = true), (rfl : true = true), (rfl : true = true), (rfl : true = true), (rfl : true = true), (rfl : true = true), (rfl : true = true), (rfl : true = true), (rfl : true = true), (rfl : true = true), (rfl : true = true), (rfl : true = true), (rfl : true = true), (rfl : true = true), (rfl : true = true), (rfl : true = true), (rfl : true = true), (rfl : true = true), trivial⟩ (antiquarylaw44_sanity_l2_ok k x818.2.1 true x818.1 p4 r h)
    · rcases br_inv h with ⟨h821, h⟩ | ⟨h821, h⟩
      · exact Abs.Good.path hm [.cond false, .reg [(4, { call := some { lend := [], pass := [], res := .t [.agg [.p (Kd.sl KI) x818.1], .p (Kd.sl KP) x818.2.1, .p (Kd.int .i64) x818.2.2], outs := [], back := [] } })], .reg [(3, { dec := some false }), (4, { dec := some false }), (5, { dec := some false }), (6, { pick := some false }), (8, { dec := some true }), (9, { dec := some true }), (10, { dec := some true }), (11, { dec := some true }), (12, { dec := some true }), (13, { pick := some true }), (15, { dec := some true }), (16, { dec := some true }), (17, { dec := some true }), (18, { dec := some true }), (19, { dec := some true }), (20, { dec := some true }), (21, { pick := some true }), (23, { dec := some true }), (24, { dec := some true }), (25, { dec := some true }), (26, { dec := some true }), (27, { dec := some true }), (28, { pick := some true })], .keep [sk 1, sk 3, sk 7, sk 112, ek 501001, ek 501002], .ren [(501001, 502001), (501002, 502002)]] (cs := [_, _, _, _, _, _, _, _, _, _, _, _, _, _, _, _, _, _, _, _, _, _, _, _, _, _, _]) (by kernel_rfl) ⟨h816, (by decide : 0 ≤ (0 : Int)), h817, (exchange_Hear_ok k p3 ((List.getD p1 (0) (Kd.dflt KP)).1) ((((List.getD p1 (0) (Kd.dflt KP)).2).1).1) (((((List.getD p1 (0) (Kd.dflt KP)).2).1).2).1) ((((List.getD p1 (0) (Kd.dflt KP)).2).2).1) (((((List.getD p1 (0) (Kd.dflt KP)).2).2).2).1) ((((((List.getD p1 (0) (Kd.dflt KP)).2).2).2).2).1) (((((((List.getD p1 (0) (Kd.dflt KP)).2).2).2).2).2).1) _ h819), h820, h820, h820, h820, h821, h821, h821, h821, h821, h821, (rfl : true = true), (rfl : true = true), (rfl : true = true), (rfl : true = true), (rfl : true = true), (rfl : true = true), (rfl : true = true), (rfl : true = true), (rfl : true = true), (rfl : true = true), (rfl : true = true), (rfl : true = true), (rfl : true = true), trivial⟩ (antiquarylaw44_sanity_l2_ok k x818.2.1 true x818.1 p4 r h)
      · obtain ⟨h822, h⟩ := gd_inv h
        rcases br_inv h with ⟨h823, h⟩ | ⟨h823, h⟩
        · exact Abs.Good.path hm [.cond false, .reg [(4, { call := some { lend := [], pass := [], res := .t [.agg [.p (Kd.sl KI) x818.1], .p (Kd.sl KP) x818.2.1, .p (Kd.int .i64) x818.2.2], outs := [], back := [] } })], .reg [(3, { dec := some false }), (4, { dec := some false }), (5, { dec := some false }), (6, { pick := some false }), (8, { dec := some false }), (9, { dec := some false }), (10, { dec := some false }), (11, { dec := some false }), (12, { dec := some false }), (13, { pick := some false }), (15, { dec := some true }), (16, { dec := some true }), (17, { dec := some true }), (18, { dec := some true }), (19, { dec := some true }), (20, { dec := some true }), (21, { pick := some true }), (23, { dec := some true }), (24, { dec := some true }), (25, { dec := some true }), (26, { dec := some true }), (27, { dec := some true }), (28, { pick := some true })], .keep [sk 1, sk 3, sk 7, sk 112, ek 501001, ek 501002], .ren [(501001, 502001), (501002, 502002)]] (cs := [_, _, _, _, _, _, _, _, _, _, _, _, _, _, _, _, _, _, _, _, _, _, _, _, _, _, _, _, _]) (by kernel_rfl) ⟨h816, (by decide : 0 ≤ (0 : Int)), h817, (exchange_Hear_ok k p3 ((List.getD p1 (0) (Kd.dflt KP)).1) ((((List.getD p1 (0) (Kd.dflt KP)).2).1).1) (((((List.getD p1 (0) (Kd.dflt KP)).2).1).2).1) ((((List.getD p1 (0) (Kd.dflt KP)).2).2).1) (((((List.getD p1 (0) (Kd.dflt KP)).2).2).2).1) ((((((List.getD p1 (0) (Kd.dflt KP)).2).2).2).2).1) (((((((List.getD p1 (0) (Kd.dflt KP)).2).2).2).2).2).1) _ h819), h820, h820, h820, h820, h821, h821, (by decide : 0 ≤ (0 : Int)), h822, h821, h821, h821, h821, h823, h823, h823, h823, h823, h823, h823, (rfl : true = true), (rfl : true = true), (rfl : true = true), (rfl : true = true), (rfl : true = true), (rfl : true = true), trivial⟩ (antiquarylaw44_sanity_l2_ok k x818.2.1 true x818.1 p4 r h)
        · rcases br_inv h with ⟨h824, h⟩ | ⟨h824, h⟩
          · exact Abs.Good.path hm [.cond false, .reg [(4, { call := some { lend := [], pass := [], res := .t [.agg [.p (Kd.sl KI) x818.1], .p (Kd.sl KP) x818.2.1, .p (Kd.int .i64) x818.2.2], outs := [], back := [] } })], .reg [(3, { dec := some false }), (4, { dec := some false }), (5, { dec := some false }), (6, { pick := some false }), (8, { dec := some false }), (9, { dec := some false }), (10, { dec := some false }), (11, { dec := some false }), (12, { dec := some false }), (13, { pick := some false }), (15, { dec := some false }), (16, { dec := some false }), (17, { dec := some false }), (18, { dec := some false }), (19, { dec := some false }), (20, { dec := some false }), (21, { pick := some false }), (23, { dec := some true }), (24, { dec := some true }), (25, { dec := some true }), (26, { dec := some true }), (27, { dec := some true }), (28, { pick := some true })], .keep [sk 1, sk 3, sk 7, sk 112, ek 501001, ek 501002], .ren [(501001, 502001), (501002, 502002)]] (cs := [_, _, _, _, _, _, _, _, _, _, _, _, _, _, _, _, _, _, _, _, _, _, _, _, _, _, _, _, _, _, _]) (by kernel_rfl) ⟨h816, (by decide : 0 ≤ (0 : Int)), h817, (exchange_Hear_ok k p3 ((List.getD p1 (0) (Kd.dflt KP)).1) ((((List.getD p1 (0) (Kd.dflt KP)).2).1).1) (((((List.getD p1 (0) (Kd.dflt KP)).2).1).2).1) ((((List.getD p1 (0) (Kd.dflt KP)).2).2).1) (((((List.getD p1 (0) (Kd.dflt KP)).2).2).2).1) ((((((List.getD p1 (0) (Kd.dflt KP)).2).2).2).2).1) (((((((List.getD p1 (0) (Kd.dflt KP)).2).2).2).2).2).1) _ h819), h820, h820, h820, h820, h821, h821, (by decide : 0 ≤ (0 : Int)), h822, h821, h821, h821, h821, h823, h823, (by decide : 0 ≤ (0 : Int)), h822, h823, h823, h823, h823, h823, h824, h824, h824, h824, h824, h824, trivial⟩ (antiquarylaw44_sanity_l2_ok k x818.2.1 true x818.1 p4 r h)
          · obtain ⟨h825, h⟩ := gd_inv h
            exact Abs.Good.path hm [.cond false, .reg [(4, { call := some { lend := [], pass := [], res := .t [.agg [.p (Kd.sl KI) x818.1], .p (Kd.sl KP) x818.2.1, .p (Kd.int .i64) x818.2.2], outs := [], back := [] } })], .reg [(3, { dec := some false }), (4, { dec := some false }), (5, { dec := some false }), (6, { pick := some false }), (8, { dec := some false }), (9, { dec := some false }), (10, { dec := some false }), (11, { dec := some false }), (12, { dec := some false }), (13, { pick := some false }), (15, { dec := some false }), (16, { dec := some false }), (17, { dec := some false }), (18, { dec := some false }), (19, { dec := some false }), (20, { dec := some false }), (21, { pick := some false }), (23, { dec := some false }), (24, { dec := some false }), (25, { dec := some false }), (26, { dec := some false }), (27, { dec := some false }), (28, { pick := some false })], .keep [sk 1, sk 3, sk 7, sk 112, ek 501001, ek 501002], .ren [(501001, 502001), (501002, 502002)]] (cs := [_, _, _, _, _, _, _, _, _, _, _, _, _, _, _, _, _, _, _, _, _, _, _, _, _, _, _, _, _, _, _, _, _]) (by kernel_rfl) ⟨h816, (by decide : 0 ≤ (0 : Int)), h817, (exchange_Hear_ok k p3 ((List.getD p1 (0) (Kd.dflt KP)).1) ((((List.getD p1 (0) (Kd.dflt KP)).2).1).1) (((((List.getD p1 (0) (Kd.dflt KP)).2).1).2).1) ((((List.getD p1 (0) (Kd.dflt KP)).2).2).1) (((((List.getD p1 (0) (Kd.dflt KP)).2).2).2).1) ((((((List.getD p1 (0) (Kd.dflt KP)).2).2).2).2).1) (((((((List.getD p1 (0) (Kd.dflt KP)).2).2).2).2).2).1) _ h819), h820, h820, h820, h820, h821, h821, (by decide : 0 ≤ (0 : Int)), h822, h821, h821, h821, h821, h823, h823, (by decide : 0 ≤ (0 : Int)), h822, h823, h823, h823, h823, h823, h824, h824, (by decide : 0 ≤ (1 : Int)), h825, h824, h824, h824, h824, trivial⟩ (antiquarylaw44_sanity_l2_ok k x818.2.1 (!(ByteArray.toList (((((((List.getD x818.2.1 (1) (Kd.dflt KP)).2).2).2).2).2).1) == ByteArray.toList (⟨#[120]⟩ : ByteArray))) x818.1 p4 r h)
theorem antiquarylaw44_sanity_l0_ok (k : Nat) (p1 : Bool) (p2 : List It) (p3 : List It) (r : Bool) (h : antiquarylaw44_sanity_l0 k p1 p2 p3 = some r) :
    Abs.Good P 10 Tryd.f10.ntmps [] [] (.v (.p Kd.bool r)) (pos Tryd.f10 [.r, .r, .r, .r]) [(sk 1, some (.v (.ptr 500001 0))), (sk 3, some (.v (.ptr 500002 0))), (sk 44, some (.v (.p Kd.bool p1))), (ek 500001, some (.box [.p (Kd.sl KI) p2])), (ek 500002, some (.box [.p (Kd.sl KI) p3]))] := by
  unfold antiquarylaw44_sanity_l0 at h
  rcases br_inv h with ⟨h807, h⟩ | ⟨h807, h⟩
  · replace h := Option.some.inj h; subst h
    exact Abs.Good.path_ret hm [.cond true, .reg []] [] Tryd.func10 (cs := [_]) (by kernel_rfl) ⟨h807, trivial⟩ (by kernel_rfl)
  · obtain ⟨x808, h809, h⟩ := bind_inv h
    obtain ⟨x810, h811, h⟩ := bind_inv h
    rcases br_inv h with ⟨h812, h⟩ | ⟨h812, h⟩
    · exact Abs.Good.path hm [.cond false, .reg [(2, { call := some { lend := [], pass := [], res := .v (.agg [.p (Kd.int .i64) x808.1, .p (Kd.arr 16 (Kd.int .u8)) x808.2.1, .p (Kd.int .i64) x808.2.2.1, .p (Kd.arr 16 (Kd.int .u8)) x808.2.2.2.1, .p (Kd.int .i64) x808.2.2.2.2.1, .nilsl, .p Kd.str x808.2.2.2.2.2]), outs := [], back := [] } }), (3, { call := some { lend := [], pass := [], res := .t [.agg [.p (Kd.sl KI) x810.1], .p (Kd.sl KP) x810.2.1, .p (Kd.int .i64) x810.2.2], outs := [], back := [] } })], .reg [(3, { dec := some true }), (4, { dec := some true }), (5, { dec := some true }), (6, { pick := some true }), (8, { dec := some true }), (9, { dec := some true }), (10, { dec := some true }), (11, { dec := some true }), (12, { dec := some true }), (13, { pick := some true }), (15, { dec := some true }), (16, { dec := some true }), (17, { dec := some true }), (18, { dec := some true }), (19, { dec := some true }), (20, { dec := some true }), (21, { pick := some true })], .keep [sk 1, sk 3, sk 5, sk 74, ek 500001, ek 500002], .ren [(500001, 501001), (500002, 501002)]] (cs := [_, _, _, _, _, _, _, _, _, _, _, _, _, _, _, _, _, _, _, _]) (by kernel_rfl) ⟨h807, (exchange_Open_ok k p2 _ h809), (exchange_Hear_n_ok k p3 x808.1 x808.2.1 x808.2.2.1 x808.2.2.2.1 x808.2.2.2.2.1 x808.2.2.2.2.2 _ h811), h812, h812, h812, h812, (rfl : true = true), (rfl : true = true), (rfl : true = true), (rfl : true = true), (rfl : true = true), (rfl : true = true), (rfl : true = true), (rfl : true = true), (rfl : true = true), (rfl : true = true), (rfl : true = true), (rfl : true = true), (rfl : true = true), trivial⟩ (antiquarylaw44_sanity_l1_ok k x810.2.1 true p2 x810.1 r h)
    · rcases br_inv h with ⟨h813, h⟩ | ⟨h813, h⟩
      · exact Abs.Good.path hm [.cond false, .reg [(2, { call := some { lend := [], pass := [], res := .v (.agg [.p (Kd.int .i64) x808.1, .p (Kd.arr 16 (Kd.int .u8)) x808.2.1, .p (Kd.int .i64) x808.2.2.1, .p (Kd.arr 16 (Kd.int .u8)) x808.2.2.2.1, .p (Kd.int .i64) x808.2.2.2.2.1, .nilsl, .p Kd.str x808.2.2.2.2.2]), outs := [], back := [] } }), (3, { call := some { lend := [], pass := [], res := .t [.agg [.p (Kd.sl KI) x810.1], .p (Kd.sl KP) x810.2.1, .p (Kd.int .i64) x810.2.2], outs := [], back := [] } })], .reg [(3, { dec := some false }), (4, { dec := some false }), (5, { dec := some false }), (6, { pick := some false }), (8, { dec := some true }), (9, { dec := some true }), (10, { dec := some true }), (11, { dec := some true }), (12, { dec := some true }), (13, { pick := some true }), (15, { dec := some true }), (16, { dec := some true }), (17, { dec := some true }), (18, { dec := some true }), (19, { dec := some true }), (20, { dec := some true }), (21, { pick := some true })], .keep [sk 1, sk 3, sk 5, sk 74, ek 500001, ek 500002], .ren [(500001, 501001), (500002, 501002)]] (cs := [_, _, _, _, _, _, _, _, _, _, _, _, _, _, _, _, _, _, _, _]) (by kernel_rfl) ⟨h807, (exchange_Open_ok k p2 _ h809), (exchange_Hear_n_ok k p3 x808.1 x808.2.1 x808.2.2.1 x808.2.2.2.1 x808.2.2.2.2.1 x808.2.2.2.2.2 _ h811), h812, h812, h812, h812, h813, h813, h813, h813, h813, h813, (rfl : true = true), (rfl : true = true), (rfl : true = true), (rfl : true = true), (rfl : true = true), (rfl : true = true), (rfl : true = true), trivial⟩ (antiquarylaw44_sanity_l1_ok k x810.2.1 true p2 x810.1 r h)
      · obtain ⟨h814, h⟩ := gd_inv h
        rcases br_inv h with ⟨h815, h⟩ | ⟨h815, h⟩
        · exact Abs.Good.path hm [.cond false, .reg [(2, { call := some { lend := [], pass := [], res := .v (.agg [.p (Kd.int .i64) x808.1, .p (Kd.arr 16 (Kd.int .u8)) x808.2.1, .p (Kd.int .i64) x808.2.2.1, .p (Kd.arr 16 (Kd.int .u8)) x808.2.2.2.1, .p (Kd.int .i64) x808.2.2.2.2.1, .nilsl, .p Kd.str x808.2.2.2.2.2]), outs := [], back := [] } }), (3, { call := some { lend := [], pass := [], res := .t [.agg [.p (Kd.sl KI) x810.1], .p (Kd.sl KP) x810.2.1, .p (Kd.int .i64) x810.2.2], outs := [], back := [] } })], .reg [(3, { dec := some false }), (4, { dec := some false }), (5, { dec := some false }), (6, { pick := some false }), (8, { dec := some false }), (9, { dec := some false }), (10, { dec := some false }), (11, { dec := some false }), (12, { dec := some false }), (13, { pick := some false }), (15, { dec := some true }), (16, { dec := some true }), (17, { dec := some true }), (18, { dec := some true }), (19, { dec := some true }), (20, { dec := some true }), (21, { pick := some true })], .keep [sk 1, sk 3, sk 5, sk 74, ek 500001, ek 500002], .ren [(500001, 501001), (500002, 501002)]] (cs := [_, _, _, _, _, _, _, _, _, _, _, _, _, _, _, _, _, _, _, _, _, _]) (by kernel_rfl) ⟨h807, (exchange_Open_ok k p2 _ h809), (exchange_Hear_n_ok k p3 x808.1 x808.2.1 x808.2.2.1 x808.2.2.2.1 x808.2.2.2.2.1 x808.2.2.2.2.2 _ h811), h812, h812, h812, h812, h813, h813, (by decide : 0 ≤ (0 : Int)), h814, h813, h813, h813, h813, h815, h815, h815, h815, h815, h815, h815, trivial⟩ (antiquarylaw44_sanity_l1_ok k x810.2.1 true p2 x810.1 r h)
        · exact Abs.Good.path hm [.cond false, .reg [(2, { call := some { lend := [], pass := [], res := .v (.agg [.p (Kd.int .i64) x808.1, .p (Kd.arr 16 (Kd.int .u8)) x808.2.1, .p (Kd.int .i64) x808.2.2.1, .p (Kd.arr 16 (Kd.int .u8)) x808.2.2.2.1, .p (Kd.int .i64) x808.2.2.2.2.1, .nilsl, .p Kd.str x808.2.2.2.2.2]), outs := [], back := [] } }), (3, { call := some { lend := [], pass := [], res := .t [.agg [.p (Kd.sl KI) x810.1], .p (Kd.sl KP) x810.2.1, .p (Kd.int .i64) x810.2.2], outs := [], back := [] } })], .reg [(3, { dec := some false }), (4, { dec := some false }), (5, { dec := some false }), (6, { pick := some false }), (8, { dec := some false }), (9, { dec := some false }), (10, { dec := some false }), (11, { dec := some false }), (12, { dec := some false }), (13, { pick := some false }), (15, { dec := some false }), (16, { dec := some false }), (17, { dec := some false }), (18, { dec := some false }), (19, { dec := some false }), (20, { dec := some false }), (21, { pick := some false })], .keep [sk 1, sk 3, sk 5, sk 74, ek 500001, ek 500002], .ren [(500001, 501001), (500002, 501002)]] (cs := [_, _, _, _, _, _, _, _, _, _, _, _, _, _, _, _, _, _, _, _, _, _, _, _]) (by kernel_rfl) ⟨h807, (exchange_Open_ok k p2 _ h809), (exchange_Hear_n_ok k p3 x808.1 x808.2.1 x808.2.2.1 x808.2.2.2.1 x808.2.2.2.2.1 x808.2.2.2.2.2 _ h811), h812, h812, h812, h812, h813, h813, (by decide : 0 ≤ (0 : Int)), h814, h813, h813, h813, h813, h815, h815, (by decide : 0 ≤ (0 : Int)), h814, h815, h815, h815, h815, h815, trivial⟩ (antiquarylaw44_sanity_l1_ok k x810.2.1 ((List.length ((((((List.getD x810.2.1 (0) (Kd.dflt KP)).2).2).2).2).1) : Int) != (2 : Int)) p2 x810.1 r h)
theorem antiquarylaw44_sanity_ok (k : Nat) (r : Bool) (h : antiquarylaw44_sanity k = some r) : SpecOk P ⟨10, [], [], .v (.p Kd.bool r), []⟩ := by
  refine spec_at Tryd.func10 (by kernel_rfl) (Nat.le_of_ble_eq_true (by kernel_rfl)) ?_
  unfold antiquarylaw44_sanity at h
  obtain ⟨x798, h799, h⟩ := bind_inv h
  obtain ⟨x800, h801, h⟩ := bind_inv h
  rcases br_inv h with ⟨h802, h⟩ | ⟨h802, h⟩
  · exact Abs.Good.path hm [.reg [], .reg [(1, { call := some { lend := [(19, true)], pass := [], res := .t [.agg [.p (Kd.sl KI) x798.1], .p Kd.bool x798.2], outs := [], back := [] } })], .reg [(1, { call := some { lend := [(24, true)], pass := [], res := .t [.agg [.p (Kd.sl KI) x800.1], .p Kd.bool x800.2], outs := [], back := [] } })], .reg [(3, { dec := some true }), (4, { dec := some true }), (5, { pick := some true }), (7, { dec := some true }), (8, { dec := some true }), (9, { dec := some true }), (10, { dec := some true }), (11, { pick := some true }), (13, { dec := some true }), (14, { dec := some true }), (15, { dec := some true }), (16, { pick := some true })], .keep [sk 1, sk 3, sk 44, ek 1, ek 3], .ren [(1, 500001), (3, 500002)]] (cs := [_, _, _, _, _, _, _, _, _, _, _, _, _, _, _, _]) (by kernel_rfl) ⟨(antiquarylaw44_of_ok k ([(⟨#[120]⟩ : ByteArray), (⟨#[121]⟩ : ByteArray)] : List ByteArray) _ h799), (rfl : 2 = List.length ([(⟨#[120]⟩ : ByteArray), (⟨#[121]⟩ : ByteArray)] : List ByteArray)), (antiquarylaw44_of_ok k ([(⟨#[121]⟩ : ByteArray), (⟨#[122]⟩ : ByteArray)] : List ByteArray) _ h801), (rfl : 2 = List.length ([(⟨#[121]⟩ : ByteArray), (⟨#[122]⟩ : ByteArray)] : List ByteArray)), h802, h802, h802, (rfl : true = true), (rfl : true = true), (rfl : true = true), (rfl : true = true), (rfl : true = true), (rfl : true = true), (rfl : true = true), (rfl : true = true), (rfl : true = true), trivial⟩ (antiquarylaw44_sanity_l0_ok k true x798.1 x800.1 r h)
  · rcases br_inv h with ⟨h803, h⟩ | ⟨h803, h⟩
    · exact Abs.Good.path hm [.reg [], .reg [(1, { call := some { lend := [(19, true)], pass := [], res := .t [.agg [.p (Kd.sl KI) x798.1], .p Kd.bool x798.2], outs := [], back := [] } })], .reg [(1, { call := some { lend := [(24, true)], pass := [], res := .t [.agg [.p (Kd.sl KI) x800.1], .p Kd.bool x800.2], outs := [], back := [] } })], .reg [(3, { dec := some false }), (4, { dec := some false }), (5, { pick := some false }), (7, { dec := some true }), (8, { dec := some true }), (9, { dec := some true }), (10, { dec := some true }), (11, { pick := some true }), (13, { dec := some true }), (14, { dec := some true }), (15, { dec := some true }), (16, { pick := some true })], .keep [sk 1, sk 3, sk 44, ek 1, ek 3], .ren [(1, 500001), (3, 500002)]] (cs := [_, _, _, _, _, _, _, _, _, _, _, _, _, _, _, _]) (by kernel_rfl) ⟨(antiquarylaw44_of_ok k ([(⟨#[120]⟩ : ByteArray), (⟨#[121]⟩ : ByteArray)] : List ByteArray) _ h799), (rfl : 2 = List.length ([(⟨#[120]⟩ : ByteArray), (⟨#[121]⟩ : ByteArray)] : List ByteArray)), (antiquarylaw44_of_ok k ([(⟨#[121]⟩ : ByteArray), (⟨#[122]⟩ : ByteArray)] : List ByteArray) _ h801), (rfl : 2 = List.length ([(⟨#[121]⟩ : ByteArray), (⟨#[122]⟩ : ByteArray)] : List ByteArray)), h802, h802, h802, h803, h803, h803, h803, h803, (rfl : true = true), (rfl : true = true), (rfl : true = true), (rfl : true = true), trivial⟩ (antiquarylaw44_sanity_l0_ok k true x798.1 x800.1 r h)
    · rcases br_inv h with ⟨h804, h⟩ | ⟨h804, h⟩
      · exact Abs.Good.path hm [.reg [], .reg [(1, { call := some { lend := [(19, true)], pass := [], res := .t [.agg [.p (Kd.sl KI) x798.1], .p Kd.bool x798.2], outs := [], back := [] } })], .reg [(1, { call := some { lend := [(24, true)], pass := [], res := .t [.agg [.p (Kd.sl KI) x800.1], .p Kd.bool x800.2], outs := [], back := [] } })], .reg [(3, { dec := some false }), (4, { dec := some false }), (5, { pick := some false }), (7, { dec := some false }), (8, { dec := some false }), (9, { dec := some false }), (10, { dec := some false }), (11, { pick := some false }), (13, { dec := some true }), (14, { dec := some true }), (15, { dec := some true }), (16, { pick := some true })], .keep [sk 1, sk 3, sk 44, ek 1, ek 3], .ren [(1, 500001), (3, 500002)]] (cs := [_, _, _, _, _, _, _, _, _, _, _, _, _, _, _, _]) (by kernel_rfl) ⟨(antiquarylaw44_of_ok k ([(⟨#[120]⟩ : ByteArray), (⟨#[121]⟩ : ByteArray)] : List ByteArray) _ h799), (rfl : 2 = List.length ([(⟨#[120]⟩ : ByteArray), (⟨#[121]⟩ : ByteArray)] : List ByteArray)), (antiquarylaw44_of_ok k ([(⟨#[121]⟩ : ByteArray), (⟨#[122]⟩ : ByteArray)] : List ByteArray) _ h801), (rfl : 2 = List.length ([(⟨#[121]⟩ : ByteArray), (⟨#[122]⟩ : ByteArray)] : List ByteArray)), h802, h802, h802, h803, h803, h803, h803, h803, h804, h804, h804, h804, trivial⟩ (antiquarylaw44_sanity_l0_ok k true x798.1 x800.1 r h)
      · obtain ⟨x805, h806, h⟩ := bind_inv h
        exact Abs.Good.path hm [.reg [], .reg [(1, { call := some { lend := [(19, true)], pass := [], res := .t [.agg [.p (Kd.sl KI) x798.1], .p Kd.bool x798.2], outs := [], back := [] } })], .reg [(1, { call := some { lend := [(24, true)], pass := [], res := .t [.agg [.p (Kd.sl KI) x800.1], .p Kd.bool x800.2], outs := [], back := [] } })], .reg [(3, { dec := some false }), (4, { dec := some false }), (5, { pick := some false }), (7, { dec := some false }), (8, { dec := some false }), (9, { dec := some false }), (10, { dec := some false }), (11, { pick := some false }), (13, { dec := some false }), (14, { dec := some false, call := some { lend := [], pass := [], res := .v (.p Kd.bool x805), outs := [], back := [] } }), (15, { dec := some false }), (16, { pick := some false })], .keep [sk 1, sk 3, sk 44, ek 1, ek 3], .ren [(1, 500001), (3, 500002)]] (cs := [_, _, _, _, _, _, _, _, _, _, _, _, _, _, _, _, _]) (by kernel_rfl) ⟨(antiquarylaw44_of_ok k ([(⟨#[120]⟩ : ByteArray), (⟨#[121]⟩ : ByteArray)] : List ByteArray) _ h799), (rfl : 2 = List.length ([(⟨#[120]⟩ : ByteArray), (⟨#[121]⟩ : ByteArray)] : List ByteArray)), (antiquarylaw44_of_ok k ([(⟨#[121]⟩ : ByteArray), (⟨#[122]⟩ : ByteArray)] : List ByteArray) _ h801), (rfl : 2 = List.length ([(⟨#[121]⟩ : ByteArray), (⟨#[122]⟩ : ByteArray)] : List ByteArray)), h802, h802, h802, h803, h803, h803, h803, h803, h804, h804, (exchange_Valid_ok k x798.1 _ h806), h804, h804, trivial⟩ (antiquarylaw44_sanity_l0_ok k (!x805) x798.1 x800.1 r h)

def antiquarylaw44_run_l9 (s0 : List Int → Bool → Int → (List (List It × Unit)) → (List (List It × Unit)) → List Se → List Se → Option (List (List It × Unit) × List Se × Bool × Bool)) (s6 : List Int → Bool → Int → Int → Int → (List (List It × Unit)) → (List (List It × Unit)) → List Se → List Se → Int → Int → List Int → Int → List Int → Int → List (List Int) → ByteArray → Option (List (List It × Unit) × List Se × Bool × Bool)) (s8 : List Int → Bool → Int → Int → Int → List Pt → Int → (List (List It × Unit)) → (List (List It × Unit)) → List Se → List Se → Int → Int → List Int → Int → List Int → Int → List (List Int) → ByteArray → Option (List (List It × Unit) × List Se × Bool × Bool)) (k : Nat) (p1 : List Int) (p2 : Bool) (p3 : Int) (p4 : Int) (p5 : Int) (p6 : List Pt) (p7 : Int) (p8 : List (List It × Unit)) (p9 : List (List It × Unit)) (p10 : List Se) (p11 : List Se) (p12 : Int) (p13 : Int) (p14 : List Int) (p15 : Int) (p16 : List Int) (p17 : Int) (p18 : List (List Int)) (p19 : ByteArray) : Option (List (List It × Unit) × List Se × Bool × Bool) :=
  s8 p1 p2 p3 p4 p5 p6 (IntKind.i64.wrap (p7 + (1 : Int))) p8 p9 p10 p11 p12 p13 p14 p15 p16 p17 p18 p19
def antiquarylaw44_run_l8 (s0 : List Int → Bool → Int → (List (List It × Unit)) → (List (List It × Unit)) → List Se → List Se → Option (List (List It × Unit) × List Se × Bool × Bool)) (s6 : List Int → Bool → Int → Int → Int → (List (List It × Unit)) → (List (List It × Unit)) → List Se → List Se → Int → Int → List Int → Int → List Int → Int → List (List Int) → ByteArray → Option (List (List It × Unit) × List Se × Bool × Bool)) : Nat → List Int → Bool → Int → Int → Int → List Pt → Int → (List (List It × Unit)) → (List (List It × Unit)) → List Se → List Se → Int → Int → List Int → Int → List Int → Int → List (List Int) → ByteArray → Option (List (List It × Unit) × List Se × Bool × Bool)
  | 0, _, _, _, _, _, _, _, _, _, _, _, _, _, _, _, _, _, _, _ => none
  | k + 1, p1, p2, p3, p4, p5, p6, p7, p8, p9, p10, p11, p12, p13, p14, p15, p16, p17, p18, p19 =>
    if (decide (p7 < (List.length p6 : Int))) = true then
      if 0 ≤ p7 ∧ p7 < (List.length p6 : Int) then
        if List.length p10 + List.length ([((IntKind.i64.wrap ((1 : Int) - p12)), (((List.getD p6 (Int.toNat p7) (Kd.dflt KP)).1, (((((List.getD p6 (Int.toNat p7) (Kd.dflt KP)).2).1).1, (((((List.getD p6 (Int.toNat p7) (Kd.dflt KP)).2).1).2).1, ())), ((((List.getD p6 (Int.toNat p7) (Kd.dflt KP)).2).2).1, (((((List.getD p6 (Int.toNat p7) (Kd.dflt KP)).2).2).2).1, ((((((List.getD p6 (Int.toNat p7) (Kd.dflt KP)).2).2).2).2).1, (((((((List.getD p6 (Int.toNat p7) (Kd.dflt KP)).2).2).2).2).2).1, ())))))), ()))] : List Se) ≤ 1353245080339 then
          if ((List.getD p6 (Int.toNat p7) (Kd.dflt KP)).1 == (4 : Int)) = true then
            if List.length p11 + List.length ([((IntKind.i64.wrap ((1 : Int) - p12)), (((List.getD p6 (Int.toNat p7) (Kd.dflt KP)).1, (((((List.getD p6 (Int.toNat p7) (Kd.dflt KP)).2).1).1, (((((List.getD p6 (Int.toNat p7) (Kd.dflt KP)).2).1).2).1, ())), ((((List.getD p6 (Int.toNat p7) (Kd.dflt KP)).2).2).1, (((((List.getD p6 (Int.toNat p7) (Kd.dflt KP)).2).2).2).1, ((((((List.getD p6 (Int.toNat p7) (Kd.dflt KP)).2).2).2).2).1, (((((((List.getD p6 (Int.toNat p7) (Kd.dflt KP)).2).2).2).2).2).1, ())))))), ()))] : List Se) ≤ 1353245080339 then
              antiquarylaw44_run_l9 s0 s6 (antiquarylaw44_run_l8 s0 s6 k) k p1 p2 p3 p4 p5 p6 p7 p8 p9 (p10 ++ ([((IntKind.i64.wrap ((1 : Int) - p12)), (((List.getD p6 (Int.toNat p7) (Kd.dflt KP)).1, (((((List.getD p6 (Int.toNat p7) (Kd.dflt KP)).2).1).1, (((((List.getD p6 (Int.toNat p7) (Kd.dflt KP)).2).1).2).1, ())), ((((List.getD p6 (Int.toNat p7) (Kd.dflt KP)).2).2).1, (((((List.getD p6 (Int.toNat p7) (Kd.dflt KP)).2).2).2).1, ((((((List.getD p6 (Int.toNat p7) (Kd.dflt KP)).2).2).2).2).1, (((((((List.getD p6 (Int.toNat p7) (Kd.dflt KP)).2).2).2).2).2).1, ())))))), ()))] : List Se)) (p11 ++ ([((IntKind.i64.wrap ((1 : Int) - p12)), (((List.getD p6 (Int.toNat p7) (Kd.dflt KP)).1, (((((List.getD p6 (Int.toNat p7) (Kd.dflt KP)).2).1).1, (((((List.getD p6 (Int.toNat p7) (Kd.dflt KP)).2).1).2).1, ())), ((((List.getD p6 (Int.toNat p7) (Kd.dflt KP)).2).2).1, (((((List.getD p6 (Int.toNat p7) (Kd.dflt KP)).2).2).2).1, ((((((List.getD p6 (Int.toNat p7) (Kd.dflt KP)).2).2).2).2).1, (((((((List.getD p6 (Int.toNat p7) (Kd.dflt KP)).2).2).2).2).2).1, ())))))), ()))] : List Se)) p12 p13 p14 p15 p16 p17 p18 p19
            else none
          else
            antiquarylaw44_run_l9 s0 s6 (antiquarylaw44_run_l8 s0 s6 k) k p1 p2 p3 p4 p5 p6 p7 p8 p9 (p10 ++ ([((IntKind.i64.wrap ((1 : Int) - p12)), (((List.getD p6 (Int.toNat p7) (Kd.dflt KP)).1, (((((List.getD p6 (Int.toNat p7) (Kd.dflt KP)).2).1).1, (((((List.getD p6 (Int.toNat p7) (Kd.dflt KP)).2).1).2).1, ())), ((((List.getD p6 (Int.toNat p7) (Kd.dflt KP)).2).2).1, (((((List.getD p6 (Int.toNat p7) (Kd.dflt KP)).2).2).2).1, ((((((List.getD p6 (Int.toNat p7) (Kd.dflt KP)).2).2).2).2).1, (((((((List.getD p6 (Int.toNat p7) (Kd.dflt KP)).2).2).2).2).2).1, ())))))), ()))] : List Se)) p11 p12 p13 p14 p15 p16 p17 p18 p19
        else none
      else none
    else
      s6 p1 p2 p3 p4 (IntKind.i64.wrap (p5 + (1 : Int))) p8 p9 p10 p11 p12 p13 p14 p15 p16 p17 p18 p19
def antiquarylaw44_run_l7 (s0 : List Int → Bool → Int → (List (List It × Unit)) → (List (List It × Unit)) → List Se → List Se → Option (List (List It × Unit) × List Se × Bool × Bool)) (s6 : List Int → Bool → Int → Int → Int → (List (List It × Unit)) → (List (List It × Unit)) → List Se → List Se → Int → Int → List Int → Int → List Int → Int → List (List Int) → ByteArray → Option (List (List It × Unit) × List Se × Bool × Bool)) (k : Nat) (p1 : List Int) (p2 : Bool) (p3 : Int) (p4 : Int) (p5 : Int) (p6 : List Pt) (p7 : Bool) (p8 : List (List It × Unit)) (p9 : List (List It × Unit)) (p10 : List Se) (p11 : List Se) (p12 : Int) (p13 : Int) (p14 : List Int) (p15 : Int) (p16 : List Int) (p17 : Int) (p18 : List (List Int)) (p19 : ByteArray) (p20 : List It) : Option (List (List It × Unit) × List Se × Bool × Bool) :=
  if p7 = true then
    some (p9, p11, false, true)
  else
    if 0 ≤ p12 ∧ p12 < (2 : Int) then
      antiquarylaw44_run_l8 s0 s6 k p1 p2 p3 p4 p5 p6 (0 : Int) p8 (List.set p9 (Int.toNat p12) (p20, ())) p10 p11 p12 p13 p14 p15 p16 p17 p18 p19
    else none
def antiquarylaw44_run_l6 (s0 : List Int → Bool → Int → (List (List It × Unit)) → (List (List It × Unit)) → List Se → List Se → Option (List (List It × Unit) × List Se × Bool × Bool)) : Nat → List Int → Bool → Int → Int → Int → (List (List It × Unit)) → (List (List It × Unit)) → List Se → List Se → Int → Int → List Int → Int → List Int → Int → List (List Int) → ByteArray → Option (List (List It × Unit) × List Se × Bool × Bool)
  | 0, _, _, _, _, _, _, _, _, _, _, _, _, _, _, _, _, _ => none
  | k + 1, p1, p2, p3, p4, p5, p6, p7, p8, p9, p10, p11, p12, p13, p14, p15, p16, p17 =>
    if (decide (p5 < p4)) = true then
      if 0 ≤ p10 ∧ p10 < (2 : Int) then
        Option.bind (exchange_Hear k ((List.getD p7 (Int.toNat p10) (Kd.dflt (Kd.pair (Kd.sl KI) Kd.unit))).1) p11 p12 p13 p14 p15 p16 p17) fun x1260 =>
        if (x1260.2.2 != (0 : Int)) = true then
          antiquarylaw44_run_l7 s0 (antiquarylaw44_run_l6 s0 k) k p1 p2 p3 p4 p5 x1260.2.1 (x1260.2.2 != (6 : Int)) p6 p7 p8 p9 p10 p11 p12 p13 p14 p15 p16 p17 x1260.1
        else
          antiquarylaw44_run_l7 s0 (antiquarylaw44_run_l6 s0 k) k p1 p2 p3 p4 p5 x1260.2.1 false p6 p7 p8 p9 p10 p11 p12 p13 p14 p15 p16 p17 x1260.1
      else none
    else
      s0 p1 p2 p3 p6 p7 p8 p9
def antiquarylaw44_run_l5 (s0 : List Int → Bool → Int → (List (List It × Unit)) → (List (List It × Unit)) → List Se → List Se → Option (List (List It × Unit) × List Se × Bool × Bool)) (k : Nat) (p1 : List Int) (p2 : Bool) (p3 : Int) (p4 : Int) (p5 : List (List It × Unit)) (p6 : List (List It × Unit)) (p7 : List Se) (p8 : List Se) (p9 : Int) (p10 : Int) (p11 : List Int) (p12 : Int) (p13 : List Int) (p14 : Int) (p15 : List (List Int)) (p16 : ByteArray) : Option (List (List It × Unit) × List Se × Bool × Bool) :=
  antiquarylaw44_run_l6 s0 k p1 p2 p3 p4 (0 : Int) p5 p6 p7 p8 p9 p10 p11 p12 p13 p14 p15 p16
def antiquarylaw44_run_l4 (s0 : List Int → Bool → Int → (List (List It × Unit)) → (List (List It × Unit)) → List Se → List Se → Option (List (List It × Unit) × List Se × Bool × Bool)) (k : Nat) (p1 : List Int) (p2 : Bool) (p3 : Int) (p4 : Int) (p5 : Bool) (p6 : List (List It × Unit)) (p7 : List (List It × Unit)) (p8 : List Se) (p9 : List Se) (p10 : Int) (p11 : Int) (p12 : List Int) (p13 : Int) (p14 : List Int) (p15 : Int) (p16 : List (List Int)) (p17 : ByteArray) : Option (List (List It × Unit) × List Se × Bool × Bool) :=
  if p5 = true then
    antiquarylaw44_run_l5 s0 k p1 p2 p3 (2 : Int) p6 p7 p8 p9 p10 p11 p12 p13 p14 p15 p16 p17
  else
    antiquarylaw44_run_l5 s0 k p1 p2 p3 p4 p6 p7 p8 p9 p10 p11 p12 p13 p14 p15 p16 p17
def antiquarylaw44_run_l3 (s0 : List Int → Bool → Int → (List (List It × Unit)) → (List (List It × Unit)) → List Se → List Se → Option (List (List It × Unit) × List Se × Bool × Bool)) (k : Nat) (p1 : List Int) (p2 : Bool) (p3 : Int) (p4 : Int) (p5 : Bool) (p6 : List (List It × Unit)) (p7 : List (List It × Unit)) (p8 : List Se) (p9 : List Se) (p10 : Int) (p11 : Int) (p12 : List Int) (p13 : Int) (p14 : List Int) (p15 : Int) (p16 : List (List Int)) (p17 : ByteArray) : Option (List (List It × Unit) × List Se × Bool × Bool) :=
  if p5 = true then
    s0 p1 p2 p3 p6 p7 p8 p9
  else
    if (decide ((List.length p1 : Int) > (0 : Int))) = true then
      if ((Int.tmod p4 (2 : Int)) == (0 : Int)) = true then
        antiquarylaw44_run_l4 s0 k p1 p2 p3 (1 : Int) (decide (p3 < (200 : Int))) p6 p7 p8 p9 p10 p11 p12 p13 p14 p15 p16 p17
      else
        antiquarylaw44_run_l4 s0 k p1 p2 p3 (1 : Int) false p6 p7 p8 p9 p10 p11 p12 p13 p14 p15 p16 p17
    else
      antiquarylaw44_run_l4 s0 k p1 p2 p3 (1 : Int) false p6 p7 p8 p9 p10 p11 p12 p13 p14 p15 p16 p17
def antiquarylaw44_run_l2 (s0 : List Int → Bool → Int → (List (List It × Unit)) → (List (List It × Unit)) → List Se → List Se → Option (List (List It × Unit) × List Se × Bool × Bool)) (k : Nat) (p1 : List Int) (p2 : Bool) (p3 : Int) (p4 : Int) (p5 : List (List It × Unit)) (p6 : List (List It × Unit)) (p7 : List Se) (p8 : List Se) : Option (List (List It × Unit) × List Se × Bool × Bool) :=
  if ((List.length p7) : Int) ≠ 0 then
    if 0 ≤ (Int.tmod p4 ((List.length p7) : Int)) ∧ (Int.tmod p4 ((List.length p7) : Int)) < ((List.length p7) : Int) ∧ (List.length p7) ≤ List.length p7 then
      if Int.toNat (Int.tmod p4 ((List.length p7) : Int)) < List.length p7 then
        if (Int.tmod p4 ((List.length p7) : Int)) ≤ ((List.length p7) : Int) then
          if List.length ([] : List Se) + List.length (List.take (Int.toNat (Int.tmod p4 ((List.length p7) : Int))) p7) ≤ 1353245080339 ∧ (Int.toNat (Int.tmod p4 ((List.length p7) : Int))) ≤ List.length p7 then
            if 0 ≤ (IntKind.i64.wrap ((Int.tmod p4 ((List.length p7) : Int)) + (1 : Int))) ∧ (IntKind.i64.wrap ((Int.tmod p4 ((List.length p7) : Int)) + (1 : Int))) ≤ ((List.length p7) : Int) then
              if List.length (([] : List Se) ++ (List.take (Int.toNat (Int.tmod p4 ((List.length p7) : Int))) p7)) + List.length (List.take ((List.length p7) - Int.toNat (IntKind.i64.wrap ((Int.tmod p4 ((List.length p7) : Int)) + (1 : Int)))) (List.drop (Int.toNat (IntKind.i64.wrap ((Int.tmod p4 ((List.length p7) : Int)) + (1 : Int)))) p7)) ≤ 1353245080339 ∧ Int.toNat (IntKind.i64.wrap ((Int.tmod p4 ((List.length p7) : Int)) + (1 : Int))) + ((List.length p7) - Int.toNat (IntKind.i64.wrap ((Int.tmod p4 ((List.length p7) : Int)) + (1 : Int)))) ≤ List.length p7 then
                if p2 = true then
                  antiquarylaw44_run_l3 s0 k p1 p2 (IntKind.i64.wrap (p3 + (1 : Int))) p4 ((Int.tmod (IntKind.i64.wrap (p3 + (1 : Int))) (7 : Int)) == (0 : Int)) p5 p6 ((([] : List Se) ++ (List.take (Int.toNat (Int.tmod p4 ((List.length p7) : Int))) p7)) ++ (List.take ((List.length p7) - Int.toNat (IntKind.i64.wrap ((Int.tmod p4 ((List.length p7) : Int)) + (1 : Int)))) (List.drop (Int.toNat (IntKind.i64.wrap ((Int.tmod p4 ((List.length p7) : Int)) + (1 : Int)))) p7))) p8 ((List.getD p7 (Int.toNat (Int.tmod p4 ((List.length p7) : Int))) (Kd.dflt KSe)).1) ((((List.getD p7 (Int.toNat (Int.tmod p4 ((List.length p7) : Int))) (Kd.dflt KSe)).2).1).1) ((((((List.getD p7 (Int.toNat (Int.tmod p4 ((List.length p7) : Int))) (Kd.dflt KSe)).2).1).2).1).1) (((((((List.getD p7 (Int.toNat (Int.tmod p4 ((List.length p7) : Int))) (Kd.dflt KSe)).2).1).2).1).2).1) ((((((List.getD p7 (Int.toNat (Int.tmod p4 ((List.length p7) : Int))) (Kd.dflt KSe)).2).1).2).2).1) (((((((List.getD p7 (Int.toNat (Int.tmod p4 ((List.length p7) : Int))) (Kd.dflt KSe)).2).1).2).2).2).1) ((((((((List.getD p7 (Int.toNat (Int.tmod p4 ((List.length p7) : Int))) (Kd.dflt KSe)).2).1).2).2).2).2).1) (((((((((List.getD p7 (Int.toNat (Int.tmod p4 ((List.length p7) : Int))) (Kd.dflt KSe)).2).1).2).2).2).2).2).1)
                else
                  antiquarylaw44_run_l3 s0 k p1 p2 (IntKind.i64.wrap (p3 + (1 : Int))) p4 false p5 p6 ((([] : List Se) ++ (List.take (Int.toNat (Int.tmod p4 ((List.length p7) : Int))) p7)) ++ (List.take ((List.length p7) - Int.toNat (IntKind.i64.wrap ((Int.tmod p4 ((List.length p7) : Int)) + (1 : Int)))) (List.drop (Int.toNat (IntKind.i64.wrap ((Int.tmod p4 ((List.length p7) : Int)) + (1 : Int)))) p7))) p8 ((List.getD p7 (Int.toNat (Int.tmod p4 ((List.length p7) : Int))) (Kd.dflt KSe)).1) ((((List.getD p7 (Int.toNat (Int.tmod p4 ((List.length p7) : Int))) (Kd.dflt KSe)).2).1).1) ((((((List.getD p7 (Int.toNat (Int.tmod p4 ((List.length p7) : Int))) (Kd.dflt KSe)).2).1).2).1).1) (((((((List.getD p7 (Int.toNat (Int.tmod p4 ((List.length p7) : Int))) (Kd.dflt KSe)).2).1).2).1).2).1) ((((((List.getD p7 (Int.toNat (Int.tmod p4 ((List.length p7) : Int))) (Kd.dflt KSe)).2).1).2).2).1) (((((((List.getD p7 (Int.toNat (Int.tmod p4 ((List.length p7) : Int))) (Kd.dflt KSe)).2).1).2).2).2).1) ((((((((List.getD p7 (Int.toNat (Int.tmod p4 ((List.length p7) : Int))) (Kd.dflt KSe)).2).1).2).2).2).2).1) (((((((((List.getD p7 (Int.toNat (Int.tmod p4 ((List.length p7) : Int))) (Kd.dflt KSe)).2).1).2).2).2).2).2).1)
              else none
            else none
          else none
        else none
      else none
    else none
  else none
def antiquarylaw44_run_l1 (s0 : List Int → Bool → Int → (List (List It × Unit)) → (List (List It × Unit)) → List Se → List Se → Option (List (List It × Unit) × List Se × Bool × Bool)) (k : Nat) (p1 : List Int) (p2 : Bool) (p3 : Int) (p4 : Bool) (p5 : List (List It × Unit)) (p6 : List (List It × Unit)) (p7 : List Se) (p8 : List Se) : Option (List (List It × Unit) × List Se × Bool × Bool) :=
  if p4 = true then
    if (decide ((List.length p1 : Int) > (0 : Int))) = true then
      if (List.length p1 : Int) ≠ 0 then
        if 0 ≤ (Int.tmod p3 (List.length p1 : Int)) ∧ (Int.tmod p3 (List.length p1 : Int)) < (List.length p1 : Int) then
          antiquarylaw44_run_l2 s0 k p1 p2 p3 (IntKind.i64.wrap (List.getD p1 (Int.toNat (Int.tmod p3 (List.length p1 : Int))) (Kd.dflt (Kd.int .u8)))) p5 p6 p7 p8
        else none
      else none
    else
      antiquarylaw44_run_l2 s0 k p1 p2 p3 (0 : Int) p5 p6 p7 p8
  else
    some (p6, p8, true, (((List.length p7) : Int) == (0 : Int)))
def antiquarylaw44_run_l0 : Nat → List Int → Bool → Int → (List (List It × Unit)) → (List (List It × Unit)) → List Se → List Se → Option (List (List It × Unit) × List Se × Bool × Bool)
  | 0, _, _, _, _, _, _, _ => none
  | k + 1, p1, p2, p3, p4, p5, p6, p7 =>
    if (decide (((List.length p6) : Int) > (0 : Int))) = true then
      antiquarylaw44_run_l1 (antiquarylaw44_run_l0 k) k p1 p2 p3 (decide (p3 < (20000 : Int))) p4 p5 p6 p7
    else
      antiquarylaw44_run_l1 (antiquarylaw44_run_l0 k) k p1 p2 p3 false p4 p5 p6 p7
def antiquarylaw44_run (k : Nat) (a1 : List It) (a2 : List It) (a3 : List Int) (a4 : Bool) : Option (List (List It × Unit) × List Se × Bool × Bool) :=
  Option.bind (exchange_Open k a1) fun x1239 =>
  antiquarylaw44_run_l0 k a3 a4 (0 : Int) (Kd.dflt (Kd.arr 2 (Kd.pair (Kd.sl KI) Kd.unit))) ([(a1, ()), (a2, ())] : List (List It × Unit)) ([((1 : Int), ((x1239.1, ((x1239.2.1, (x1239.2.2.1, ())), (x1239.2.2.2.1, (x1239.2.2.2.2.1, (([] : List (List Int)), (x1239.2.2.2.2.2, ())))))), ()))] : List Se) ([] : List Se)
theorem antiquarylaw44_run_l9_ok (s0 : List Int → Bool → Int → (List (List It × Unit)) → (List (List It × Unit)) → List Se → List Se → Option (List (List It × Unit) × List Se × Bool × Bool)) (hs0 : ∀ (p1 : List Int) (p2 : Bool) (p3 : Int) (p4 : List (List It × Unit)) (p5 : List (List It × Unit)) (p6 : List Se) (p7 : List Se) (r : List (List It × Unit) × List Se × Bool × Bool), s0 p1 p2 p3 p4 p5 p6 p7 = some r → Abs.Good P 39 Tryd.f39.ntmps [] [] (.t [.p (Kd.arr 2 (Kd.pair (Kd.sl KI) Kd.unit)) r.1, .p (Kd.sl KSe) r.2.1, .p Kd.bool r.2.2.1, .p Kd.bool r.2.2.2]) (pos Tryd.f39 [.r, .r, .r, .r, .r]) [(sk 2, some (.v (.p (Kd.sl (Kd.int .u8)) p1))), (sk 3, some (.v (.p Kd.bool p2))), (sk 8, some (.v (.ptr 500001 0))), (sk 12, some (.v (.ptr 500002 0))), (sk 13, some (.v (.row 500003 (List.length p6)))), (sk 14, some (.v (.row 500004 (List.length p7)))), (sk 15, some (.v (.p (Kd.int .i64) p3))), (ek 500001, some (.box [.p (Kd.arr 2 (Kd.pair (Kd.sl KI) Kd.unit)) p4])), (ek 500002, some (.box [.p (Kd.arr 2 (Kd.pair (Kd.sl KI) Kd.unit)) p5])), (ek 500003, some (.row KSe 78 p6)), (ek 500004, some (.row KSe 78 p7))]) (s6 : List Int → Bool → Int → Int → Int → (List (List It × Unit)) → (List (List It × Unit)) → List Se → List Se → Int → Int → List Int → Int → List Int → Int → List (List Int) → ByteArray → Option (List (List It × Unit) × List Se × Bool × Bool)) (hs6 : ∀ (p1 : List Int) (p2 : Bool) (p3 : Int) (p4 : Int) (p5 : Int) (p6 : List (List It × Unit)) (p7 : List (List It × Unit)) (p8 : List Se) (p9 : List Se) (p10 : Int) (p11 : Int) (p12 : List Int) (p13 : Int) (p14 : List Int) (p15 : Int) (p16 : List (List Int)) (p17 : ByteArray) (r : List (List It × Unit) × List Se × Bool × Bool), s6 p1 p2 p3 p4 p5 p6 p7 p8 p9 p10 p11 p12 p13 p14 p15 p16 p17 = some r → Abs.Good P 39 Tryd.f39.ntmps [] [] (.t [.p (Kd.arr 2 (Kd.pair (Kd.sl KI) Kd.unit)) r.1, .p (Kd.sl KSe) r.2.1, .p Kd.bool r.2.2.1, .p Kd.bool r.2.2.2]) (pos Tryd.f39 [.r, .r, .r, .r, .r, .r, .c true, .r, .r, .c false, .r, .r, .r, .r, .r, .c false, .r, .r, .c false, .r]) [(sk 2, some (.v (.p (Kd.sl (Kd.int .u8)) p1))), (sk 3, some (.v (.p Kd.bool p2))), (sk 8, some (.v (.ptr 506001 0))), (sk 12, some (.v (.ptr 506002 0))), (sk 13, some (.v (.row 506003 (List.length p8)))), (sk 14, some (.v (.row 506005 (List.length p9)))), (sk 15, some (.v (.p (Kd.int .i64) p3))), (sk 18, some (.v (.ptr 506004 0))), (sk 19, some (.v (.p (Kd.int .i64) p4))), (sk 20, some (.v (.p (Kd.int .i64) p5))), (ek 506001, some (.box [.p (Kd.arr 2 (Kd.pair (Kd.sl KI) Kd.unit)) p6])), (ek 506002, some (.box [.p (Kd.arr 2 (Kd.pair (Kd.sl KI) Kd.unit)) p7])), (ek 506003, some (.row KSe 78 p8)), (ek 506005, some (.row KSe 78 p9)), (ek 506004, some (.box [.p (Kd.int .i64) p10, .p (Kd.int .i64) p11, .p (Kd.arr 16 (Kd.int .u8)) p12, .p (Kd.int .i64) p13, .p (Kd.arr 16 (Kd.int .u8)) p14, .p (Kd.int .i64) p15, .p (Kd.sl (Kd.arr 16 (Kd.int .u8))) p16, .p Kd.str p17]))]) (s8 : List Int → Bool → Int → Int → Int → List Pt → Int → (List (List It × Unit)) → (List (List It × Unit)) → List Se → List Se → Int → Int → List Int → Int → List Int → Int → List (List Int) → ByteArray → Option (List (List It × Unit) × List Se × Bool × Bool)) (hs8 : ∀ (p1 : List Int) (p2 : Bool) (p3 : Int) (p4 : Int) (p5 : Int) (p6 : List Pt) (p7 : Int) (p8 : List (List It × Unit)) (p9 : List (List It × Unit)) (p10 : List Se) (p11 : List Se) (p12 : Int) (p13 : Int) (p14 : List Int) (p15 : Int) (p16 : List Int) (p17 : Int) (p18 : List (List Int)) (p19 : ByteArray) (r : List (List It × Unit) × List Se × Bool × Bool), s8 p1 p2 p3 p4 p5 p6 p7 p8 p9 p10 p11 p12 p13 p14 p15 p16 p17 p18 p19 = some r → Abs.Good P 39 Tryd.f39.ntmps [] [] (.t [.p (Kd.arr 2 (Kd.pair (Kd.sl KI) Kd.unit)) r.1, .p (Kd.sl KSe) r.2.1, .p Kd.bool r.2.2.1, .p Kd.bool r.2.2.2]) (pos Tryd.f39 [.r, .r, .r, .r, .r, .r, .c true, .r, .r, .c false, .r, .r, .r, .r, .r, .c false, .r, .r, .c false, .r, .r, .c true, .r, .r, .c false, .r, .r]) [(sk 2, some (.v (.p (Kd.sl (Kd.int .u8)) p1))), (sk 3, some (.v (.p Kd.bool p2))), (sk 8, some (.v (.ptr 508001 0))), (sk 12, some (.v (.ptr 508002 0))), (sk 13, some (.v (.row 508003 (List.length p10)))), (sk 14, some (.v (.row 508005 (List.length p11)))), (sk 15, some (.v (.p (Kd.int .i64) p3))), (sk 18, some (.v (.ptr 508004 0))), (sk 19, some (.v (.p (Kd.int .i64) p4))), (sk 20, some (.v (.p (Kd.int .i64) p5))), (sk 22, some (.v (.p (Kd.sl KP) p6))), (sk 24, some (.v (.p (Kd.int .i64) p7))), (ek 508001, some (.box [.p (Kd.arr 2 (Kd.pair (Kd.sl KI) Kd.unit)) p8])), (ek 508002, some (.box [.p (Kd.arr 2 (Kd.pair (Kd.sl KI) Kd.unit)) p9])), (ek 508003, some (.row KSe 78 p10)), (ek 508005, some (.row KSe 78 p11)), (ek 508004, some (.box [.p (Kd.int .i64) p12, .p (Kd.int .i64) p13, .p (Kd.arr 16 (Kd.int .u8)) p14, .p (Kd.int .i64) p15, .p (Kd.arr 16 (Kd.int .u8)) p16, .p (Kd.int .i64) p17, .p (Kd.sl (Kd.arr 16 (Kd.int .u8))) p18, .p Kd.str p19]))]) (k : Nat) (p1 : List Int) (p2 : Bool) (p3 : Int) (p4 : Int) (p5 : Int) (p6 : List Pt) (p7 : Int) (p8 : List (List It × Unit)) (p9 : List (List It × Unit)) (p10 : List Se) (p11 : List Se) (p12 : Int) (p13 : Int) (p14 : List Int) (p15 : Int) (p16 : List Int) (p17 : Int) (p18 : List (List Int)) (p19 : ByteArray) (r : List (List It × Unit) × List Se × Bool × Bool) (h : antiquarylaw44_run_l9 s0 s6 s8 k p1 p2 p3 p4 p5 p6 p7 p8 p9 p10 p11 p12 p13 p14 p15 p16 p17 p18 p19 = some r) :
    Abs.Good P 39 Tryd.f39.ntmps [] [] (.t [.p (Kd.arr 2 (Kd.pair (Kd.sl KI) Kd.unit)) r.1, .p (Kd.sl KSe) r.2.1, .p Kd.bool r.2.2.1, .p Kd.bool r.2.2.2]) (pos Tryd.f39 [.r, .r, .r, .r, .r, .r, .c true, .r, .r, .c false, .r, .r, .r, .r, .r, .c false, .r, .r, .c false, .r, .r, .c true, .r, .r, .c false, .r, .r, .r, .c true, .r, .r, .c false]) [(sk 2, some (.v (.p (Kd.sl (Kd.int .u8)) p1))), (sk 3, some (.v (.p Kd.bool p2))), (sk 8, some (.v (.ptr 509001 0))), (sk 12, some (.v (.ptr 509002 0))), (sk 13, some (.v (.row 509003 (List.length p10)))), (sk 14, some (.v (.row 509004 (List.length p11)))), (sk 15, some (.v (.p (Kd.int .i64) p3))), (sk 18, some (.v (.ptr 509005 0))), (sk 19, some (.v (.p (Kd.int .i64) p4))), (sk 20, some (.v (.p (Kd.int .i64) p5))), (sk 22, some (.v (.p (Kd.sl KP) p6))), (sk 24, some (.v (.p (Kd.int .i64) p7))), (ek 509001, some (.box [.p (Kd.arr 2 (Kd.pair (Kd.sl KI) Kd.unit)) p8])), (ek 509002, some (.box [.p (Kd.arr 2 (Kd.pair (Kd.sl KI) Kd.unit)) p9])), (ek 509003, some (.row KSe 78 p10)), (ek 509004, some (.row KSe 78 p11)), (ek 509005, some (.box [.p (Kd.int .i64) p12, .p (Kd.int .i64) p13, .p (Kd.arr 16 (Kd.int .u8)) p14, .p (Kd.int .i64) p15, .p (Kd.arr 16 (Kd.int .u8)) p16, .p (Kd.int .i64) p17, .p (Kd.sl (Kd.arr 16 (Kd.int .u8))) p18, .p Kd.str p19]))] := by
  unfold antiquarylaw44_run_l9 at h
  exact Abs.Good.path hm [.reg [], .keep [sk 2, sk 3, sk 8, sk 12, sk 13, sk 14, sk 15, sk 18, sk 19, sk 20, sk 22, sk 24, ek 509001, ek 509002, ek 509003, ek 509004, ek 509005], .ren [(509001, 508001), (509002, 508002), (509003, 508003), (509004, 508005), (509005, 508004)]] (cs := []) (by kernel_rfl) trivial (hs8 p1 p2 p3 p4 p5 p6 (IntKind.i64.wrap (p7 + (1 : Int))) p8 p9 p10 p11 p12 p13 p14 p15 p16 p17 p18 p19 r h)
theorem antiquarylaw44_run_l8_ok (s0 : List Int → Bool → Int → (List (List It × Unit)) → (List (List It × Unit)) → List Se → List Se → Option (List (List It × Unit) × List Se × Bool × Bool)) (hs0 : ∀ (p1 : List Int) (p2 : Bool) (p3 : Int) (p4 : List (List It × Unit)) (p5 : List (List It × Unit)) (p6 : List Se) (p7 : List Se) (r : List (List It × Unit) × List Se × Bool × Bool), s0 p1 p2 p3 p4 p5 p6 p7 = some r → Abs.Good P 39 Tryd.f39.ntmps [] [] (.t [.p (Kd.arr 2 (Kd.pair (Kd.sl KI) Kd.unit)) r.1, .p (Kd.sl KSe) r.2.1, .p Kd.bool r.2.2.1, .p Kd.bool r.2.2.2]) (pos Tryd.f39 [.r, .r, .r, .r, .r]) [(sk 2, some (.v (.p (Kd.sl (Kd.int .u8)) p1))), (sk 3, some (.v (.p Kd.bool p2))), (sk 8, some (.v (.ptr 500001 0))), (sk 12, some (.v (.ptr 500002 0))), (sk 13, some (.v (.row 500003 (List.length p6)))), (sk 14, some (.v (.row 500004 (List.length p7)))), (sk 15, some (.v (.p (Kd.int .i64) p3))), (ek 500001, some (.box [.p (Kd.arr 2 (Kd.pair (Kd.sl KI) Kd.unit)) p4])), (ek 500002, some (.box [.p (Kd.arr 2 (Kd.pair (Kd.sl KI) Kd.unit)) p5])), (ek 500003, some (.row KSe 78 p6)), (ek 500004, some (.row KSe 78 p7))]) (s6 : List Int → Bool → Int → Int → Int → (List (List It × Unit)) → (List (List It × Unit)) → List Se → List Se → Int → Int → List Int → Int → List Int → Int → List (List Int) → ByteArray → Option (List (List It × Unit) × List Se × Bool × Bool)) (hs6 : ∀ (p1 : List Int) (p2 : Bool) (p3 : Int) (p4 : Int) (p5 : Int) (p6 : List (List It × Unit)) (p7 : List (List It × Unit)) (p8 : List Se) (p9 : List Se) (p10 : Int) (p11 : Int) (p12 : List Int) (p13 : Int) (p14 : List Int) (p15 : Int) (p16 : List (List Int)) (p17 : ByteArray) (r : List (List It × Unit) × List Se × Bool × Bool), s6 p1 p2 p3 p4 p5 p6 p7 p8 p9 p10 p11 p12 p13 p14 p15 p16 p17 = some r → Abs.Good P 39 Tryd.f39.ntmps [] [] (.t [.p (Kd.arr 2 (Kd.pair (Kd.sl KI) Kd.unit)) r.1, .p (Kd.sl KSe) r.2.1, .p Kd.bool r.2.2.1, .p Kd.bool r.2.2.2]) (pos Tryd.f39 [.r, .r, .r, .r, .r, .r, .c true, .r, .r, .c false, .r, .r, .r, .r, .r, .c false, .r, .r, .c false, .r]) [(sk 2, some (.v (.p (Kd.sl (Kd.int .u8)) p1))), (sk 3, some (.v (.p Kd.bool p2))), (sk 8, some (.v (.ptr 506001 0))), (sk 12, some (.v (.ptr 506002 0))), (sk 13, some (.v (.row 506003 (List.length p8)))), (sk 14, some (.v (.row 506005 (List.length p9)))), (sk 15, some (.v (.p (Kd.int .i64) p3))), (sk 18, some (.v (.ptr 506004 0))), (sk 19, some (.v (.p (Kd.int .i64) p4))), (sk 20, some (.v (.p (Kd.int .i64) p5))), (ek 506001, some (.box [.p (Kd.arr 2 (Kd.pair (Kd.sl KI) Kd.unit)) p6])), (ek 506002, some (.box [.p (Kd.arr 2 (Kd.pair (Kd.sl KI) Kd.unit)) p7])), (ek 506003, some (.row KSe 78 p8)), (ek 506005, some (.row KSe 78 p9)), (ek 506004, some (.box [.p (Kd.int .i64) p10, .p (Kd.int .i64) p11, .p (Kd.arr 16 (Kd.int .u8)) p12, .p (Kd.int .i64) p13, .p (Kd.arr 16 (Kd.int .u8)) p14, .p (Kd.int .i64) p15, .p (Kd.sl (Kd.arr 16 (Kd.int .u8))) p16, .p Kd.str p17]))]) (k : Nat) : ∀ (p1 : List Int) (p2 : Bool) (p3 : Int) (p4 : Int) (p5 : Int) (p6 : List Pt) (p7 : Int) (p8 : List (List It × Unit)) (p9 : List (List It × Unit)) (p10 : List Se) (p11 : List Se) (p12 : Int) (p13 : Int) (p14 : List Int) (p15 : Int) (p16 : List Int) (p17 : Int) (p18 : List (List Int)) (p19 : ByteArray) (r : List (List It × Unit) × List Se × Bool × Bool), antiquarylaw44_run_l8 s0 s6 k p1 p2 p3 p4 p5 p6 p7 p8 p9 p10 p11 p12 p13 p14 p15 p16 p17 p18 p19 = some r →
    Abs.Good P 39 Tryd.f39.ntmps [] [] (.t [.p (Kd.arr 2 (Kd.pair (Kd.sl KI) Kd.unit)) r.1, .p (Kd.sl KSe) r.2.1, .p Kd.bool r.2.2.1, .p Kd.bool r.2.2.2]) (pos Tryd.f39 [.r, .r, .r, .r, .r, .r, .c true, .r, .r, .c false, .r, .r, .r, .r, .r, .c false, .r, .r, .c false, .r, .r, .c true, .r, .r, .c false, .r, .r]) [(sk 2, some (.v (.p (Kd.sl (Kd.int .u8)) p1))), (sk 3, some (.v (.p Kd.bool p2))), (sk 8, some (.v (.ptr 508001 0))), (sk 12, some (.v (.ptr 508002 0))), (sk 13, some (.v (.row 508003 (List.length p10)))), (sk 14, some (.v (.row 508005 (List.length p11)))), (sk 15, some (.v (.p (Kd.int .i64) p3))), (sk 18, some (.v (.ptr 508004 0))), (sk 19, some (.v (.p (Kd.int .i64) p4))), (sk 20, some (.v (.p (Kd.int .i64) p5))), (sk 22, some (.v (.p (Kd.sl KP) p6))), (sk 24, some (.v (.p (Kd.int .i64) p7))), (ek 508001, some (.box [.p (Kd.arr 2 (Kd.pair (Kd.sl KI) Kd.unit)) p8])), (ek 508002, some (.box [.p (Kd.arr 2 (Kd.pair (Kd.sl KI) Kd.unit)) p9])), (ek 508003, some (.row KSe 78 p10)), (ek 508005, some (.row KSe 78 p11)), (ek 508004, some (.box [.p (Kd.int .i64) p12, .p (Kd.int .i64) p13, .p (Kd.arr 16 (Kd.int .u8)) p14, .p (Kd.int .i64) p15, .p (Kd.arr 16 (Kd.int .u8)) p16, .p (Kd.int .i64) p17, .p (Kd.sl (Kd.arr 16 (Kd.int .u8))) p18, .p Kd.str p19]))] := by
  induction k with
  | zero => intro p1 p2 p3 p4 p5 p6 p7 p8 p9 p10 p11 p12 p13 p14 p15 p16 p17 p18 p19 r h; cases h
  | succ k ih =>
    intro p1 p2 p3 p4 p5 p6 p7 p8 p9 p10 p11 p12 p13 p14 p15 p16 p17 p18 p19 r h
    unfold antiquarylaw44_run_l8 at h
    rcases br_inv h with ⟨h1265, h⟩ | ⟨h1265, h⟩
    · obtain ⟨h1266, h⟩ := gd_inv h
      obtain ⟨h1267, h⟩ := gd_inv h
      rcases br_inv h with ⟨h1268, h⟩ | ⟨h1268, h⟩
      · obtain ⟨h1269, h⟩ := gd_inv h
        exact Abs.Good.path hm [.reg [], .cond true, .reg [], .reg [], .cond true, .reg [], .keep [sk 2, sk 3, sk 8, sk 12, sk 13, sk 14, sk 15, sk 18, sk 19, sk 20, sk 22, sk 24, ek 508001, ek 508002, ek 132, ek 149, ek 508004], .ren [(508001, 509001), (508002, 509002), (132, 509003), (149, 509004), (508004, 509005)]] (cs := [_, _, _, _, _, _, _, _, _, _, _, _, _, _]) (by kernel_rfl) ⟨h1265, h1266.1, h1266.2, (rfl : (List.length p10) = List.length p10), (appBound (P := P) (et := 78) (b := 104) (by kernel_rfl) (by decide) h1267), (rfl : 1 = List.length ([((IntKind.i64.wrap ((1 : Int) - p12)), (((List.getD p6 (Int.toNat p7) (Kd.dflt KP)).1, (((((List.getD p6 (Int.toNat p7) (Kd.dflt KP)).2).1).1, (((((List.getD p6 (Int.toNat p7) (Kd.dflt KP)).2).1).2).1, ())), ((((List.getD p6 (Int.toNat p7) (Kd.dflt KP)).2).2).1, (((((List.getD p6 (Int.toNat p7) (Kd.dflt KP)).2).2).2).1, ((((((List.getD p6 (Int.toNat p7) (Kd.dflt KP)).2).2).2).2).1, (((((((List.getD p6 (Int.toNat p7) (Kd.dflt KP)).2).2).2).2).2).1, ())))))), ()))] : List Se)), h1266.1, h1266.2, h1268, h1266.1, h1266.2, (rfl : (List.length p11) = List.length p11), (appBound (P := P) (et := 78) (b := 104) (by kernel_rfl) (by decide) h1269), (rfl : 1 = List.length ([((IntKind.i64.wrap ((1 : Int) - p12)), (((List.getD p6 (Int.toNat p7) (Kd.dflt KP)).1, (((((List.getD p6 (Int.toNat p7) (Kd.dflt KP)).2).1).1, (((((List.getD p6 (Int.toNat p7) (Kd.dflt KP)).2).1).2).1, ())), ((((List.getD p6 (Int.toNat p7) (Kd.dflt KP)).2).2).1, (((((List.getD p6 (Int.toNat p7) (Kd.dflt KP)).2).2).2).1, ((((((List.getD p6 (Int.toNat p7) (Kd.dflt KP)).2).2).2).2).1, (((((((List.getD p6 (Int.toNat p7) (Kd.dflt KP)).2).2).2).2).2).1, ())))))), ()))] : List Se)), trivial⟩ (antiquarylaw44_run_l9_ok s0 hs0 s6 hs6 (antiquarylaw44_run_l8 s0 s6 k) ih k p1 p2 p3 p4 p5 p6 p7 p8 p9 (p10 ++ ([((IntKind.i64.wrap ((1 : Int) - p12)), (((List.getD p6 (Int.toNat p7) (Kd.dflt KP)).1, (((((List.getD p6 (Int.toNat p7) (Kd.dflt KP)).2).1).1, (((((List.getD p6 (Int.toNat p7) (Kd.dflt KP)).2).1).2).1, ())), ((((List.getD p6 (Int.toNat p7) (Kd.dflt KP)).2).2).1, (((((List.getD p6 (Int.toNat p7) (Kd.dflt KP)).2).2).2).1, ((((((List.getD p6 (Int.toNat p7) (Kd.dflt KP)).2).2).2).2).1, (((((((List.getD p6 (Int.toNat p7) (Kd.dflt KP)).2).2).2).2).2).1, ())))))), ()))] : List Se)) (p11 ++ ([((IntKind.i64.wrap ((1 : Int) - p12)), (((List.getD p6 (Int.toNat p7) (Kd.dflt KP)).1, (((((List.getD p6 (Int.toNat p7) (Kd.dflt KP)).2).1).1, (((((List.getD p6 (Int.toNat p7) (Kd.dflt KP)).2).1).2).1, ())), ((((List.getD p6 (Int.toNat p7) (Kd.dflt KP)).2).2).1, (((((List.getD p6 (Int.toNat p7) (Kd.dflt KP)).2).2).2).1, ((((((List.getD p6 (Int.toNat p7) (Kd.dflt KP)).2).2).2).2).1, (((((((List.getD p6 (Int.toNat p7) (Kd.dflt KP)).2).2).2).2).2).1, ())))))), ()))] : List Se)) p12 p13 p14 p15 p16 p17 p18 p19 r h)
      · exact Abs.Good.path hm [.reg [], .cond true, .reg [], .reg [], .cond false, .keep [sk 2, sk 3, sk 8, sk 12, sk 13, sk 14, sk 15, sk 18, sk 19, sk 20, sk 22, sk 24, ek 508001, ek 508002, ek 132, ek 508005, ek 508004], .ren [(508001, 509001), (508002, 509002), (132, 509003), (508005, 509004), (508004, 509005)]] (cs := [_, _, _, _, _, _, _, _, _]) (by kernel_rfl) ⟨h1265, h1266.1, h1266.2, (rfl : (List.length p10) = List.length p10), (appBound (P := P) (et := 78) (b := 104) (by kernel_rfl) (by decide) h1267), (rfl : 1 = List.length ([((IntKind.i64.wrap ((1 : Int) - p12)), (((List.getD p6 (Int.toNat p7) (Kd.dflt KP)).1, (((((List.getD p6 (Int.toNat p7) (Kd.dflt KP)).2).1).1, (((((List.getD p6 (Int.toNat p7) (Kd.dflt KP)).2).1).2).1, ())), ((((List.getD p6 (Int.toNat p7) (Kd.dflt KP)).2).2).1, (((((List.getD p6 (Int.toNat p7) (Kd.dflt KP)).2).2).2).1, ((((((List.getD p6 (Int.toNat p7) (Kd.dflt KP)).2).2).2).2).1, (((((((List.getD p6 (Int.toNat p7) (Kd.dflt KP)).2).2).2).2).2).1, ())))))), ()))] : List Se)), h1266.1, h1266.2, h1268, trivial⟩ (antiquarylaw44_run_l9_ok s0 hs0 s6 hs6 (antiquarylaw44_run_l8 s0 s6 k) ih k p1 p2 p3 p4 p5 p6 p7 p8 p9 (p10 ++ ([((IntKind.i64.wrap ((1 : Int) - p12)), (((List.getD p6 (Int.toNat p7) (Kd.dflt KP)).1, (((((List.getD p6 (Int.toNat p7) (Kd.dflt KP)).2).1).1, (((((List.getD p6 (Int.toNat p7) (Kd.dflt KP)).2).1).2).1, ())), ((((List.getD p6 (Int.toNat p7) (Kd.dflt KP)).2).2).1, (((((List.getD p6 (Int.toNat p7) (Kd.dflt KP)).2).2).2).1, ((((((List.getD p6 (Int.toNat p7) (Kd.dflt KP)).2).2).2).2).1, (((((((List.getD p6 (Int.toNat p7) (Kd.dflt KP)).2).2).2).2).2).1, ())))))), ()))] : List Se)) p11 p12 p13 p14 p15 p16 p17 p18 p19 r h)
    · exact Abs.Good.path hm [.reg [], .cond false, .reg [], .keep [sk 2, sk 3, sk 8, sk 12, sk 13, sk 14, sk 15, sk 18, sk 19, sk 20, ek 508001, ek 508002, ek 508003, ek 508005, ek 508004], .ren [(508001, 506001), (508002, 506002), (508003, 506003), (508005, 506005), (508004, 506004)]] (cs := [_]) (by kernel_rfl) ⟨h1265, trivial⟩ (hs6 p1 p2 p3 p4 (IntKind.i64.wrap (p5 + (1 : Int))) p8 p9 p10 p11 p12 p13 p14 p15 p16 p17 p18 p19 r h)
theorem antiquarylaw44_run_l7_ok (s0 : List Int → Bool → Int → (List (List It × Unit)) → (List (List It × Unit)) → List Se → List Se → Option (List (List It × Unit) × List Se × Bool × Bool)) (hs0 : ∀ (p1 : List Int) (p2 : Bool) (p3 : Int) (p4 : List (List It × Unit)) (p5 : List (List It × Unit)) (p6 : List Se) (p7 : List Se) (r : List (List It × Unit) × List Se × Bool × Bool), s0 p1 p2 p3 p4 p5 p6 p7 = some r → Abs.Good P 39 Tryd.f39.ntmps [] [] (.t [.p (Kd.arr 2 (Kd.pair (Kd.sl KI) Kd.unit)) r.1, .p (Kd.sl KSe) r.2.1, .p Kd.bool r.2.2.1, .p Kd.bool r.2.2.2]) (pos Tryd.f39 [.r, .r, .r, .r, .r]) [(sk 2, some (.v (.p (Kd.sl (Kd.int .u8)) p1))), (sk 3, some (.v (.p Kd.bool p2))), (sk 8, some (.v (.ptr 500001 0))), (sk 12, some (.v (.ptr 500002 0))), (sk 13, some (.v (.row 500003 (List.length p6)))), (sk 14, some (.v (.row 500004 (List.length p7)))), (sk 15, some (.v (.p (Kd.int .i64) p3))), (ek 500001, some (.box [.p (Kd.arr 2 (Kd.pair (Kd.sl KI) Kd.unit)) p4])), (ek 500002, some (.box [.p (Kd.arr 2 (Kd.pair (Kd.sl KI) Kd.unit)) p5])), (ek 500003, some (.row KSe 78 p6)), (ek 500004, some (.row KSe 78 p7))]) (s6 : List Int → Bool → Int → Int → Int → (List (List It × Unit)) → (List (List It × Unit)) → List Se → List Se → Int → Int → List Int → Int → List Int → Int → List (List Int) → ByteArray → Option (List (List It × Unit) × List Se × Bool × Bool)) (hs6 : ∀ (p1 : List Int) (p2 : Bool) (p3 : Int) (p4 : Int) (p5 : Int) (p6 : List (List It × Unit)) (p7 : List (List It × Unit)) (p8 : List Se) (p9 : List Se) (p10 : Int) (p11 : Int) (p12 : List Int) (p13 : Int) (p14 : List Int) (p15 : Int) (p16 : List (List Int)) (p17 : ByteArray) (r : List (List It × Unit) × List Se × Bool × Bool), s6 p1 p2 p3 p4 p5 p6 p7 p8 p9 p10 p11 p12 p13 p14 p15 p16 p17 = some r → Abs.Good P 39 Tryd.f39.ntmps [] [] (.t [.p (Kd.arr 2 (Kd.pair (Kd.sl KI) Kd.unit)) r.1, .p (Kd.sl KSe) r.2.1, .p Kd.bool r.2.2.1, .p Kd.bool r.2.2.2]) (pos Tryd.f39 [.r, .r, .r, .r, .r, .r, .c true, .r, .r, .c false, .r, .r, .r, .r, .r, .c false, .r, .r, .c false, .r]) [(sk 2, some (.v (.p (Kd.sl (Kd.int .u8)) p1))), (sk 3, some (.v (.p Kd.bool p2))), (sk 8, some (.v (.ptr 506001 0))), (sk 12, some (.v (.ptr 506002 0))), (sk 13, some (.v (.row 506003 (List.length p8)))), (sk 14, some (.v (.row 506005 (List.length p9)))), (sk 15, some (.v (.p (Kd.int .i64) p3))), (sk 18, some (.v (.ptr 506004 0))), (sk 19, some (.v (.p (Kd.int .i64) p4))), (sk 20, some (.v (.p (Kd.int .i64) p5))), (ek 506001, some (.box [.p (Kd.arr 2 (Kd.pair (Kd.sl KI) Kd.unit)) p6])), (ek 506002, some (.box [.p (Kd.arr 2 (Kd.pair (Kd.sl KI) Kd.unit)) p7])), (ek 506003, some (.row KSe 78 p8)), (ek 506005, some (.row KSe 78 p9)), (ek 506004, some (.box [.p (Kd.int .i64) p10, .p (Kd.int .i64) p11, .p (Kd.arr 16 (Kd.int .u8)) p12, .p (Kd.int .i64) p13, .p (Kd.arr 16 (Kd.int .u8)) p14, .p (Kd.int .i64) p15, .p (Kd.sl (Kd.arr 16 (Kd.int .u8))) p16, .p Kd.str p17]))]) (k : Nat) (p1 : List Int) (p2 : Bool) (p3 : Int) (p4 : Int) (p5 : Int) (p6 : List Pt) (p7 : Bool) (p8 : List (List It × Unit)) (p9 : List (List It × Unit)) (p10 : List Se) (p11 : List Se) (p12 : Int) (p13 : Int) (p14 : List Int) (p15 : Int) (p16 : List Int) (p17 : Int) (p18 : List (List Int)) (p19 : ByteArray) (p20 : List It) (r : List (List It × Unit) × List Se × Bool × Bool) (h : antiquarylaw44_run_l7 s0 s6 k p1 p2 p3 p4 p5 p6 p7 p8 p9 p10 p11 p12 p13 p14 p15 p16 p17 p18 p19 p20 = some r) :
    Abs.Good P 39 Tryd.f39.ntmps [] [] (.t [.p (Kd.arr 2 (Kd.pair (Kd.sl KI) Kd.unit)) r.1, .p (Kd.sl KSe) r.2.1, .p Kd.bool r.2.2.1, .p Kd.bool r.2.2.2]) (pos Tryd.f39 [.r, .r, .r, .r, .r, .r, .c true, .r, .r, .c false, .r, .r, .r, .r, .r, .c false, .r, .r, .c false, .r, .r, .c true, .r, .r]) [(sk 2, some (.v (.p (Kd.sl (Kd.int .u8)) p1))), (sk 3, some (.v (.p Kd.bool p2))), (sk 8, some (.v (.ptr 507001 0))), (sk 12, some (.v (.ptr 507002 0))), (sk 13, some (.v (.row 507003 (List.length p10)))), (sk 14, some (.v (.row 507006 (List.length p11)))), (sk 15, some (.v (.p (Kd.int .i64) p3))), (sk 18, some (.v (.ptr 507004 0))), (sk 19, some (.v (.p (Kd.int .i64) p4))), (sk 20, some (.v (.p (Kd.int .i64) p5))), (sk 21, some (.v (.ptr 507005 0))), (sk 22, some (.v (.p (Kd.sl KP) p6))), (sk 109, some (.v (.p Kd.bool p7))), (ek 507001, some (.box [.p (Kd.arr 2 (Kd.pair (Kd.sl KI) Kd.unit)) p8])), (ek 507002, some (.box [.p (Kd.arr 2 (Kd.pair (Kd.sl KI) Kd.unit)) p9])), (ek 507003, some (.row KSe 78 p10)), (ek 507006, some (.row KSe 78 p11)), (ek 507004, some (.box [.p (Kd.int .i64) p12, .p (Kd.int .i64) p13, .p (Kd.arr 16 (Kd.int .u8)) p14, .p (Kd.int .i64) p15, .p (Kd.arr 16 (Kd.int .u8)) p16, .p (Kd.int .i64) p17, .p (Kd.sl (Kd.arr 16 (Kd.int .u8))) p18, .p Kd.str p19])), (ek 507005, some (.box [.p (Kd.sl KI) p20]))] := by
  unfold antiquarylaw44_run_l7 at h
  rcases br_inv h with ⟨h1263, h⟩ | ⟨h1263, h⟩
  · replace h := Option.some.inj h; subst h
    exact Abs.Good.path_ret hm [.cond true, .reg []] [507006] Tryd.func39 (cs := [_, _]) (by kernel_rfl) ⟨h1263, (rfl : (List.length p11) = List.length p11), trivial⟩ (by kernel_rfl)
  · obtain ⟨h1264, h⟩ := gd_inv h
    exact Abs.Good.path hm [.cond false, .reg [], .reg [], .keep [sk 2, sk 3, sk 8, sk 12, sk 13, sk 14, sk 15, sk 18, sk 19, sk 20, sk 22, sk 24, ek 507001, ek 507002, ek 507003, ek 507006, ek 507004], .ren [(507001, 508001), (507002, 508002), (507003, 508003), (507006, 508005), (507004, 508004)]] (cs := [_, _, _]) (by kernel_rfl) ⟨h1263, h1264.1, h1264.2, trivial⟩ (antiquarylaw44_run_l8_ok s0 hs0 s6 hs6 k p1 p2 p3 p4 p5 p6 (0 : Int) p8 (List.set p9 (Int.toNat p12) (p20, ())) p10 p11 p12 p13 p14 p15 p16 p17 p18 p19 r h)
theorem antiquarylaw44_run_l6_ok (s0 : List Int → Bool → Int → (List (List It × Unit)) → (List (List It × Unit)) → List Se → List Se → Option (List (List It × Unit) × List Se × Bool × Bool)) (hs0 : ∀ (p1 : List Int) (p2 : Bool) (p3 : Int) (p4 : List (List It × Unit)) (p5 : List (List It × Unit)) (p6 : List Se) (p7 : List Se) (r : List (List It × Unit) × List Se × Bool × Bool), s0 p1 p2 p3 p4 p5 p6 p7 = some r → Abs.Good P 39 Tryd.f39.ntmps [] [] (.t [.p (Kd.arr 2 (Kd.pair (Kd.sl KI) Kd.unit)) r.1, .p (Kd.sl KSe) r.2.1, .p Kd.bool r.2.2.1, .p Kd.bool r.2.2.2]) (pos Tryd.f39 [.r, .r, .r, .r, .r]) [(sk 2, some (.v (.p (Kd.sl (Kd.int .u8)) p1))), (sk 3, some (.v (.p Kd.bool p2))), (sk 8, some (.v (.ptr 500001 0))), (sk 12, some (.v (.ptr 500002 0))), (sk 13, some (.v (.row 500003 (List.length p6)))), (sk 14, some (.v (.row 500004 (List.length p7)))), (sk 15, some (.v (.p (Kd.int .i64) p3))), (ek 500001, some (.box [.p (Kd.arr 2 (Kd.pair (Kd.sl KI) Kd.unit)) p4])), (ek 500002, some (.box [.p (Kd.arr 2 (Kd.pair (Kd.sl KI) Kd.unit)) p5])), (ek 500003, some (.row KSe 78 p6)), (ek 500004, some (.row KSe 78 p7))]) (k : Nat) : ∀ (p1 : List Int) (p2 : Bool) (p3 : Int) (p4 : Int) (p5 : Int) (p6 : List (List It × Unit)) (p7 : List (List It × Unit)) (p8 : List Se) (p9 : List Se) (p10 : Int) (p11 : Int) (p12 : List Int) (p13 : Int) (p14 : List Int) (p15 : Int) (p16 : List (List Int)) (p17 : ByteArray) (r : List (List It × Unit) × List Se × Bool × Bool), antiquarylaw44_run_l6 s0 k p1 p2 p3 p4 p5 p6 p7 p8 p9 p10 p11 p12 p13 p14 p15 p16 p17 = some r →
    Abs.Good P 39 Tryd.f39.ntmps [] [] (.t [.p (Kd.arr 2 (Kd.pair (Kd.sl KI) Kd.unit)) r.1, .p (Kd.sl KSe) r.2.1, .p Kd.bool r.2.2.1, .p Kd.bool r.2.2.2]) (pos Tryd.f39 [.r, .r, .r, .r, .r, .r, .c true, .r, .r, .c false, .r, .r, .r, .r, .r, .c false, .r, .r, .c false, .r]) [(sk 2, some (.v (.p (Kd.sl (Kd.int .u8)) p1))), (sk 3, some (.v (.p Kd.bool p2))), (sk 8, some (.v (.ptr 506001 0))), (sk 12, some (.v (.ptr 506002 0))), (sk 13, some (.v (.row 506003 (List.length p8)))), (sk 14, some (.v (.row 506005 (List.length p9)))), (sk 15, some (.v (.p (Kd.int .i64) p3))), (sk 18, some (.v (.ptr 506004 0))), (sk 19, some (.v (.p (Kd.int .i64) p4))), (sk 20, some (.v (.p (Kd.int .i64) p5))), (ek 506001, some (.box [.p (Kd.arr 2 (Kd.pair (Kd.sl KI) Kd.unit)) p6])), (ek 506002, some (.box [.p (Kd.arr 2 (Kd.pair (Kd.sl KI) Kd.unit)) p7])), (ek 506003, some (.row KSe 78 p8)), (ek 506005, some (.row KSe 78 p9)), (ek 506004, some (.box [.p (Kd.int .i64) p10, .p (Kd.int .i64) p11, .p (Kd.arr 16 (Kd.int .u8)) p12, .p (Kd.int .i64) p13, .p (Kd.arr 16 (Kd.int .u8)) p14, .p (Kd.int .i64) p15, .p (Kd.sl (Kd.arr 16 (Kd.int .u8))) p16, .p Kd.str p17]))] := by
  induction k with
  | zero => intro p1 p2 p3 p4 p5 p6 p7 p8 p9 p10 p11 p12 p13 p14 p15 p16 p17 r h; cases h
  | succ k ih =>
    intro p1 p2 p3 p4 p5 p6 p7 p8 p9 p10 p11 p12 p13 p14 p15 p16 p17 r h
    unfold antiquarylaw44_run_l6 at h
    rcases br_inv h with ⟨h1258, h⟩ | ⟨h1258, h⟩
    · obtain ⟨h1259, h⟩ := gd_inv h
      obtain ⟨x1260, h1261, h⟩ := bind_inv h
      rcases br_inv h with ⟨h1262, h⟩ | ⟨h1262, h⟩
      · exact Abs.Good.path hm [.reg [], .cond true, .reg [(6, { call := some { lend := [], pass := [], res := .t [.agg [.p (Kd.sl KI) x1260.1], .p (Kd.sl KP) x1260.2.1, .p (Kd.int .i64) x1260.2.2], outs := [], back := [] } })], .reg [(3, { dec := some true }), (4, { dec := some true }), (5, { pick := some true })], .keep [sk 2, sk 3, sk 8, sk 12, sk 13, sk 14, sk 15, sk 18, sk 19, sk 20, sk 21, sk 22, sk 109, ek 506001, ek 506002, ek 506003, ek 506005, ek 506004, ek 21], .ren [(506001, 507001), (506002, 507002), (506003, 507003), (506005, 507006), (506004, 507004), (21, 507005)]] (cs := [_, _, _, _, _, _, _]) (by kernel_rfl) ⟨h1258, h1259.1, h1259.2, (exchange_Hear_ok k ((List.getD p7 (Int.toNat p10) (Kd.dflt (Kd.pair (Kd.sl KI) Kd.unit))).1) p11 p12 p13 p14 p15 p16 p17 _ h1261), h1262, h1262, h1262, trivial⟩ (antiquarylaw44_run_l7_ok s0 hs0 (antiquarylaw44_run_l6 s0 k) ih k p1 p2 p3 p4 p5 x1260.2.1 (x1260.2.2 != (6 : Int)) p6 p7 p8 p9 p10 p11 p12 p13 p14 p15 p16 p17 x1260.1 r h)
      · exact Abs.Good.path hm [.reg [], .cond true, .reg [(6, { call := some { lend := [], pass := [], res := .t [.agg [.p (Kd.sl KI) x1260.1], .p (Kd.sl KP) x1260.2.1, .p (Kd.int .i64) x1260.2.2], outs := [], back := [] } })], .reg [(3, { dec := some false }), (4, { dec := some false }), (5, { pick := some false })], .keep [sk 2, sk 3, sk 8, sk 12, sk 13, sk 14, sk 15, sk 18, sk 19, sk 20, sk 21, sk 22, sk 109, ek 506001, ek 506002, ek 506003, ek 506005, ek 506004, ek 21], .ren [(506001, 507001), (506002, 507002), (506003, 507003), (506005, 507006), (506004, 507004), (21, 507005)]] (cs := [_, _, _, _, _, _, _]) (by kernel_rfl) ⟨h1258, h1259.1, h1259.2, (exchange_Hear_ok k ((List.getD p7 (Int.toNat p10) (Kd.dflt (Kd.pair (Kd.sl KI) Kd.unit))).1) p11 p12 p13 p14 p15 p16 p17 _ h1261), h1262, h1262, h1262, trivial⟩ (antiquarylaw44_run_l7_ok s0 hs0 (antiquarylaw44_run_l6 s0 k) ih k p1 p2 p3 p4 p5 x1260.2.1 false p6 p7 p8 p9 p10 p11 p12 p13 p14 p15 p16 p17 x1260.1 r h)
    · exact Abs.Good.path hm [.reg [], .cond false, .keep [sk 2, sk 3, sk 8, sk 12, sk 13, sk 14, sk 15, ek 506001, ek 506002, ek 506003, ek 506005], .ren [(506001, 500001), (506002, 500002), (506003, 500003), (506005, 500004)]] (cs := [_]) (by kernel_rfl) ⟨h1258, trivial⟩ (hs0 p1 p2 p3 p6 p7 p8 p9 r h)
theorem antiquarylaw44_run_l5_ok (s0 : List Int → Bool → Int → (List (List It × Unit)) → (List (List It × Unit)) → List Se → List Se → Option (List (List It × Unit) × List Se × Bool × Bool)) (hs0 : ∀ (p1 : List Int) (p2 : Bool) (p3 : Int) (p4 : List (List It × Unit)) (p5 : List (List It × Unit)) (p6 : List Se) (p7 : List Se) (r : List (List It × Unit) × List Se × Bool × Bool), s0 p1 p2 p3 p4 p5 p6 p7 = some r → Abs.Good P 39 Tryd.f39.ntmps [] [] (.t [.p (Kd.arr 2 (Kd.pair (Kd.sl KI) Kd.unit)) r.1, .p (Kd.sl KSe) r.2.1, .p Kd.bool r.2.2.1, .p Kd.bool r.2.2.2]) (pos Tryd.f39 [.r, .r, .r, .r, .r]) [(sk 2, some (.v (.p (Kd.sl (Kd.int .u8)) p1))), (sk 3, some (.v (.p Kd.bool p2))), (sk 8, some (.v (.ptr 500001 0))), (sk 12, some (.v (.ptr 500002 0))), (sk 13, some (.v (.row 500003 (List.length p6)))), (sk 14, some (.v (.row 500004 (List.length p7)))), (sk 15, some (.v (.p (Kd.int .i64) p3))), (ek 500001, some (.box [.p (Kd.arr 2 (Kd.pair (Kd.sl KI) Kd.unit)) p4])), (ek 500002, some (.box [.p (Kd.arr 2 (Kd.pair (Kd.sl KI) Kd.unit)) p5])), (ek 500003, some (.row KSe 78 p6)), (ek 500004, some (.row KSe 78 p7))]) (k : Nat) (p1 : List Int) (p2 : Bool) (p3 : Int) (p4 : Int) (p5 : List (List It × Unit)) (p6 : List (List It × Unit)) (p7 : List Se) (p8 : List Se) (p9 : Int) (p10 : Int) (p11 : List Int) (p12 : Int) (p13 : List Int) (p14 : Int) (p15 : List (List Int)) (p16 : ByteArray) (r : List (List It × Unit) × List Se × Bool × Bool) (h : antiquarylaw44_run_l5 s0 k p1 p2 p3 p4 p5 p6 p7 p8 p9 p10 p11 p12 p13 p14 p15 p16 = some r) :
    Abs.Good P 39 Tryd.f39.ntmps [] [] (.t [.p (Kd.arr 2 (Kd.pair (Kd.sl KI) Kd.unit)) r.1, .p (Kd.sl KSe) r.2.1, .p Kd.bool r.2.2.1, .p Kd.bool r.2.2.2]) (pos Tryd.f39 [.r, .r, .r, .r, .r, .r, .c true, .r, .r, .c false, .r, .r, .r, .r, .r, .c false, .r, .r, .c false]) [(sk 2, some (.v (.p (Kd.sl (Kd.int .u8)) p1))), (sk 3, some (.v (.p Kd.bool p2))), (sk 8, some (.v (.ptr 505001 0))), (sk 12, some (.v (.ptr 505002 0))), (sk 13, some (.v (.row 505003 (List.length p7)))), (sk 14, some (.v (.row 505005 (List.length p8)))), (sk 15, some (.v (.p (Kd.int .i64) p3))), (sk 18, some (.v (.ptr 505004 0))), (sk 19, some (.v (.p (Kd.int .i64) p4))), (ek 505001, some (.box [.p (Kd.arr 2 (Kd.pair (Kd.sl KI) Kd.unit)) p5])), (ek 505002, some (.box [.p (Kd.arr 2 (Kd.pair (Kd.sl KI) Kd.unit)) p6])), (ek 505003, some (.row KSe 78 p7)), (ek 505005, some (.row KSe 78 p8)), (ek 505004, some (.box [.p (Kd.int .i64) p9, .p (Kd.int .i64) p10, .p (Kd.arr 16 (Kd.int .u8)) p11, .p (Kd.int .i64) p12, .p (Kd.arr 16 (Kd.int .u8)) p13, .p (Kd.int .i64) p14, .p (Kd.sl (Kd.arr 16 (Kd.int .u8))) p15, .p Kd.str p16]))] := by
  unfold antiquarylaw44_run_l5 at h
  exact Abs.Good.path hm [.reg [], .keep [sk 2, sk 3, sk 8, sk 12, sk 13, sk 14, sk 15, sk 18, sk 19, sk 20, ek 505001, ek 505002, ek 505003, ek 505005, ek 505004], .ren [(505001, 506001), (505002, 506002), (505003, 506003), (505005, 506005), (505004, 506004)]] (cs := []) (by kernel_rfl) trivial (antiquarylaw44_run_l6_ok s0 hs0 k p1 p2 p3 p4 (0 : Int) p5 p6 p7 p8 p9 p10 p11 p12 p13 p14 p15 p16 r h)
theorem antiquarylaw44_run_l4_ok (s0 : List Int → Bool → Int → (List (List It × Unit)) → (List (List It × Unit)) → List Se → List Se → Option (List (List It × Unit) × List Se × Bool × Bool)) (hs0 : ∀ (p1 : List Int) (p2 : Bool) (p3 : Int) (p4 : List (List It × Unit)) (p5 : List (List It × Unit)) (p6 : List Se) (p7 : List Se) (r : List (List It × Unit) × List Se × Bool × Bool), s0 p1 p2 p3 p4 p5 p6 p7 = some r → Abs.Good P 39 Tryd.f39.ntmps [] [] (.t [.p (Kd.arr 2 (Kd.pair (Kd.sl KI) Kd.unit)) r.1, .p (Kd.sl KSe) r.2.1, .p Kd.bool r.2.2.1, .p Kd.bool r.2.2.2]) (pos Tryd.f39 [.r, .r, .r, .r, .r]) [(sk 2, some (.v (.p (Kd.sl (Kd.int .u8)) p1))), (sk 3, some (.v (.p Kd.bool p2))), (sk 8, some (.v (.ptr 500001 0))), (sk 12, some (.v (.ptr 500002 0))), (sk 13, some (.v (.row 500003 (List.length p6)))), (sk 14, some (.v (.row 500004 (List.length p7)))), (sk 15, some (.v (.p (Kd.int .i64) p3))), (ek 500001, some (.box [.p (Kd.arr 2 (Kd.pair (Kd.sl KI) Kd.unit)) p4])), (ek 500002, some (.box [.p (Kd.arr 2 (Kd.pair (Kd.sl KI) Kd.unit)) p5])), (ek 500003, some (.row KSe 78 p6)), (ek 500004, some (.row KSe 78 p7))]) (k : Nat) (p1 : List Int) (p2 : Bool) (p3 : Int) (p4 : Int) (p5 : Bool) (p6 : List (List It × Unit)) (p7 : List (List It × Unit)) (p8 : List Se) (p9 : List Se) (p10 : Int) (p11 : Int) (p12 : List Int) (p13 : Int) (p14 : List Int) (p15 : Int) (p16 : List (List Int)) (p17 : ByteArray) (r : List (List It × Unit) × List Se × Bool × Bool) (h : antiquarylaw44_run_l4 s0 k p1 p2 p3 p4 p5 p6 p7 p8 p9 p10 p11 p12 p13 p14 p15 p16 p17 = some r) :
    Abs.Good P 39 Tryd.f39.ntmps [] [] (.t [.p (Kd.arr 2 (Kd.pair (Kd.sl KI) Kd.unit)) r.1, .p (Kd.sl KSe) r.2.1, .p Kd.bool r.2.2.1, .p Kd.bool r.2.2.2]) (pos Tryd.f39 [.r, .r, .r, .r, .r, .r, .c true, .r, .r, .c false, .r, .r, .r, .r, .r, .c false, .r, .r]) [(sk 2, some (.v (.p (Kd.sl (Kd.int .u8)) p1))), (sk 3, some (.v (.p Kd.bool p2))), (sk 8, some (.v (.ptr 504001 0))), (sk 12, some (.v (.ptr 504002 0))), (sk 13, some (.v (.row 504003 (List.length p8)))), (sk 14, some (.v (.row 504005 (List.length p9)))), (sk 15, some (.v (.p (Kd.int .i64) p3))), (sk 18, some (.v (.ptr 504004 0))), (sk 19, some (.v (.p (Kd.int .i64) p4))), (sk 87, some (.v (.p Kd.bool p5))), (ek 504001, some (.box [.p (Kd.arr 2 (Kd.pair (Kd.sl KI) Kd.unit)) p6])), (ek 504002, some (.box [.p (Kd.arr 2 (Kd.pair (Kd.sl KI) Kd.unit)) p7])), (ek 504003, some (.row KSe 78 p8)), (ek 504005, some (.row KSe 78 p9)), (ek 504004, some (.box [.p (Kd.int .i64) p10, .p (Kd.int .i64) p11, .p (Kd.arr 16 (Kd.int .u8)) p12, .p (Kd.int .i64) p13, .p (Kd.arr 16 (Kd.int .u8)) p14, .p (Kd.int .i64) p15, .p (Kd.sl (Kd.arr 16 (Kd.int .u8))) p16, .p Kd.str p17]))] := by
  unfold antiquarylaw44_run_l4 at h
  rcases br_inv h with ⟨h1257, h⟩ | ⟨h1257, h⟩
  · exact Abs.Good.path hm [.cond true, .reg [], .keep [sk 2, sk 3, sk 8, sk 12, sk 13, sk 14, sk 15, sk 18, sk 19, ek 504001, ek 504002, ek 504003, ek 504005, ek 504004], .ren [(504001, 505001), (504002, 505002), (504003, 505003), (504005, 505005), (504004, 505004)]] (cs := [_]) (by kernel_rfl) ⟨h1257, trivial⟩ (antiquarylaw44_run_l5_ok s0 hs0 k p1 p2 p3 (2 : Int) p6 p7 p8 p9 p10 p11 p12 p13 p14 p15 p16 p17 r h)
  · exact Abs.Good.path hm [.cond false, .keep [sk 2, sk 3, sk 8, sk 12, sk 13, sk 14, sk 15, sk 18, sk 19, ek 504001, ek 504002, ek 504003, ek 504005, ek 504004], .ren [(504001, 505001), (504002, 505002), (504003, 505003), (504005, 505005), (504004, 505004)]] (cs := [_]) (by kernel_rfl) ⟨h1257, trivial⟩ (antiquarylaw44_run_l5_ok s0 hs0 k p1 p2 p3 p4 p6 p7 p8 p9 p10 p11 p12 p13 p14 p15 p16 p17 r h)
theorem antiquarylaw44_run_l3_ok (s0 : List Int → Bool → Int → (List (List It × Unit)) → (List (List It × Unit)) → List Se → List Se → Option (List (List It × Unit) × List Se × Bool × Bool)) (hs0 : ∀ (p1 : List Int) (p2 : Bool) (p3 : Int) (p4 : List (List It × Unit)) (p5 : List (List It × Unit)) (p6 : List Se) (p7 : List Se) (r : List (List It × Unit) × List Se × Bool × Bool), s0 p1 p2 p3 p4 p5 p6 p7 = some r → Abs.Good P 39 Tryd.f39.ntmps [] [] (.t [.p (Kd.arr 2 (Kd.pair (Kd.sl KI) Kd.unit)) r.1, .p (Kd.sl KSe) r.2.1, .p Kd.bool r.2.2.1, .p Kd.bool r.2.2.2]) (pos Tryd.f39 [.r, .r, .r, .r, .r]) [(sk 2, some (.v (.p (Kd.sl (Kd.int .u8)) p1))), (sk 3, some (.v (.p Kd.bool p2))), (sk 8, some (.v (.ptr 500001 0))), (sk 12, some (.v (.ptr 500002 0))), (sk 13, some (.v (.row 500003 (List.length p6)))), (sk 14, some (.v (.row 500004 (List.length p7)))), (sk 15, some (.v (.p (Kd.int .i64) p3))), (ek 500001, some (.box [.p (Kd.arr 2 (Kd.pair (Kd.sl KI) Kd.unit)) p4])), (ek 500002, some (.box [.p (Kd.arr 2 (Kd.pair (Kd.sl KI) Kd.unit)) p5])), (ek 500003, some (.row KSe 78 p6)), (ek 500004, some (.row KSe 78 p7))]) (k : Nat) (p1 : List Int) (p2 : Bool) (p3 : Int) (p4 : Int) (p5 : Bool) (p6 : List (List It × Unit)) (p7 : List (List It × Unit)) (p8 : List Se) (p9 : List Se) (p10 : Int) (p11 : Int) (p12 : List Int) (p13 : Int) (p14 : List Int) (p15 : Int) (p16 : List (List Int)) (p17 : ByteArray) (r : List (List It × Unit) × List Se × Bool × Bool) (h : antiquarylaw44_run_l3 s0 k p1 p2 p3 p4 p5 p6 p7 p8 p9 p10 p11 p12 p13 p14 p15 p16 p17 = some r) :
    Abs.Good P 39 Tryd.f39.ntmps [] [] (.t [.p (Kd.arr 2 (Kd.pair (Kd.sl KI) Kd.unit)) r.1, .p (Kd.sl KSe) r.2.1, .p Kd.bool r.2.2.1, .p Kd.bool r.2.2.2]) (pos Tryd.f39 [.r, .r, .r, .r, .r, .r, .c true, .r, .r, .c false, .r, .r, .r, .r, .r]) [(sk 2, some (.v (.p (Kd.sl (Kd.int .u8)) p1))), (sk 3, some (.v (.p Kd.bool p2))), (sk 8, some (.v (.ptr 503001 0))), (sk 12, some (.v (.ptr 503002 0))), (sk 13, some (.v (.row 503003 (List.length p8)))), (sk 14, some (.v (.row 503005 (List.length p9)))), (sk 15, some (.v (.p (Kd.int .i64) p3))), (sk 16, some (.v (.p (Kd.int .i64) p4))), (sk 18, some (.v (.ptr 503004 0))), (sk 75, some (.v (.p Kd.bool p5))), (ek 503001, some (.box [.p (Kd.arr 2 (Kd.pair (Kd.sl KI) Kd.unit)) p6])), (ek 503002, some (.box [.p (Kd.arr 2 (Kd.pair (Kd.sl KI) Kd.unit)) p7])), (ek 503003, some (.row KSe 78 p8)), (ek 503005, some (.row KSe 78 p9)), (ek 503004, some (.box [.p (Kd.int .i64) p10, .p (Kd.int .i64) p11, .p (Kd.arr 16 (Kd.int .u8)) p12, .p (Kd.int .i64) p13, .p (Kd.arr 16 (Kd.int .u8)) p14, .p (Kd.int .i64) p15, .p (Kd.sl (Kd.arr 16 (Kd.int .u8))) p16, .p Kd.str p17]))] := by
  unfold antiquarylaw44_run_l3 at h
  rcases br_inv h with ⟨h1254, h⟩ | ⟨h1254, h⟩
  · exact Abs.Good.path hm [.cond true, .keep [sk 2, sk 3, sk 8, sk 12, sk 13, sk 14, sk 15, ek 503001, ek 503002, ek 503003, ek 503005], .ren [(503001, 500001), (503002, 500002), (503003, 500003), (503005, 500004)]] (cs := [_]) (by kernel_rfl) ⟨h1254, trivial⟩ (hs0 p1 p2 p3 p6 p7 p8 p9 r h)
  · rcases br_inv h with ⟨h1255, h⟩ | ⟨h1255, h⟩
    · rcases br_inv h with ⟨h1256, h⟩ | ⟨h1256, h⟩
      · exact Abs.Good.path hm [.cond false, .reg [], .reg [(4, { dec := some true }), (5, { dec := some true }), (6, { dec := some true }), (7, { pick := some true }), (9, { dec := some true }), (10, { dec := some true }), (11, { pick := some true })], .keep [sk 2, sk 3, sk 8, sk 12, sk 13, sk 14, sk 15, sk 18, sk 19, sk 87, ek 503001, ek 503002, ek 503003, ek 503005, ek 503004], .ren [(503001, 504001), (503002, 504002), (503003, 504003), (503005, 504005), (503004, 504004)]] (cs := [_, _, _, _, _, _, _, _, _]) (by kernel_rfl) ⟨h1254, h1255, h1255, (by decide : (2 : Int) ≠ 0), h1255, h1255, h1256, h1256, h1256, trivial⟩ (antiquarylaw44_run_l4_ok s0 hs0 k p1 p2 p3 (1 : Int) (decide (p3 < (200 : Int))) p6 p7 p8 p9 p10 p11 p12 p13 p14 p15 p16 p17 r h)
      · exact Abs.Good.path hm [.cond false, .reg [], .reg [(4, { dec := some true }), (5, { dec := some true }), (6, { dec := some true }), (7, { pick := some true }), (9, { dec := some false }), (10, { dec := some false }), (11, { pick := some false })], .keep [sk 2, sk 3, sk 8, sk 12, sk 13, sk 14, sk 15, sk 18, sk 19, sk 87, ek 503001, ek 503002, ek 503003, ek 503005, ek 503004], .ren [(503001, 504001), (503002, 504002), (503003, 504003), (503005, 504005), (503004, 504004)]] (cs := [_, _, _, _, _, _, _, _, _]) (by kernel_rfl) ⟨h1254, h1255, h1255, (by decide : (2 : Int) ≠ 0), h1255, h1255, h1256, h1256, h1256, trivial⟩ (antiquarylaw44_run_l4_ok s0 hs0 k p1 p2 p3 (1 : Int) false p6 p7 p8 p9 p10 p11 p12 p13 p14 p15 p16 p17 r h)
    · exact Abs.Good.path hm [.cond false, .reg [], .reg [(4, { dec := some false }), (5, { dec := some false }), (6, { dec := some false }), (7, { pick := some false }), (9, { dec := some false }), (10, { dec := some false }), (11, { pick := some false })], .keep [sk 2, sk 3, sk 8, sk 12, sk 13, sk 14, sk 15, sk 18, sk 19, sk 87, ek 503001, ek 503002, ek 503003, ek 503005, ek 503004], .ren [(503001, 504001), (503002, 504002), (503003, 504003), (503005, 504005), (503004, 504004)]] (cs := [_, _, _, _, _, _, _, _]) (by kernel_rfl) ⟨h1254, h1255, h1255, h1255, h1255, (rfl : false = false), (rfl : false = false), (rfl : false = false), trivial⟩ (antiquarylaw44_run_l4_ok s0 hs0 k p1 p2 p3 (1 : Int) false p6 p7 p8 p9 p10 p11 p12 p13 p14 p15 p16 p17 r h)
theorem antiquarylaw44_run_l2_ok (s0 : List Int → Bool → Int → (List (List It × Unit)) → (List (List It × Unit)) → List Se → List Se → Option (List (List It × Unit) × List Se × Bool × Bool)) (hs0 : ∀ (p1 : List Int) (p2 : Bool) (p3 : Int) (p4 : List (List It × Unit)) (p5 : List (List It × Unit)) (p6 : List Se) (p7 : List Se) (r : List (List It × Unit) × List Se × Bool × Bool), s0 p1 p2 p3 p4 p5 p6 p7 = some r → Abs.Good P 39 Tryd.f39.ntmps [] [] (.t [.p (Kd.arr 2 (Kd.pair (Kd.sl KI) Kd.unit)) r.1, .p (Kd.sl KSe) r.2.1, .p Kd.bool r.2.2.1, .p Kd.bool r.2.2.2]) (pos Tryd.f39 [.r, .r, .r, .r, .r]) [(sk 2, some (.v (.p (Kd.sl (Kd.int .u8)) p1))), (sk 3, some (.v (.p Kd.bool p2))), (sk 8, some (.v (.ptr 500001 0))), (sk 12, some (.v (.ptr 500002 0))), (sk 13, some (.v (.row 500003 (List.length p6)))), (sk 14, some (.v (.row 500004 (List.length p7)))), (sk 15, some (.v (.p (Kd.int .i64) p3))), (ek 500001, some (.box [.p (Kd.arr 2 (Kd.pair (Kd.sl KI) Kd.unit)) p4])), (ek 500002, some (.box [.p (Kd.arr 2 (Kd.pair (Kd.sl KI) Kd.unit)) p5])), (ek 500003, some (.row KSe 78 p6)), (ek 500004, some (.row KSe 78 p7))]) (k : Nat) (p1 : List Int) (p2 : Bool) (p3 : Int) (p4 : Int) (p5 : List (List It × Unit)) (p6 : List (List It × Unit)) (p7 : List Se) (p8 : List Se) (r : List (List It × Unit) × List Se × Bool × Bool) (h : antiquarylaw44_run_l2 s0 k p1 p2 p3 p4 p5 p6 p7 p8 = some r) :
    Abs.Good P 39 Tryd.f39.ntmps [] [] (.t [.p (Kd.arr 2 (Kd.pair (Kd.sl KI) Kd.unit)) r.1, .p (Kd.sl KSe) r.2.1, .p Kd.bool r.2.2.1, .p Kd.bool r.2.2.2]) (pos Tryd.f39 [.r, .r, .r, .r, .r, .r, .c true, .r, .r, .c false]) [(sk 2, some (.v (.p (Kd.sl (Kd.int .u8)) p1))), (sk 3, some (.v (.p Kd.bool p2))), (sk 8, some (.v (.ptr 502001 0))), (sk 12, some (.v (.ptr 502002 0))), (sk 13, some (.v (.row 502003 (List.length p7)))), (sk 14, some (.v (.row 502004 (List.length p8)))), (sk 15, some (.v (.p (Kd.int .i64) p3))), (sk 16, some (.v (.p (Kd.int .i64) p4))), (ek 502001, some (.box [.p (Kd.arr 2 (Kd.pair (Kd.sl KI) Kd.unit)) p5])), (ek 502002, some (.box [.p (Kd.arr 2 (Kd.pair (Kd.sl KI) Kd.unit)) p6])), (ek 502003, some (.row KSe 78 p7)), (ek 502004, some (.row KSe 78 p8))] := by
  unfold antiquarylaw44_run_l2 at h
  obtain ⟨h1246, h⟩ := gd_inv h
  obtain ⟨h1247, h⟩ := gd_inv h
  obtain ⟨h1248, h⟩ := gd_inv h
  obtain ⟨h1249, h⟩ := gd_inv h
  obtain ⟨h1250, h⟩ := gd_inv h
  obtain ⟨h1251, h⟩ := gd_inv h
  obtain ⟨h1252, h⟩ := gd_inv h
  rcases br_inv h with ⟨h1253, h⟩ | ⟨h1253, h⟩
  · exact Abs.Good.path hm [.reg [], .reg [], .reg [(4, { pick := some true })], .reg [], .reg [(2, { dec := some true }), (3, { dec := some true }), (4, { dec := some true }), (5, { pick := some true })], .keep [sk 2, sk 3, sk 8, sk 12, sk 13, sk 14, sk 15, sk 16, sk 18, sk 75, ek 502001, ek 502002, ek 67, ek 502004, ek 18], .ren [(502001, 503001), (502002, 503002), (67, 503003), (502004, 503005), (18, 503004)]] (cs := [_, _, _, _, _, _, _, _, _, _, _, _, _, _, _, _, _, _, _, _]) (by kernel_rfl) ⟨h1246, h1247.1, h1247.2.1, h1247.2.2, h1248, h1247.1, h1249, (rfl : 0 = List.length ([] : List Se)), (appBound (P := P) (et := 78) (b := 104) (by kernel_rfl) (by decide) h1250.1), h1250.2, h1251.1, h1251.2, (rfl : (List.length (([] : List Se) ++ (List.take (Int.toNat (Int.tmod p4 ((List.length p7) : Int))) p7))) = List.length (([] : List Se) ++ (List.take (Int.toNat (Int.tmod p4 ((List.length p7) : Int))) p7))), (appBound (P := P) (et := 78) (b := 104) (by kernel_rfl) (by decide) h1252.1), h1252.2, h1253, h1253, (by decide : (7 : Int) ≠ 0), h1253, h1253, trivial⟩ (antiquarylaw44_run_l3_ok s0 hs0 k p1 p2 (IntKind.i64.wrap (p3 + (1 : Int))) p4 ((Int.tmod (IntKind.i64.wrap (p3 + (1 : Int))) (7 : Int)) == (0 : Int)) p5 p6 ((([] : List Se) ++ (List.take (Int.toNat (Int.tmod p4 ((List.length p7) : Int))) p7)) ++ (List.take ((List.length p7) - Int.toNat (IntKind.i64.wrap ((Int.tmod p4 ((List.length p7) : Int)) + (1 : Int)))) (List.drop (Int.toNat (IntKind.i64.wrap ((Int.tmod p4 ((List.length p7) : Int)) + (1 : Int)))) p7))) p8 ((List.getD p7 (Int.toNat (Int.tmod p4 ((List.length p7) : Int))) (Kd.dflt KSe)).1) ((((List.getD p7 (Int.toNat (Int.tmod p4 ((List.length p7) : Int))) (Kd.dflt KSe)).2).1).1) ((((((List.getD p7 (Int.toNat (Int.tmod p4 ((List.length p7) : Int))) (Kd.dflt KSe)).2).1).2).1).1) (((((((List.getD p7 (Int.toNat (Int.tmod p4 ((List.length p7) : Int))) (Kd.dflt KSe)).2).1).2).1).2).1) ((((((List.getD p7 (Int.toNat (Int.tmod p4 ((List.length p7) : Int))) (Kd.dflt KSe)).2).1).2).2).1) (((((((List.getD p7 (Int.toNat (Int.tmod p4 ((List.length p7) : Int))) (Kd.dflt KSe)).2).1).2).2).2).1) ((((((((List.getD p7 (Int.toNat (Int.tmod p4 ((List.length p7) : Int))) (Kd.dflt KSe)).2).1).2).2).2).2).1) (((((((((List.getD p7 (Int.toNat (Int.tmod p4 ((List.length p7) : Int))) (Kd.dflt KSe)).2).1).2).2).2).2).2).1) r h)
  · exact Abs.Good.path hm [.reg [], .reg [], .reg [(4, { pick := some true })], .reg [], .reg [(2, { dec := some false }), (3, { dec := some false }), (4, { dec := some false }), (5, { pick := some false })], .keep [sk 2, sk 3, sk 8, sk 12, sk 13, sk 14, sk 15, sk 16, sk 18, sk 75, ek 502001, ek 502002, ek 67, ek 502004, ek 18], .ren [(502001, 503001), (502002, 503002), (67, 503003), (502004, 503005), (18, 503004)]] (cs := [_, _, _, _, _, _, _, _, _, _, _, _, _, _, _, _, _, _, _]) (by kernel_rfl) ⟨h1246, h1247.1, h1247.2.1, h1247.2.2, h1248, h1247.1, h1249, (rfl : 0 = List.length ([] : List Se)), (appBound (P := P) (et := 78) (b := 104) (by kernel_rfl) (by decide) h1250.1), h1250.2, h1251.1, h1251.2, (rfl : (List.length (([] : List Se) ++ (List.take (Int.toNat (Int.tmod p4 ((List.length p7) : Int))) p7))) = List.length (([] : List Se) ++ (List.take (Int.toNat (Int.tmod p4 ((List.length p7) : Int))) p7))), (appBound (P := P) (et := 78) (b := 104) (by kernel_rfl) (by decide) h1252.1), h1252.2, h1253, h1253, h1253, h1253, trivial⟩ (antiquarylaw44_run_l3_ok s0 hs0 k p1 p2 (IntKind.i64.wrap (p3 + (1 : Int))) p4 false p5 p6 ((([] : List Se) ++ (List.take (Int.toNat (Int.tmod p4 ((List.length p7) : Int))) p7)) ++ (List.take ((List.length p7) - Int.toNat (IntKind.i64.wrap ((Int.tmod p4 ((List.length p7) : Int)) + (1 : Int)))) (List.drop (Int.toNat (IntKind.i64.wrap ((Int.tmod p4 ((List.length p7) : Int)) + (1 : Int)))) p7))) p8 ((List.getD p7 (Int.toNat (Int.tmod p4 ((List.length p7) : Int))) (Kd.dflt KSe)).1) ((((List.getD p7 (Int.toNat (Int.tmod p4 ((List.length p7) : Int))) (Kd.dflt KSe)).2).1).1) ((((((List.getD p7 (Int.toNat (Int.tmod p4 ((List.length p7) : Int))) (Kd.dflt KSe)).2).1).2).1).1) (((((((List.getD p7 (Int.toNat (Int.tmod p4 ((List.length p7) : Int))) (Kd.dflt KSe)).2).1).2).1).2).1) ((((((List.getD p7 (Int.toNat (Int.tmod p4 ((List.length p7) : Int))) (Kd.dflt KSe)).2).1).2).2).1) (((((((List.getD p7 (Int.toNat (Int.tmod p4 ((List.length p7) : Int))) (Kd.dflt KSe)).2).1).2).2).2).1) ((((((((List.getD p7 (Int.toNat (Int.tmod p4 ((List.length p7) : Int))) (Kd.dflt KSe)).2).1).2).2).2).2).1) (((((((((List.getD p7 (Int.toNat (Int.tmod p4 ((List.length p7) : Int))) (Kd.dflt KSe)).2).1).2).2).2).2).2).1) r h)
theorem antiquarylaw44_run_l1_ok (s0 : List Int → Bool → Int → (List (List It × Unit)) → (List (List It × Unit)) → List Se → List Se → Option (List (List It × Unit) × List Se × Bool × Bool)) (hs0 : ∀ (p1 : List Int) (p2 : Bool) (p3 : Int) (p4 : List (List It × Unit)) (p5 : List (List It × Unit)) (p6 : List Se) (p7 : List Se) (r : List (List It × Unit) × List Se × Bool × Bool), s0 p1 p2 p3 p4 p5 p6 p7 = some r → Abs.Good P 39 Tryd.f39.ntmps [] [] (.t [.p (Kd.arr 2 (Kd.pair (Kd.sl KI) Kd.unit)) r.1, .p (Kd.sl KSe) r.2.1, .p Kd.bool r.2.2.1, .p Kd.bool r.2.2.2]) (pos Tryd.f39 [.r, .r, .r, .r, .r]) [(sk 2, some (.v (.p (Kd.sl (Kd.int .u8)) p1))), (sk 3, some (.v (.p Kd.bool p2))), (sk 8, some (.v (.ptr 500001 0))), (sk 12, some (.v (.ptr 500002 0))), (sk 13, some (.v (.row 500003 (List.length p6)))), (sk 14, some (.v (.row 500004 (List.length p7)))), (sk 15, some (.v (.p (Kd.int .i64) p3))), (ek 500001, some (.box [.p (Kd.arr 2 (Kd.pair (Kd.sl KI) Kd.unit)) p4])), (ek 500002, some (.box [.p (Kd.arr 2 (Kd.pair (Kd.sl KI) Kd.unit)) p5])), (ek 500003, some (.row KSe 78 p6)), (ek 500004, some (.row KSe 78 p7))]) (k : Nat) (p1 : List Int) (p2 : Bool) (p3 : Int) (p4 : Bool) (p5 : List (List It × Unit)) (p6 : List (List It × Unit)) (p7 : List Se) (p8 : List Se) (r : List (List It × Unit) × List Se × Bool × Bool) (h : antiquarylaw44_run_l1 s0 k p1 p2 p3 p4 p5 p6 p7 p8 = some r) :
    Abs.Good P 39 Tryd.f39.ntmps [] [] (.t [.p (Kd.arr 2 (Kd.pair (Kd.sl KI) Kd.unit)) r.1, .p (Kd.sl KSe) r.2.1, .p Kd.bool r.2.2.1, .p Kd.bool r.2.2.2]) (pos Tryd.f39 [.r, .r, .r, .r, .r, .r]) [(sk 2, some (.v (.p (Kd.sl (Kd.int .u8)) p1))), (sk 3, some (.v (.p Kd.bool p2))), (sk 8, some (.v (.ptr 501001 0))), (sk 12, some (.v (.ptr 501002 0))), (sk 13, some (.v (.row 501003 (List.length p7)))), (sk 14, some (.v (.row 501004 (List.length p8)))), (sk 15, some (.v (.p (Kd.int .i64) p3))), (sk 38, some (.v (.p Kd.bool p4))), (ek 501001, some (.box [.p (Kd.arr 2 (Kd.pair (Kd.sl KI) Kd.unit)) p5])), (ek 501002, some (.box [.p (Kd.arr 2 (Kd.pair (Kd.sl KI) Kd.unit)) p6])), (ek 501003, some (.row KSe 78 p7)), (ek 501004, some (.row KSe 78 p8))] := by
  unfold antiquarylaw44_run_l1 at h
  rcases br_inv h with ⟨h1242, h⟩ | ⟨h1242, h⟩
  · rcases br_inv h with ⟨h1243, h⟩ | ⟨h1243, h⟩
    · obtain ⟨h1244, h⟩ := gd_inv h
      obtain ⟨h1245, h⟩ := gd_inv h
      exact Abs.Good.path hm [.cond true, .reg [], .reg [], .cond true, .reg [], .keep [sk 2, sk 3, sk 8, sk 12, sk 13, sk 14, sk 15, sk 16, ek 501001, ek 501002, ek 501003, ek 501004], .ren [(501001, 502001), (501002, 502002), (501003, 502003), (501004, 502004)]] (cs := [_, _, _, _, _]) (by kernel_rfl) ⟨h1242, h1243, h1244, h1245.1, h1245.2, trivial⟩ (antiquarylaw44_run_l2_ok s0 hs0 k p1 p2 p3 (IntKind.i64.wrap (List.getD p1 (Int.toNat (Int.tmod p3 (List.length p1 : Int))) (Kd.dflt (Kd.int .u8)))) p5 p6 p7 p8 r h)
    · exact Abs.Good.path hm [.cond true, .reg [], .reg [], .cond false, .keep [sk 2, sk 3, sk 8, sk 12, sk 13, sk 14, sk 15, sk 16, ek 501001, ek 501002, ek 501003, ek 501004], .ren [(501001, 502001), (501002, 502002), (501003, 502003), (501004, 502004)]] (cs := [_, _]) (by kernel_rfl) ⟨h1242, h1243, trivial⟩ (antiquarylaw44_run_l2_ok s0 hs0 k p1 p2 p3 (0 : Int) p5 p6 p7 p8 r h)
  · replace h := Option.some.inj h; subst h
    exact Abs.Good.path_ret hm [.cond false, .reg []] [501004] Tryd.func39 (cs := [_, _]) (by kernel_rfl) ⟨h1242, (rfl : (List.length p8) = List.length p8), trivial⟩ (by kernel_rfl)
theorem antiquarylaw44_run_l0_ok (k : Nat) : ∀ (p1 : List Int) (p2 : Bool) (p3 : Int) (p4 : List (List It × Unit)) (p5 : List (List It × Unit)) (p6 : List Se) (p7 : List Se) (r : List (List It × Unit) × List Se × Bool × Bool), antiquarylaw44_run_l0 k p1 p2 p3 p4 p5 p6 p7 = some r →
    Abs.Good P 39 Tryd.f39.ntmps [] [] (.t [.p (Kd.arr 2 (Kd.pair (Kd.sl KI) Kd.unit)) r.1, .p (Kd.sl KSe) r.2.1, .p Kd.bool r.2.2.1, .p Kd.bool r.2.2.2]) (pos Tryd.f39 [.r, .r, .r, .r, .r]) [(sk 2, some (.v (.p (Kd.sl (Kd.int .u8)) p1))), (sk 3, some (.v (.p Kd.bool p2))), (sk 8, some (.v (.ptr 500001 0))), (sk 12, some (.v (.ptr 500002 0))), (sk 13, some (.v (.row 500003 (List.length p6)))), (sk 14, some (.v (.row 500004 (List.length p7)))), (sk 15, some (.v (.p (Kd.int .i64) p3))), (ek 500001, some (.box [.p (Kd.arr 2 (Kd.pair (Kd.sl KI) Kd.unit)) p4])), (ek 500002, some (.box [.p (Kd.arr 2 (Kd.pair (Kd.sl KI) Kd.unit)) p5])), (ek 500003, some (.row KSe 78 p6)), (ek 500004, some (.row KSe 78 p7))] := by
  induction k with
  | zero => intro p1 p2 p3 p4 p5 p6 p7 r h; cases h
  | succ k ih =>
    intro p1 p2 p3 p4 p5 p6 p7 r h
    unfold antiquarylaw44_run_l0 at h
    rcases br_inv h with ⟨h1241, h⟩ | ⟨h1241, h⟩
    · exact Abs.Good.path hm [.reg [(4, { dec := some true }), (5, { dec := some true }), (6, { pick := some true })], .keep [sk 2, sk 3, sk 8, sk 12, sk 13, sk 14, sk 15, sk 38, ek 500001, ek 500002, ek 500003, ek 500004], .ren [(500001, 501001), (500002, 501002), (500003, 501003), (500004, 501004)]] (cs := [_, _, _]) (by kernel_rfl) ⟨h1241, h1241, h1241, trivial⟩ (antiquarylaw44_run_l1_ok (antiquarylaw44_run_l0 k) ih k p1 p2 p3 (decide (p3 < (20000 : Int))) p4 p5 p6 p7 r h)
    · exact Abs.Good.path hm [.reg [(4, { dec := some false }), (5, { dec := some false }), (6, { pick := some false })], .keep [sk 2, sk 3, sk 8, sk 12, sk 13, sk 14, sk 15, sk 38, ek 500001, ek 500002, ek 500003, ek 500004], .ren [(500001, 501001), (500002, 501002), (500003, 501003), (500004, 501004)]] (cs := [_, _, _]) (by kernel_rfl) ⟨h1241, h1241, h1241, trivial⟩ (antiquarylaw44_run_l1_ok (antiquarylaw44_run_l0 k) ih k p1 p2 p3 false p4 p5 p6 p7 r h)
theorem antiquarylaw44_run_ok (k : Nat) (a1 : List It) (a2 : List It) (a3 : List Int) (a4 : Bool) (r : List (List It × Unit) × List Se × Bool × Bool) (h : antiquarylaw44_run k a1 a2 a3 a4 = some r) : SpecOk P ⟨39, [.agg [.p (Kd.sl KI) a1], .agg [.p (Kd.sl KI) a2], .p (Kd.sl (Kd.int .u8)) a3, .p Kd.bool a4], [], .t [.p (Kd.arr 2 (Kd.pair (Kd.sl KI) Kd.unit)) r.1, .p (Kd.sl KSe) r.2.1, .p Kd.bool r.2.2.1, .p Kd.bool r.2.2.2], []⟩ := by
  refine spec_at Tryd.func39 (by kernel_rfl) (Nat.le_of_ble_eq_true (by kernel_rfl)) ?_
  unfold antiquarylaw44_run at h
  obtain ⟨x1239, h1240, h⟩ := bind_inv h
  exact Abs.Good.path hm [.reg [], .reg [], .reg [(1, { call := some { lend := [], pass := [], res := .v (.agg [.p (Kd.int .i64) x1239.1, .p (Kd.arr 16 (Kd.int .u8)) x1239.2.1, .p (Kd.int .i64) x1239.2.2.1, .p (Kd.arr 16 (Kd.int .u8)) x1239.2.2.2.1, .p (Kd.int .i64) x1239.2.2.2.2.1, .nilsl, .p Kd.str x1239.2.2.2.2.2]), outs := [], back := [] } })], .reg [], .reg [], .co (sk 14) 0 (.mk 900001 KSe 78), .keep [sk 2, sk 3, sk 8, sk 12, sk 13, sk 14, sk 15, ek 8, ek 12, ek 31, ek 900001], .ren [(8, 500001), (12, 500002), (31, 500003), (900001, 500004)]] (cs := [_]) (by kernel_rfl) ⟨(exchange_Open_ok k a1 _ h1240), trivial⟩ (antiquarylaw44_run_l0_ok k a3 a4 (0 : Int) (Kd.dflt (Kd.arr 2 (Kd.pair (Kd.sl KI) Kd.unit))) ([(a1, ()), (a2, ())] : List (List It × Unit)) ([((1 : Int), ((x1239.1, ((x1239.2.1, (x1239.2.2.1, ())), (x1239.2.2.2.1, (x1239.2.2.2.2.1, (([] : List (List Int)), (x1239.2.2.2.2.2, ())))))), ()))] : List Se) ([] : List Se) r h)

def antiquaryref44_Place_l0 : Nat → Int → List It → List Int → Option (Int)
  | 0, _, _, _ => none
  | k + 1, p1, p2, p3 =>
    if (decide (p1 < (List.length p2 : Int))) = true then
      if 0 ≤ p1 ∧ p1 < (List.length p2 : Int) then
        if (Kd.eqb (Kd.arr 16 (Kd.int .u8)) ((List.getD p2 (Int.toNat p1) (Kd.dflt KI)).1) p3) = true then
          some (p1)
        else
          antiquaryref44_Place_l0 k (IntKind.i64.wrap (p1 + (1 : Int))) p2 p3
      else none
    else
      some ((-1 : Int))
def antiquaryref44_Place (k : Nat) (a1 : List It) (a2 : List Int) : Option (Int) :=
  antiquaryref44_Place_l0 k (0 : Int) a1 a2
theorem antiquaryref44_Place_l0_ok (k : Nat) : ∀ (p1 : Int) (p2 : List It) (p3 : List Int) (r : Int), antiquaryref44_Place_l0 k p1 p2 p3 = some r →
    Abs.Good P 17 Tryd.f17.ntmps [] [] (.v (.p (Kd.int .i64) r)) (pos Tryd.f17 [.r, .r]) [(sk 2, some (.v (.ptr 500001 0))), (sk 3, some (.v (.ptr 500002 0))), (sk 5, some (.v (.p (Kd.int .i64) p1))), (ek 500001, some (.box [.p (Kd.sl KI) p2])), (ek 500002, some (.box [.p (Kd.arr 16 (Kd.int .u8)) p3]))] := by
  induction k with
  | zero => intro p1 p2 p3 r h; cases h
  | succ k ih =>
    intro p1 p2 p3 r h
    unfold antiquaryref44_Place_l0 at h
    rcases br_inv h with ⟨h1361, h⟩ | ⟨h1361, h⟩
    · obtain ⟨h1362, h⟩ := gd_inv h
      rcases br_inv h with ⟨h1363, h⟩ | ⟨h1363, h⟩
      · replace h := Option.some.inj h; subst h
        exact Abs.Good.path_ret hm [.reg [], .cond true, .reg [], .cond true, .reg []] [] Tryd.func17 (cs := [_, _, _, _, _]) (by kernel_rfl) ⟨h1361, h1362.1, h1362.2, eq26, h1363, trivial⟩ (by kernel_rfl)
      · exact Abs.Good.path hm [.reg [], .cond true, .reg [], .cond false, .reg [], .keep [sk 2, sk 3, sk 5, ek 500001, ek 500002]] (cs := [_, _, _, _, _]) (by kernel_rfl) ⟨h1361, h1362.1, h1362.2, eq26, h1363, trivial⟩ (ih (IntKind.i64.wrap (p1 + (1 : Int))) p2 p3 r h)
    · replace h := Option.some.inj h; subst h
      exact Abs.Good.path_ret hm [.reg [], .cond false, .reg []] [] Tryd.func17 (cs := [_]) (by kernel_rfl) ⟨h1361, trivial⟩ (by kernel_rfl)
theorem antiquaryref44_Place_ok (k : Nat) (a1 : List It) (a2 : List Int) (r : Int) (h : antiquaryref44_Place k a1 a2 = some r) : SpecOk P ⟨17, [.agg [.p (Kd.sl KI) a1], .p (Kd.arr 16 (Kd.int .u8)) a2], [], .v (.p (Kd.int .i64) r), []⟩ := by
  refine spec_at Tryd.func17 (by kernel_rfl) (Nat.le_of_ble_eq_true (by kernel_rfl)) ?_
  unfold antiquaryref44_Place at h
  exact Abs.Good.path hm [.reg [], .reg [], .keep [sk 2, sk 3, sk 5, ek 2, ek 3], .ren [(2, 500001), (3, 500002)]] (cs := []) (by kernel_rfl) trivial (antiquaryref44_Place_l0_ok k (0 : Int) a1 a2 r h)

def antiquaryref44_Bit (k : Nat) (a1 : List Int) (a2 : Int) : Option (Bool) :=
  if 0 ≤ (IntKind.i64.wrap (Int.tdiv a2 (8 : Int))) ∧ (IntKind.i64.wrap (Int.tdiv a2 (8 : Int))) < (16 : Int) then
    if 0 ≤ (IntKind.i64.wrap ((7 : Int) - (Int.tmod a2 (8 : Int)))) then
      some (((IntKind.u8.wrap (((BitVec.ofInt (IntKind.bits .u8) (Int.fdiv (List.getD a1 (Int.toNat (IntKind.i64.wrap (Int.tdiv a2 (8 : Int)))) (Kd.dflt (Kd.int .u8))) (2 ^ (min (Int.toNat (IntKind.i64.wrap ((7 : Int) - (Int.tmod a2 (8 : Int))))) (IntKind.bits .u8))))) &&& (BitVec.ofInt (IntKind.bits .u8) (1 : Int))).toNat : Int)) == (1 : Int)))
    else none
  else none
theorem antiquaryref44_Bit_ok (k : Nat) (a1 : List Int) (a2 : Int) (r : Bool) (h : antiquaryref44_Bit k a1 a2 = some r) : SpecOk P ⟨45, [.p (Kd.arr 16 (Kd.int .u8)) a1, .p (Kd.int .i64) a2], [], .v (.p Kd.bool r), []⟩ := by
  refine spec_at Tryd.func45 (by kernel_rfl) (Nat.le_of_ble_eq_true (by kernel_rfl)) ?_
  unfold antiquaryref44_Bit at h
  obtain ⟨h1404, h⟩ := gd_inv h
  obtain ⟨h1405, h⟩ := gd_inv h
  replace h := Option.some.inj h; subst h
  exact Abs.Good.path_ret hm [.reg [], .reg []] [] Tryd.func45 (cs := [_, _, _, _, _]) (by kernel_rfl) ⟨(by decide : (8 : Int) ≠ 0), h1404.1, h1404.2, (by decide : (8 : Int) ≠ 0), h1405, trivial⟩ (by kernel_rfl)

def antiquaryref44_Under_l0 : Nat → Int → List Int → Int → List Int → Option (Bool)
  | 0, _, _, _, _ => none
  | k + 1, p1, p2, p3, p4 =>
    if (decide (p1 < p3)) = true then
      Option.bind (antiquaryref44_Bit k p2 p1) fun x1412 =>
      Option.bind (antiquaryref44_Bit k p4 p1) fun x1414 =>
      if (!(x1412 == x1414)) = true then
        some (false)
      else
        antiquaryref44_Under_l0 k (IntKind.i64.wrap (p1 + (1 : Int))) p2 p3 p4
    else
      some (true)
def antiquaryref44_Under (k : Nat) (a1 : List Int) (a2 : Int) (a3 : List Int) : Option (Bool) :=
  antiquaryref44_Under_l0 k (0 : Int) a1 a2 a3
theorem antiquaryref44_Under_l0_ok (k : Nat) : ∀ (p1 : Int) (p2 : List Int) (p3 : Int) (p4 : List Int) (r : Bool), antiquaryref44_Under_l0 k p1 p2 p3 p4 = some r →
    Abs.Good P 24 Tryd.f24.ntmps [] [] (.v (.p Kd.bool r)) (pos Tryd.f24 [.r, .r]) [(sk 2, some (.v (.ptr 500001 0))), (sk 3, some (.v (.ptr 500002 0))), (sk 5, some (.v (.p (Kd.int .i64) p1))), (ek 500001, some (.box [.p (Kd.arr 16 (Kd.int .u8)) p2, .p (Kd.int .i64) p3])), (ek 500002, some (.box [.p (Kd.arr 16 (Kd.int .u8)) p4]))] := by
  induction k with
  | zero => intro p1 p2 p3 p4 r h; cases h
  | succ k ih =>
    intro p1 p2 p3 p4 r h
    unfold antiquaryref44_Under_l0 at h
    rcases br_inv h with ⟨h1411, h⟩ | ⟨h1411, h⟩
    · obtain ⟨x1412, h1413, h⟩ := bind_inv h
      obtain ⟨x1414, h1415, h⟩ := bind_inv h
      rcases br_inv h with ⟨h1416, h⟩ | ⟨h1416, h⟩
      · replace h := Option.some.inj h; subst h
        exact Abs.Good.path_ret hm [.reg [], .cond true, .reg [(3, { call := some { lend := [], pass := [], res := .v (.p Kd.bool x1412), outs := [], back := [] } }), (6, { call := some { lend := [], pass := [], res := .v (.p Kd.bool x1414), outs := [], back := [] } })], .cond true, .reg []] [] Tryd.func24 (cs := [_, _, _, _]) (by kernel_rfl) ⟨h1411, (antiquaryref44_Bit_ok k p2 p1 _ h1413), (antiquaryref44_Bit_ok k p4 p1 _ h1415), h1416, trivial⟩ (by kernel_rfl)
      · exact Abs.Good.path hm [.reg [], .cond true, .reg [(3, { call := some { lend := [], pass := [], res := .v (.p Kd.bool x1412), outs := [], back := [] } }), (6, { call := some { lend := [], pass := [], res := .v (.p Kd.bool x1414), outs := [], back := [] } })], .cond false, .reg [], .keep [sk 2, sk 3, sk 5, ek 500001, ek 500002]] (cs := [_, _, _, _]) (by kernel_rfl) ⟨h1411, (antiquaryref44_Bit_ok k p2 p1 _ h1413), (antiquaryref44_Bit_ok k p4 p1 _ h1415), h1416, trivial⟩ (ih (IntKind.i64.wrap (p1 + (1 : Int))) p2 p3 p4 r h)
    · replace h := Option.some.inj h; subst h
      exact Abs.Good.path_ret hm [.reg [], .cond false, .reg []] [] Tryd.func24 (cs := [_]) (by kernel_rfl) ⟨h1411, trivial⟩ (by kernel_rfl)
theorem antiquaryref44_Under_ok (k : Nat) (a1 : List Int) (a2 : Int) (a3 : List Int) (r : Bool) (h : antiquaryref44_Under k a1 a2 a3 = some r) : SpecOk P ⟨24, [.agg [.p (Kd.arr 16 (Kd.int .u8)) a1, .p (Kd.int .i64) a2], .p (Kd.arr 16 (Kd.int .u8)) a3], [], .v (.p Kd.bool r), []⟩ := by
  refine spec_at Tryd.func24 (by kernel_rfl) (Nat.le_of_ble_eq_true (by kernel_rfl)) ?_
  unfold antiquaryref44_Under at h
  exact Abs.Good.path hm [.reg [], .reg [], .keep [sk 2, sk 3, sk 5, ek 2, ek 3], .ren [(2, 500001), (3, 500002)]] (cs := []) (by kernel_rfl) trivial (antiquaryref44_Under_l0_ok k (0 : Int) a1 a2 a3 r h)

def antiquaryref44_Names_l1 (s0 : Int → List It → List Int → Int → List (List Int) → Option (List (List Int))) (k : Nat) (p1 : Int) (p2 : List It) (p3 : List Int) (p4 : Int) (p5 : List (List Int)) : Option (List (List Int)) :=
  s0 (IntKind.i64.wrap (p1 + (1 : Int))) p2 p3 p4 p5
def antiquaryref44_Names_l0 : Nat → Int → List It → List Int → Int → List (List Int) → Option (List (List Int))
  | 0, _, _, _, _, _ => none
  | k + 1, p1, p2, p3, p4, p5 =>
    if (decide (p1 < (List.length p2 : Int))) = true then
      if 0 ≤ p1 ∧ p1 < (List.length p2 : Int) then
        Option.bind (antiquaryref44_Under k p3 p4 ((List.getD p2 (Int.toNat p1) (Kd.dflt KI)).1)) fun x1441 =>
        if x1441 = true then
          if List.length p5 + List.length ([(List.getD p2 (Int.toNat p1) (Kd.dflt KI)).1] : List (List Int)) ≤ 8796093022208 then
            antiquaryref44_Names_l1 (antiquaryref44_Names_l0 k) k p1 p2 p3 p4 (p5 ++ ([(List.getD p2 (Int.toNat p1) (Kd.dflt KI)).1] : List (List Int)))
          else none
        else
          antiquaryref44_Names_l1 (antiquaryref44_Names_l0 k) k p1 p2 p3 p4 p5
      else none
    else
      some (p5)
def antiquaryref44_Names (k : Nat) (a1 : List It) (a2 : List Int) (a3 : Int) : Option (List (List Int)) :=
  antiquaryref44_Names_l0 k (0 : Int) a1 a2 a3 ([] : List (List Int))
theorem antiquaryref44_Names_l1_ok (s0 : Int → List It → List Int → Int → List (List Int) → Option (List (List Int))) (hs0 : ∀ (p1 : Int) (p2 : List It) (p3 : List Int) (p4 : Int) (p5 : List (List Int)) (r : List (List Int)), s0 p1 p2 p3 p4 p5 = some r → Abs.Good P 27 Tryd.f27.ntmps [] [] (.v (.p (Kd.sl (Kd.arr 16 (Kd.int .u8))) r)) (pos Tryd.f27 [.r, .r, .r]) [(sk 2, some (.v (.ptr 500001 0))), (sk 3, some (.v (.ptr 500002 0))), (sk 5, some (.v (.row 500003 (List.length p5)))), (sk 6, some (.v (.p (Kd.int .i64) p1))), (ek 500001, some (.box [.p (Kd.sl KI) p2])), (ek 500002, some (.box [.p (Kd.arr 16 (Kd.int .u8)) p3, .p (Kd.int .i64) p4])), (ek 500003, some (.row (Kd.arr 16 (Kd.int .u8)) 26 p5))]) (k : Nat) (p1 : Int) (p2 : List It) (p3 : List Int) (p4 : Int) (p5 : List (List Int)) (r : List (List Int)) (h : antiquaryref44_Names_l1 s0 k p1 p2 p3 p4 p5 = some r) :
    Abs.Good P 27 Tryd.f27.ntmps [] [] (.v (.p (Kd.sl (Kd.arr 16 (Kd.int .u8))) r)) (pos Tryd.f27 [.r, .r, .r, .r, .c true, .r, .r, .c false]) [(sk 2, some (.v (.ptr 501001 0))), (sk 3, some (.v (.ptr 501002 0))), (sk 5, some (.v (.row 501003 (List.length p5)))), (sk 6, some (.v (.p (Kd.int .i64) p1))), (ek 501001, some (.box [.p (Kd.sl KI) p2])), (ek 501002, some (.box [.p (Kd.arr 16 (Kd.int .u8)) p3, .p (Kd.int .i64) p4])), (ek 501003, some (.row (Kd.arr 16 (Kd.int .u8)) 26 p5))] := by
  unfold antiquaryref44_Names_l1 at h
  exact Abs.Good.path hm [.reg [], .keep [sk 2, sk 3, sk 5, sk 6, ek 501001, ek 501002, ek 501003], .ren [(501001, 500001), (501002, 500002), (501003, 500003)]] (cs := []) (by kernel_rfl) trivial (hs0 (IntKind.i64.wrap (p1 + (1 : Int))) p2 p3 p4 p5 r h)
theorem antiquaryref44_Names_l0_ok (k : Nat) : ∀ (p1 : Int) (p2 : List It) (p3 : List Int) (p4 : Int) (p5 : List (List Int)) (r : List (List Int)), antiquaryref44_Names_l0 k p1 p2 p3 p4 p5 = some r →
    Abs.Good P 27 Tryd.f27.ntmps [] [] (.v (.p (Kd.sl (Kd.arr 16 (Kd.int .u8))) r)) (pos Tryd.f27 [.r, .r, .r]) [(sk 2, some (.v (.ptr 500001 0))), (sk 3, some (.v (.ptr 500002 0))), (sk 5, some (.v (.row 500003 (List.length p5)))), (sk 6, some (.v (.p (Kd.int .i64) p1))), (ek 500001, some (.box [.p (Kd.sl KI) p2])), (ek 500002, some (.box [.p (Kd.arr 16 (Kd.int .u8)) p3, .p (Kd.int .i64) p4])), (ek 500003, some (.row (Kd.arr 16 (Kd.int .u8)) 26 p5))] := by
  induction k with
  | zero => intro p1 p2 p3 p4 p5 r h; cases h
  | succ k ih =>
    intro p1 p2 p3 p4 p5 r h
    unfold antiquaryref44_Names_l0 at h
    rcases br_inv h with ⟨h1439, h⟩ | ⟨h1439, h⟩
    · obtain ⟨h1440, h⟩ := gd_inv h
      obtain ⟨x1441, h1442, h⟩ := bind_inv h
      rcases br_inv h with ⟨h1443, h⟩ | ⟨h1443, h⟩
      · obtain ⟨h1444, h⟩ := gd_inv h
        exact Abs.Good.path hm [.reg [], .cond true, .reg [(7, { call := some { lend := [], pass := [], res := .v (.p Kd.bool x1441), outs := [], back := [] } })], .reg [], .cond true, .reg [], .keep [sk 2, sk 3, sk 5, sk 6, ek 500001, ek 500002, ek 32], .ren [(500001, 501001), (500002, 501002), (32, 501003)]] (cs := [_, _, _, _, _, _, _, _, _, _]) (by kernel_rfl) ⟨h1439, h1440.1, h1440.2, (antiquaryref44_Under_ok k p3 p4 ((List.getD p2 (Int.toNat p1) (Kd.dflt KI)).1) _ h1442), h1443, h1440.1, h1440.2, (rfl : (List.length p5) = List.length p5), (appBound (P := P) (et := 26) (b := 16) (by kernel_rfl) (by decide) h1444), (rfl : 1 = List.length ([(List.getD p2 (Int.toNat p1) (Kd.dflt KI)).1] : List (List Int))), trivial⟩ (antiquaryref44_Names_l1_ok (antiquaryref44_Names_l0 k) ih k p1 p2 p3 p4 (p5 ++ ([(List.getD p2 (Int.toNat p1) (Kd.dflt KI)).1] : List (List Int))) r h)
      · exact Abs.Good.path hm [.reg [], .cond true, .reg [(7, { call := some { lend := [], pass := [], res := .v (.p Kd.bool x1441), outs := [], back := [] } })], .reg [], .cond false, .keep [sk 2, sk 3, sk 5, sk 6, ek 500001, ek 500002, ek 500003], .ren [(500001, 501001), (500002, 501002), (500003, 501003)]] (cs := [_, _, _, _, _]) (by kernel_rfl) ⟨h1439, h1440.1, h1440.2, (antiquaryref44_Under_ok k p3 p4 ((List.getD p2 (Int.toNat p1) (Kd.dflt KI)).1) _ h1442), h1443, trivial⟩ (antiquaryref44_Names_l1_ok (antiquaryref44_Names_l0 k) ih k p1 p2 p3 p4 p5 r h)
    · replace h := Option.some.inj h; subst h
      exact Abs.Good.path_ret hm [.reg [], .cond false, .reg []] [500003] Tryd.func27 (cs := [_, _]) (by kernel_rfl) ⟨h1439, (rfl : (List.length p5) = List.length p5), trivial⟩ (by kernel_rfl)
theorem antiquaryref44_Names_ok (k : Nat) (a1 : List It) (a2 : List Int) (a3 : Int) (r : List (List Int)) (h : antiquaryref44_Names k a1 a2 a3 = some r) : SpecOk P ⟨27, [.agg [.p (Kd.sl KI) a1], .agg [.p (Kd.arr 16 (Kd.int .u8)) a2, .p (Kd.int .i64) a3]], [], .v (.p (Kd.sl (Kd.arr 16 (Kd.int .u8))) r), []⟩ := by
  refine spec_at Tryd.func27 (by kernel_rfl) (Nat.le_of_ble_eq_true (by kernel_rfl)) ?_
  unfold antiquaryref44_Names at h
  exact Abs.Good.path hm [.reg [], .reg [], .reg [], .co (sk 5) 0 (.mk 900001 (Kd.arr 16 (Kd.int .u8)) 26), .keep [sk 2, sk 3, sk 5, sk 6, ek 2, ek 3, ek 900001], .ren [(2, 500001), (3, 500002), (900001, 500003)]] (cs := []) (by kernel_rfl) trivial (antiquaryref44_Names_l0_ok k (0 : Int) a1 a2 a3 ([] : List (List Int)) r h)

def antiquaryref44_bytes_l0 : Nat → Int → List Int → List Int → Option (ByteArray)
  | 0, _, _, _ => none
  | k + 1, p1, p2, p3 =>
    if (decide (p1 < (16 : Int))) = true then
      if 0 ≤ p1 ∧ p1 < (16 : Int) then
        if List.length p3 + List.length ([(List.getD p2 (Int.toNat p1) (Kd.dflt (Kd.int .u8)))] : List Int) ≤ 140737488355328 then
          antiquaryref44_bytes_l0 k (IntKind.i64.wrap (p1 + (1 : Int))) p2 (p3 ++ ([(List.getD p2 (Int.toNat p1) (Kd.dflt (Kd.int .u8)))] : List Int))
        else none
      else none
    else
      some ((strOf (List.take (List.length p3) p3)))
def antiquaryref44_bytes (k : Nat) (a1 : List Int) : Option (ByteArray) :=
  antiquaryref44_bytes_l0 k (0 : Int) a1 ([] : List Int)
theorem antiquaryref44_bytes_l0_ok (k : Nat) : ∀ (p1 : Int) (p2 : List Int) (p3 : List Int) (r : ByteArray), antiquaryref44_bytes_l0 k p1 p2 p3 = some r →
    Abs.Good P 50 Tryd.f50.ntmps [] [] (.v (.p Kd.str r)) (pos Tryd.f50 [.r, .r, .r]) [(sk 1, some (.v (.ptr 500001 0))), (sk 3, some (.v (.row 500002 (List.length p3)))), (sk 4, some (.v (.p (Kd.int .i64) p1))), (ek 500001, some (.box [.p (Kd.arr 16 (Kd.int .u8)) p2])), (ek 500002, some (.row (Kd.int .u8) 5 p3))] := by
  induction k with
  | zero => intro p1 p2 p3 r h; cases h
  | succ k ih =>
    intro p1 p2 p3 r h
    unfold antiquaryref44_bytes_l0 at h
    rcases br_inv h with ⟨h1457, h⟩ | ⟨h1457, h⟩
    · obtain ⟨h1458, h⟩ := gd_inv h
      obtain ⟨h1459, h⟩ := gd_inv h
      exact Abs.Good.path hm [.reg [], .cond true, .reg [], .reg [], .keep [sk 1, sk 3, sk 4, ek 500001, ek 14], .ren [(500001, 500001), (14, 500002)]] (cs := [_, _, _, _, _, _]) (by kernel_rfl) ⟨h1457, h1458.1, h1458.2, (rfl : (List.length p3) = List.length p3), (appBound (P := P) (et := 5) (b := 1) (by kernel_rfl) (by decide) h1459), (rfl : 1 = List.length ([(List.getD p2 (Int.toNat p1) (Kd.dflt (Kd.int .u8)))] : List Int)), trivial⟩ (ih (IntKind.i64.wrap (p1 + (1 : Int))) p2 (p3 ++ ([(List.getD p2 (Int.toNat p1) (Kd.dflt (Kd.int .u8)))] : List Int)) r h)
    · replace h := Option.some.inj h; subst h
      exact Abs.Good.path_ret hm [.reg [], .cond false, .reg []] [] Tryd.func50 (cs := [_]) (by kernel_rfl) ⟨h1457, trivial⟩ (by kernel_rfl)
theorem antiquaryref44_bytes_ok (k : Nat) (a1 : List Int) (r : ByteArray) (h : antiquaryref44_bytes k a1 = some r) : SpecOk P ⟨50, [.p (Kd.arr 16 (Kd.int .u8)) a1], [], .v (.p Kd.str r), []⟩ := by
  refine spec_at Tryd.func50 (by kernel_rfl) (Nat.le_of_ble_eq_true (by kernel_rfl)) ?_
  unfold antiquaryref44_bytes at h
  exact Abs.Good.path hm [.reg [], .reg [], .reg [], .co (sk 3) 0 (.mk 900001 (Kd.int .u8) 5), .keep [sk 1, sk 3, sk 4, ek 1, ek 900001], .ren [(1, 500001), (900001, 500002)]] (cs := []) (by kernel_rfl) trivial (antiquaryref44_bytes_l0_ok k (0 : Int) a1 ([] : List Int) r h)

def antiquaryref01_Int_l1 : Nat → Int → List Int → Option (List Int)
  | 0, _, _ => none
  | k + 1, p1, p2 =>
    if (decide (p1 ≥ (128 : Int))) = true then
      if List.length p2 + List.length ([(IntKind.u8.wrap ((IntKind.u8.wrap (Int.tmod p1 (128 : Int))) + (128 : Int)))] : List Int) ≤ 140737488355328 then
        antiquaryref01_Int_l1 k (IntKind.u64.wrap (Int.tdiv p1 (128 : Int))) (p2 ++ ([(IntKind.u8.wrap ((IntKind.u8.wrap (Int.tmod p1 (128 : Int))) + (128 : Int)))] : List Int))
      else none
    else
      if List.length p2 + List.length ([(IntKind.u8.wrap p1)] : List Int) ≤ 140737488355328 then
        some ((p2 ++ ([(IntKind.u8.wrap p1)] : List Int)))
      else none
def antiquaryref01_Int_l0 (k : Nat) (p1 : Int) : Option (List Int) :=
  antiquaryref01_Int_l1 k p1 ([] : List Int)
def antiquaryref01_Int (k : Nat) (a1 : Int) : Option (List Int) :=
  if (decide (a1 < (0 : Int))) = true then
    antiquaryref01_Int_l0 k (IntKind.u64.wrap ((IntKind.u64.wrap ((IntKind.u64.wrap (IntKind.i64.wrap ((-1 : Int) - a1))) * (2 : Int))) + (1 : Int)))
  else
    antiquaryref01_Int_l0 k (IntKind.u64.wrap ((IntKind.u64.wrap a1) * (2 : Int)))
theorem antiquaryref01_Int_l1_ok (k : Nat) : ∀ (p1 : Int) (p2 : List Int) (r : List Int), antiquaryref01_Int_l1 k p1 p2 = some r →
    Abs.Good P 87 Tryd.f87.ntmps [] [(700001, .row (Kd.int .u8) 5 r)] (.v (.row 700001 (List.length r))) (pos Tryd.f87 [.r, .r, .r, .c false, .r]) [(sk 3, some (.v (.p (Kd.int .u64) p1))), (sk 4, some (.v (.row 501001 (List.length p2)))), (ek 501001, some (.row (Kd.int .u8) 5 p2))] := by
  induction k with
  | zero => intro p1 p2 r h; cases h
  | succ k ih =>
    intro p1 p2 r h
    unfold antiquaryref01_Int_l1 at h
    rcases br_inv h with ⟨h1482, h⟩ | ⟨h1482, h⟩
    · obtain ⟨h1483, h⟩ := gd_inv h
      exact Abs.Good.path hm [.reg [], .cond true, .reg [], .reg [], .keep [sk 3, sk 4, ek 23], .ren [(23, 501001)]] (cs := [_, _, _, _, _, _]) (by kernel_rfl) ⟨h1482, (by decide : (128 : Int) ≠ 0), (rfl : (List.length p2) = List.length p2), (appBound (P := P) (et := 5) (b := 1) (by kernel_rfl) (by decide) h1483), (rfl : 1 = List.length ([(IntKind.u8.wrap ((IntKind.u8.wrap (Int.tmod p1 (128 : Int))) + (128 : Int)))] : List Int)), (by decide : (128 : Int) ≠ 0), trivial⟩ (ih (IntKind.u64.wrap (Int.tdiv p1 (128 : Int))) (p2 ++ ([(IntKind.u8.wrap ((IntKind.u8.wrap (Int.tmod p1 (128 : Int))) + (128 : Int)))] : List Int)) r h)
    · obtain ⟨h1484, h⟩ := gd_inv h
      replace h := Option.some.inj h; subst h
      exact Abs.Good.path_ret hm [.reg [], .cond false, .reg [], .keep [sk 2, ek 30], .ren [(30, 700001)]] [] Tryd.func87 (cs := [_, _, _, _]) (by kernel_rfl) ⟨h1482, (rfl : (List.length p2) = List.length p2), (appBound (P := P) (et := 5) (b := 1) (by kernel_rfl) (by decide) h1484), (rfl : 1 = List.length ([(IntKind.u8.wrap p1)] : List Int)), trivial⟩ (by kernel_rfl)
theorem antiquaryref01_Int_l0_ok (k : Nat) (p1 : Int) (r : List Int) (h : antiquaryref01_Int_l0 k p1 = some r) :
    Abs.Good P 87 Tryd.f87.ntmps [] [(700001, .row (Kd.int .u8) 5 r)] (.v (.row 700001 (List.length r))) (pos Tryd.f87 [.r, .r, .r, .c false]) [(sk 3, some (.v (.p (Kd.int .u64) p1)))] := by
  unfold antiquaryref01_Int_l0 at h
  exact Abs.Good.path hm [.reg [], .co (sk 4) 0 (.mk 900001 (Kd.int .u8) 5), .keep [sk 3, sk 4, ek 900001], .ren [(900001, 501001)]] (cs := []) (by kernel_rfl) trivial (antiquaryref01_Int_l1_ok k p1 ([] : List Int) r h)
theorem antiquaryref01_Int_ok (k : Nat) (a1 : Int) (r : List Int) (h : antiquaryref01_Int k a1 = some r) : SpecOk P ⟨87, [.p (Kd.int .i64) a1], [], .v (.row 700001 (List.length r)), [(700001, .row (Kd.int .u8) 5 r)]⟩ := by
  refine spec_at Tryd.func87 (by kernel_rfl) (Nat.le_of_ble_eq_true (by kernel_rfl)) ?_
  unfold antiquaryref01_Int at h
  rcases br_inv h with ⟨h1481, h⟩ | ⟨h1481, h⟩
  · exact Abs.Good.path hm [.reg [], .reg [], .reg [], .cond true, .reg [], .keep [sk 3]] (cs := [_]) (by kernel_rfl) ⟨h1481, trivial⟩ (antiquaryref01_Int_l0_ok k (IntKind.u64.wrap ((IntKind.u64.wrap ((IntKind.u64.wrap (IntKind.i64.wrap ((-1 : Int) - a1))) * (2 : Int))) + (1 : Int))) r h)
  · exact Abs.Good.path hm [.reg [], .reg [], .reg [], .cond false, .keep [sk 3]] (cs := [_]) (by kernel_rfl) ⟨h1481, trivial⟩ (antiquaryref01_Int_l0_ok k (IntKind.u64.wrap ((IntKind.u64.wrap a1) * (2 : Int))) r h)

def antiquaryref01_Bytes (k : Nat) (a1 : ByteArray) : Option (List Int) :=
  Option.bind (antiquaryref01_Int k (ByteArray.size a1 : Int)) fun x1488 =>
  if List.length x1488 + List.length (bytesOf a1) ≤ 140737488355328 then
    some ((x1488 ++ (bytesOf a1)))
  else none
theorem antiquaryref01_Bytes_ok (k : Nat) (a1 : ByteArray) (r : List Int) (h : antiquaryref01_Bytes k a1 = some r) : SpecOk P ⟨80, [.p Kd.str a1], [], .v (.p (Kd.sl (Kd.int .u8)) r), []⟩ := by
  refine spec_at Tryd.func80 (by kernel_rfl) (Nat.le_of_ble_eq_true (by kernel_rfl)) ?_
  unfold antiquaryref01_Bytes at h
  obtain ⟨x1488, h1489, h⟩ := bind_inv h
  obtain ⟨h1490, h⟩ := gd_inv h
  replace h := Option.some.inj h; subst h
  exact Abs.Good.path_ret hm [.reg [], .reg [(2, { call := some { lend := [], pass := [], res := .v (.row 700001 (List.length x1488)), outs := [(700001, .row (Kd.int .u8) 5 x1488)], back := [(700001, 2000040)] } })]] [7] Tryd.func80 (cs := [_, _, _, _]) (by kernel_rfl) ⟨(antiquaryref01_Int_ok k (ByteArray.size a1 : Int) _ h1489), (rfl : (List.length x1488) = List.length x1488), (appBound (P := P) (et := 5) (b := 1) (by kernel_rfl) (by decide) h1490), (rfl : (List.length (x1488 ++ (bytesOf a1))) = List.length (x1488 ++ (bytesOf a1))), trivial⟩ (by kernel_rfl)

def antiquaryref02_Input_l0 : Nat → List ByteArray → Int → List Int → Option (List Int)
  | 0, _, _, _ => none
  | k + 1, p1, p2, p3 =>
    if (decide (p2 < (List.length p1 : Int))) = true then
      if 0 ≤ p2 ∧ p2 < (List.length p1 : Int) then
        Option.bind (antiquaryref01_Bytes k (List.getD p1 (Int.toNat p2) (Kd.dflt Kd.str))) fun x1496 =>
        if List.length p3 + List.length x1496 ≤ 140737488355328 then
          antiquaryref02_Input_l0 k p1 (IntKind.i64.wrap (p2 + (1 : Int))) (p3 ++ x1496)
        else none
      else none
    else
      some (p3)
def antiquaryref02_Input (k : Nat) (a1 : Int) (a2 : List ByteArray) : Option (List Int) :=
  antiquaryref02_Input_l0 k a2 (0 : Int) ([(IntKind.u8.wrap a1)] : List Int)
theorem antiquaryref02_Input_l0_ok (k : Nat) : ∀ (p1 : List ByteArray) (p2 : Int) (p3 : List Int) (r : List Int), antiquaryref02_Input_l0 k p1 p2 p3 = some r →
    Abs.Good P 66 Tryd.f66.ntmps [] [] (.v (.p (Kd.sl (Kd.int .u8)) r)) (pos Tryd.f66 [.r, .r, .r]) [(sk 1, some (.v (.p (Kd.sl Kd.str) p1))), (sk 5, some (.v (.row 500001 (List.length p3)))), (sk 6, some (.v (.p (Kd.int .i64) p2))), (ek 500001, some (.row (Kd.int .u8) 5 p3))] := by
  induction k with
  | zero => intro p1 p2 p3 r h; cases h
  | succ k ih =>
    intro p1 p2 p3 r h
    unfold antiquaryref02_Input_l0 at h
    rcases br_inv h with ⟨h1494, h⟩ | ⟨h1494, h⟩
    · obtain ⟨h1495, h⟩ := gd_inv h
      obtain ⟨x1496, h1497, h⟩ := bind_inv h
      obtain ⟨h1498, h⟩ := gd_inv h
      exact Abs.Good.path hm [.reg [], .cond true, .reg [(5, { call := some { lend := [], pass := [], res := .v (.p (Kd.sl (Kd.int .u8)) x1496), outs := [], back := [] } })], .reg [], .keep [sk 1, sk 5, sk 6, ek 22], .ren [(22, 500001)]] (cs := [_, _, _, _, _, _]) (by kernel_rfl) ⟨h1494, h1495.1, h1495.2, (antiquaryref01_Bytes_ok k (List.getD p1 (Int.toNat p2) (Kd.dflt Kd.str)) _ h1497), (rfl : (List.length p3) = List.length p3), (appBound (P := P) (et := 5) (b := 1) (by kernel_rfl) (by decide) h1498), trivial⟩ (ih p1 (IntKind.i64.wrap (p2 + (1 : Int))) (p3 ++ x1496) r h)
    · replace h := Option.some.inj h; subst h
      exact Abs.Good.path_ret hm [.reg [], .cond false, .reg []] [500001] Tryd.func66 (cs := [_, _]) (by kernel_rfl) ⟨h1494, (rfl : (List.length p3) = List.length p3), trivial⟩ (by kernel_rfl)
theorem antiquaryref02_Input_ok (k : Nat) (a1 : Int) (a2 : List ByteArray) (r : List Int) (h : antiquaryref02_Input k a1 a2 = some r) : SpecOk P ⟨66, [.p (Kd.int .i64) a1, .p (Kd.sl Kd.str) a2], [], .v (.p (Kd.sl (Kd.int .u8)) r), []⟩ := by
  refine spec_at Tryd.func66 (by kernel_rfl) (Nat.le_of_ble_eq_true (by kernel_rfl)) ?_
  unfold antiquaryref02_Input at h
  exact Abs.Good.path hm [.reg [], .reg [], .reg [], .keep [sk 1, sk 5, sk 6, ek 9], .ren [(9, 500001)]] (cs := []) (by kernel_rfl) trivial (antiquaryref02_Input_l0_ok k a2 (0 : Int) ([(IntKind.u8.wrap a1)] : List Int) r h)

def antiquaryref02_padded_l1 : Nat → Int → Int → List Int → Option (List Int)
  | 0, _, _, _ => none
  | k + 1, p1, p2, p3 =>
    if (decide (p2 < (8 : Int))) = true then
      if 0 ≤ (IntKind.i64.wrap ((56 : Int) - (IntKind.i64.wrap ((8 : Int) * p2)))) then
        if List.length p3 + List.length ([(IntKind.u8.wrap (Int.fdiv p1 (2 ^ (min (Int.toNat (IntKind.i64.wrap ((56 : Int) - (IntKind.i64.wrap ((8 : Int) * p2))))) (IntKind.bits .u64)))))] : List Int) ≤ 140737488355328 then
          antiquaryref02_padded_l1 k p1 (IntKind.i64.wrap (p2 + (1 : Int))) (p3 ++ ([(IntKind.u8.wrap (Int.fdiv p1 (2 ^ (min (Int.toNat (IntKind.i64.wrap ((56 : Int) - (IntKind.i64.wrap ((8 : Int) * p2))))) (IntKind.bits .u64)))))] : List Int))
        else none
      else none
    else
      some (p3)
def antiquaryref02_padded_l0 : Nat → List Int → List Int → Option (List Int)
  | 0, _, _ => none
  | k + 1, p1, p2 =>
    if ((Int.tmod ((List.length p2) : Int) (64 : Int)) != (56 : Int)) = true then
      if List.length p2 + List.length ([(0 : Int)] : List Int) ≤ 140737488355328 then
        antiquaryref02_padded_l0 k p1 (p2 ++ ([(0 : Int)] : List Int))
      else none
    else
      antiquaryref02_padded_l1 k (IntKind.u64.wrap ((8 : Int) * (IntKind.u64.wrap (List.length p1 : Int)))) (0 : Int) p2
def antiquaryref02_padded (k : Nat) (a1 : List Int) : Option (List Int) :=
  if List.length ([] : List Int) + List.length a1 ≤ 140737488355328 then
    if List.length (([] : List Int) ++ a1) + List.length ([(128 : Int)] : List Int) ≤ 140737488355328 then
      antiquaryref02_padded_l0 k a1 ((([] : List Int) ++ a1) ++ ([(128 : Int)] : List Int))
    else none
  else none
theorem antiquaryref02_padded_l1_ok (k : Nat) : ∀ (p1 : Int) (p2 : Int) (p3 : List Int) (r : List Int), antiquaryref02_padded_l1 k p1 p2 p3 = some r →
    Abs.Good P 84 Tryd.f84.ntmps [] [] (.v (.p (Kd.sl (Kd.int .u8)) r)) (pos Tryd.f84 [.r, .r, .r, .r, .c false, .r, .r]) [(sk 3, some (.v (.row 501001 (List.length p3)))), (sk 4, some (.v (.p (Kd.int .u64) p1))), (sk 5, some (.v (.p (Kd.int .i64) p2))), (ek 501001, some (.row (Kd.int .u8) 5 p3))] := by
  induction k with
  | zero => intro p1 p2 p3 r h; cases h
  | succ k ih =>
    intro p1 p2 p3 r h
    unfold antiquaryref02_padded_l1 at h
    rcases br_inv h with ⟨h1518, h⟩ | ⟨h1518, h⟩
    · obtain ⟨h1519, h⟩ := gd_inv h
      obtain ⟨h1520, h⟩ := gd_inv h
      exact Abs.Good.path hm [.reg [], .cond true, .reg [], .reg [], .keep [sk 3, sk 4, sk 5, ek 35], .ren [(35, 501001)]] (cs := [_, _, _, _, _]) (by kernel_rfl) ⟨h1518, h1519, (rfl : (List.length p3) = List.length p3), (appBound (P := P) (et := 5) (b := 1) (by kernel_rfl) (by decide) h1520), (rfl : 1 = List.length ([(IntKind.u8.wrap (Int.fdiv p1 (2 ^ (min (Int.toNat (IntKind.i64.wrap ((56 : Int) - (IntKind.i64.wrap ((8 : Int) * p2))))) (IntKind.bits .u64)))))] : List Int)), trivial⟩ (ih p1 (IntKind.i64.wrap (p2 + (1 : Int))) (p3 ++ ([(IntKind.u8.wrap (Int.fdiv p1 (2 ^ (min (Int.toNat (IntKind.i64.wrap ((56 : Int) - (IntKind.i64.wrap ((8 : Int) * p2))))) (IntKind.bits .u64)))))] : List Int)) r h)
    · replace h := Option.some.inj h; subst h
      exact Abs.Good.path_ret hm [.reg [], .cond false, .reg []] [501001] Tryd.func84 (cs := [_, _]) (by kernel_rfl) ⟨h1518, (rfl : (List.length p3) = List.length p3), trivial⟩ (by kernel_rfl)
theorem antiquaryref02_padded_l0_ok (k : Nat) : ∀ (p1 : List Int) (p2 : List Int) (r : List Int), antiquaryref02_padded_l0 k p1 p2 = some r →
    Abs.Good P 84 Tryd.f84.ntmps [] [] (.v (.p (Kd.sl (Kd.int .u8)) r)) (pos Tryd.f84 [.r, .r, .r]) [(sk 0, some (.v (.p (Kd.sl (Kd.int .u8)) p1))), (sk 3, some (.v (.row 500001 (List.length p2)))), (ek 500001, some (.row (Kd.int .u8) 5 p2))] := by
  induction k with
  | zero => intro p1 p2 r h; cases h
  | succ k ih =>
    intro p1 p2 r h
    unfold antiquaryref02_padded_l0 at h
    rcases br_inv h with ⟨h1516, h⟩ | ⟨h1516, h⟩
    · obtain ⟨h1517, h⟩ := gd_inv h
      exact Abs.Good.path hm [.reg [], .cond true, .reg [], .keep [sk 0, sk 3, ek 18], .ren [(18, 500001)]] (cs := [_, _, _, _, _]) (by kernel_rfl) ⟨(by decide : (64 : Int) ≠ 0), h1516, (rfl : (List.length p2) = List.length p2), (appBound (P := P) (et := 5) (b := 1) (by kernel_rfl) (by decide) h1517), (rfl : 1 = List.length ([(0 : Int)] : List Int)), trivial⟩ (ih p1 (p2 ++ ([(0 : Int)] : List Int)) r h)
    · exact Abs.Good.path hm [.reg [], .cond false, .reg [], .reg [], .keep [sk 3, sk 4, sk 5, ek 500001], .ren [(500001, 501001)]] (cs := [_, _]) (by kernel_rfl) ⟨(by decide : (64 : Int) ≠ 0), h1516, trivial⟩ (antiquaryref02_padded_l1_ok k (IntKind.u64.wrap ((8 : Int) * (IntKind.u64.wrap (List.length p1 : Int)))) (0 : Int) p2 r h)
theorem antiquaryref02_padded_ok (k : Nat) (a1 : List Int) (r : List Int) (h : antiquaryref02_padded k a1 = some r) : SpecOk P ⟨84, [.p (Kd.sl (Kd.int .u8)) a1], [], .v (.p (Kd.sl (Kd.int .u8)) r), []⟩ := by
  refine spec_at Tryd.func84 (by kernel_rfl) (Nat.le_of_ble_eq_true (by kernel_rfl)) ?_
  unfold antiquaryref02_padded at h
  obtain ⟨h1514, h⟩ := gd_inv h
  obtain ⟨h1515, h⟩ := gd_inv h
  exact Abs.Good.path hm [.reg [], .reg [], .reg [], .keep [sk 0, sk 3, ek 11], .ren [(11, 500001)]] (cs := [_, _, _, _, _]) (by kernel_rfl) ⟨(rfl : 0 = List.length ([] : List Int)), (appBound (P := P) (et := 5) (b := 1) (by kernel_rfl) (by decide) h1514), (rfl : (List.length (([] : List Int) ++ a1)) = List.length (([] : List Int) ++ a1)), (appBound (P := P) (et := 5) (b := 1) (by kernel_rfl) (by decide) h1515), (rfl : 1 = List.length ([(128 : Int)] : List Int)), trivial⟩ (antiquaryref02_padded_l0_ok k a1 ((([] : List Int) ++ a1) ++ ([(128 : Int)] : List Int)) r h)

def antiquaryref02_rotr (k : Nat) (a1 : Int) (a2 : Int) : Option (Int) :=
  if 0 ≤ a2 then
    if 0 ≤ (IntKind.i64.wrap ((32 : Int) - a2)) then
      some ((IntKind.u32.wrap (((BitVec.ofInt (IntKind.bits .u32) (Int.fdiv a1 (2 ^ (min (Int.toNat a2) (IntKind.bits .u32))))) ||| (BitVec.ofInt (IntKind.bits .u32) (IntKind.u32.wrap (a1 * 2 ^ (min (Int.toNat (IntKind.i64.wrap ((32 : Int) - a2))) (IntKind.bits .u32)))))).toNat : Int)))
    else none
  else none
theorem antiquaryref02_rotr_ok (k : Nat) (a1 : Int) (a2 : Int) (r : Int) (h : antiquaryref02_rotr k a1 a2 = some r) : SpecOk P ⟨86, [.p (Kd.int .u32) a1, .p (Kd.int .i64) a2], [], .v (.p (Kd.int .u32) r), []⟩ := by
  refine spec_at Tryd.func86 (by kernel_rfl) (Nat.le_of_ble_eq_true (by kernel_rfl)) ?_
  unfold antiquaryref02_rotr at h
  obtain ⟨h1543, h⟩ := gd_inv h
  obtain ⟨h1544, h⟩ := gd_inv h
  replace h := Option.some.inj h; subst h
  exact Abs.Good.path_ret hm [.reg [], .reg []] [] Tryd.func86 (cs := [_, _]) (by kernel_rfl) ⟨h1543, h1544, trivial⟩ (by kernel_rfl)

def antiquaryref02_words_l1 : Nat → Int → List Int → List Int → Option (List Int)
  | 0, _, _, _ => none
  | k + 1, p1, p2, p3 =>
    if (decide (p1 < (64 : Int))) = true then
      if 0 ≤ (IntKind.i64.wrap (p1 - (15 : Int))) ∧ (IntKind.i64.wrap (p1 - (15 : Int))) < (64 : Int) then
        Option.bind (antiquaryref02_rotr k (List.getD p3 (Int.toNat (IntKind.i64.wrap (p1 - (15 : Int)))) (Kd.dflt (Kd.int .u32))) (7 : Int)) fun x1565 =>
        Option.bind (antiquaryref02_rotr k (List.getD p3 (Int.toNat (IntKind.i64.wrap (p1 - (15 : Int)))) (Kd.dflt (Kd.int .u32))) (18 : Int)) fun x1567 =>
        if 0 ≤ (IntKind.i64.wrap (p1 - (2 : Int))) ∧ (IntKind.i64.wrap (p1 - (2 : Int))) < (64 : Int) then
          Option.bind (antiquaryref02_rotr k (List.getD p3 (Int.toNat (IntKind.i64.wrap (p1 - (2 : Int)))) (Kd.dflt (Kd.int .u32))) (17 : Int)) fun x1570 =>
          Option.bind (antiquaryref02_rotr k (List.getD p3 (Int.toNat (IntKind.i64.wrap (p1 - (2 : Int)))) (Kd.dflt (Kd.int .u32))) (19 : Int)) fun x1572 =>
          if 0 ≤ (IntKind.i64.wrap (p1 - (16 : Int))) ∧ (IntKind.i64.wrap (p1 - (16 : Int))) < (64 : Int) then
            if 0 ≤ (IntKind.i64.wrap (p1 - (7 : Int))) ∧ (IntKind.i64.wrap (p1 - (7 : Int))) < (64 : Int) then
              if 0 ≤ p1 ∧ p1 < (64 : Int) then
                antiquaryref02_words_l1 k (IntKind.i64.wrap (p1 + (1 : Int))) p2 (List.set p3 (Int.toNat p1) (IntKind.u32.wrap ((IntKind.u32.wrap ((IntKind.u32.wrap ((List.getD p3 (Int.toNat (IntKind.i64.wrap (p1 - (16 : Int)))) (Kd.dflt (Kd.int .u32))) + (IntKind.u32.wrap (((BitVec.ofInt (IntKind.bits .u32) (IntKind.u32.wrap (((BitVec.ofInt (IntKind.bits .u32) x1565) ^^^ (BitVec.ofInt (IntKind.bits .u32) x1567)).toNat : Int))) ^^^ (BitVec.ofInt (IntKind.bits .u32) (Int.fdiv (List.getD p3 (Int.toNat (IntKind.i64.wrap (p1 - (15 : Int)))) (Kd.dflt (Kd.int .u32))) (2 ^ (min (Int.toNat (3 : Int)) (IntKind.bits .u32)))))).toNat : Int)))) + (List.getD p3 (Int.toNat (IntKind.i64.wrap (p1 - (7 : Int)))) (Kd.dflt (Kd.int .u32))))) + (IntKind.u32.wrap (((BitVec.ofInt (IntKind.bits .u32) (IntKind.u32.wrap (((BitVec.ofInt (IntKind.bits .u32) x1570) ^^^ (BitVec.ofInt (IntKind.bits .u32) x1572)).toNat : Int))) ^^^ (BitVec.ofInt (IntKind.bits .u32) (Int.fdiv (List.getD p3 (Int.toNat (IntKind.i64.wrap (p1 - (2 : Int)))) (Kd.dflt (Kd.int .u32))) (2 ^ (min (Int.toNat (10 : Int)) (IntKind.bits .u32)))))).toNat : Int)))))
              else none
            else none
          else none
        else none
      else none
    else
      some (p3)
def antiquaryref02_words_l0 : Nat → List Int → Int → List Int → List Int → Option (List Int)
  | 0, _, _, _, _ => none
  | k + 1, p1, p2, p3, p4 =>
    if (decide (p2 < (16 : Int))) = true then
      if 0 ≤ (IntKind.i64.wrap ((4 : Int) * p2)) ∧ (IntKind.i64.wrap ((4 : Int) * p2)) < (List.length p1 : Int) then
        if 0 ≤ (IntKind.i64.wrap ((IntKind.i64.wrap ((4 : Int) * p2)) + (1 : Int))) ∧ (IntKind.i64.wrap ((IntKind.i64.wrap ((4 : Int) * p2)) + (1 : Int))) < (List.length p1 : Int) then
          if 0 ≤ (IntKind.i64.wrap ((IntKind.i64.wrap ((4 : Int) * p2)) + (2 : Int))) ∧ (IntKind.i64.wrap ((IntKind.i64.wrap ((4 : Int) * p2)) + (2 : Int))) < (List.length p1 : Int) then
            if 0 ≤ (IntKind.i64.wrap ((IntKind.i64.wrap ((4 : Int) * p2)) + (3 : Int))) ∧ (IntKind.i64.wrap ((IntKind.i64.wrap ((4 : Int) * p2)) + (3 : Int))) < (List.length p1 : Int) then
              if 0 ≤ p2 ∧ p2 < (64 : Int) then
                antiquaryref02_words_l0 k p1 (IntKind.i64.wrap (p2 + (1 : Int))) p3 (List.set p4 (Int.toNat p2) (IntKind.u32.wrap (((BitVec.ofInt (IntKind.bits .u32) (IntKind.u32.wrap (((BitVec.ofInt (IntKind.bits .u32) (IntKind.u32.wrap (((BitVec.ofInt (IntKind.bits .u32) (IntKind.u32.wrap ((IntKind.u32.wrap (List.getD p1 (Int.toNat (IntKind.i64.wrap ((4 : Int) * p2))) (Kd.dflt (Kd.int .u8)))) * 2 ^ (min (Int.toNat (24 : Int)) (IntKind.bits .u32))))) ||| (BitVec.ofInt (IntKind.bits .u32) (IntKind.u32.wrap ((IntKind.u32.wrap (List.getD p1 (Int.toNat (IntKind.i64.wrap ((IntKind.i64.wrap ((4 : Int) * p2)) + (1 : Int)))) (Kd.dflt (Kd.int .u8)))) * 2 ^ (min (Int.toNat (16 : Int)) (IntKind.bits .u32)))))).toNat : Int))) ||| (BitVec.ofInt (IntKind.bits .u32) (IntKind.u32.wrap ((IntKind.u32.wrap (List.getD p1 (Int.toNat (IntKind.i64.wrap ((IntKind.i64.wrap ((4 : Int) * p2)) + (2 : Int)))) (Kd.dflt (Kd.int .u8)))) * 2 ^ (min (Int.toNat (8 : Int)) (IntKind.bits .u32)))))).toNat : Int))) ||| (BitVec.ofInt (IntKind.bits .u32) (IntKind.u32.wrap (List.getD p1 (Int.toNat (IntKind.i64.wrap ((IntKind.i64.wrap ((4 : Int) * p2)) + (3 : Int)))) (Kd.dflt (Kd.int .u8)))))).toNat : Int)))
              else none
            else none
          else none
        else none
      else none
    else
      antiquaryref02_words_l1 k (16 : Int) p3 p4
def antiquaryref02_words (k : Nat) (a1 : List Int) : Option (List Int) :=
  antiquaryref02_words_l0 k a1 (0 : Int) (Kd.dflt (Kd.arr 64 (Kd.int .u32))) (Kd.dflt (Kd.arr 64 (Kd.int .u32)))
theorem antiquaryref02_words_l1_ok (k : Nat) : ∀ (p1 : Int) (p2 : List Int) (p3 : List Int) (r : List Int), antiquaryref02_words_l1 k p1 p2 p3 = some r →
    Abs.Good P 85 Tryd.f85.ntmps [] [] (.v (.p (Kd.arr 64 (Kd.int .u32)) r)) (pos Tryd.f85 [.r, .r, .r, .r, .c false, .r]) [(sk 2, some (.v (.ptr 501001 0))), (sk 3, some (.v (.ptr 501002 0))), (sk 5, some (.v (.p (Kd.int .i64) p1))), (ek 501001, some (.box [.p (Kd.arr 64 (Kd.int .u32)) p2])), (ek 501002, some (.box [.p (Kd.arr 64 (Kd.int .u32)) p3]))] := by
  induction k with
  | zero => intro p1 p2 p3 r h; cases h
  | succ k ih =>
    intro p1 p2 p3 r h
    unfold antiquaryref02_words_l1 at h
    rcases br_inv h with ⟨h1563, h⟩ | ⟨h1563, h⟩
    · obtain ⟨h1564, h⟩ := gd_inv h
      obtain ⟨x1565, h1566, h⟩ := bind_inv h
      obtain ⟨x1567, h1568, h⟩ := bind_inv h
      obtain ⟨h1569, h⟩ := gd_inv h
      obtain ⟨x1570, h1571, h⟩ := bind_inv h
      obtain ⟨x1572, h1573, h⟩ := bind_inv h
      obtain ⟨h1574, h⟩ := gd_inv h
      obtain ⟨h1575, h⟩ := gd_inv h
      obtain ⟨h1576, h⟩ := gd_inv h
      exact Abs.Good.path hm [.reg [], .cond true, .reg [(4, { call := some { lend := [], pass := [], res := .v (.p (Kd.int .u32) x1565), outs := [], back := [] } }), (9, { call := some { lend := [], pass := [], res := .v (.p (Kd.int .u32) x1567), outs := [], back := [] } })], .reg [(4, { call := some { lend := [], pass := [], res := .v (.p (Kd.int .u32) x1570), outs := [], back := [] } }), (9, { call := some { lend := [], pass := [], res := .v (.p (Kd.int .u32) x1572), outs := [], back := [] } })], .reg [], .reg [], .keep [sk 2, sk 3, sk 5, ek 501001, ek 501002]] (cs := [_, _, _, _, _, _, _, _, _, _, _, _, _, _, _, _, _, _, _, _, _, _, _, _, _]) (by kernel_rfl) ⟨h1563, h1564.1, h1564.2, (antiquaryref02_rotr_ok k (List.getD p3 (Int.toNat (IntKind.i64.wrap (p1 - (15 : Int)))) (Kd.dflt (Kd.int .u32))) (7 : Int) _ h1566), h1564.1, h1564.2, (antiquaryref02_rotr_ok k (List.getD p3 (Int.toNat (IntKind.i64.wrap (p1 - (15 : Int)))) (Kd.dflt (Kd.int .u32))) (18 : Int) _ h1568), h1564.1, h1564.2, (by decide : 0 ≤ (3 : Int)), h1569.1, h1569.2, (antiquaryref02_rotr_ok k (List.getD p3 (Int.toNat (IntKind.i64.wrap (p1 - (2 : Int)))) (Kd.dflt (Kd.int .u32))) (17 : Int) _ h1571), h1569.1, h1569.2, (antiquaryref02_rotr_ok k (List.getD p3 (Int.toNat (IntKind.i64.wrap (p1 - (2 : Int)))) (Kd.dflt (Kd.int .u32))) (19 : Int) _ h1573), h1569.1, h1569.2, (by decide : 0 ≤ (10 : Int)), h1574.1, h1574.2, h1575.1, h1575.2, h1576.1, h1576.2, trivial⟩ (ih (IntKind.i64.wrap (p1 + (1 : Int))) p2 (List.set p3 (Int.toNat p1) (IntKind.u32.wrap ((IntKind.u32.wrap ((IntKind.u32.wrap ((List.getD p3 (Int.toNat (IntKind.i64.wrap (p1 - (16 : Int)))) (Kd.dflt (Kd.int .u32))) + (IntKind.u32.wrap (((BitVec.ofInt (IntKind.bits .u32) (IntKind.u32.wrap (((BitVec.ofInt (IntKind.bits .u32) x1565) ^^^ (BitVec.ofInt (IntKind.bits .u32) x1567)).toNat : Int))) ^^^ (BitVec.ofInt (IntKind.bits .u32) (Int.fdiv (List.getD p3 (Int.toNat (IntKind.i64.wrap (p1 - (15 : Int)))) (Kd.dflt (Kd.int .u32))) (2 ^ (min (Int.toNat (3 : Int)) (IntKind.bits .u32)))))).toNat : Int)))) + (List.getD p3 (Int.toNat (IntKind.i64.wrap (p1 - (7 : Int)))) (Kd.dflt (Kd.int .u32))))) + (IntKind.u32.wrap (((BitVec.ofInt (IntKind.bits .u32) (IntKind.u32.wrap (((BitVec.ofInt (IntKind.bits .u32) x1570) ^^^ (BitVec.ofInt (IntKind.bits .u32) x1572)).toNat : Int))) ^^^ (BitVec.ofInt (IntKind.bits .u32) (Int.fdiv (List.getD p3 (Int.toNat (IntKind.i64.wrap (p1 - (2 : Int)))) (Kd.dflt (Kd.int .u32))) (2 ^ (min (Int.toNat (10 : Int)) (IntKind.bits .u32)))))).toNat : Int))))) r h)
    · replace h := Option.some.inj h; subst h
      exact Abs.Good.path_ret hm [.reg [], .cond false, .reg []] [] Tryd.func85 (cs := [_]) (by kernel_rfl) ⟨h1563, trivial⟩ (by kernel_rfl)
theorem antiquaryref02_words_l0_ok (k : Nat) : ∀ (p1 : List Int) (p2 : Int) (p3 : List Int) (p4 : List Int) (r : List Int), antiquaryref02_words_l0 k p1 p2 p3 p4 = some r →
    Abs.Good P 85 Tryd.f85.ntmps [] [] (.v (.p (Kd.arr 64 (Kd.int .u32)) r)) (pos Tryd.f85 [.r, .r, .r]) [(sk 0, some (.v (.p (Kd.sl (Kd.int .u8)) p1))), (sk 2, some (.v (.ptr 500001 0))), (sk 3, some (.v (.ptr 500002 0))), (sk 4, some (.v (.p (Kd.int .i64) p2))), (ek 500001, some (.box [.p (Kd.arr 64 (Kd.int .u32)) p3])), (ek 500002, some (.box [.p (Kd.arr 64 (Kd.int .u32)) p4]))] := by
  induction k with
  | zero => intro p1 p2 p3 p4 r h; cases h
  | succ k ih =>
    intro p1 p2 p3 p4 r h
    unfold antiquaryref02_words_l0 at h
    rcases br_inv h with ⟨h1557, h⟩ | ⟨h1557, h⟩
    · obtain ⟨h1558, h⟩ := gd_inv h
      obtain ⟨h1559, h⟩ := gd_inv h
      obtain ⟨h1560, h⟩ := gd_inv h
      obtain ⟨h1561, h⟩ := gd_inv h
      obtain ⟨h1562, h⟩ := gd_inv h
      exact Abs.Good.path hm [.reg [], .cond true, .reg [], .reg [], .keep [sk 0, sk 2, sk 3, sk 4, ek 500001, ek 500002]] (cs := [_, _, _, _, _, _, _, _, _, _, _, _, _, _]) (by kernel_rfl) ⟨h1557, h1558.1, h1558.2, (by decide : 0 ≤ (24 : Int)), h1559.1, h1559.2, (by decide : 0 ≤ (16 : Int)), h1560.1, h1560.2, (by decide : 0 ≤ (8 : Int)), h1561.1, h1561.2, h1562.1, h1562.2, trivial⟩ (ih p1 (IntKind.i64.wrap (p2 + (1 : Int))) p3 (List.set p4 (Int.toNat p2) (IntKind.u32.wrap (((BitVec.ofInt (IntKind.bits .u32) (IntKind.u32.wrap (((BitVec.ofInt (IntKind.bits .u32) (IntKind.u32.wrap (((BitVec.ofInt (IntKind.bits .u32) (IntKind.u32.wrap ((IntKind.u32.wrap (List.getD p1 (Int.toNat (IntKind.i64.wrap ((4 : Int) * p2))) (Kd.dflt (Kd.int .u8)))) * 2 ^ (min (Int.toNat (24 : Int)) (IntKind.bits .u32))))) ||| (BitVec.ofInt (IntKind.bits .u32) (IntKind.u32.wrap ((IntKind.u32.wrap (List.getD p1 (Int.toNat (IntKind.i64.wrap ((IntKind.i64.wrap ((4 : Int) * p2)) + (1 : Int)))) (Kd.dflt (Kd.int .u8)))) * 2 ^ (min (Int.toNat (16 : Int)) (IntKind.bits .u32)))))).toNat : Int))) ||| (BitVec.ofInt (IntKind.bits .u32) (IntKind.u32.wrap ((IntKind.u32.wrap (List.getD p1 (Int.toNat (IntKind.i64.wrap ((IntKind.i64.wrap ((4 : Int) * p2)) + (2 : Int)))) (Kd.dflt (Kd.int .u8)))) * 2 ^ (min (Int.toNat (8 : Int)) (IntKind.bits .u32)))))).toNat : Int))) ||| (BitVec.ofInt (IntKind.bits .u32) (IntKind.u32.wrap (List.getD p1 (Int.toNat (IntKind.i64.wrap ((IntKind.i64.wrap ((4 : Int) * p2)) + (3 : Int)))) (Kd.dflt (Kd.int .u8)))))).toNat : Int))) r h)
    · exact Abs.Good.path hm [.reg [], .cond false, .reg [], .keep [sk 2, sk 3, sk 5, ek 500001, ek 500002], .ren [(500001, 501001), (500002, 501002)]] (cs := [_]) (by kernel_rfl) ⟨h1557, trivial⟩ (antiquaryref02_words_l1_ok k (16 : Int) p3 p4 r h)
theorem antiquaryref02_words_ok (k : Nat) (a1 : List Int) (r : List Int) (h : antiquaryref02_words k a1 = some r) : SpecOk P ⟨85, [.p (Kd.sl (Kd.int .u8)) a1], [], .v (.p (Kd.arr 64 (Kd.int .u32)) r), []⟩ := by
  refine spec_at Tryd.func85 (by kernel_rfl) (Nat.le_of_ble_eq_true (by kernel_rfl)) ?_
  unfold antiquaryref02_words at h
  exact Abs.Good.path hm [.reg [], .reg [], .reg [], .keep [sk 0, sk 2, sk 3, sk 4, ek 2, ek 3], .ren [(2, 500001), (3, 500002)]] (cs := []) (by kernel_rfl) trivial (antiquaryref02_words_l0_ok k a1 (0 : Int) (Kd.dflt (Kd.arr 64 (Kd.int .u32))) (Kd.dflt (Kd.arr 64 (Kd.int .u32))) r h)

def antiquaryref02_Sum_l2 : Nat → Int → List Int → List Int → List Int → Option (List Int)
  | 0, _, _, _, _ => none
  | k + 1, p1, p2, p3, p4 =>
    if (decide (p1 < (32 : Int))) = true then
      if 0 ≤ (IntKind.i64.wrap (Int.tdiv p1 (4 : Int))) ∧ (IntKind.i64.wrap (Int.tdiv p1 (4 : Int))) < (8 : Int) then
        if 0 ≤ (IntKind.i64.wrap ((24 : Int) - (IntKind.i64.wrap ((8 : Int) * (Int.tmod p1 (4 : Int)))))) then
          if 0 ≤ p1 ∧ p1 < (32 : Int) then
            antiquaryref02_Sum_l2 k (IntKind.i64.wrap (p1 + (1 : Int))) p2 p3 (List.set p4 (Int.toNat p1) (IntKind.u8.wrap (Int.fdiv (List.getD p3 (Int.toNat (IntKind.i64.wrap (Int.tdiv p1 (4 : Int)))) (Kd.dflt (Kd.int .u32))) (2 ^ (min (Int.toNat (IntKind.i64.wrap ((24 : Int) - (IntKind.i64.wrap ((8 : Int) * (Int.tmod p1 (4 : Int))))))) (IntKind.bits .u32))))))
          else none
        else none
      else none
    else
      some (p4)
def antiquaryref02_Sum_l3 (s0 : List Int → Int → List Int → List Int → Option (List Int)) : Nat → List Int → Int → Int → List Int → List Int → List Int → Option (List Int)
  | 0, _, _, _, _, _, _ => none
  | k + 1, p1, p2, p3, p4, p5, p6 =>
    if (decide (p3 < (8 : Int))) = true then
      if 0 ≤ p3 ∧ p3 < (8 : Int) then
        antiquaryref02_Sum_l3 s0 k p1 p2 (IntKind.i64.wrap (p3 + (1 : Int))) p4 (List.set p5 (Int.toNat p3) (IntKind.u32.wrap ((List.getD p5 (Int.toNat p3) (Kd.dflt (Kd.int .u32))) + (List.getD p6 (Int.toNat p3) (Kd.dflt (Kd.int .u32)))))) p6
      else none
    else
      s0 p1 (IntKind.i64.wrap (p2 + (64 : Int))) p4 p5
def antiquaryref02_Sum_l1 (s0 : List Int → Int → List Int → List Int → Option (List Int)) : Nat → List Int → Int → Int → List Int → List Int → List Int → List Int → Option (List Int)
  | 0, _, _, _, _, _, _, _ => none
  | k + 1, p1, p2, p3, p4, p5, p6, p7 =>
    if (decide (p3 < (64 : Int))) = true then
      Option.bind (antiquaryref02_rotr k (List.getD p7 (4) (Kd.dflt (Kd.int .u32))) (6 : Int)) fun x1636 =>
      Option.bind (antiquaryref02_rotr k (List.getD p7 (4) (Kd.dflt (Kd.int .u32))) (11 : Int)) fun x1638 =>
      Option.bind (antiquaryref02_rotr k (List.getD p7 (4) (Kd.dflt (Kd.int .u32))) (25 : Int)) fun x1640 =>
      if 0 ≤ p3 ∧ p3 < (64 : Int) then
        Option.bind (antiquaryref02_rotr k (List.getD p7 (0) (Kd.dflt (Kd.int .u32))) (2 : Int)) fun x1643 =>
        Option.bind (antiquaryref02_rotr k (List.getD p7 (0) (Kd.dflt (Kd.int .u32))) (13 : Int)) fun x1645 =>
        Option.bind (antiquaryref02_rotr k (List.getD p7 (0) (Kd.dflt (Kd.int .u32))) (22 : Int)) fun x1647 =>
        antiquaryref02_Sum_l1 s0 k p1 p2 (IntKind.i64.wrap (p3 + (1 : Int))) p4 p5 p6 ([(IntKind.u32.wrap ((IntKind.u32.wrap ((IntKind.u32.wrap ((IntKind.u32.wrap ((IntKind.u32.wrap ((List.getD p7 (7) (Kd.dflt (Kd.int .u32))) + (IntKind.u32.wrap (((BitVec.ofInt (IntKind.bits .u32) (IntKind.u32.wrap (((BitVec.ofInt (IntKind.bits .u32) x1636) ^^^ (BitVec.ofInt (IntKind.bits .u32) x1638)).toNat : Int))) ^^^ (BitVec.ofInt (IntKind.bits .u32) x1640)).toNat : Int)))) + (IntKind.u32.wrap (((BitVec.ofInt (IntKind.bits .u32) (IntKind.u32.wrap (((BitVec.ofInt (IntKind.bits .u32) (List.getD p7 (4) (Kd.dflt (Kd.int .u32)))) &&& (BitVec.ofInt (IntKind.bits .u32) (List.getD p7 (5) (Kd.dflt (Kd.int .u32))))).toNat : Int))) ^^^ (BitVec.ofInt (IntKind.bits .u32) (IntKind.u32.wrap (((BitVec.ofInt (IntKind.bits .u32) (IntKind.u32.wrap (((BitVec.ofInt (IntKind.bits .u32) (List.getD p7 (4) (Kd.dflt (Kd.int .u32)))) ^^^ (BitVec.ofInt (IntKind.bits .u32) (4294967295 : Int))).toNat : Int))) &&& (BitVec.ofInt (IntKind.bits .u32) (List.getD p7 (6) (Kd.dflt (Kd.int .u32))))).toNat : Int)))).toNat : Int)))) + (List.getD gK2 (Int.toNat p3) (Kd.dflt (Kd.int .u32))))) + (List.getD p6 (Int.toNat p3) (Kd.dflt (Kd.int .u32))))) + (IntKind.u32.wrap ((IntKind.u32.wrap (((BitVec.ofInt (IntKind.bits .u32) (IntKind.u32.wrap (((BitVec.ofInt (IntKind.bits .u32) x1643) ^^^ (BitVec.ofInt (IntKind.bits .u32) x1645)).toNat : Int))) ^^^ (BitVec.ofInt (IntKind.bits .u32) x1647)).toNat : Int)) + (IntKind.u32.wrap (((BitVec.ofInt (IntKind.bits .u32) (IntKind.u32.wrap (((BitVec.ofInt (IntKind.bits .u32) (IntKind.u32.wrap (((BitVec.ofInt (IntKind.bits .u32) (List.getD p7 (0) (Kd.dflt (Kd.int .u32)))) &&& (BitVec.ofInt (IntKind.bits .u32) (List.getD p7 (1) (Kd.dflt (Kd.int .u32))))).toNat : Int))) ^^^ (BitVec.ofInt (IntKind.bits .u32) (IntKind.u32.wrap (((BitVec.ofInt (IntKind.bits .u32) (List.getD p7 (0) (Kd.dflt (Kd.int .u32)))) &&& (BitVec.ofInt (IntKind.bits .u32) (List.getD p7 (2) (Kd.dflt (Kd.int .u32))))).toNat : Int)))).toNat : Int))) ^^^ (BitVec.ofInt (IntKind.bits .u32) (IntKind.u32.wrap (((BitVec.ofInt (IntKind.bits .u32) (List.getD p7 (1) (Kd.dflt (Kd.int .u32)))) &&& (BitVec.ofInt (IntKind.bits .u32) (List.getD p7 (2) (Kd.dflt (Kd.int .u32))))).toNat : Int)))).toNat : Int)))))), (List.getD p7 (0) (Kd.dflt (Kd.int .u32))), (List.getD p7 (1) (Kd.dflt (Kd.int .u32))), (List.getD p7 (2) (Kd.dflt (Kd.int .u32))), (IntKind.u32.wrap ((List.getD p7 (3) (Kd.dflt (Kd.int .u32))) + (IntKind.u32.wrap ((IntKind.u32.wrap ((IntKind.u32.wrap ((IntKind.u32.wrap ((List.getD p7 (7) (Kd.dflt (Kd.int .u32))) + (IntKind.u32.wrap (((BitVec.ofInt (IntKind.bits .u32) (IntKind.u32.wrap (((BitVec.ofInt (IntKind.bits .u32) x1636) ^^^ (BitVec.ofInt (IntKind.bits .u32) x1638)).toNat : Int))) ^^^ (BitVec.ofInt (IntKind.bits .u32) x1640)).toNat : Int)))) + (IntKind.u32.wrap (((BitVec.ofInt (IntKind.bits .u32) (IntKind.u32.wrap (((BitVec.ofInt (IntKind.bits .u32) (List.getD p7 (4) (Kd.dflt (Kd.int .u32)))) &&& (BitVec.ofInt (IntKind.bits .u32) (List.getD p7 (5) (Kd.dflt (Kd.int .u32))))).toNat : Int))) ^^^ (BitVec.ofInt (IntKind.bits .u32) (IntKind.u32.wrap (((BitVec.ofInt (IntKind.bits .u32) (IntKind.u32.wrap (((BitVec.ofInt (IntKind.bits .u32) (List.getD p7 (4) (Kd.dflt (Kd.int .u32)))) ^^^ (BitVec.ofInt (IntKind.bits .u32) (4294967295 : Int))).toNat : Int))) &&& (BitVec.ofInt (IntKind.bits .u32) (List.getD p7 (6) (Kd.dflt (Kd.int .u32))))).toNat : Int)))).toNat : Int)))) + (List.getD gK2 (Int.toNat p3) (Kd.dflt (Kd.int .u32))))) + (List.getD p6 (Int.toNat p3) (Kd.dflt (Kd.int .u32))))))), (List.getD p7 (4) (Kd.dflt (Kd.int .u32))), (List.getD p7 (5) (Kd.dflt (Kd.int .u32))), (List.getD p7 (6) (Kd.dflt (Kd.int .u32)))] : List Int)
      else none
    else
      antiquaryref02_Sum_l3 s0 k p1 p2 (0 : Int) p4 p5 p7
def antiquaryref02_Sum_l0 : Nat → List Int → Int → List Int → List Int → Option (List Int)
  | 0, _, _, _, _ => none
  | k + 1, p1, p2, p3, p4 =>
    if (decide (p2 < (List.length p1 : Int))) = true then
      if 0 ≤ (IntKind.i64.wrap (p2 + (64 : Int))) ∧ (IntKind.i64.wrap (p2 + (64 : Int))) ≤ (List.length p1 : Int) ∧ 0 ≤ p2 ∧ p2 ≤ (IntKind.i64.wrap (p2 + (64 : Int))) then
        Option.bind (antiquaryref02_words k (List.drop (Int.toNat p2) (List.take (Int.toNat (IntKind.i64.wrap (p2 + (64 : Int)))) p1))) fun x1633 =>
        antiquaryref02_Sum_l1 (antiquaryref02_Sum_l0 k) k p1 p2 (0 : Int) p3 p4 x1633 p4
      else none
    else
      antiquaryref02_Sum_l2 k (0 : Int) p3 p4 (Kd.dflt (Kd.arr 32 (Kd.int .u8)))
def antiquaryref02_Sum (k : Nat) (a1 : List Int) : Option (List Int) :=
  Option.bind (antiquaryref02_padded k a1) fun x1629 =>
  antiquaryref02_Sum_l0 k x1629 (0 : Int) (Kd.dflt (Kd.arr 32 (Kd.int .u8))) ([(1779033703 : Int), (3144134277 : Int), (1013904242 : Int), (2773480762 : Int), (1359893119 : Int), (2600822924 : Int), (528734635 : Int), (1541459225 : Int)] : List Int)
theorem antiquaryref02_Sum_l2_ok (k : Nat) : ∀ (p1 : Int) (p2 : List Int) (p3 : List Int) (p4 : List Int) (r : List Int), antiquaryref02_Sum_l2 k p1 p2 p3 p4 = some r →
    Abs.Good P 79 Tryd.f79.ntmps [] [] (.v (.p (Kd.arr 32 (Kd.int .u8)) r)) (pos Tryd.f79 [.r, .r, .r, .r, .r, .c false, .r, .r]) [(sk 2, some (.v (.ptr 502001 0))), (sk 3, some (.v (.ptr 502002 0))), (sk 12, some (.v (.ptr 502003 0))), (sk 13, some (.v (.p (Kd.int .i64) p1))), (ek 502001, some (.box [.p (Kd.arr 32 (Kd.int .u8)) p2])), (ek 502002, some (.box [.p (Kd.arr 8 (Kd.int .u32)) p3])), (ek 502003, some (.box [.p (Kd.arr 32 (Kd.int .u8)) p4]))] := by
  induction k with
  | zero => intro p1 p2 p3 p4 r h; cases h
  | succ k ih =>
    intro p1 p2 p3 p4 r h
    unfold antiquaryref02_Sum_l2 at h
    rcases br_inv h with ⟨h1649, h⟩ | ⟨h1649, h⟩
    · obtain ⟨h1650, h⟩ := gd_inv h
      obtain ⟨h1651, h⟩ := gd_inv h
      obtain ⟨h1652, h⟩ := gd_inv h
      exact Abs.Good.path hm [.reg [], .cond true, .reg [], .reg [], .keep [sk 2, sk 3, sk 12, sk 13, ek 502001, ek 502002, ek 502003]] (cs := [_, _, _, _, _, _, _, _]) (by kernel_rfl) ⟨h1649, (by decide : (4 : Int) ≠ 0), h1650.1, h1650.2, (by decide : (4 : Int) ≠ 0), h1651, h1652.1, h1652.2, trivial⟩ (ih (IntKind.i64.wrap (p1 + (1 : Int))) p2 p3 (List.set p4 (Int.toNat p1) (IntKind.u8.wrap (Int.fdiv (List.getD p3 (Int.toNat (IntKind.i64.wrap (Int.tdiv p1 (4 : Int)))) (Kd.dflt (Kd.int .u32))) (2 ^ (min (Int.toNat (IntKind.i64.wrap ((24 : Int) - (IntKind.i64.wrap ((8 : Int) * (Int.tmod p1 (4 : Int))))))) (IntKind.bits .u32)))))) r h)
    · replace h := Option.some.inj h; subst h
      exact Abs.Good.path_ret hm [.reg [], .cond false, .reg []] [] Tryd.func79 (cs := [_]) (by kernel_rfl) ⟨h1649, trivial⟩ (by kernel_rfl)
theorem antiquaryref02_Sum_l3_ok (s0 : List Int → Int → List Int → List Int → Option (List Int)) (hs0 : ∀ (p1 : List Int) (p2 : Int) (p3 : List Int) (p4 : List Int) (r : List Int), s0 p1 p2 p3 p4 = some r → Abs.Good P 79 Tryd.f79.ntmps [] [] (.v (.p (Kd.arr 32 (Kd.int .u8)) r)) (pos Tryd.f79 [.r, .r, .r, .r]) [(sk 2, some (.v (.ptr 500001 0))), (sk 3, some (.v (.ptr 500002 0))), (sk 4, some (.v (.p (Kd.sl (Kd.int .u8)) p1))), (sk 5, some (.v (.p (Kd.int .i64) p2))), (ek 500001, some (.box [.p (Kd.arr 32 (Kd.int .u8)) p3])), (ek 500002, some (.box [.p (Kd.arr 8 (Kd.int .u32)) p4]))]) (k : Nat) : ∀ (p1 : List Int) (p2 : Int) (p3 : Int) (p4 : List Int) (p5 : List Int) (p6 : List Int) (r : List Int), antiquaryref02_Sum_l3 s0 k p1 p2 p3 p4 p5 p6 = some r →
    Abs.Good P 79 Tryd.f79.ntmps [] [] (.v (.p (Kd.arr 32 (Kd.int .u8)) r)) (pos Tryd.f79 [.r, .r, .r, .r, .r, .c true, .r, .r, .r, .r, .c false, .r]) [(sk 2, some (.v (.ptr 503001 0))), (sk 3, some (.v (.ptr 503002 0))), (sk 4, some (.v (.p (Kd.sl (Kd.int .u8)) p1))), (sk 5, some (.v (.p (Kd.int .i64) p2))), (sk 7, some (.v (.ptr 503003 0))), (sk 11, some (.v (.p (Kd.int .i64) p3))), (ek 503001, some (.box [.p (Kd.arr 32 (Kd.int .u8)) p4])), (ek 503002, some (.box [.p (Kd.arr 8 (Kd.int .u32)) p5])), (ek 503003, some (.box [.p (Kd.arr 8 (Kd.int .u32)) p6]))] := by
  induction k with
  | zero => intro p1 p2 p3 p4 p5 p6 r h; cases h
  | succ k ih =>
    intro p1 p2 p3 p4 p5 p6 r h
    unfold antiquaryref02_Sum_l3 at h
    rcases br_inv h with ⟨h1653, h⟩ | ⟨h1653, h⟩
    · obtain ⟨h1654, h⟩ := gd_inv h
      exact Abs.Good.path hm [.reg [], .cond true, .reg [], .reg [], .keep [sk 2, sk 3, sk 4, sk 5, sk 7, sk 11, ek 503001, ek 503002, ek 503003]] (cs := [_, _, _, _, _, _, _]) (by kernel_rfl) ⟨h1653, h1654.1, h1654.2, h1654.1, h1654.2, h1654.1, h1654.2, trivial⟩ (ih p1 p2 (IntKind.i64.wrap (p3 + (1 : Int))) p4 (List.set p5 (Int.toNat p3) (IntKind.u32.wrap ((List.getD p5 (Int.toNat p3) (Kd.dflt (Kd.int .u32))) + (List.getD p6 (Int.toNat p3) (Kd.dflt (Kd.int .u32)))))) p6 r h)
    · exact Abs.Good.path hm [.reg [], .cond false, .reg [], .keep [sk 2, sk 3, sk 4, sk 5, ek 503001, ek 503002], .ren [(503001, 500001), (503002, 500002)]] (cs := [_]) (by kernel_rfl) ⟨h1653, trivial⟩ (hs0 p1 (IntKind.i64.wrap (p2 + (64 : Int))) p4 p5 r h)
theorem antiquaryref02_Sum_l1_ok (s0 : List Int → Int → List Int → List Int → Option (List Int)) (hs0 : ∀ (p1 : List Int) (p2 : Int) (p3 : List Int) (p4 : List Int) (r : List Int), s0 p1 p2 p3 p4 = some r → Abs.Good P 79 Tryd.f79.ntmps [] [] (.v (.p (Kd.arr 32 (Kd.int .u8)) r)) (pos Tryd.f79 [.r, .r, .r, .r]) [(sk 2, some (.v (.ptr 500001 0))), (sk 3, some (.v (.ptr 500002 0))), (sk 4, some (.v (.p (Kd.sl (Kd.int .u8)) p1))), (sk 5, some (.v (.p (Kd.int .i64) p2))), (ek 500001, some (.box [.p (Kd.arr 32 (Kd.int .u8)) p3])), (ek 500002, some (.box [.p (Kd.arr 8 (Kd.int .u32)) p4]))]) (k : Nat) : ∀ (p1 : List Int) (p2 : Int) (p3 : Int) (p4 : List Int) (p5 : List Int) (p6 : List Int) (p7 : List Int) (r : List Int), antiquaryref02_Sum_l1 s0 k p1 p2 p3 p4 p5 p6 p7 = some r →
    Abs.Good P 79 Tryd.f79.ntmps [] [] (.v (.p (Kd.arr 32 (Kd.int .u8)) r)) (pos Tryd.f79 [.r, .r, .r, .r, .r, .c true, .r, .r, .r]) [(sk 2, some (.v (.ptr 501001 0))), (sk 3, some (.v (.ptr 501002 0))), (sk 4, some (.v (.p (Kd.sl (Kd.int .u8)) p1))), (sk 5, some (.v (.p (Kd.int .i64) p2))), (sk 6, some (.v (.ptr 501003 0))), (sk 7, some (.v (.ptr 501004 0))), (sk 8, some (.v (.p (Kd.int .i64) p3))), (ek 501001, some (.box [.p (Kd.arr 32 (Kd.int .u8)) p4])), (ek 501002, some (.box [.p (Kd.arr 8 (Kd.int .u32)) p5])), (ek 501003, some (.box [.p (Kd.arr 64 (Kd.int .u32)) p6])), (ek 501004, some (.box [.p (Kd.arr 8 (Kd.int .u32)) p7]))] := by
  induction k with
  | zero => intro p1 p2 p3 p4 p5 p6 p7 r h; cases h
  | succ k ih =>
    intro p1 p2 p3 p4 p5 p6 p7 r h
    unfold antiquaryref02_Sum_l1 at h
    rcases br_inv h with ⟨h1635, h⟩ | ⟨h1635, h⟩
    · obtain ⟨x1636, h1637, h⟩ := bind_inv h
      obtain ⟨x1638, h1639, h⟩ := bind_inv h
      obtain ⟨x1640, h1641, h⟩ := bind_inv h
      obtain ⟨h1642, h⟩ := gd_inv h
      obtain ⟨x1643, h1644, h⟩ := bind_inv h
      obtain ⟨x1645, h1646, h⟩ := bind_inv h
      obtain ⟨x1647, h1648, h⟩ := bind_inv h
      exact Abs.Good.path hm [.reg [], .cond true, .reg [(4, { call := some { lend := [], pass := [], res := .v (.p (Kd.int .u32) x1636), outs := [], back := [] } }), (7, { call := some { lend := [], pass := [], res := .v (.p (Kd.int .u32) x1638), outs := [], back := [] } }), (11, { call := some { lend := [], pass := [], res := .v (.p (Kd.int .u32) x1640), outs := [], back := [] } })], .reg [(2, { call := some { lend := [], pass := [], res := .v (.p (Kd.int .u32) x1643), outs := [], back := [] } }), (5, { call := some { lend := [], pass := [], res := .v (.p (Kd.int .u32) x1645), outs := [], back := [] } }), (9, { call := some { lend := [], pass := [], res := .v (.p (Kd.int .u32) x1647), outs := [], back := [] } })], .reg [], .reg [], .keep [sk 2, sk 3, sk 4, sk 5, sk 6, sk 7, sk 8, ek 501001, ek 501002, ek 501003, ek 501004]] (cs := [_, _, _, _, _, _, _, _, _, _, _, _, _, _, _, _, _, _, _, _, _, _, _, _, _, _, _, _, _, _, _, _, _, _, _, _, _, _, _, _, _, _, _, _, _, _, _, _, _, _, _, _, _, _, _, _, _, _, _]) (by kernel_rfl) ⟨h1635, (by decide : 0 ≤ (7 : Int)), (by decide : (7 : Int) < (8 : Int)), (by decide : 0 ≤ (4 : Int)), (by decide : (4 : Int) < (8 : Int)), (antiquaryref02_rotr_ok k (List.getD p7 (4) (Kd.dflt (Kd.int .u32))) (6 : Int) _ h1637), (by decide : 0 ≤ (4 : Int)), (by decide : (4 : Int) < (8 : Int)), (antiquaryref02_rotr_ok k (List.getD p7 (4) (Kd.dflt (Kd.int .u32))) (11 : Int) _ h1639), (by decide : 0 ≤ (4 : Int)), (by decide : (4 : Int) < (8 : Int)), (antiquaryref02_rotr_ok k (List.getD p7 (4) (Kd.dflt (Kd.int .u32))) (25 : Int) _ h1641), (by decide : 0 ≤ (4 : Int)), (by decide : (4 : Int) < (8 : Int)), (by decide : 0 ≤ (5 : Int)), (by decide : (5 : Int) < (8 : Int)), (by decide : 0 ≤ (4 : Int)), (by decide : (4 : Int) < (8 : Int)), (by decide : 0 ≤ (6 : Int)), (by decide : (6 : Int) < (8 : Int)), h1642.1, h1642.2, h1642.1, h1642.2, (by decide : 0 ≤ (0 : Int)), (by decide : (0 : Int) < (8 : Int)), (antiquaryref02_rotr_ok k (List.getD p7 (0) (Kd.dflt (Kd.int .u32))) (2 : Int) _ h1644), (by decide : 0 ≤ (0 : Int)), (by decide : (0 : Int) < (8 : Int)), (antiquaryref02_rotr_ok k (List.getD p7 (0) (Kd.dflt (Kd.int .u32))) (13 : Int) _ h1646), (by decide : 0 ≤ (0 : Int)), (by decide : (0 : Int) < (8 : Int)), (antiquaryref02_rotr_ok k (List.getD p7 (0) (Kd.dflt (Kd.int .u32))) (22 : Int) _ h1648), (by decide : 0 ≤ (0 : Int)), (by decide : (0 : Int) < (8 : Int)), (by decide : 0 ≤ (1 : Int)), (by decide : (1 : Int) < (8 : Int)), (by decide : 0 ≤ (0 : Int)), (by decide : (0 : Int) < (8 : Int)), (by decide : 0 ≤ (2 : Int)), (by decide : (2 : Int) < (8 : Int)), (by decide : 0 ≤ (1 : Int)), (by decide : (1 : Int) < (8 : Int)), (by decide : 0 ≤ (2 : Int)), (by decide : (2 : Int) < (8 : Int)), (by decide : 0 ≤ (0 : Int)), (by decide : (0 : Int) < (8 : Int)), (by decide : 0 ≤ (1 : Int)), (by decide : (1 : Int) < (8 : Int)), (by decide : 0 ≤ (2 : Int)), (by decide : (2 : Int) < (8 : Int)), (by decide : 0 ≤ (3 : Int)), (by decide : (3 : Int) < (8 : Int)), (by decide : 0 ≤ (4 : Int)), (by decide : (4 : Int) < (8 : Int)), (by decide : 0 ≤ (5 : Int)), (by decide : (5 : Int) < (8 : Int)), (by decide : 0 ≤ (6 : Int)), (by decide : (6 : Int) < (8 : Int)), trivial⟩ (ih p1 p2 (IntKind.i64.wrap (p3 + (1 : Int))) p4 p5 p6 ([(IntKind.u32.wrap ((IntKind.u32.wrap ((IntKind.u32.wrap ((IntKind.u32.wrap ((IntKind.u32.wrap ((List.getD p7 (7) (Kd.dflt (Kd.int .u32))) + (IntKind.u32.wrap (((BitVec.ofInt (IntKind.bits .u32) (IntKind.u32.wrap (((BitVec.ofInt (IntKind.bits .u32) x1636) ^^^ (BitVec.ofInt (IntKind.bits .u32) x1638)).toNat : Int))) ^^^ (BitVec.ofInt (IntKind.bits .u32) x1640)).toNat : Int)))) + (IntKind.u32.wrap (((BitVec.ofInt (IntKind.bits .u32) (IntKind.u32.wrap (((BitVec.ofInt (IntKind.bits .u32) (List.getD p7 (4) (Kd.dflt (Kd.int .u32)))) &&& (BitVec.ofInt (IntKind.bits .u32) (List.getD p7 (5) (Kd.dflt (Kd.int .u32))))).toNat : Int))) ^^^ (BitVec.ofInt (IntKind.bits .u32) (IntKind.u32.wrap (((BitVec.ofInt (IntKind.bits .u32) (IntKind.u32.wrap (((BitVec.ofInt (IntKind.bits .u32) (List.getD p7 (4) (Kd.dflt (Kd.int .u32)))) ^^^ (BitVec.ofInt (IntKind.bits .u32) (4294967295 : Int))).toNat : Int))) &&& (BitVec.ofInt (IntKind.bits .u32) (List.getD p7 (6) (Kd.dflt (Kd.int .u32))))).toNat : Int)))).toNat : Int)))) + (List.getD gK2 (Int.toNat p3) (Kd.dflt (Kd.int .u32))))) + (List.getD p6 (Int.toNat p3) (Kd.dflt (Kd.int .u32))))) + (IntKind.u32.wrap ((IntKind.u32.wrap (((BitVec.ofInt (IntKind.bits .u32) (IntKind.u32.wrap (((BitVec.ofInt (IntKind.bits .u32) x1643) ^^^ (BitVec.ofInt (IntKind.bits .u32) x1645)).toNat : Int))) ^^^ (BitVec.ofInt (IntKind.bits .u32) x1647)).toNat : Int)) + (IntKind.u32.wrap (((BitVec.ofInt (IntKind.bits .u32) (IntKind.u32.wrap (((BitVec.ofInt (IntKind.bits .u32) (IntKind.u32.wrap (((BitVec.ofInt (IntKind.bits .u32) (List.getD p7 (0) (Kd.dflt (Kd.int .u32)))) &&& (BitVec.ofInt (IntKind.bits .u32) (List.getD p7 (1) (Kd.dflt (Kd.int .u32))))).toNat : Int))) ^^^ (BitVec.ofInt (IntKind.bits .u32) (IntKind.u32.wrap (((BitVec.ofInt (IntKind.bits .u32) (List.getD p7 (0) (Kd.dflt (Kd.int .u32)))) &&& (BitVec.ofInt (IntKind.bits .u32) (List.getD p7 (2) (Kd.dflt (Kd.int .u32))))).toNat : Int)))).toNat : Int))) ^^^ (BitVec.ofInt (IntKind.bits .u32) (IntKind.u32.wrap (((BitVec.ofInt (IntKind.bits .u32) (List.getD p7 (1) (Kd.dflt (Kd.int .u32)))) &&& (BitVec.ofInt (IntKind.bits .u32) (List.getD p7 (2) (Kd.dflt (Kd.int .u32))))).toNat : Int)))).toNat : Int)))))), (List.getD p7 (0) (Kd.dflt (Kd.int .u32))), (List.getD p7 (1) (Kd.dflt (Kd.int .u32))), (List.getD p7 (2) (Kd.dflt (Kd.int .u32))), (IntKind.u32.wrap ((List.getD p7 (3) (Kd.dflt (Kd.int .u32))) + (IntKind.u32.wrap ((IntKind.u32.wrap ((IntKind.u32.wrap ((IntKind.u32.wrap ((List.getD p7 (7) (Kd.dflt (Kd.int .u32))) + (IntKind.u32.wrap (((BitVec.ofInt (IntKind.bits .u32) (IntKind.u32.wrap (((BitVec.ofInt (IntKind.bits .u32) x1636) ^^^ (BitVec.ofInt (IntKind.bits .u32) x1638)).toNat : Int))) ^^^ (BitVec.ofInt (IntKind.bits .u32) x1640)).toNat : Int)))) + (IntKind.u32.wrap (((BitVec.ofInt (IntKind.bits .u32) (IntKind.u32.wrap (((BitVec.ofInt (IntKind.bits .u32) (List.getD p7 (4) (Kd.dflt (Kd.int .u32)))) &&& (BitVec.ofInt (IntKind.bits .u32) (List.getD p7 (5) (Kd.dflt (Kd.int .u32))))).toNat : Int))) ^^^ (BitVec.ofInt (IntKind.bits .u32) (IntKind.u32.wrap (((BitVec.ofInt (IntKind.bits .u32) (IntKind.u32.wrap (((BitVec.ofInt (IntKind.bits .u32) (List.getD p7 (4) (Kd.dflt (Kd.int .u32)))) ^^^ (BitVec.ofInt (IntKind.bits .u32) (4294967295 : Int))).toNat : Int))) &&& (BitVec.ofInt (IntKind.bits .u32) (List.getD p7 (6) (Kd.dflt (Kd.int .u32))))).toNat : Int)))).toNat : Int)))) + (List.getD gK2 (Int.toNat p3) (Kd.dflt (Kd.int .u32))))) + (List.getD p6 (Int.toNat p3) (Kd.dflt (Kd.int .u32))))))), (List.getD p7 (4) (Kd.dflt (Kd.int .u32))), (List.getD p7 (5) (Kd.dflt (Kd.int .u32))), (List.getD p7 (6) (Kd.dflt (Kd.int .u32)))] : List Int) r h)
    · exact Abs.Good.path hm [.reg [], .cond false, .reg [], .keep [sk 2, sk 3, sk 4, sk 5, sk 7, sk 11, ek 501001, ek 501002, ek 501004], .ren [(501001, 503001), (501002, 503002), (501004, 503003)]] (cs := [_]) (by kernel_rfl) ⟨h1635, trivial⟩ (antiquaryref02_Sum_l3_ok s0 hs0 k p1 p2 (0 : Int) p4 p5 p7 r h)
theorem antiquaryref02_Sum_l0_ok (k : Nat) : ∀ (p1 : List Int) (p2 : Int) (p3 : List Int) (p4 : List Int) (r : List Int), antiquaryref02_Sum_l0 k p1 p2 p3 p4 = some r →
    Abs.Good P 79 Tryd.f79.ntmps [] [] (.v (.p (Kd.arr 32 (Kd.int .u8)) r)) (pos Tryd.f79 [.r, .r, .r, .r]) [(sk 2, some (.v (.ptr 500001 0))), (sk 3, some (.v (.ptr 500002 0))), (sk 4, some (.v (.p (Kd.sl (Kd.int .u8)) p1))), (sk 5, some (.v (.p (Kd.int .i64) p2))), (ek 500001, some (.box [.p (Kd.arr 32 (Kd.int .u8)) p3])), (ek 500002, some (.box [.p (Kd.arr 8 (Kd.int .u32)) p4]))] := by
  induction k with
  | zero => intro p1 p2 p3 p4 r h; cases h
  | succ k ih =>
    intro p1 p2 p3 p4 r h
    unfold antiquaryref02_Sum_l0 at h
    rcases br_inv h with ⟨h1631, h⟩ | ⟨h1631, h⟩
    · obtain ⟨h1632, h⟩ := gd_inv h
      obtain ⟨x1633, h1634, h⟩ := bind_inv h
      exact Abs.Good.path hm [.reg [], .cond true, .reg [(5, { call := some { lend := [], pass := [], res := .v (.p (Kd.arr 64 (Kd.int .u32)) x1633), outs := [], back := [] } })], .reg [], .reg [], .keep [sk 2, sk 3, sk 4, sk 5, sk 6, sk 7, sk 8, ek 500001, ek 500002, ek 6, ek 7], .ren [(500001, 501001), (500002, 501002), (6, 501003), (7, 501004)]] (cs := [_, _, _, _, _, _]) (by kernel_rfl) ⟨h1631, h1632.1, h1632.2.1, h1632.2.2.1, h1632.2.2.2, (antiquaryref02_words_ok k (List.drop (Int.toNat p2) (List.take (Int.toNat (IntKind.i64.wrap (p2 + (64 : Int)))) p1)) _ h1634), trivial⟩ (antiquaryref02_Sum_l1_ok (antiquaryref02_Sum_l0 k) ih k p1 p2 (0 : Int) p3 p4 x1633 p4 r h)
    · exact Abs.Good.path hm [.reg [], .cond false, .reg [], .reg [], .keep [sk 2, sk 3, sk 12, sk 13, ek 500001, ek 500002, ek 12], .ren [(500001, 502001), (500002, 502002), (12, 502003)]] (cs := [_]) (by kernel_rfl) ⟨h1631, trivial⟩ (antiquaryref02_Sum_l2_ok k (0 : Int) p3 p4 (Kd.dflt (Kd.arr 32 (Kd.int .u8))) r h)
theorem antiquaryref02_Sum_ok (k : Nat) (a1 : List Int) (r : List Int) (h : antiquaryref02_Sum k a1 = some r) : SpecOk P ⟨79, [.p (Kd.sl (Kd.int .u8)) a1], [], .v (.p (Kd.arr 32 (Kd.int .u8)) r), []⟩ := by
  refine spec_at Tryd.func79 (by kernel_rfl) (Nat.le_of_ble_eq_true (by kernel_rfl)) ?_
  unfold antiquaryref02_Sum at h
  obtain ⟨x1629, h1630, h⟩ := bind_inv h
  exact Abs.Good.path hm [.reg [], .reg [], .reg [(1, { call := some { lend := [], pass := [], res := .v (.p (Kd.sl (Kd.int .u8)) x1629), outs := [], back := [] } })], .reg [], .keep [sk 2, sk 3, sk 4, sk 5, ek 2, ek 3], .ren [(2, 500001), (3, 500002)]] (cs := [_]) (by kernel_rfl) ⟨(antiquaryref02_padded_ok k a1 _ h1630), trivial⟩ (antiquaryref02_Sum_l0_ok k x1629 (0 : Int) (Kd.dflt (Kd.arr 32 (Kd.int .u8))) ([(1779033703 : Int), (3144134277 : Int), (1013904242 : Int), (2773480762 : Int), (1359893119 : Int), (2600822924 : Int), (528734635 : Int), (1541459225 : Int)] : List Int) r h)

def antiquaryref02_Short_l0 : Nat → Int → List Int → List Int → List Int → Option (List Int)
  | 0, _, _, _, _ => none
  | k + 1, p1, p2, p3, p4 =>
    if (decide (p1 < (16 : Int))) = true then
      if 0 ≤ p1 ∧ p1 < (32 : Int) then
        if p1 < (16 : Int) then
          antiquaryref02_Short_l0 k (IntKind.i64.wrap (p1 + (1 : Int))) p2 p3 (List.set p4 (Int.toNat p1) (List.getD p3 (Int.toNat p1) (Kd.dflt (Kd.int .u8))))
        else none
      else none
    else
      some (p4)
def antiquaryref02_Short (k : Nat) (a1 : List Int) : Option (List Int) :=
  Option.bind (antiquaryref02_Sum k a1) fun x1662 =>
  antiquaryref02_Short_l0 k (0 : Int) (Kd.dflt (Kd.arr 16 (Kd.int .u8))) x1662 ([(Kd.dflt (Kd.int .u8)), (Kd.dflt (Kd.int .u8)), (Kd.dflt (Kd.int .u8)), (Kd.dflt (Kd.int .u8)), (Kd.dflt (Kd.int .u8)), (Kd.dflt (Kd.int .u8)), (Kd.dflt (Kd.int .u8)), (Kd.dflt (Kd.int .u8)), (Kd.dflt (Kd.int .u8)), (Kd.dflt (Kd.int .u8)), (Kd.dflt (Kd.int .u8)), (Kd.dflt (Kd.int .u8)), (Kd.dflt (Kd.int .u8)), (Kd.dflt (Kd.int .u8)), (Kd.dflt (Kd.int .u8)), (Kd.dflt (Kd.int .u8))] : List Int)
theorem antiquaryref02_Short_l0_ok (k : Nat) : ∀ (p1 : Int) (p2 : List Int) (p3 : List Int) (p4 : List Int) (r : List Int), antiquaryref02_Short_l0 k p1 p2 p3 p4 = some r →
    Abs.Good P 65 Tryd.f65.ntmps [] [] (.v (.p (Kd.arr 16 (Kd.int .u8)) r)) (pos Tryd.f65 [.r, .r, .r, .r]) [(sk 2, some (.v (.ptr 500001 0))), (sk 3, some (.v (.ptr 500002 0))), (sk 4, some (.v (.ptr 500003 0))), (sk 5, some (.v (.p (Kd.int .i64) p1))), (ek 500001, some (.box [.p (Kd.arr 16 (Kd.int .u8)) p2])), (ek 500002, some (.box [.p (Kd.arr 32 (Kd.int .u8)) p3])), (ek 500003, some (.box [.p (Kd.arr 16 (Kd.int .u8)) p4]))] := by
  induction k with
  | zero => intro p1 p2 p3 p4 r h; cases h
  | succ k ih =>
    intro p1 p2 p3 p4 r h
    unfold antiquaryref02_Short_l0 at h
    rcases br_inv h with ⟨h1664, h⟩ | ⟨h1664, h⟩
    · obtain ⟨h1665, h⟩ := gd_inv h
      obtain ⟨h1666, h⟩ := gd_inv h
      exact Abs.Good.path hm [.reg [], .cond true, .reg [], .reg [], .keep [sk 2, sk 3, sk 4, sk 5, ek 500001, ek 500002, ek 500003]] (cs := [_, _, _, _, _]) (by kernel_rfl) ⟨h1664, h1665.1, h1665.2, h1665.1, h1666, trivial⟩ (ih (IntKind.i64.wrap (p1 + (1 : Int))) p2 p3 (List.set p4 (Int.toNat p1) (List.getD p3 (Int.toNat p1) (Kd.dflt (Kd.int .u8)))) r h)
    · replace h := Option.some.inj h; subst h
      exact Abs.Good.path_ret hm [.reg [], .cond false, .reg []] [] Tryd.func65 (cs := [_]) (by kernel_rfl) ⟨h1664, trivial⟩ (by kernel_rfl)
theorem antiquaryref02_Short_ok (k : Nat) (a1 : List Int) (r : List Int) (h : antiquaryref02_Short k a1 = some r) : SpecOk P ⟨65, [.p (Kd.sl (Kd.int .u8)) a1], [], .v (.p (Kd.arr 16 (Kd.int .u8)) r), []⟩ := by
  refine spec_at Tryd.func65 (by kernel_rfl) (Nat.le_of_ble_eq_true (by kernel_rfl)) ?_
  unfold antiquaryref02_Short at h
  obtain ⟨x1662, h1663, h⟩ := bind_inv h
  exact Abs.Good.path hm [.reg [], .reg [(1, { call := some { lend := [], pass := [], res := .v (.p (Kd.arr 32 (Kd.int .u8)) x1662), outs := [], back := [] } })], .reg [], .reg [], .keep [sk 2, sk 3, sk 4, sk 5, ek 2, ek 3, ek 4], .ren [(2, 500001), (3, 500002), (4, 500003)]] (cs := [_]) (by kernel_rfl) ⟨(antiquaryref02_Sum_ok k a1 _ h1663), trivial⟩ (antiquaryref02_Short_l0_ok k (0 : Int) (Kd.dflt (Kd.arr 16 (Kd.int .u8))) x1662 ([(Kd.dflt (Kd.int .u8)), (Kd.dflt (Kd.int .u8)), (Kd.dflt (Kd.int .u8)), (Kd.dflt (Kd.int .u8)), (Kd.dflt (Kd.int .u8)), (Kd.dflt (Kd.int .u8)), (Kd.dflt (Kd.int .u8)), (Kd.dflt (Kd.int .u8)), (Kd.dflt (Kd.int .u8)), (Kd.dflt (Kd.int .u8)), (Kd.dflt (Kd.int .u8)), (Kd.dflt (Kd.int .u8)), (Kd.dflt (Kd.int .u8)), (Kd.dflt (Kd.int .u8)), (Kd.dflt (Kd.int .u8)), (Kd.dflt (Kd.int .u8))] : List Int) r h)

def antiquaryref02_Of (k : Nat) (a1 : Int) (a2 : List ByteArray) : Option (List Int) :=
  Option.bind (antiquaryref02_Input k a1 a2) fun x1669 =>
  Option.bind (antiquaryref02_Short k x1669) fun x1671 =>
  some (x1671)
theorem antiquaryref02_Of_ok (k : Nat) (a1 : Int) (a2 : List ByteArray) (r : List Int) (h : antiquaryref02_Of k a1 a2 = some r) : SpecOk P ⟨44, [.p (Kd.int .i64) a1, .p (Kd.sl Kd.str) a2], [], .v (.p (Kd.arr 16 (Kd.int .u8)) r), []⟩ := by
  refine spec_at Tryd.func44 (by kernel_rfl) (Nat.le_of_ble_eq_true (by kernel_rfl)) ?_
  unfold antiquaryref02_Of at h
  obtain ⟨x1669, h1670, h⟩ := bind_inv h
  obtain ⟨x1671, h1672, h⟩ := bind_inv h
  replace h := Option.some.inj h; subst h
  exact Abs.Good.path_ret hm [.reg [], .reg [(2, { call := some { lend := [], pass := [], res := .v (.p (Kd.sl (Kd.int .u8)) x1669), outs := [], back := [] } }), (3, { call := some { lend := [], pass := [], res := .v (.p (Kd.arr 16 (Kd.int .u8)) x1671), outs := [], back := [] } })]] [] Tryd.func44 (cs := [_, _]) (by kernel_rfl) ⟨(antiquaryref02_Input_ok k a1 a2 _ h1670), (antiquaryref02_Short_ok k x1669 _ h1672), trivial⟩ (by kernel_rfl)

def antiquaryref44_Sum_l0 : Nat → List (List Int) → Int → List Int → Int → Int → List Int → Int → List Int → Int → ByteArray → List ByteArray → Option (Int × List Int × Int × List Int × Int × ByteArray)
  | 0, _, _, _, _, _, _, _, _, _, _, _ => none
  | k + 1, p1, p2, p3, p4, p5, p6, p7, p8, p9, p10, p11 =>
    if (decide (p2 < (List.length p1 : Int))) = true then
      if 0 ≤ p2 ∧ p2 < (List.length p1 : Int) then
        Option.bind (antiquaryref44_bytes k (List.getD p1 (Int.toNat p2) (Kd.dflt (Kd.arr 16 (Kd.int .u8))))) fun x1679 =>
        if List.length p11 + List.length ([x1679] : List ByteArray) ≤ 8796093022208 then
          antiquaryref44_Sum_l0 k p1 (IntKind.i64.wrap (p2 + (1 : Int))) p3 p4 p5 p6 p7 p8 p9 p10 (p11 ++ ([x1679] : List ByteArray))
        else none
      else none
    else
      Option.bind (antiquaryref02_Of k (45 : Int) p11) fun x1682 =>
      some ((1 : Int), p3, p4, x1682, (List.length p1 : Int), (⟨#[]⟩ : ByteArray))
def antiquaryref44_Sum (k : Nat) (a1 : List It) (a2 : List Int) (a3 : Int) : Option (Int × List Int × Int × List Int × Int × ByteArray) :=
  Option.bind (antiquaryref44_Names k a1 a2 a3) fun x1675 =>
  antiquaryref44_Sum_l0 k x1675 (0 : Int) a2 a3 (0 : Int) (Kd.dflt (Kd.arr 16 (Kd.int .u8))) (0 : Int) (Kd.dflt (Kd.arr 16 (Kd.int .u8))) (0 : Int) (⟨#[]⟩ : ByteArray) ([] : List ByteArray)
theorem antiquaryref44_Sum_l0_ok (k : Nat) : ∀ (p1 : List (List Int)) (p2 : Int) (p3 : List Int) (p4 : Int) (p5 : Int) (p6 : List Int) (p7 : Int) (p8 : List Int) (p9 : Int) (p10 : ByteArray) (p11 : List ByteArray) (r : Int × List Int × Int × List Int × Int × ByteArray), antiquaryref44_Sum_l0 k p1 p2 p3 p4 p5 p6 p7 p8 p9 p10 p11 = some r →
    Abs.Good P 21 Tryd.f21.ntmps [] [] (.v (.agg [.p (Kd.int .i64) r.1, .p (Kd.arr 16 (Kd.int .u8)) r.2.1, .p (Kd.int .i64) r.2.2.1, .p (Kd.arr 16 (Kd.int .u8)) r.2.2.2.1, .p (Kd.int .i64) r.2.2.2.2.1, .nilsl, .p Kd.str r.2.2.2.2.2])) (pos Tryd.f21 [.r, .r, .r, .r]) [(sk 3, some (.v (.ptr 500001 0))), (sk 4, some (.v (.ptr 500002 0))), (sk 5, some (.v (.p (Kd.sl (Kd.arr 16 (Kd.int .u8))) p1))), (sk 6, some (.v (.row 500003 (List.length p11)))), (sk 7, some (.v (.p (Kd.int .i64) p2))), (ek 500001, some (.box [.p (Kd.arr 16 (Kd.int .u8)) p3, .p (Kd.int .i64) p4])), (ek 500002, some (.box [.p (Kd.int .i64) p5, .p (Kd.arr 16 (Kd.int .u8)) p6, .p (Kd.int .i64) p7, .p (Kd.arr 16 (Kd.int .u8)) p8, .p (Kd.int .i64) p9, .nilsl, .p Kd.str p10])), (ek 500003, some (.row Kd.str 9 p11))] := by
  induction k with
  | zero => intro p1 p2 p3 p4 p5 p6 p7 p8 p9 p10 p11 r h; cases h
  | succ k ih =>
    intro p1 p2 p3 p4 p5 p6 p7 p8 p9 p10 p11 r h
    unfold antiquaryref44_Sum_l0 at h
    rcases br_inv h with ⟨h1677, h⟩ | ⟨h1677, h⟩
    · obtain ⟨h1678, h⟩ := gd_inv h
      obtain ⟨x1679, h1680, h⟩ := bind_inv h
      obtain ⟨h1681, h⟩ := gd_inv h
      exact Abs.Good.path hm [.reg [], .cond true, .reg [(5, { call := some { lend := [], pass := [], res := .v (.p Kd.str x1679), outs := [], back := [] } })], .reg [], .keep [sk 3, sk 4, sk 5, sk 6, sk 7, ek 500001, ek 500002, ek 24], .ren [(500001, 500001), (500002, 500002), (24, 500003)]] (cs := [_, _, _, _, _, _, _]) (by kernel_rfl) ⟨h1677, h1678.1, h1678.2, (antiquaryref44_bytes_ok k (List.getD p1 (Int.toNat p2) (Kd.dflt (Kd.arr 16 (Kd.int .u8)))) _ h1680), (rfl : (List.length p11) = List.length p11), (appBound (P := P) (et := 9) (b := 16) (by kernel_rfl) (by decide) h1681), (rfl : 1 = List.length ([x1679] : List ByteArray)), trivial⟩ (ih p1 (IntKind.i64.wrap (p2 + (1 : Int))) p3 p4 p5 p6 p7 p8 p9 p10 (p11 ++ ([x1679] : List ByteArray)) r h)
    · obtain ⟨x1682, h1683, h⟩ := bind_inv h
      replace h := Option.some.inj h; subst h
      exact Abs.Good.path_ret hm [.reg [], .cond false, .reg [(2, { call := some { lend := [(500003, false)], pass := [], res := .v (.p (Kd.arr 16 (Kd.int .u8)) x1682), outs := [], back := [] } })]] [] Tryd.func21 (cs := [_, _, _]) (by kernel_rfl) ⟨h1677, (antiquaryref02_Of_ok k (45 : Int) p11 _ h1683), (rfl : (List.length p11) = List.length p11), trivial⟩ (by kernel_rfl)
theorem antiquaryref44_Sum_ok (k : Nat) (a1 : List It) (a2 : List Int) (a3 : Int) (r : Int × List Int × Int × List Int × Int × ByteArray) (h : antiquaryref44_Sum k a1 a2 a3 = some r) : SpecOk P ⟨21, [.agg [.p (Kd.sl KI) a1], .agg [.p (Kd.arr 16 (Kd.int .u8)) a2, .p (Kd.int .i64) a3]], [], .v (.agg [.p (Kd.int .i64) r.1, .p (Kd.arr 16 (Kd.int .u8)) r.2.1, .p (Kd.int .i64) r.2.2.1, .p (Kd.arr 16 (Kd.int .u8)) r.2.2.2.1, .p (Kd.int .i64) r.2.2.2.2.1, .nilsl, .p Kd.str r.2.2.2.2.2]), []⟩ := by
  refine spec_at Tryd.func21 (by kernel_rfl) (Nat.le_of_ble_eq_true (by kernel_rfl)) ?_
  unfold antiquaryref44_Sum at h
  obtain ⟨x1675, h1676, h⟩ := bind_inv h
  exact Abs.Good.path hm [.reg [], .reg [(2, { call := some { lend := [], pass := [], res := .v (.p (Kd.sl (Kd.arr 16 (Kd.int .u8))) x1675), outs := [], back := [] } })], .reg [], .reg [], .co (sk 6) 0 (.mk 900001 Kd.str 9), .keep [sk 3, sk 4, sk 5, sk 6, sk 7, ek 3, ek 4, ek 900001], .ren [(3, 500001), (4, 500002), (900001, 500003)]] (cs := [_]) (by kernel_rfl) ⟨(antiquaryref44_Names_ok k a1 a2 a3 _ h1676), trivial⟩ (antiquaryref44_Sum_l0_ok k x1675 (0 : Int) a2 a3 (0 : Int) (Kd.dflt (Kd.arr 16 (Kd.int .u8))) (0 : Int) (Kd.dflt (Kd.arr 16 (Kd.int .u8))) (0 : Int) (⟨#[]⟩ : ByteArray) ([] : List ByteArray) r h)

def antiquaryref44_Half (k : Nat) (a1 : List Int) (a2 : Int) (a3 : Bool) : Option (List Int × Int) :=
  if a3 = true then
    if 0 ≤ (IntKind.i64.wrap (Int.tdiv a2 (8 : Int))) ∧ (IntKind.i64.wrap (Int.tdiv a2 (8 : Int))) < (16 : Int) then
      if 0 ≤ (Int.tmod a2 (8 : Int)) then
        some ((List.set a1 (Int.toNat (IntKind.i64.wrap (Int.tdiv a2 (8 : Int)))) (IntKind.u8.wrap ((List.getD a1 (Int.toNat (IntKind.i64.wrap (Int.tdiv a2 (8 : Int)))) (Kd.dflt (Kd.int .u8))) + (Int.fdiv (128 : Int) (2 ^ (min (Int.toNat (Int.tmod a2 (8 : Int))) (IntKind.bits .u8))))))), (IntKind.i64.wrap (a2 + (1 : Int))))
      else none
    else none
  else
    some (a1, (IntKind.i64.wrap (a2 + (1 : Int))))
theorem antiquaryref44_Half_ok (k : Nat) (a1 : List Int) (a2 : Int) (a3 : Bool) (r : List Int × Int) (h : antiquaryref44_Half k a1 a2 a3 = some r) : SpecOk P ⟨31, [.agg [.p (Kd.arr 16 (Kd.int .u8)) a1, .p (Kd.int .i64) a2], .p Kd.bool a3], [], .v (.agg [.p (Kd.arr 16 (Kd.int .u8)) r.1, .p (Kd.int .i64) r.2]), []⟩ := by
  refine spec_at Tryd.func31 (by kernel_rfl) (Nat.le_of_ble_eq_true (by kernel_rfl)) ?_
  unfold antiquaryref44_Half at h
  rcases br_inv h with ⟨h1696, h⟩ | ⟨h1696, h⟩
  · obtain ⟨h1697, h⟩ := gd_inv h
    obtain ⟨h1698, h⟩ := gd_inv h
    replace h := Option.some.inj h; subst h
    exact Abs.Good.path_ret hm [.reg [], .reg [], .reg [], .cond true, .reg [], .reg []] [] Tryd.func31 (cs := [_, _, _, _, _, _, _, _, _]) (by kernel_rfl) ⟨h1696, (by decide : (8 : Int) ≠ 0), (by decide : (8 : Int) ≠ 0), h1697.1, h1697.2, (by decide : (8 : Int) ≠ 0), h1698, h1697.1, h1697.2, trivial⟩ (by kernel_rfl)
  · replace h := Option.some.inj h; subst h
    exact Abs.Good.path_ret hm [.reg [], .reg [], .reg [], .cond false, .reg []] [] Tryd.func31 (cs := [_]) (by kernel_rfl) ⟨h1696, trivial⟩ (by kernel_rfl)

def antiquaryref44_Collides_l2 (s0 : Int → List It → List It → Option (Bool)) (k : Nat) (p1 : Int) (p2 : List It) (p3 : List It) : Option (Bool) :=
  s0 (IntKind.i64.wrap (p1 + (1 : Int))) p2 p3
def antiquaryref44_Collides_l4 (s0 : Int → List It → List It → Option (Bool)) (s3 : Int → Int → List It → List It → List Int → Int → Option (Bool)) (k : Nat) (p1 : Int) (p2 : Int) (p3 : List It) (p4 : List It) (p5 : List Int) (p6 : Int) : Option (Bool) :=
  s3 p1 (IntKind.i64.wrap (p2 + (1 : Int))) p3 p4 p5 p6
def antiquaryref44_Collides_l3 (s0 : Int → List It → List It → Option (Bool)) : Nat → Int → Int → List It → List It → List Int → Int → Option (Bool)
  | 0, _, _, _, _, _, _ => none
  | k + 1, p1, p2, p3, p4, p5, p6 =>
    if (decide (p2 ≤ (128 : Int))) = true then
      Option.bind (antiquaryref44_Sum k p3 p5 p6) fun x1710 =>
      Option.bind (antiquaryref44_Sum k p4 p5 p6) fun x1712 =>
      if (Kd.eqb (Kd.arr 16 (Kd.int .u8)) x1710.2.2.2.1 x1712.2.2.2.1) = true then
        some (true)
      else
        if (decide (p2 < (128 : Int))) = true then
          if 0 ≤ p1 ∧ p1 < (List.length p3 : Int) then
            Option.bind (antiquaryref44_Bit k ((List.getD p3 (Int.toNat p1) (Kd.dflt KI)).1) p2) fun x1717 =>
            Option.bind (antiquaryref44_Half k p5 p6 x1717) fun x1719 =>
            antiquaryref44_Collides_l4 s0 (antiquaryref44_Collides_l3 s0 k) k p1 p2 p3 p4 x1719.1 x1719.2
          else none
        else
          antiquaryref44_Collides_l4 s0 (antiquaryref44_Collides_l3 s0 k) k p1 p2 p3 p4 p5 p6
    else
      antiquaryref44_Collides_l2 s0 k p1 p3 p4
def antiquaryref44_Collides_l1 (s0 : Int → List It → List It → Option (Bool)) (k : Nat) (p1 : Int) (p2 : Int) (p3 : Bool) (p4 : List It) (p5 : List It) : Option (Bool) :=
  if p3 = true then
    some (true)
  else
    if (decide (p2 ≥ (0 : Int))) = true then
      antiquaryref44_Collides_l2 s0 k p1 p4 p5
    else
      antiquaryref44_Collides_l3 s0 k p1 (0 : Int) p4 p5 (Kd.dflt (Kd.arr 16 (Kd.int .u8))) (0 : Int)
def antiquaryref44_Collides_l0 : Nat → Int → List It → List It → Option (Bool)
  | 0, _, _, _ => none
  | k + 1, p1, p2, p3 =>
    if (decide (p1 < (List.length p2 : Int))) = true then
      if 0 ≤ p1 ∧ p1 < (List.length p2 : Int) then
        Option.bind (antiquaryref44_Place k p3 ((List.getD p2 (Int.toNat p1) (Kd.dflt KI)).1)) fun x1703 =>
        if (decide (x1703 ≥ (0 : Int))) = true then
          if 0 ≤ x1703 ∧ x1703 < (List.length p3 : Int) then
            antiquaryref44_Collides_l1 (antiquaryref44_Collides_l0 k) k p1 x1703 (!(ByteArray.toList (((List.getD p3 (Int.toNat x1703) (Kd.dflt KI)).2).1) == ByteArray.toList (((List.getD p2 (Int.toNat p1) (Kd.dflt KI)).2).1))) p2 p3
          else none
        else
          antiquaryref44_Collides_l1 (antiquaryref44_Collides_l0 k) k p1 x1703 false p2 p3
      else none
    else
      some (false)
def antiquaryref44_Collides (k : Nat) (a1 : List It) (a2 : List It) : Option (Bool) :=
  antiquaryref44_Collides_l0 k (0 : Int) a1 a2
theorem antiquaryref44_Collides_l2_ok (s0 : Int → List It → List It → Option (Bool)) (hs0 : ∀ (p1 : Int) (p2 : List It) (p3 : List It) (r : Bool), s0 p1 p2 p3 = some r → Abs.Good P 40 Tryd.f40.ntmps [] [] (.v (.p Kd.bool r)) (pos Tryd.f40 [.r, .r]) [(sk 2, some (.v (.ptr 500001 0))), (sk 3, some (.v (.ptr 500002 0))), (sk 5, some (.v (.p (Kd.int .i64) p1))), (ek 500001, some (.box [.p (Kd.sl KI) p2])), (ek 500002, some (.box [.p (Kd.sl KI) p3]))]) (k : Nat) (p1 : Int) (p2 : List It) (p3 : List It) (r : Bool) (h : antiquaryref44_Collides_l2 s0 k p1 p2 p3 = some r) :
    Abs.Good P 40 Tryd.f40.ntmps [] [] (.v (.p Kd.bool r)) (pos Tryd.f40 [.r, .r, .r, .c true, .r, .r, .c false, .r, .c true]) [(sk 2, some (.v (.ptr 502001 0))), (sk 3, some (.v (.ptr 502002 0))), (sk 5, some (.v (.p (Kd.int .i64) p1))), (ek 502001, some (.box [.p (Kd.sl KI) p2])), (ek 502002, some (.box [.p (Kd.sl KI) p3]))] := by
  unfold antiquaryref44_Collides_l2 at h
  exact Abs.Good.path hm [.reg [], .keep [sk 2, sk 3, sk 5, ek 502001, ek 502002], .ren [(502001, 500001), (502002, 500002)]] (cs := []) (by kernel_rfl) trivial (hs0 (IntKind.i64.wrap (p1 + (1 : Int))) p2 p3 r h)
theorem antiquaryref44_Collides_l4_ok (s0 : Int → List It → List It → Option (Bool)) (hs0 : ∀ (p1 : Int) (p2 : List It) (p3 : List It) (r : Bool), s0 p1 p2 p3 = some r → Abs.Good P 40 Tryd.f40.ntmps [] [] (.v (.p Kd.bool r)) (pos Tryd.f40 [.r, .r]) [(sk 2, some (.v (.ptr 500001 0))), (sk 3, some (.v (.ptr 500002 0))), (sk 5, some (.v (.p (Kd.int .i64) p1))), (ek 500001, some (.box [.p (Kd.sl KI) p2])), (ek 500002, some (.box [.p (Kd.sl KI) p3]))]) (s3 : Int → Int → List It → List It → List Int → Int → Option (Bool)) (hs3 : ∀ (p1 : Int) (p2 : Int) (p3 : List It) (p4 : List It) (p5 : List Int) (p6 : Int) (r : Bool), s3 p1 p2 p3 p4 p5 p6 = some r → Abs.Good P 40 Tryd.f40.ntmps [] [] (.v (.p Kd.bool r)) (pos Tryd.f40 [.r, .r, .r, .c true, .r, .r, .c false, .r, .c false, .r, .r]) [(sk 2, some (.v (.ptr 503001 0))), (sk 3, some (.v (.ptr 503002 0))), (sk 5, some (.v (.p (Kd.int .i64) p1))), (sk 7, some (.v (.ptr 503003 0))), (sk 8, some (.v (.p (Kd.int .i64) p2))), (ek 503001, some (.box [.p (Kd.sl KI) p3])), (ek 503002, some (.box [.p (Kd.sl KI) p4])), (ek 503003, some (.box [.p (Kd.arr 16 (Kd.int .u8)) p5, .p (Kd.int .i64) p6]))]) (k : Nat) (p1 : Int) (p2 : Int) (p3 : List It) (p4 : List It) (p5 : List Int) (p6 : Int) (r : Bool) (h : antiquaryref44_Collides_l4 s0 s3 k p1 p2 p3 p4 p5 p6 = some r) :
    Abs.Good P 40 Tryd.f40.ntmps [] [] (.v (.p Kd.bool r)) (pos Tryd.f40 [.r, .r, .r, .c true, .r, .r, .c false, .r, .c false, .r, .r, .r, .c true, .r, .c false, .r, .c false]) [(sk 2, some (.v (.ptr 504001 0))), (sk 3, some (.v (.ptr 504002 0))), (sk 5, some (.v (.p (Kd.int .i64) p1))), (sk 7, some (.v (.ptr 504003 0))), (sk 8, some (.v (.p (Kd.int .i64) p2))), (ek 504001, some (.box [.p (Kd.sl KI) p3])), (ek 504002, some (.box [.p (Kd.sl KI) p4])), (ek 504003, some (.box [.p (Kd.arr 16 (Kd.int .u8)) p5, .p (Kd.int .i64) p6]))] := by
  unfold antiquaryref44_Collides_l4 at h
  exact Abs.Good.path hm [.reg [], .keep [sk 2, sk 3, sk 5, sk 7, sk 8, ek 504001, ek 504002, ek 504003], .ren [(504001, 503001), (504002, 503002), (504003, 503003)]] (cs := []) (by kernel_rfl) trivial (hs3 p1 (IntKind.i64.wrap (p2 + (1 : Int))) p3 p4 p5 p6 r h)
theorem antiquaryref44_Collides_l3_ok (s0 : Int → List It → List It → Option (Bool)) (hs0 : ∀ (p1 : Int) (p2 : List It) (p3 : List It) (r : Bool), s0 p1 p2 p3 = some r → Abs.Good P 40 Tryd.f40.ntmps [] [] (.v (.p Kd.bool r)) (pos Tryd.f40 [.r, .r]) [(sk 2, some (.v (.ptr 500001 0))), (sk 3, some (.v (.ptr 500002 0))), (sk 5, some (.v (.p (Kd.int .i64) p1))), (ek 500001, some (.box [.p (Kd.sl KI) p2])), (ek 500002, some (.box [.p (Kd.sl KI) p3]))]) (k : Nat) : ∀ (p1 : Int) (p2 : Int) (p3 : List It) (p4 : List It) (p5 : List Int) (p6 : Int) (r : Bool), antiquaryref44_Collides_l3 s0 k p1 p2 p3 p4 p5 p6 = some r →
    Abs.Good P 40 Tryd.f40.ntmps [] [] (.v (.p Kd.bool r)) (pos Tryd.f40 [.r, .r, .r, .c true, .r, .r, .c false, .r, .c false, .r, .r]) [(sk 2, some (.v (.ptr 503001 0))), (sk 3, some (.v (.ptr 503002 0))), (sk 5, some (.v (.p (Kd.int .i64) p1))), (sk 7, some (.v (.ptr 503003 0))), (sk 8, some (.v (.p (Kd.int .i64) p2))), (ek 503001, some (.box [.p (Kd.sl KI) p3])), (ek 503002, some (.box [.p (Kd.sl KI) p4])), (ek 503003, some (.box [.p (Kd.arr 16 (Kd.int .u8)) p5, .p (Kd.int .i64) p6]))] := by
  induction k with
  | zero => intro p1 p2 p3 p4 p5 p6 r h; cases h
  | succ k ih =>
    intro p1 p2 p3 p4 p5 p6 r h
    unfold antiquaryref44_Collides_l3 at h
    rcases br_inv h with ⟨h1709, h⟩ | ⟨h1709, h⟩
    · obtain ⟨x1710, h1711, h⟩ := bind_inv h
      obtain ⟨x1712, h1713, h⟩ := bind_inv h
      rcases br_inv h with ⟨h1714, h⟩ | ⟨h1714, h⟩
      · replace h := Option.some.inj h; subst h
        exact Abs.Good.path_ret hm [.reg [], .cond true, .reg [(2, { call := some { lend := [], pass := [], res := .v (.agg [.p (Kd.int .i64) x1710.1, .p (Kd.arr 16 (Kd.int .u8)) x1710.2.1, .p (Kd.int .i64) x1710.2.2.1, .p (Kd.arr 16 (Kd.int .u8)) x1710.2.2.2.1, .p (Kd.int .i64) x1710.2.2.2.2.1, .nilsl, .p Kd.str x1710.2.2.2.2.2]), outs := [], back := [] } }), (6, { call := some { lend := [], pass := [], res := .v (.agg [.p (Kd.int .i64) x1712.1, .p (Kd.arr 16 (Kd.int .u8)) x1712.2.1, .p (Kd.int .i64) x1712.2.2.1, .p (Kd.arr 16 (Kd.int .u8)) x1712.2.2.2.1, .p (Kd.int .i64) x1712.2.2.2.2.1, .nilsl, .p Kd.str x1712.2.2.2.2.2]), outs := [], back := [] } })], .cond true, .reg []] [] Tryd.func40 (cs := [_, _, _, _, _]) (by kernel_rfl) ⟨h1709, (antiquaryref44_Sum_ok k p3 p5 p6 _ h1711), (antiquaryref44_Sum_ok k p4 p5 p6 _ h1713), eq26, h1714, trivial⟩ (by kernel_rfl)
      · rcases br_inv h with ⟨h1715, h⟩ | ⟨h1715, h⟩
        · obtain ⟨h1716, h⟩ := gd_inv h
          obtain ⟨x1717, h1718, h⟩ := bind_inv h
          obtain ⟨x1719, h1720, h⟩ := bind_inv h
          exact Abs.Good.path hm [.reg [], .cond true, .reg [(2, { call := some { lend := [], pass := [], res := .v (.agg [.p (Kd.int .i64) x1710.1, .p (Kd.arr 16 (Kd.int .u8)) x1710.2.1, .p (Kd.int .i64) x1710.2.2.1, .p (Kd.arr 16 (Kd.int .u8)) x1710.2.2.2.1, .p (Kd.int .i64) x1710.2.2.2.2.1, .nilsl, .p Kd.str x1710.2.2.2.2.2]), outs := [], back := [] } }), (6, { call := some { lend := [], pass := [], res := .v (.agg [.p (Kd.int .i64) x1712.1, .p (Kd.arr 16 (Kd.int .u8)) x1712.2.1, .p (Kd.int .i64) x1712.2.2.1, .p (Kd.arr 16 (Kd.int .u8)) x1712.2.2.2.1, .p (Kd.int .i64) x1712.2.2.2.2.1, .nilsl, .p Kd.str x1712.2.2.2.2.2]), outs := [], back := [] } })], .cond false, .reg [], .cond true, .reg [(8, { call := some { lend := [], pass := [], res := .v (.p Kd.bool x1717), outs := [], back := [] } }), (9, { call := some { lend := [], pass := [], res := .v (.agg [.p (Kd.arr 16 (Kd.int .u8)) x1719.1, .p (Kd.int .i64) x1719.2]), outs := [], back := [] } })], .keep [sk 2, sk 3, sk 5, sk 7, sk 8, ek 503001, ek 503002, ek 503003], .ren [(503001, 504001), (503002, 504002), (503003, 504003)]] (cs := [_, _, _, _, _, _, _, _, _, _]) (by kernel_rfl) ⟨h1709, (antiquaryref44_Sum_ok k p3 p5 p6 _ h1711), (antiquaryref44_Sum_ok k p4 p5 p6 _ h1713), eq26, h1714, h1715, h1716.1, h1716.2, (antiquaryref44_Bit_ok k ((List.getD p3 (Int.toNat p1) (Kd.dflt KI)).1) p2 _ h1718), (antiquaryref44_Half_ok k p5 p6 x1717 _ h1720), trivial⟩ (antiquaryref44_Collides_l4_ok s0 hs0 (antiquaryref44_Collides_l3 s0 k) ih k p1 p2 p3 p4 x1719.1 x1719.2 r h)
        · exact Abs.Good.path hm [.reg [], .cond true, .reg [(2, { call := some { lend := [], pass := [], res := .v (.agg [.p (Kd.int .i64) x1710.1, .p (Kd.arr 16 (Kd.int .u8)) x1710.2.1, .p (Kd.int .i64) x1710.2.2.1, .p (Kd.arr 16 (Kd.int .u8)) x1710.2.2.2.1, .p (Kd.int .i64) x1710.2.2.2.2.1, .nilsl, .p Kd.str x1710.2.2.2.2.2]), outs := [], back := [] } }), (6, { call := some { lend := [], pass := [], res := .v (.agg [.p (Kd.int .i64) x1712.1, .p (Kd.arr 16 (Kd.int .u8)) x1712.2.1, .p (Kd.int .i64) x1712.2.2.1, .p (Kd.arr 16 (Kd.int .u8)) x1712.2.2.2.1, .p (Kd.int .i64) x1712.2.2.2.2.1, .nilsl, .p Kd.str x1712.2.2.2.2.2]), outs := [], back := [] } })], .cond false, .reg [], .cond false, .keep [sk 2, sk 3, sk 5, sk 7, sk 8, ek 503001, ek 503002, ek 503003], .ren [(503001, 504001), (503002, 504002), (503003, 504003)]] (cs := [_, _, _, _, _, _]) (by kernel_rfl) ⟨h1709, (antiquaryref44_Sum_ok k p3 p5 p6 _ h1711), (antiquaryref44_Sum_ok k p4 p5 p6 _ h1713), eq26, h1714, h1715, trivial⟩ (antiquaryref44_Collides_l4_ok s0 hs0 (antiquaryref44_Collides_l3 s0 k) ih k p1 p2 p3 p4 p5 p6 r h)
    · exact Abs.Good.path hm [.reg [], .cond false, .keep [sk 2, sk 3, sk 5, ek 503001, ek 503002], .ren [(503001, 502001), (503002, 502002)]] (cs := [_]) (by kernel_rfl) ⟨h1709, trivial⟩ (antiquaryref44_Collides_l2_ok s0 hs0 k p1 p3 p4 r h)
theorem antiquaryref44_Collides_l1_ok (s0 : Int → List It → List It → Option (Bool)) (hs0 : ∀ (p1 : Int) (p2 : List It) (p3 : List It) (r : Bool), s0 p1 p2 p3 = some r → Abs.Good P 40 Tryd.f40.ntmps [] [] (.v (.p Kd.bool r)) (pos Tryd.f40 [.r, .r]) [(sk 2, some (.v (.ptr 500001 0))), (sk 3, some (.v (.ptr 500002 0))), (sk 5, some (.v (.p (Kd.int .i64) p1))), (ek 500001, some (.box [.p (Kd.sl KI) p2])), (ek 500002, some (.box [.p (Kd.sl KI) p3]))]) (k : Nat) (p1 : Int) (p2 : Int) (p3 : Bool) (p4 : List It) (p5 : List It) (r : Bool) (h : antiquaryref44_Collides_l1 s0 k p1 p2 p3 p4 p5 = some r) :
    Abs.Good P 40 Tryd.f40.ntmps [] [] (.v (.p Kd.bool r)) (pos Tryd.f40 [.r, .r, .r, .c true, .r, .r]) [(sk 2, some (.v (.ptr 501001 0))), (sk 3, some (.v (.ptr 501002 0))), (sk 5, some (.v (.p (Kd.int .i64) p1))), (sk 6, some (.v (.p (Kd.int .i64) p2))), (sk 40, some (.v (.p Kd.bool p3))), (ek 501001, some (.box [.p (Kd.sl KI) p4])), (ek 501002, some (.box [.p (Kd.sl KI) p5]))] := by
  unfold antiquaryref44_Collides_l1 at h
  rcases br_inv h with ⟨h1707, h⟩ | ⟨h1707, h⟩
  · replace h := Option.some.inj h; subst h
    exact Abs.Good.path_ret hm [.cond true, .reg []] [] Tryd.func40 (cs := [_]) (by kernel_rfl) ⟨h1707, trivial⟩ (by kernel_rfl)
  · rcases br_inv h with ⟨h1708, h⟩ | ⟨h1708, h⟩
    · exact Abs.Good.path hm [.cond false, .reg [], .cond true, .keep [sk 2, sk 3, sk 5, ek 501001, ek 501002], .ren [(501001, 502001), (501002, 502002)]] (cs := [_, _]) (by kernel_rfl) ⟨h1707, h1708, trivial⟩ (antiquaryref44_Collides_l2_ok s0 hs0 k p1 p4 p5 r h)
    · exact Abs.Good.path hm [.cond false, .reg [], .cond false, .reg [], .reg [], .keep [sk 2, sk 3, sk 5, sk 7, sk 8, ek 501001, ek 501002, ek 7], .ren [(501001, 503001), (501002, 503002), (7, 503003)]] (cs := [_, _]) (by kernel_rfl) ⟨h1707, h1708, trivial⟩ (antiquaryref44_Collides_l3_ok s0 hs0 k p1 (0 : Int) p4 p5 (Kd.dflt (Kd.arr 16 (Kd.int .u8))) (0 : Int) r h)
theorem antiquaryref44_Collides_l0_ok (k : Nat) : ∀ (p1 : Int) (p2 : List It) (p3 : List It) (r : Bool), antiquaryref44_Collides_l0 k p1 p2 p3 = some r →
    Abs.Good P 40 Tryd.f40.ntmps [] [] (.v (.p Kd.bool r)) (pos Tryd.f40 [.r, .r]) [(sk 2, some (.v (.ptr 500001 0))), (sk 3, some (.v (.ptr 500002 0))), (sk 5, some (.v (.p (Kd.int .i64) p1))), (ek 500001, some (.box [.p (Kd.sl KI) p2])), (ek 500002, some (.box [.p (Kd.sl KI) p3]))] := by
  induction k with
  | zero => intro p1 p2 p3 r h; cases h
  | succ k ih =>
    intro p1 p2 p3 r h
    unfold antiquaryref44_Collides_l0 at h
    rcases br_inv h with ⟨h1701, h⟩ | ⟨h1701, h⟩
    · obtain ⟨h1702, h⟩ := gd_inv h
      obtain ⟨x1703, h1704, h⟩ := bind_inv h
      rcases br_inv h with ⟨h1705, h⟩ | ⟨h1705, h⟩
      · obtain ⟨h1706, h⟩ := gd_inv h
        exact Abs.Good.path hm [.reg [], .cond true, .reg [(7, { call := some { lend := [], pass := [], res := .v (.p (Kd.int .i64) x1703), outs := [], back := [] } })], .reg [(3, { dec := some true }), (4, { dec := some true }), (5, { dec := some true }), (6, { dec := some true }), (7, { dec := some true }), (8, { dec := some true }), (9, { dec := some true }), (10, { dec := some true }), (11, { dec := some true }), (12, { dec := some true }), (13, { dec := some true }), (14, { dec := some true }), (15, { dec := some true }), (16, { pick := some true })], .keep [sk 2, sk 3, sk 5, sk 6, sk 40, ek 500001, ek 500002], .ren [(500001, 501001), (500002, 501002)]] (cs := [_, _, _, _, _, _, _, _, _, _, _, _, _, _, _, _, _, _, _, _, _, _]) (by kernel_rfl) ⟨h1701, h1702.1, h1702.2, (antiquaryref44_Place_ok k p3 ((List.getD p2 (Int.toNat p1) (Kd.dflt KI)).1) _ h1704), h1705, h1705, h1705, h1705, h1706.1, h1706.2, h1705, h1705, h1705, h1705, h1705, h1705, h1702.1, h1702.2, h1705, h1705, h1705, h1705, trivial⟩ (antiquaryref44_Collides_l1_ok (antiquaryref44_Collides_l0 k) ih k p1 x1703 (!(ByteArray.toList (((List.getD p3 (Int.toNat x1703) (Kd.dflt KI)).2).1) == ByteArray.toList (((List.getD p2 (Int.toNat p1) (Kd.dflt KI)).2).1))) p2 p3 r h)
      · exact Abs.Good.path hm [.reg [], .cond true, .reg [(7, { call := some { lend := [], pass := [], res := .v (.p (Kd.int .i64) x1703), outs := [], back := [] } })], .reg [(3, { dec := some false }), (4, { dec := some false }), (5, { dec := some false }), (6, { dec := some false }), (7, { dec := some false }), (8, { dec := some false }), (9, { dec := some false }), (10, { dec := some false }), (11, { dec := some false }), (12, { dec := some false }), (13, { dec := some false }), (14, { dec := some false }), (15, { dec := some false }), (16, { pick := some false })], .keep [sk 2, sk 3, sk 5, sk 6, sk 40, ek 500001, ek 500002], .ren [(500001, 501001), (500002, 501002)]] (cs := [_, _, _, _, _, _, _, _, _, _, _, _, _, _, _, _, _, _]) (by kernel_rfl) ⟨h1701, h1702.1, h1702.2, (antiquaryref44_Place_ok k p3 ((List.getD p2 (Int.toNat p1) (Kd.dflt KI)).1) _ h1704), h1705, h1705, h1705, h1705, h1705, h1705, h1705, h1705, h1705, h1705, h1705, h1705, h1705, h1705, trivial⟩ (antiquaryref44_Collides_l1_ok (antiquaryref44_Collides_l0 k) ih k p1 x1703 false p2 p3 r h)
    · replace h := Option.some.inj h; subst h
      exact Abs.Good.path_ret hm [.reg [], .cond false, .reg []] [] Tryd.func40 (cs := [_]) (by kernel_rfl) ⟨h1701, trivial⟩ (by kernel_rfl)
theorem antiquaryref44_Collides_ok (k : Nat) (a1 : List It) (a2 : List It) (r : Bool) (h : antiquaryref44_Collides k a1 a2 = some r) : SpecOk P ⟨40, [.agg [.p (Kd.sl KI) a1], .agg [.p (Kd.sl KI) a2]], [], .v (.p Kd.bool r), []⟩ := by
  refine spec_at Tryd.func40 (by kernel_rfl) (Nat.le_of_ble_eq_true (by kernel_rfl)) ?_
  unfold antiquaryref44_Collides at h
  exact Abs.Good.path hm [.reg [], .reg [], .keep [sk 2, sk 3, sk 5, ek 2, ek 3], .ren [(2, 500001), (3, 500002)]] (cs := []) (by kernel_rfl) trivial (antiquaryref44_Collides_l0_ok k (0 : Int) a1 a2 r h)

def antiquarylaw44_ExchangeMakesEqual_l3 (k : Nat) (p1 : Bool) (p2 : List It) (p3 : List It) (p4 : List (List It × Unit)) (p5 : List It) : Option (Bool) :=
  if p1 = true then
    Option.bind (antiquarylaw44_sanity k) fun x1351 =>
    some (x1351)
  else
    Option.bind (antiquarylaw44_sanity k) fun x1353 =>
    if x1353 = true then
      Option.bind (antiquaryref44_Collides k p2 p3) fun x1721 =>
      if x1721 = true then
        some (true)
      else
        Option.bind (antiquaryref44_Collides k p3 p2) fun x1724 =>
        if x1724 = true then
          some (true)
        else
          Option.bind (antiquaryref44_Collides k ((List.getD p4 (0) (Kd.dflt (Kd.pair (Kd.sl KI) Kd.unit))).1) p5) fun x1727 =>
          if x1727 = true then
            some (true)
          else
            Option.bind (antiquaryref44_Collides k ((List.getD p4 (1) (Kd.dflt (Kd.pair (Kd.sl KI) Kd.unit))).1) p5) fun x1730 =>
            some (x1730)
    else
      some (false)
def antiquarylaw44_ExchangeMakesEqual_l2 (k : Nat) (p1 : List ByteArray) (p2 : List ByteArray) (p3 : Bool) (p4 : List It) (p5 : List It) (p6 : List (List It × Unit)) : Option (Bool) :=
  if p3 = true then
    some (false)
  else
    if List.length ([] : List ByteArray) + List.length p1 ≤ 8796093022208 then
      if List.length (([] : List ByteArray) ++ p1) + List.length p2 ≤ 8796093022208 then
        Option.bind (antiquarylaw44_of k ((([] : List ByteArray) ++ p1) ++ p2)) fun x1342 =>
        if (!x1342.2) = true then
          some (false)
        else
          Option.bind (antiquaryref44_Same k ((List.getD p6 (0) (Kd.dflt (Kd.pair (Kd.sl KI) Kd.unit))).1) x1342.1) fun x1345 =>
          if x1345 = true then
            Option.bind (antiquaryref44_Same k ((List.getD p6 (1) (Kd.dflt (Kd.pair (Kd.sl KI) Kd.unit))).1) x1342.1) fun x1348 =>
            antiquarylaw44_ExchangeMakesEqual_l3 k x1348 p4 p5 p6 x1342.1
          else
            antiquarylaw44_ExchangeMakesEqual_l3 k false p4 p5 p6 x1342.1
      else none
    else none
def antiquarylaw44_ExchangeMakesEqual_l1 (k : Nat) (p1 : List ByteArray) (p2 : List ByteArray) (p3 : List Int) (p4 : Bool) (p5 : List It) (p6 : List It) : Option (Bool) :=
  if p4 = true then
    some (false)
  else
    Option.bind (antiquarylaw44_run k p5 p6 p3 false) fun x1328 =>
    if (!x1328.2.2.2) = true then
      Option.bind (antiquarylaw44_sanity k) fun x1331 =>
      some (x1331)
    else
      if (!x1328.2.2.1) = true then
        antiquarylaw44_ExchangeMakesEqual_l2 k p1 p2 true p5 p6 x1328.1
      else
        Option.bind (exchange_Valid k ((List.getD x1328.1 (0) (Kd.dflt (Kd.pair (Kd.sl KI) Kd.unit))).1)) fun x1334 =>
        if (!x1334) = true then
          antiquarylaw44_ExchangeMakesEqual_l2 k p1 p2 true p5 p6 x1328.1
        else
          Option.bind (exchange_Valid k ((List.getD x1328.1 (1) (Kd.dflt (Kd.pair (Kd.sl KI) Kd.unit))).1)) fun x1337 =>
          antiquarylaw44_ExchangeMakesEqual_l2 k p1 p2 (!x1337) p5 p6 x1328.1
def antiquarylaw44_ExchangeMakesEqual_l0 (k : Nat) (p1 : List ByteArray) (p2 : List ByteArray) (p3 : List Int) (p4 : Bool) : Option (Bool) :=
  if p4 = true then
    Option.bind (antiquarylaw44_sanity k) fun x1320 =>
    some (x1320)
  else
    Option.bind (antiquarylaw44_of k p1) fun x1322 =>
    Option.bind (antiquarylaw44_of k p2) fun x1324 =>
    if (!x1322.2) = true then
      antiquarylaw44_ExchangeMakesEqual_l1 k p1 p2 p3 true x1322.1 x1324.1
    else
      antiquarylaw44_ExchangeMakesEqual_l1 k p1 p2 p3 (!x1324.2) x1322.1 x1324.1
def antiquarylaw44_ExchangeMakesEqual (k : Nat) (a1 : List ByteArray) (a2 : List ByteArray) (a3 : List Int) : Option (Bool) :=
  Option.bind (antiquaryref44_Few k a1 (40 : Int)) fun x1313 =>
  Option.bind (antiquaryref44_Few k a2 (40 : Int)) fun x1315 =>
  if (!x1313) = true then
    antiquarylaw44_ExchangeMakesEqual_l0 k a1 a2 a3 true
  else
    if (!x1315) = true then
      antiquarylaw44_ExchangeMakesEqual_l0 k a1 a2 a3 true
    else
      antiquarylaw44_ExchangeMakesEqual_l0 k a1 a2 a3 (decide ((List.length a3 : Int) > (300 : Int)))
theorem antiquarylaw44_ExchangeMakesEqual_l3_ok (k : Nat) (p1 : Bool) (p2 : List It) (p3 : List It) (p4 : List (List It × Unit)) (p5 : List It) (r : Bool) (h : antiquarylaw44_ExchangeMakesEqual_l3 k p1 p2 p3 p4 p5 = some r) :
    Abs.Good P 5 Tryd.f5.ntmps [] [] (.v (.p Kd.bool r)) (pos Tryd.f5 [.r, .r, .r, .r, .c false, .r, .r, .r, .c false, .r, .r, .c false, .r, .c false, .r, .r, .c false, .r]) [(sk 9, some (.v (.ptr 503001 0))), (sk 11, some (.v (.ptr 503002 0))), (sk 13, some (.v (.ptr 503003 0))), (sk 17, some (.v (.ptr 503004 0))), (sk 97, some (.v (.p Kd.bool p1))), (ek 503001, some (.box [.p (Kd.sl KI) p2])), (ek 503002, some (.box [.p (Kd.sl KI) p3])), (ek 503003, some (.box [.p (Kd.arr 2 (Kd.pair (Kd.sl KI) Kd.unit)) p4])), (ek 503004, some (.box [.p (Kd.sl KI) p5]))] := by
  unfold antiquarylaw44_ExchangeMakesEqual_l3 at h
  rcases br_inv h with ⟨h1350, h⟩ | ⟨h1350, h⟩
  · obtain ⟨x1351, h1352, h⟩ := bind_inv h
    replace h := Option.some.inj h; subst h
    exact Abs.Good.path_ret hm [.cond true, .reg [(0, { call := some { lend := [], pass := [], res := .v (.p Kd.bool x1351), outs := [], back := [] } })]] [] Tryd.func5 (cs := [_, _]) (by kernel_rfl) ⟨h1350, (antiquarylaw44_sanity_ok k  _ h1352), trivial⟩ (by kernel_rfl)
  · obtain ⟨x1353, h1354, h⟩ := bind_inv h
    rcases br_inv h with ⟨h1355, h⟩ | ⟨h1355, h⟩
    · obtain ⟨x1721, h1722, h⟩ := bind_inv h
      rcases br_inv h with ⟨h1723, h⟩ | ⟨h1723, h⟩
      · replace h := Option.some.inj h; subst h
        exact Abs.Good.path_ret hm [.cond false, .reg [(0, { call := some { lend := [], pass := [], res := .v (.p Kd.bool x1353), outs := [], back := [] } }), (2, { dec := some true }), (3, { dec := some true }), (4, { dec := some true, call := some { lend := [], pass := [], res := .v (.p Kd.bool x1721), outs := [], back := [] } }), (5, { dec := some true }), (6, { dec := some true }), (7, { dec := some true }), (8, { dec := some true }), (9, { dec := some true, pick := some true }), (10, { dec := some true }), (11, { dec := some true }), (12, { dec := some true }), (13, { dec := some true }), (14, { dec := some true }), (15, { dec := some true, pick := some true }), (16, { dec := some true }), (17, { dec := some true }), (18, { dec := some true }), (19, { dec := some true }), (20, { dec := some true }), (21, { dec := some true, pick := some true }), (22, { pick := some true })]] [] Tryd.func5 (cs := [_, _, _, _, _, _, _, _, _, _, _, _, _, _, _, _, _, _, _, _, _, _, _, _, _, _, _]) (by kernel_rfl) ⟨h1350, (antiquarylaw44_sanity_ok k  _ h1354), h1355, h1355, h1355, (antiquaryref44_Collides_ok k p2 p3 _ h1722), h1355, h1723, h1723, h1723, h1355, h1723, h1355, (rfl : true = true), (rfl : true = true), (rfl : true = true), (rfl : true = true), h1355, (rfl : true = true), h1355, (rfl : true = true), (rfl : true = true), (rfl : true = true), (rfl : true = true), h1355, (rfl : true = true), h1355, trivial⟩ (by kernel_rfl)
      · obtain ⟨x1724, h1725, h⟩ := bind_inv h
        rcases br_inv h with ⟨h1726, h⟩ | ⟨h1726, h⟩
        · replace h := Option.some.inj h; subst h
          exact Abs.Good.path_ret hm [.cond false, .reg [(0, { call := some { lend := [], pass := [], res := .v (.p Kd.bool x1353), outs := [], back := [] } }), (2, { dec := some true }), (3, { dec := some true }), (4, { dec := some true, call := some { lend := [], pass := [], res := .v (.p Kd.bool x1721), outs := [], back := [] } }), (5, { dec := some true }), (6, { dec := some false }), (7, { dec := some false }), (8, { dec := some false, call := some { lend := [], pass := [], res := .v (.p Kd.bool x1724), outs := [], back := [] } }), (9, { dec := some true, pick := some false }), (10, { dec := some true }), (11, { dec := some true }), (12, { dec := some true }), (13, { dec := some true }), (14, { dec := some true }), (15, { dec := some true, pick := some true }), (16, { dec := some true }), (17, { dec := some true }), (18, { dec := some true }), (19, { dec := some true }), (20, { dec := some true }), (21, { dec := some true, pick := some true }), (22, { pick := some true })]] [] Tryd.func5 (cs := [_, _, _, _, _, _, _, _, _, _, _, _, _, _, _, _, _, _, _, _, _, _, _, _, _, _, _, _]) (by kernel_rfl) ⟨h1350, (antiquarylaw44_sanity_ok k  _ h1354), h1355, h1355, h1355, (antiquaryref44_Collides_ok k p2 p3 _ h1722), h1355, h1723, h1723, h1723, (antiquaryref44_Collides_ok k p3 p2 _ h1725), h1355, h1723, h1355, h1726, h1726, h1726, h1726, h1355, h1726, h1355, (rfl : true = true), (rfl : true = true), (rfl : true = true), (rfl : true = true), h1355, (rfl : true = true), h1355, trivial⟩ (by kernel_rfl)
        · obtain ⟨x1727, h1728, h⟩ := bind_inv h
          rcases br_inv h with ⟨h1729, h⟩ | ⟨h1729, h⟩
          · replace h := Option.some.inj h; subst h
            exact Abs.Good.path_ret hm [.cond false, .reg [(0, { call := some { lend := [], pass := [], res := .v (.p Kd.bool x1353), outs := [], back := [] } }), (2, { dec := some true }), (3, { dec := some true }), (4, { dec := some true, call := some { lend := [], pass := [], res := .v (.p Kd.bool x1721), outs := [], back := [] } }), (5, { dec := some true }), (6, { dec := some false }), (7, { dec := some false }), (8, { dec := some false, call := some { lend := [], pass := [], res := .v (.p Kd.bool x1724), outs := [], back := [] } }), (9, { dec := some true, pick := some false }), (10, { dec := some true }), (11, { dec := some false }), (12, { dec := some false }), (13, { dec := some false }), (14, { dec := some false, call := some { lend := [], pass := [], res := .v (.p Kd.bool x1727), outs := [], back := [] } }), (15, { dec := some true, pick := some false }), (16, { dec := some true }), (17, { dec := some true }), (18, { dec := some true }), (19, { dec := some true }), (20, { dec := some true }), (21, { dec := some true, pick := some true }), (22, { pick := some true })]] [] Tryd.func5 (cs := [_, _, _, _, _, _, _, _, _, _, _, _, _, _, _, _, _, _, _, _, _, _, _, _, _, _, _, _, _, _, _]) (by kernel_rfl) ⟨h1350, (antiquarylaw44_sanity_ok k  _ h1354), h1355, h1355, h1355, (antiquaryref44_Collides_ok k p2 p3 _ h1722), h1355, h1723, h1723, h1723, (antiquaryref44_Collides_ok k p3 p2 _ h1725), h1355, h1723, h1355, h1726, (by decide : 0 ≤ (0 : Int)), (by decide : (0 : Int) < (2 : Int)), h1726, h1726, h1726, (antiquaryref44_Collides_ok k ((List.getD p4 (0) (Kd.dflt (Kd.pair (Kd.sl KI) Kd.unit))).1) p5 _ h1728), h1355, h1726, h1355, h1729, h1729, h1729, h1729, h1355, h1729, h1355, trivial⟩ (by kernel_rfl)
          · obtain ⟨x1730, h1731, h⟩ := bind_inv h
            replace h := Option.some.inj h; subst h
            exact Abs.Good.path_ret hm [.cond false, .reg [(0, { call := some { lend := [], pass := [], res := .v (.p Kd.bool x1353), outs := [], back := [] } }), (2, { dec := some true }), (3, { dec := some true }), (4, { dec := some true, call := some { lend := [], pass := [], res := .v (.p Kd.bool x1721), outs := [], back := [] } }), (5, { dec := some true }), (6, { dec := some false }), (7, { dec := some false }), (8, { dec := some false, call := some { lend := [], pass := [], res := .v (.p Kd.bool x1724), outs := [], back := [] } }), (9, { dec := some true, pick := some false }), (10, { dec := some true }), (11, { dec := some false }), (12, { dec := some false }), (13, { dec := some false }), (14, { dec := some false, call := some { lend := [], pass := [], res := .v (.p Kd.bool x1727), outs := [], back := [] } }), (15, { dec := some true, pick := some false }), (16, { dec := some true }), (17, { dec := some false }), (18, { dec := some false }), (19, { dec := some false }), (20, { dec := some false, call := some { lend := [], pass := [], res := .v (.p Kd.bool x1730), outs := [], back := [] } }), (21, { dec := some true, pick := some false }), (22, { pick := some true })]] [] Tryd.func5 (cs := [_, _, _, _, _, _, _, _, _, _, _, _, _, _, _, _, _, _, _, _, _, _, _, _, _, _, _, _, _, _, _, _, _, _]) (by kernel_rfl) ⟨h1350, (antiquarylaw44_sanity_ok k  _ h1354), h1355, h1355, h1355, (antiquaryref44_Collides_ok k p2 p3 _ h1722), h1355, h1723, h1723, h1723, (antiquaryref44_Collides_ok k p3 p2 _ h1725), h1355, h1723, h1355, h1726, (by decide : 0 ≤ (0 : Int)), (by decide : (0 : Int) < (2 : Int)), h1726, h1726, h1726, (antiquaryref44_Collides_ok k ((List.getD p4 (0) (Kd.dflt (Kd.pair (Kd.sl KI) Kd.unit))).1) p5 _ h1728), h1355, h1726, h1355, h1729, (by decide : 0 ≤ (1 : Int)), (by decide : (1 : Int) < (2 : Int)), h1729, h1729, h1729, (antiquaryref44_Collides_ok k ((List.getD p4 (1) (Kd.dflt (Kd.pair (Kd.sl KI) Kd.unit))).1) p5 _ h1731), h1355, h1729, h1355, trivial⟩ (by kernel_rfl)
    · replace h := Option.some.inj h; subst h
      exact Abs.Good.path_ret hm [.cond false, .reg [(0, { call := some { lend := [], pass := [], res := .v (.p Kd.bool x1353), outs := [], back := [] } }), (2, { dec := some false }), (3, { dec := some false }), (4, { dec := some false }), (5, { dec := some false }), (9, { dec := some false }), (10, { dec := some false }), (15, { dec := some false }), (16, { dec := some false }), (21, { dec := some false }), (22, { pick := some false })]] [] Tryd.func5 (cs := [_, _, _, _, _, _, _, _, _, _, _, _]) (by kernel_rfl) ⟨h1350, (antiquarylaw44_sanity_ok k  _ h1354), h1355, h1355, h1355, h1355, h1355, h1355, h1355, h1355, h1355, h1355, trivial⟩ (by kernel_rfl)
theorem antiquarylaw44_ExchangeMakesEqual_l2_ok (k : Nat) (p1 : List ByteArray) (p2 : List ByteArray) (p3 : Bool) (p4 : List It) (p5 : List It) (p6 : List (List It × Unit)) (r : Bool) (h : antiquarylaw44_ExchangeMakesEqual_l2 k p1 p2 p3 p4 p5 p6 = some r) :
    Abs.Good P 5 Tryd.f5.ntmps [] [] (.v (.p Kd.bool r)) (pos Tryd.f5 [.r, .r, .r, .r, .c false, .r, .r, .r, .c false, .r, .r, .c false, .r]) [(sk 0, some (.v (.p (Kd.sl Kd.str) p1))), (sk 1, some (.v (.p (Kd.sl Kd.str) p2))), (sk 9, some (.v (.ptr 502001 0))), (sk 11, some (.v (.ptr 502002 0))), (sk 13, some (.v (.ptr 502003 0))), (sk 76, some (.v (.p Kd.bool p3))), (ek 502001, some (.box [.p (Kd.sl KI) p4])), (ek 502002, some (.box [.p (Kd.sl KI) p5])), (ek 502003, some (.box [.p (Kd.arr 2 (Kd.pair (Kd.sl KI) Kd.unit)) p6]))] := by
  unfold antiquarylaw44_ExchangeMakesEqual_l2 at h
  rcases br_inv h with ⟨h1339, h⟩ | ⟨h1339, h⟩
  · replace h := Option.some.inj h; subst h
    exact Abs.Good.path_ret hm [.cond true, .reg []] [] Tryd.func5 (cs := [_]) (by kernel_rfl) ⟨h1339, trivial⟩ (by kernel_rfl)
  · obtain ⟨h1340, h⟩ := gd_inv h
    obtain ⟨h1341, h⟩ := gd_inv h
    obtain ⟨x1342, h1343, h⟩ := bind_inv h
    rcases br_inv h with ⟨h1344, h⟩ | ⟨h1344, h⟩
    · replace h := Option.some.inj h; subst h
      exact Abs.Good.path_ret hm [.cond false, .reg [(5, { call := some { lend := [(82, true)], pass := [], res := .t [.agg [.p (Kd.sl KI) x1342.1], .p Kd.bool x1342.2], outs := [], back := [] } })], .reg [], .cond true, .reg []] [] Tryd.func5 (cs := [_, _, _, _, _, _, _, _]) (by kernel_rfl) ⟨h1339, (rfl : 0 = List.length ([] : List ByteArray)), (appBound (P := P) (et := 9) (b := 16) (by kernel_rfl) (by decide) h1340), (rfl : (List.length (([] : List ByteArray) ++ p1)) = List.length (([] : List ByteArray) ++ p1)), (appBound (P := P) (et := 9) (b := 16) (by kernel_rfl) (by decide) h1341), (antiquarylaw44_of_ok k ((([] : List ByteArray) ++ p1) ++ p2) _ h1343), (rfl : (List.length ((([] : List ByteArray) ++ p1) ++ p2)) = List.length ((([] : List ByteArray) ++ p1) ++ p2)), h1344, trivial⟩ (by kernel_rfl)
    · obtain ⟨x1345, h1346, h⟩ := bind_inv h
      rcases br_inv h with ⟨h1347, h⟩ | ⟨h1347, h⟩
      · obtain ⟨x1348, h1349, h⟩ := bind_inv h
        exact Abs.Good.path hm [.cond false, .reg [(5, { call := some { lend := [(82, true)], pass := [], res := .t [.agg [.p (Kd.sl KI) x1342.1], .p Kd.bool x1342.2], outs := [], back := [] } })], .reg [], .cond false, .reg [(3, { call := some { lend := [], pass := [], res := .v (.p Kd.bool x1345), outs := [], back := [] } }), (5, { dec := some true }), (6, { dec := some true }), (7, { dec := some true }), (8, { dec := some true, call := some { lend := [], pass := [], res := .v (.p Kd.bool x1348), outs := [], back := [] } }), (9, { pick := some true })], .keep [sk 9, sk 11, sk 13, sk 17, sk 97, ek 502001, ek 502002, ek 502003, ek 17], .ren [(502001, 503001), (502002, 503002), (502003, 503003), (17, 503004)]] (cs := [_, _, _, _, _, _, _, _, _, _, _, _, _, _, _, _, _, _, _]) (by kernel_rfl) ⟨h1339, (rfl : 0 = List.length ([] : List ByteArray)), (appBound (P := P) (et := 9) (b := 16) (by kernel_rfl) (by decide) h1340), (rfl : (List.length (([] : List ByteArray) ++ p1)) = List.length (([] : List ByteArray) ++ p1)), (appBound (P := P) (et := 9) (b := 16) (by kernel_rfl) (by decide) h1341), (antiquarylaw44_of_ok k ((([] : List ByteArray) ++ p1) ++ p2) _ h1343), (rfl : (List.length ((([] : List ByteArray) ++ p1) ++ p2)) = List.length ((([] : List ByteArray) ++ p1) ++ p2)), h1344, (by decide : 0 ≤ (0 : Int)), (by decide : (0 : Int) < (2 : Int)), (antiquaryref44_Same_ok k ((List.getD p6 (0) (Kd.dflt (Kd.pair (Kd.sl KI) Kd.unit))).1) x1342.1 _ h1346), h1347, (by decide : 0 ≤ (1 : Int)), (by decide : (1 : Int) < (2 : Int)), h1347, h1347, h1347, (antiquaryref44_Same_ok k ((List.getD p6 (1) (Kd.dflt (Kd.pair (Kd.sl KI) Kd.unit))).1) x1342.1 _ h1349), h1347, trivial⟩ (antiquarylaw44_ExchangeMakesEqual_l3_ok k x1348 p4 p5 p6 x1342.1 r h)
      · exact Abs.Good.path hm [.cond false, .reg [(5, { call := some { lend := [(82, true)], pass := [], res := .t [.agg [.p (Kd.sl KI) x1342.1], .p Kd.bool x1342.2], outs := [], back := [] } })], .reg [], .cond false, .reg [(3, { call := some { lend := [], pass := [], res := .v (.p Kd.bool x1345), outs := [], back := [] } }), (5, { dec := some false }), (6, { dec := some false }), (7, { dec := some false }), (8, { dec := some false }), (9, { pick := some false })], .keep [sk 9, sk 11, sk 13, sk 17, sk 97, ek 502001, ek 502002, ek 502003, ek 17], .ren [(502001, 503001), (502002, 503002), (502003, 503003), (17, 503004)]] (cs := [_, _, _, _, _, _, _, _, _, _, _, _, _, _, _, _]) (by kernel_rfl) ⟨h1339, (rfl : 0 = List.length ([] : List ByteArray)), (appBound (P := P) (et := 9) (b := 16) (by kernel_rfl) (by decide) h1340), (rfl : (List.length (([] : List ByteArray) ++ p1)) = List.length (([] : List ByteArray) ++ p1)), (appBound (P := P) (et := 9) (b := 16) (by kernel_rfl) (by decide) h1341), (antiquarylaw44_of_ok k ((([] : List ByteArray) ++ p1) ++ p2) _ h1343), (rfl : (List.length ((([] : List ByteArray) ++ p1) ++ p2)) = List.length ((([] : List ByteArray) ++ p1) ++ p2)), h1344, (by decide : 0 ≤ (0 : Int)), (by decide : (0 : Int) < (2 : Int)), (antiquaryref44_Same_ok k ((List.getD p6 (0) (Kd.dflt (Kd.pair (Kd.sl KI) Kd.unit))).1) x1342.1 _ h1346), h1347, h1347, h1347, h1347, h1347, trivial⟩ (antiquarylaw44_ExchangeMakesEqual_l3_ok k false p4 p5 p6 x1342.1 r h)
theorem antiquarylaw44_ExchangeMakesEqual_l1_ok (k : Nat) (p1 : List ByteArray) (p2 : List ByteArray) (p3 : List Int) (p4 : Bool) (p5 : List It) (p6 : List It) (r : Bool) (h : antiquarylaw44_ExchangeMakesEqual_l1 k p1 p2 p3 p4 p5 p6 = some r) :
    Abs.Good P 5 Tryd.f5.ntmps [] [] (.v (.p Kd.bool r)) (pos Tryd.f5 [.r, .r, .r, .r, .c false, .r, .r, .r]) [(sk 0, some (.v (.p (Kd.sl Kd.str) p1))), (sk 1, some (.v (.p (Kd.sl Kd.str) p2))), (sk 2, some (.v (.p (Kd.sl (Kd.int .u8)) p3))), (sk 9, some (.v (.ptr 501001 0))), (sk 11, some (.v (.ptr 501002 0))), (sk 50, some (.v (.p Kd.bool p4))), (ek 501001, some (.box [.p (Kd.sl KI) p5])), (ek 501002, some (.box [.p (Kd.sl KI) p6]))] := by
  unfold antiquarylaw44_ExchangeMakesEqual_l1 at h
  rcases br_inv h with ⟨h1327, h⟩ | ⟨h1327, h⟩
  · replace h := Option.some.inj h; subst h
    exact Abs.Good.path_ret hm [.cond true, .reg []] [] Tryd.func5 (cs := [_]) (by kernel_rfl) ⟨h1327, trivial⟩ (by kernel_rfl)
  · obtain ⟨x1328, h1329, h⟩ := bind_inv h
    rcases br_inv h with ⟨h1330, h⟩ | ⟨h1330, h⟩
    · obtain ⟨x1331, h1332, h⟩ := bind_inv h
      replace h := Option.some.inj h; subst h
      exact Abs.Good.path_ret hm [.cond false, .reg [(3, { call := some { lend := [], pass := [], res := .t [.p (Kd.arr 2 (Kd.pair (Kd.sl KI) Kd.unit)) x1328.1, .p (Kd.sl KSe) x1328.2.1, .p Kd.bool x1328.2.2.1, .p Kd.bool x1328.2.2.2], outs := [], back := [] } })], .reg [], .cond true, .reg [(0, { call := some { lend := [], pass := [], res := .v (.p Kd.bool x1331), outs := [], back := [] } })]] [] Tryd.func5 (cs := [_, _, _, _]) (by kernel_rfl) ⟨h1327, (antiquarylaw44_run_ok k p5 p6 p3 false _ h1329), h1330, (antiquarylaw44_sanity_ok k  _ h1332), trivial⟩ (by kernel_rfl)
    · rcases br_inv h with ⟨h1333, h⟩ | ⟨h1333, h⟩
      · exact Abs.Good.path hm [.cond false, .reg [(3, { call := some { lend := [], pass := [], res := .t [.p (Kd.arr 2 (Kd.pair (Kd.sl KI) Kd.unit)) x1328.1, .p (Kd.sl KSe) x1328.2.1, .p Kd.bool x1328.2.2.1, .p Kd.bool x1328.2.2.2], outs := [], back := [] } })], .reg [], .cond false, .reg [(3, { dec := some true }), (4, { dec := some true }), (5, { dec := some true }), (6, { dec := some true }), (7, { pick := some true }), (9, { dec := some true }), (10, { dec := some true }), (11, { dec := some true }), (12, { dec := some true }), (13, { pick := some true })], .keep [sk 0, sk 1, sk 9, sk 11, sk 13, sk 76, ek 501001, ek 501002, ek 13], .ren [(501001, 502001), (501002, 502002), (13, 502003)]] (cs := [_, _, _, _, _, _, _, _, _, _, _, _, _]) (by kernel_rfl) ⟨h1327, (antiquarylaw44_run_ok k p5 p6 p3 false _ h1329), h1330, h1333, h1333, h1333, h1333, h1333, (rfl : true = true), (rfl : true = true), (rfl : true = true), (rfl : true = true), (rfl : true = true), trivial⟩ (antiquarylaw44_ExchangeMakesEqual_l2_ok k p1 p2 true p5 p6 x1328.1 r h)
      · obtain ⟨x1334, h1335, h⟩ := bind_inv h
        rcases br_inv h with ⟨h1336, h⟩ | ⟨h1336, h⟩
        · exact Abs.Good.path hm [.cond false, .reg [(3, { call := some { lend := [], pass := [], res := .t [.p (Kd.arr 2 (Kd.pair (Kd.sl KI) Kd.unit)) x1328.1, .p (Kd.sl KSe) x1328.2.1, .p Kd.bool x1328.2.2.1, .p Kd.bool x1328.2.2.2], outs := [], back := [] } })], .reg [], .cond false, .reg [(3, { dec := some false }), (4, { dec := some false }), (5, { dec := some false, call := some { lend := [], pass := [], res := .v (.p Kd.bool x1334), outs := [], back := [] } }), (6, { dec := some false }), (7, { pick := some false }), (9, { dec := some true }), (10, { dec := some true }), (11, { dec := some true }), (12, { dec := some true }), (13, { pick := some true })], .keep [sk 0, sk 1, sk 9, sk 11, sk 13, sk 76, ek 501001, ek 501002, ek 13], .ren [(501001, 502001), (501002, 502002), (13, 502003)]] (cs := [_, _, _, _, _, _, _, _, _, _, _, _, _, _, _, _]) (by kernel_rfl) ⟨h1327, (antiquarylaw44_run_ok k p5 p6 p3 false _ h1329), h1330, h1333, (by decide : 0 ≤ (0 : Int)), (by decide : (0 : Int) < (2 : Int)), h1333, h1333, (exchange_Valid_ok k ((List.getD x1328.1 (0) (Kd.dflt (Kd.pair (Kd.sl KI) Kd.unit))).1) _ h1335), h1333, h1333, h1336, h1336, h1336, h1336, h1336, trivial⟩ (antiquarylaw44_ExchangeMakesEqual_l2_ok k p1 p2 true p5 p6 x1328.1 r h)
        · obtain ⟨x1337, h1338, h⟩ := bind_inv h
          exact Abs.Good.path hm [.cond false, .reg [(3, { call := some { lend := [], pass := [], res := .t [.p (Kd.arr 2 (Kd.pair (Kd.sl KI) Kd.unit)) x1328.1, .p (Kd.sl KSe) x1328.2.1, .p Kd.bool x1328.2.2.1, .p Kd.bool x1328.2.2.2], outs := [], back := [] } })], .reg [], .cond false, .reg [(3, { dec := some false }), (4, { dec := some false }), (5, { dec := some false, call := some { lend := [], pass := [], res := .v (.p Kd.bool x1334), outs := [], back := [] } }), (6, { dec := some false }), (7, { pick := some false }), (9, { dec := some false }), (10, { dec := some false }), (11, { dec := some false, call := some { lend := [], pass := [], res := .v (.p Kd.bool x1337), outs := [], back := [] } }), (12, { dec := some false }), (13, { pick := some false })], .keep [sk 0, sk 1, sk 9, sk 11, sk 13, sk 76, ek 501001, ek 501002, ek 13], .ren [(501001, 502001), (501002, 502002), (13, 502003)]] (cs := [_, _, _, _, _, _, _, _, _, _, _, _, _, _, _, _, _, _, _]) (by kernel_rfl) ⟨h1327, (antiquarylaw44_run_ok k p5 p6 p3 false _ h1329), h1330, h1333, (by decide : 0 ≤ (0 : Int)), (by decide : (0 : Int) < (2 : Int)), h1333, h1333, (exchange_Valid_ok k ((List.getD x1328.1 (0) (Kd.dflt (Kd.pair (Kd.sl KI) Kd.unit))).1) _ h1335), h1333, h1333, h1336, (by decide : 0 ≤ (1 : Int)), (by decide : (1 : Int) < (2 : Int)), h1336, h1336, (exchange_Valid_ok k ((List.getD x1328.1 (1) (Kd.dflt (Kd.pair (Kd.sl KI) Kd.unit))).1) _ h1338), h1336, h1336, trivial⟩ (antiquarylaw44_ExchangeMakesEqual_l2_ok k p1 p2 (!x1337) p5 p6 x1328.1 r h)
theorem antiquarylaw44_ExchangeMakesEqual_l0_ok (k : Nat) (p1 : List ByteArray) (p2 : List ByteArray) (p3 : List Int) (p4 : Bool) (r : Bool) (h : antiquarylaw44_ExchangeMakesEqual_l0 k p1 p2 p3 p4 = some r) :
    Abs.Good P 5 Tryd.f5.ntmps [] [] (.v (.p Kd.bool r)) (pos Tryd.f5 [.r, .r, .r, .r]) [(sk 0, some (.v (.p (Kd.sl Kd.str) p1))), (sk 1, some (.v (.p (Kd.sl Kd.str) p2))), (sk 2, some (.v (.p (Kd.sl (Kd.int .u8)) p3))), (sk 33, some (.v (.p Kd.bool p4)))] := by
  unfold antiquarylaw44_ExchangeMakesEqual_l0 at h
  rcases br_inv h with ⟨h1319, h⟩ | ⟨h1319, h⟩
  · obtain ⟨x1320, h1321, h⟩ := bind_inv h
    replace h := Option.some.inj h; subst h
    exact Abs.Good.path_ret hm [.cond true, .reg [(0, { call := some { lend := [], pass := [], res := .v (.p Kd.bool x1320), outs := [], back := [] } })]] [] Tryd.func5 (cs := [_, _]) (by kernel_rfl) ⟨h1319, (antiquarylaw44_sanity_ok k  _ h1321), trivial⟩ (by kernel_rfl)
  · obtain ⟨x1322, h1323, h⟩ := bind_inv h
    obtain ⟨x1324, h1325, h⟩ := bind_inv h
    rcases br_inv h with ⟨h1326, h⟩ | ⟨h1326, h⟩
    · exact Abs.Good.path hm [.cond false, .reg [(1, { call := some { lend := [], pass := [], res := .t [.agg [.p (Kd.sl KI) x1322.1], .p Kd.bool x1322.2], outs := [], back := [] } })], .reg [(1, { call := some { lend := [], pass := [], res := .t [.agg [.p (Kd.sl KI) x1324.1], .p Kd.bool x1324.2], outs := [], back := [] } })], .reg [(3, { dec := some true }), (4, { dec := some true }), (5, { pick := some true })], .keep [sk 0, sk 1, sk 2, sk 9, sk 11, sk 50, ek 9, ek 11], .ren [(9, 501001), (11, 501002)]] (cs := [_, _, _, _, _, _]) (by kernel_rfl) ⟨h1319, (antiquarylaw44_of_ok k p1 _ h1323), (antiquarylaw44_of_ok k p2 _ h1325), h1326, h1326, h1326, trivial⟩ (antiquarylaw44_ExchangeMakesEqual_l1_ok k p1 p2 p3 true x1322.1 x1324.1 r h)
    · exact Abs.Good.path hm [.cond false, .reg [(1, { call := some { lend := [], pass := [], res := .t [.agg [.p (Kd.sl KI) x1322.1], .p Kd.bool x1322.2], outs := [], back := [] } })], .reg [(1, { call := some { lend := [], pass := [], res := .t [.agg [.p (Kd.sl KI) x1324.1], .p Kd.bool x1324.2], outs := [], back := [] } })], .reg [(3, { dec := some false }), (4, { dec := some false }), (5, { pick := some false })], .keep [sk 0, sk 1, sk 2, sk 9, sk 11, sk 50, ek 9, ek 11], .ren [(9, 501001), (11, 501002)]] (cs := [_, _, _, _, _, _]) (by kernel_rfl) ⟨h1319, (antiquarylaw44_of_ok k p1 _ h1323), (antiquarylaw44_of_ok k p2 _ h1325), h1326, h1326, h1326, trivial⟩ (antiquarylaw44_ExchangeMakesEqual_l1_ok k p1 p2 p3 (!x1324.2) x1322.1 x1324.1 r h)
theorem antiquarylaw44_ExchangeMakesEqual_ok (k : Nat) (a1 : List ByteArray) (a2 : List ByteArray) (a3 : List Int) (r : Bool) (h : antiquarylaw44_ExchangeMakesEqual k a1 a2 a3 = some r) : SpecOk P ⟨5, [.p (Kd.sl Kd.str) a1, .p (Kd.sl Kd.str) a2, .p (Kd.sl (Kd.int .u8)) a3], [], .v (.p Kd.bool r), []⟩ := by
  refine spec_at Tryd.func5 (by kernel_rfl) (Nat.le_of_ble_eq_true (by kernel_rfl)) ?_
  unfold antiquarylaw44_ExchangeMakesEqual at h
  obtain ⟨x1313, h1314, h⟩ := bind_inv h
  obtain ⟨x1315, h1316, h⟩ := bind_inv h
  rcases br_inv h with ⟨h1317, h⟩ | ⟨h1317, h⟩
  · exact Abs.Good.path hm [.reg [], .reg [(1, { call := some { lend := [], pass := [], res := .v (.p Kd.bool x1313), outs := [], back := [] } })], .reg [(1, { call := some { lend := [], pass := [], res := .v (.p Kd.bool x1315), outs := [], back := [] } })], .reg [(3, { dec := some true }), (4, { dec := some true }), (5, { pick := some true }), (7, { dec := some true }), (8, { dec := some true }), (9, { dec := some true }), (10, { pick := some true })], .keep [sk 0, sk 1, sk 2, sk 33]] (cs := [_, _, _, _, _, _, _, _, _]) (by kernel_rfl) ⟨(antiquaryref44_Few_ok k a1 (40 : Int) _ h1314), (antiquaryref44_Few_ok k a2 (40 : Int) _ h1316), h1317, h1317, h1317, (rfl : true = true), (rfl : true = true), (rfl : true = true), (rfl : true = true), trivial⟩ (antiquarylaw44_ExchangeMakesEqual_l0_ok k a1 a2 a3 true r h)
  · rcases br_inv h with ⟨h1318, h⟩ | ⟨h1318, h⟩
    · exact Abs.Good.path hm [.reg [], .reg [(1, { call := some { lend := [], pass := [], res := .v (.p Kd.bool x1313), outs := [], back := [] } })], .reg [(1, { call := some { lend := [], pass := [], res := .v (.p Kd.bool x1315), outs := [], back := [] } })], .reg [(3, { dec := some false }), (4, { dec := some false }), (5, { pick := some false }), (7, { dec := some true }), (8, { dec := some true }), (9, { dec := some true }), (10, { pick := some true })], .keep [sk 0, sk 1, sk 2, sk 33]] (cs := [_, _, _, _, _, _, _, _, _]) (by kernel_rfl) ⟨(antiquaryref44_Few_ok k a1 (40 : Int) _ h1314), (antiquaryref44_Few_ok k a2 (40 : Int) _ h1316), h1317, h1317, h1317, h1318, h1318, h1318, h1318, trivial⟩ (antiquarylaw44_ExchangeMakesEqual_l0_ok k a1 a2 a3 true r h)
    · exact Abs.Good.path hm [.reg [], .reg [(1, { call := some { lend := [], pass := [], res := .v (.p Kd.bool x1313), outs := [], back := [] } })], .reg [(1, { call := some { lend := [], pass := [], res := .v (.p Kd.bool x1315), outs := [], back := [] } })], .reg [(3, { dec := some false }), (4, { dec := some false }), (5, { pick := some false }), (7, { dec := some false }), (8, { dec := some false }), (9, { dec := some false }), (10, { pick := some false })], .keep [sk 0, sk 1, sk 2, sk 33]] (cs := [_, _, _, _, _, _, _, _, _]) (by kernel_rfl) ⟨(antiquaryref44_Few_ok k a1 (40 : Int) _ h1314), (antiquaryref44_Few_ok k a2 (40 : Int) _ h1316), h1317, h1317, h1317, h1318, h1318, h1318, h1318, trivial⟩ (antiquarylaw44_ExchangeMakesEqual_l0_ok k a1 a2 a3 (decide ((List.length a3 : Int) > (300 : Int))) r h)

def antiquaryref44_Name (k : Nat) (a1 : ByteArray) : Option (List Int) :=
  Option.bind (antiquaryref02_Of k (44 : Int) ([a1] : List ByteArray)) fun x1734 =>
  some (x1734)
theorem antiquaryref44_Name_ok (k : Nat) (a1 : ByteArray) (r : List Int) (h : antiquaryref44_Name k a1 = some r) : SpecOk P ⟨14, [.p Kd.str a1], [], .v (.p (Kd.arr 16 (Kd.int .u8)) r), []⟩ := by
  refine spec_at Tryd.func14 (by kernel_rfl) (Nat.le_of_ble_eq_true (by kernel_rfl)) ?_
  unfold antiquaryref44_Name at h
  obtain ⟨x1734, h1735, h⟩ := bind_inv h
  replace h := Option.some.inj h; subst h
  exact Abs.Good.path_ret hm [.reg [], .reg [(2, { call := some { lend := [(4, false)], pass := [], res := .v (.p (Kd.arr 16 (Kd.int .u8)) x1734), outs := [], back := [] } })]] [] Tryd.func14 (cs := [_, _]) (by kernel_rfl) ⟨(antiquaryref02_Of_ok k (44 : Int) ([a1] : List ByteArray) _ h1735), (rfl : 1 = List.length ([a1] : List ByteArray)), trivial⟩ (by kernel_rfl)

def antiquaryref44_Less_l0 : Nat → Int → List Int → List Int → Option (Bool)
  | 0, _, _, _ => none
  | k + 1, p1, p2, p3 =>
    if (decide (p1 < (16 : Int))) = true then
      if 0 ≤ p1 ∧ p1 < (16 : Int) then
        if ((List.getD p2 (Int.toNat p1) (Kd.dflt (Kd.int .u8))) != (List.getD p3 (Int.toNat p1) (Kd.dflt (Kd.int .u8)))) = true then
          some ((decide ((List.getD p2 (Int.toNat p1) (Kd.dflt (Kd.int .u8))) < (List.getD p3 (Int.toNat p1) (Kd.dflt (Kd.int .u8))))))
        else
          antiquaryref44_Less_l0 k (IntKind.i64.wrap (p1 + (1 : Int))) p2 p3
      else none
    else
      some (false)
def antiquaryref44_Less (k : Nat) (a1 : List Int) (a2 : List Int) : Option (Bool) :=
  antiquaryref44_Less_l0 k (0 : Int) a1 a2
theorem antiquaryref44_Less_l0_ok (k : Nat) : ∀ (p1 : Int) (p2 : List Int) (p3 : List Int) (r : Bool), antiquaryref44_Less_l0 k p1 p2 p3 = some r →
    Abs.Good P 42 Tryd.f42.ntmps [] [] (.v (.p Kd.bool r)) (pos Tryd.f42 [.r, .r]) [(sk 2, some (.v (.ptr 500001 0))), (sk 3, some (.v (.ptr 500002 0))), (sk 5, some (.v (.p (Kd.int .i64) p1))), (ek 500001, some (.box [.p (Kd.arr 16 (Kd.int .u8)) p2])), (ek 500002, some (.box [.p (Kd.arr 16 (Kd.int .u8)) p3]))] := by
  induction k with
  | zero => intro p1 p2 p3 r h; cases h
  | succ k ih =>
    intro p1 p2 p3 r h
    unfold antiquaryref44_Less_l0 at h
    rcases br_inv h with ⟨h1757, h⟩ | ⟨h1757, h⟩
    · obtain ⟨h1758, h⟩ := gd_inv h
      rcases br_inv h with ⟨h1759, h⟩ | ⟨h1759, h⟩
      · replace h := Option.some.inj h; subst h
        exact Abs.Good.path_ret hm [.reg [], .cond true, .reg [], .cond true, .reg []] [] Tryd.func42 (cs := [_, _, _, _, _, _, _, _, _, _]) (by kernel_rfl) ⟨h1757, h1758.1, h1758.2, h1758.1, h1758.2, h1759, h1758.1, h1758.2, h1758.1, h1758.2, trivial⟩ (by kernel_rfl)
      · exact Abs.Good.path hm [.reg [], .cond true, .reg [], .cond false, .reg [], .keep [sk 2, sk 3, sk 5, ek 500001, ek 500002]] (cs := [_, _, _, _, _, _]) (by kernel_rfl) ⟨h1757, h1758.1, h1758.2, h1758.1, h1758.2, h1759, trivial⟩ (ih (IntKind.i64.wrap (p1 + (1 : Int))) p2 p3 r h)
    · replace h := Option.some.inj h; subst h
      exact Abs.Good.path_ret hm [.reg [], .cond false, .reg []] [] Tryd.func42 (cs := [_]) (by kernel_rfl) ⟨h1757, trivial⟩ (by kernel_rfl)
theorem antiquaryref44_Less_ok (k : Nat) (a1 : List Int) (a2 : List Int) (r : Bool) (h : antiquaryref44_Less k a1 a2 = some r) : SpecOk P ⟨42, [.p (Kd.arr 16 (Kd.int .u8)) a1, .p (Kd.arr 16 (Kd.int .u8)) a2], [], .v (.p Kd.bool r), []⟩ := by
  refine spec_at Tryd.func42 (by kernel_rfl) (Nat.le_of_ble_eq_true (by kernel_rfl)) ?_
  unfold antiquaryref44_Less at h
  exact Abs.Good.path hm [.reg [], .reg [], .keep [sk 2, sk 3, sk 5, ek 2, ek 3], .ren [(2, 500001), (3, 500002)]] (cs := []) (by kernel_rfl) trivial (antiquaryref44_Less_l0_ok k (0 : Int) a1 a2 r h)

def antiquaryref44_Add_l2 (s0 : ByteArray → Bool → Int → List It → Int → List Int → List It → Option (List It × Int)) (k : Nat) (p1 : ByteArray) (p2 : Bool) (p3 : Int) (p4 : List It) (p5 : Int) (p6 : List Int) (p7 : List It) : Option (List It × Int) :=
  if 0 ≤ p3 ∧ p3 < (List.length p4 : Int) then
    if List.length p7 + List.length ([((List.getD p4 (Int.toNat p3) (Kd.dflt KI)).1, (((List.getD p4 (Int.toNat p3) (Kd.dflt KI)).2).1, ()))] : List It) ≤ 4398046511104 then
      s0 p1 p2 (IntKind.i64.wrap (p3 + (1 : Int))) p4 p5 p6 (p7 ++ ([((List.getD p4 (Int.toNat p3) (Kd.dflt KI)).1, (((List.getD p4 (Int.toNat p3) (Kd.dflt KI)).2).1, ()))] : List It))
    else none
  else none
def antiquaryref44_Add_l1 (s0 : ByteArray → Bool → Int → List It → Int → List Int → List It → Option (List It × Int)) (k : Nat) (p1 : ByteArray) (p2 : Bool) (p3 : Int) (p4 : Bool) (p5 : List It) (p6 : Int) (p7 : List Int) (p8 : List It) : Option (List It × Int) :=
  if p4 = true then
    if List.length p8 + List.length ([(p7, (p1, ()))] : List It) ≤ 4398046511104 then
      antiquaryref44_Add_l2 s0 k p1 true p3 p5 p6 p7 (p8 ++ ([(p7, (p1, ()))] : List It))
    else none
  else
    antiquaryref44_Add_l2 s0 k p1 p2 p3 p5 p6 p7 p8
def antiquaryref44_Add_l0 : Nat → ByteArray → Bool → Int → List It → Int → List Int → List It → Option (List It × Int)
  | 0, _, _, _, _, _, _, _ => none
  | k + 1, p1, p2, p3, p4, p5, p6, p7 =>
    if (decide (p3 < (List.length p4 : Int))) = true then
      if (!p2) = true then
        if 0 ≤ p3 ∧ p3 < (List.length p4 : Int) then
          Option.bind (antiquaryref44_Less k p6 ((List.getD p4 (Int.toNat p3) (Kd.dflt KI)).1)) fun x1818 =>
          antiquaryref44_Add_l1 (antiquaryref44_Add_l0 k) k p1 p2 p3 x1818 p4 p5 p6 p7
        else none
      else
        antiquaryref44_Add_l1 (antiquaryref44_Add_l0 k) k p1 p2 p3 false p4 p5 p6 p7
    else
      if (!p2) = true then
        if List.length p7 + List.length ([(p6, (p1, ()))] : List It) ≤ 4398046511104 then
          some ((p7 ++ ([(p6, (p1, ()))] : List It)), (0 : Int))
        else none
      else
        some (p7, (0 : Int))
def antiquaryref44_Add (k : Nat) (a1 : List It) (a2 : ByteArray) : Option (List It × Int) :=
  if (decide ((ByteArray.size a2 : Int) > (1048576 : Int))) = true then
    some (a1, (1 : Int))
  else
    Option.bind (antiquaryref44_Name k a2) fun x1809 =>
    Option.bind (antiquaryref44_Place k a1 x1809) fun x1811 =>
    if (decide (x1811 ≥ (0 : Int))) = true then
      some (a1, (6 : Int))
    else
      if (decide ((List.length a1 : Int) ≥ (65536 : Int))) = true then
        some (a1, (2 : Int))
      else
        antiquaryref44_Add_l0 k a2 false (0 : Int) a1 (0 : Int) x1809 ([] : List It)
theorem antiquaryref44_Add_l2_ok (s0 : ByteArray → Bool → Int → List It → Int → List Int → List It → Option (List It × Int)) (hs0 : ∀ (p1 : ByteArray) (p2 : Bool) (p3 : Int) (p4 : List It) (p5 : Int) (p6 : List Int) (p7 : List It) (r : List It × Int), s0 p1 p2 p3 p4 p5 p6 p7 = some r → Abs.Good P 19 Tryd.f19.ntmps [] [] (.v (.agg [.p (Kd.sl KI) r.1, .nilsl, .p (Kd.int .i64) r.2])) (pos Tryd.f19 [.r, .r, .c false, .r, .r, .c false, .r, .c false, .r, .r, .r]) [(sk 1, some (.v (.p Kd.str p1))), (sk 2, some (.v (.ptr 500001 0))), (sk 4, some (.v (.ptr 500002 0))), (sk 5, some (.v (.ptr 500003 0))), (sk 6, some (.v (.ptr 500004 0))), (sk 7, some (.v (.p Kd.bool p2))), (sk 8, some (.v (.p (Kd.int .i64) p3))), (ek 500001, some (.box [.p (Kd.sl KI) p4])), (ek 500002, some (.box [.nilsl, .nilsl, .p (Kd.int .i64) p5])), (ek 500003, some (.box [.p (Kd.arr 16 (Kd.int .u8)) p6])), (ek 500004, some (.box [.row 500005 (List.length p7)])), (ek 500005, some (.row KI 50 p7))]) (k : Nat) (p1 : ByteArray) (p2 : Bool) (p3 : Int) (p4 : List It) (p5 : Int) (p6 : List Int) (p7 : List It) (r : List It × Int) (h : antiquaryref44_Add_l2 s0 k p1 p2 p3 p4 p5 p6 p7 = some r) :
    Abs.Good P 19 Tryd.f19.ntmps [] [] (.v (.agg [.p (Kd.sl KI) r.1, .nilsl, .p (Kd.int .i64) r.2])) (pos Tryd.f19 [.r, .r, .c false, .r, .r, .c false, .r, .c false, .r, .r, .r, .r, .c true, .r, .c false]) [(sk 1, some (.v (.p Kd.str p1))), (sk 2, some (.v (.ptr 502001 0))), (sk 4, some (.v (.ptr 502002 0))), (sk 5, some (.v (.ptr 502003 0))), (sk 6, some (.v (.ptr 502004 0))), (sk 7, some (.v (.p Kd.bool p2))), (sk 8, some (.v (.p (Kd.int .i64) p3))), (ek 502001, some (.box [.p (Kd.sl KI) p4])), (ek 502002, some (.box [.nilsl, .nilsl, .p (Kd.int .i64) p5])), (ek 502003, some (.box [.p (Kd.arr 16 (Kd.int .u8)) p6])), (ek 502004, some (.box [.row 502005 (List.length p7)])), (ek 502005, some (.row KI 50 p7))] := by
  unfold antiquaryref44_Add_l2 at h
  obtain ⟨h1824, h⟩ := gd_inv h
  obtain ⟨h1825, h⟩ := gd_inv h
  exact Abs.Good.path hm [.reg [], .reg [], .keep [sk 1, sk 2, sk 4, sk 5, sk 6, sk 7, sk 8, ek 502001, ek 502002, ek 502003, ek 502004, ek 63], .ren [(502001, 500001), (502002, 500002), (502003, 500003), (502004, 500004), (63, 500005)]] (cs := [_, _, _, _, _]) (by kernel_rfl) ⟨h1824.1, h1824.2, (rfl : (List.length p7) = List.length p7), (appBound (P := P) (et := 50) (b := 32) (by kernel_rfl) (by decide) h1825), (rfl : 1 = List.length ([((List.getD p4 (Int.toNat p3) (Kd.dflt KI)).1, (((List.getD p4 (Int.toNat p3) (Kd.dflt KI)).2).1, ()))] : List It)), trivial⟩ (hs0 p1 p2 (IntKind.i64.wrap (p3 + (1 : Int))) p4 p5 p6 (p7 ++ ([((List.getD p4 (Int.toNat p3) (Kd.dflt KI)).1, (((List.getD p4 (Int.toNat p3) (Kd.dflt KI)).2).1, ()))] : List It)) r h)
theorem antiquaryref44_Add_l1_ok (s0 : ByteArray → Bool → Int → List It → Int → List Int → List It → Option (List It × Int)) (hs0 : ∀ (p1 : ByteArray) (p2 : Bool) (p3 : Int) (p4 : List It) (p5 : Int) (p6 : List Int) (p7 : List It) (r : List It × Int), s0 p1 p2 p3 p4 p5 p6 p7 = some r → Abs.Good P 19 Tryd.f19.ntmps [] [] (.v (.agg [.p (Kd.sl KI) r.1, .nilsl, .p (Kd.int .i64) r.2])) (pos Tryd.f19 [.r, .r, .c false, .r, .r, .c false, .r, .c false, .r, .r, .r]) [(sk 1, some (.v (.p Kd.str p1))), (sk 2, some (.v (.ptr 500001 0))), (sk 4, some (.v (.ptr 500002 0))), (sk 5, some (.v (.ptr 500003 0))), (sk 6, some (.v (.ptr 500004 0))), (sk 7, some (.v (.p Kd.bool p2))), (sk 8, some (.v (.p (Kd.int .i64) p3))), (ek 500001, some (.box [.p (Kd.sl KI) p4])), (ek 500002, some (.box [.nilsl, .nilsl, .p (Kd.int .i64) p5])), (ek 500003, some (.box [.p (Kd.arr 16 (Kd.int .u8)) p6])), (ek 500004, some (.box [.row 500005 (List.length p7)])), (ek 500005, some (.row KI 50 p7))]) (k : Nat) (p1 : ByteArray) (p2 : Bool) (p3 : Int) (p4 : Bool) (p5 : List It) (p6 : Int) (p7 : List Int) (p8 : List It) (r : List It × Int) (h : antiquaryref44_Add_l1 s0 k p1 p2 p3 p4 p5 p6 p7 p8 = some r) :
    Abs.Good P 19 Tryd.f19.ntmps [] [] (.v (.agg [.p (Kd.sl KI) r.1, .nilsl, .p (Kd.int .i64) r.2])) (pos Tryd.f19 [.r, .r, .c false, .r, .r, .c false, .r, .c false, .r, .r, .r, .r, .c true, .r]) [(sk 1, some (.v (.p Kd.str p1))), (sk 2, some (.v (.ptr 501001 0))), (sk 4, some (.v (.ptr 501002 0))), (sk 5, some (.v (.ptr 501003 0))), (sk 6, some (.v (.ptr 501004 0))), (sk 7, some (.v (.p Kd.bool p2))), (sk 8, some (.v (.p (Kd.int .i64) p3))), (sk 46, some (.v (.p Kd.bool p4))), (ek 501001, some (.box [.p (Kd.sl KI) p5])), (ek 501002, some (.box [.nilsl, .nilsl, .p (Kd.int .i64) p6])), (ek 501003, some (.box [.p (Kd.arr 16 (Kd.int .u8)) p7])), (ek 501004, some (.box [.row 501005 (List.length p8)])), (ek 501005, some (.row KI 50 p8))] := by
  unfold antiquaryref44_Add_l1 at h
  rcases br_inv h with ⟨h1822, h⟩ | ⟨h1822, h⟩
  · obtain ⟨h1823, h⟩ := gd_inv h
    exact Abs.Good.path hm [.cond true, .reg [], .reg [], .keep [sk 1, sk 2, sk 4, sk 5, sk 6, sk 7, sk 8, ek 501001, ek 501002, ek 501003, ek 501004, ek 53], .ren [(501001, 502001), (501002, 502002), (501003, 502003), (501004, 502004), (53, 502005)]] (cs := [_, _, _, _]) (by kernel_rfl) ⟨h1822, (rfl : (List.length p8) = List.length p8), (appBound (P := P) (et := 50) (b := 32) (by kernel_rfl) (by decide) h1823), (rfl : 1 = List.length ([(p7, (p1, ()))] : List It)), trivial⟩ (antiquaryref44_Add_l2_ok s0 hs0 k p1 true p3 p5 p6 p7 (p8 ++ ([(p7, (p1, ()))] : List It)) r h)
  · exact Abs.Good.path hm [.cond false, .keep [sk 1, sk 2, sk 4, sk 5, sk 6, sk 7, sk 8, ek 501001, ek 501002, ek 501003, ek 501004, ek 501005], .ren [(501001, 502001), (501002, 502002), (501003, 502003), (501004, 502004), (501005, 502005)]] (cs := [_]) (by kernel_rfl) ⟨h1822, trivial⟩ (antiquaryref44_Add_l2_ok s0 hs0 k p1 p2 p3 p5 p6 p7 p8 r h)
end Go.Proofs.G44
