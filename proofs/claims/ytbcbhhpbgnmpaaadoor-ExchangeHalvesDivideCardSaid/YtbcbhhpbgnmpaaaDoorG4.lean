/- The walks: each function of the program that the law reaches computes the Lean function that is printed beside it. No condition but that the Lean function has a result. -/
import Derived.Test.YtbcbhhpbgnmpaaaDoorG3
set_option linter.unusedVariables false
namespace Go.Proofs.G44
open Go.Abs
set_option maxRecDepth 10000
open Go.Proofs.K1
theorem exchange_Hear_n_ok (k : Nat) (a1 : List It) (a2 : Int) (a3 : List Int) (a4 : Int) (a5 : List Int) (a6 : Int) (a8 : ByteArray) (r : List It × List Pt × Int) (h : exchange_Hear k a1 a2 a3 a4 a5 a6 [] a8 = some r) :
    SpecOk P ⟨33, [.agg [.p (Kd.sl KI) a1], .agg [.p (Kd.int .i64) a2, .p (Kd.arr 16 (Kd.int .u8)) a3, .p (Kd.int .i64) a4, .p (Kd.arr 16 (Kd.int .u8)) a5, .p (Kd.int .i64) a6, .nilsl, .p Kd.str a8]], [], .t [.agg [.p (Kd.sl KI) r.1], .p (Kd.sl KP) r.2.1, .p (Kd.int .i64) r.2.2], []⟩ :=
  hear_nil (exchange_Hear_ok k a1 a2 a3 a4 a5 a6 [] a8 r h)

def antiquaryref44_Same_l0 : Nat → Int → List It → List It → Option (Bool)
  | 0, _, _, _ => none
  | k + 1, p1, p2, p3 =>
    if (decide (p1 < (List.length p2 : Int))) = true then
      if 0 ≤ p1 ∧ p1 < (List.length p2 : Int) then
        if p1 < (List.length p3 : Int) then
          if (!(Kd.eqb KI ((List.getD p2 (Int.toNat p1) (Kd.dflt KI)).1, (((List.getD p2 (Int.toNat p1) (Kd.dflt KI)).2).1, ())) ((List.getD p3 (Int.toNat p1) (Kd.dflt KI)).1, (((List.getD p3 (Int.toNat p1) (Kd.dflt KI)).2).1, ())))) = true then
            some (false)
          else
            antiquaryref44_Same_l0 k (IntKind.i64.wrap (p1 + (1 : Int))) p2 p3
        else none
      else none
    else
      some (true)
def antiquaryref44_Same (k : Nat) (a1 : List It) (a2 : List It) : Option (Bool) :=
  if ((List.length a1 : Int) != (List.length a2 : Int)) = true then
    some (false)
  else
    antiquaryref44_Same_l0 k (0 : Int) a1 a2
theorem antiquaryref44_Same_l0_ok (k : Nat) : ∀ (p1 : Int) (p2 : List It) (p3 : List It) (r : Bool), antiquaryref44_Same_l0 k p1 p2 p3 = some r →
    Abs.Good P 22 Tryd.f22.ntmps [] [] (.v (.p Kd.bool r)) (pos Tryd.f22 [.r, .r, .c false, .r]) [(sk 2, some (.v (.ptr 500001 0))), (sk 3, some (.v (.ptr 500002 0))), (sk 5, some (.v (.p (Kd.int .i64) p1))), (ek 500001, some (.box [.p (Kd.sl KI) p2])), (ek 500002, some (.box [.p (Kd.sl KI) p3]))] := by
  induction k with
  | zero => intro p1 p2 p3 r h; cases h
  | succ k ih =>
    intro p1 p2 p3 r h
    unfold antiquaryref44_Same_l0 at h
    rcases br_inv h with ⟨h847, h⟩ | ⟨h847, h⟩
    · obtain ⟨h848, h⟩ := gd_inv h
      obtain ⟨h849, h⟩ := gd_inv h
      rcases br_inv h with ⟨h850, h⟩ | ⟨h850, h⟩
      · replace h := Option.some.inj h; subst h
        exact Abs.Good.path_ret hm [.reg [], .cond true, .reg [], .cond true, .reg []] [] Tryd.func22 (cs := [_, _, _, _, _, _, _]) (by kernel_rfl) ⟨h847, h848.1, h848.2, h848.1, h849, eq50, h850, trivial⟩ (by kernel_rfl)
      · exact Abs.Good.path hm [.reg [], .cond true, .reg [], .cond false, .reg [], .keep [sk 2, sk 3, sk 5, ek 500001, ek 500002]] (cs := [_, _, _, _, _, _, _]) (by kernel_rfl) ⟨h847, h848.1, h848.2, h848.1, h849, eq50, h850, trivial⟩ (ih (IntKind.i64.wrap (p1 + (1 : Int))) p2 p3 r h)
    · replace h := Option.some.inj h; subst h
      exact Abs.Good.path_ret hm [.reg [], .cond false, .reg []] [] Tryd.func22 (cs := [_]) (by kernel_rfl) ⟨h847, trivial⟩ (by kernel_rfl)
theorem antiquaryref44_Same_ok (k : Nat) (a1 : List It) (a2 : List It) (r : Bool) (h : antiquaryref44_Same k a1 a2 = some r) : SpecOk P ⟨22, [.agg [.p (Kd.sl KI) a1], .agg [.p (Kd.sl KI) a2]], [], .v (.p Kd.bool r), []⟩ := by
  refine spec_at Tryd.func22 (by kernel_rfl) (Nat.le_of_ble_eq_true (by kernel_rfl)) ?_
  unfold antiquaryref44_Same at h
  rcases br_inv h with ⟨h846, h⟩ | ⟨h846, h⟩
  · replace h := Option.some.inj h; subst h
    exact Abs.Good.path_ret hm [.reg [], .reg [], .cond true, .reg []] [] Tryd.func22 (cs := [_]) (by kernel_rfl) ⟨h846, trivial⟩ (by kernel_rfl)
  · exact Abs.Good.path hm [.reg [], .reg [], .cond false, .reg [], .keep [sk 2, sk 3, sk 5, ek 2, ek 3], .ren [(2, 500001), (3, 500002)]] (cs := [_]) (by kernel_rfl) ⟨h846, trivial⟩ (antiquaryref44_Same_l0_ok k (0 : Int) a1 a2 r h)

def antiquarylaw44_sanity_l3 (k : Nat) (p1 : List Pt) (p2 : Bool) (p3 : List It) (p4 : List It) : Option (Bool) :=
  if p2 = true then
    some (false)
  else
    if (0 : Int) < (List.length p1 : Int) then
      Option.bind (exchange_Hear k p3 ((List.getD p1 (0) (Kd.dflt KP)).1) ((((List.getD p1 (0) (Kd.dflt KP)).2).1).1) (((((List.getD p1 (0) (Kd.dflt KP)).2).1).2).1) ((((List.getD p1 (0) (Kd.dflt KP)).2).2).1) (((((List.getD p1 (0) (Kd.dflt KP)).2).2).2).1) ((((((List.getD p1 (0) (Kd.dflt KP)).2).2).2).2).1) (((((((List.getD p1 (0) (Kd.dflt KP)).2).2).2).2).2).1)) fun x834 =>
      Option.bind (exchange_Open k x834.1) fun x836 =>
      Option.bind (exchange_Hear k p4 x836.1 x836.2.1 x836.2.2.1 x836.2.2.2.1 x836.2.2.2.2.1 ([] : List (List Int)) x836.2.2.2.2.2) fun x838 =>
      if (x834.2.2 == (0 : Int)) = true then
        if (x838.2.2 == (0 : Int)) = true then
          if ((List.length x838.2.1 : Int) == (0 : Int)) = true then
            if ((List.length x834.1 : Int) == (3 : Int)) = true then
              Option.bind (antiquaryref44_Same k x834.1 p4) fun x851 =>
              some (x851)
            else
              some (false)
          else
            some (false)
        else
          some (false)
      else
        some (false)
    else none
def antiquarylaw44_sanity_l2 (k : Nat) (p1 : List Pt) (p2 : Bool) (p3 : List It) (p4 : List It) : Option (Bool) :=
  if p2 = true then
    some (false)
  else
    if (0 : Int) < (List.length p1 : Int) then
      Option.bind (exchange_Hear k p4 ((List.getD p1 (0) (Kd.dflt KP)).1) ((((List.getD p1 (0) (Kd.dflt KP)).2).1).1) (((((List.getD p1 (0) (Kd.dflt KP)).2).1).2).1) ((((List.getD p1 (0) (Kd.dflt KP)).2).2).1) (((((List.getD p1 (0) (Kd.dflt KP)).2).2).2).1) ((((((List.getD p1 (0) (Kd.dflt KP)).2).2).2).2).1) (((((((List.getD p1 (0) (Kd.dflt KP)).2).2).2).2).2).1)) fun x823 =>
      if (1 : Int) < (List.length p1 : Int) then
        Option.bind (exchange_Hear k x823.1 ((List.getD p1 (1) (Kd.dflt KP)).1) ((((List.getD p1 (1) (Kd.dflt KP)).2).1).1) (((((List.getD p1 (1) (Kd.dflt KP)).2).1).2).1) ((((List.getD p1 (1) (Kd.dflt KP)).2).2).1) (((((List.getD p1 (1) (Kd.dflt KP)).2).2).2).1) ((((((List.getD p1 (1) (Kd.dflt KP)).2).2).2).2).1) (((((((List.getD p1 (1) (Kd.dflt KP)).2).2).2).2).2).1)) fun x826 =>
        if (x823.2.2 != (0 : Int)) = true then
          antiquarylaw44_sanity_l3 k x823.2.1 true p3 x826.1
        else
          if (x826.2.2 != (0 : Int)) = true then
            antiquarylaw44_sanity_l3 k x823.2.1 true p3 x826.1
          else
            if ((List.length x823.2.1 : Int) != (1 : Int)) = true then
              antiquarylaw44_sanity_l3 k x823.2.1 true p3 x826.1
            else
              if (0 : Int) < (List.length x823.2.1 : Int) then
                antiquarylaw44_sanity_l3 k x823.2.1 (!(ByteArray.toList (((((((List.getD x823.2.1 (0) (Kd.dflt KP)).2).2).2).2).2).1) == ByteArray.toList (⟨#[122]⟩ : ByteArray))) p3 x826.1
              else none
      else none
    else none
def antiquarylaw44_sanity_l1 (k : Nat) (p1 : List Pt) (p2 : Bool) (p3 : List It) (p4 : List It) : Option (Bool) :=
  if p2 = true then
    some (false)
  else
    if (0 : Int) < (List.length p1 : Int) then
      Option.bind (exchange_Hear k p3 ((List.getD p1 (0) (Kd.dflt KP)).1) ((((List.getD p1 (0) (Kd.dflt KP)).2).1).1) (((((List.getD p1 (0) (Kd.dflt KP)).2).1).2).1) ((((List.getD p1 (0) (Kd.dflt KP)).2).2).1) (((((List.getD p1 (0) (Kd.dflt KP)).2).2).2).1) ((((((List.getD p1 (0) (Kd.dflt KP)).2).2).2).2).1) (((((((List.getD p1 (0) (Kd.dflt KP)).2).2).2).2).2).1)) fun x813 =>
      if (x813.2.2 != (0 : Int)) = true then
        antiquarylaw44_sanity_l2 k x813.2.1 true x813.1 p4
      else
        if ((List.length x813.2.1 : Int) != (2 : Int)) = true then
          antiquarylaw44_sanity_l2 k x813.2.1 true x813.1 p4
        else
          if (0 : Int) < (List.length x813.2.1 : Int) then
            if ((List.getD x813.2.1 (0) (Kd.dflt KP)).1 != (3 : Int)) = true then
              antiquarylaw44_sanity_l2 k x813.2.1 true x813.1 p4
            else
              if ((List.length ((((((List.getD x813.2.1 (0) (Kd.dflt KP)).2).2).2).2).1) : Int) != (1 : Int)) = true then
                antiquarylaw44_sanity_l2 k x813.2.1 true x813.1 p4
              else
                if (1 : Int) < (List.length x813.2.1 : Int) then
                  antiquarylaw44_sanity_l2 k x813.2.1 (!(ByteArray.toList (((((((List.getD x813.2.1 (1) (Kd.dflt KP)).2).2).2).2).2).1) == ByteArray.toList (⟨#[120]⟩ : ByteArray))) x813.1 p4
                else none
          else none
    else none
def antiquarylaw44_sanity_l0 (k : Nat) (p1 : Bool) (p2 : List It) (p3 : List It) : Option (Bool) :=
  if p1 = true then
    some (false)
  else
    Option.bind (exchange_Open k p2) fun x803 =>
    Option.bind (exchange_Hear k p3 x803.1 x803.2.1 x803.2.2.1 x803.2.2.2.1 x803.2.2.2.2.1 ([] : List (List Int)) x803.2.2.2.2.2) fun x805 =>
    if (x805.2.2 != (0 : Int)) = true then
      antiquarylaw44_sanity_l1 k x805.2.1 true p2 x805.1
    else
      if ((List.length x805.2.1 : Int) != (1 : Int)) = true then
        antiquarylaw44_sanity_l1 k x805.2.1 true p2 x805.1
      else
        if (0 : Int) < (List.length x805.2.1 : Int) then
          if ((List.getD x805.2.1 (0) (Kd.dflt KP)).1 != (2 : Int)) = true then
            antiquarylaw44_sanity_l1 k x805.2.1 true p2 x805.1
          else
            antiquarylaw44_sanity_l1 k x805.2.1 ((List.length ((((((List.getD x805.2.1 (0) (Kd.dflt KP)).2).2).2).2).1) : Int) != (2 : Int)) p2 x805.1
        else none
def antiquarylaw44_sanity (k : Nat) : Option (Bool) :=
  Option.bind (antiquarylaw44_of k ([(⟨#[120]⟩ : ByteArray), (⟨#[121]⟩ : ByteArray)] : List ByteArray)) fun x793 =>
  Option.bind (antiquarylaw44_of k ([(⟨#[121]⟩ : ByteArray), (⟨#[122]⟩ : ByteArray)] : List ByteArray)) fun x795 =>
  if (!x793.2) = true then
    antiquarylaw44_sanity_l0 k true x793.1 x795.1
  else
    if (!x795.2) = true then
      antiquarylaw44_sanity_l0 k true x793.1 x795.1
    else
      if ((List.length x793.1 : Int) != (2 : Int)) = true then
        antiquarylaw44_sanity_l0 k true x793.1 x795.1
      else
        Option.bind (exchange_Valid k x793.1) fun x800 =>
        antiquarylaw44_sanity_l0 k (!x800) x793.1 x795.1
theorem antiquarylaw44_sanity_l3_ok (k : Nat) (p1 : List Pt) (p2 : Bool) (p3 : List It) (p4 : List It) (r : Bool) (h : antiquarylaw44_sanity_l3 k p1 p2 p3 p4 = some r) :
    Abs.Good P 10 Tryd.f10.ntmps [] [] (.v (.p Kd.bool r)) (pos Tryd.f10 [.r, .r, .r, .r, .c false, .r, .r, .c false, .r, .r, .c false, .r, .r, .r]) [(sk 1, some (.v (.ptr 503001 0))), (sk 3, some (.v (.ptr 503002 0))), (sk 9, some (.v (.p (Kd.sl KP) p1))), (sk 148, some (.v (.p Kd.bool p2))), (ek 503001, some (.box [.p (Kd.sl KI) p3])), (ek 503002, some (.box [.p (Kd.sl KI) p4]))] := by
  unfold antiquarylaw44_sanity_l3 at h
  rcases br_inv h with ⟨h832, h⟩ | ⟨h832, h⟩
  · replace h := Option.some.inj h; subst h
    exact Abs.Good.path_ret hm [.cond true, .reg []] [] Tryd.func10 (cs := [_]) (by kernel_rfl) ⟨h832, trivial⟩ (by kernel_rfl)
  · obtain ⟨h833, h⟩ := gd_inv h
    obtain ⟨x834, h835, h⟩ := bind_inv h
    obtain ⟨x836, h837, h⟩ := bind_inv h
    obtain ⟨x838, h839, h⟩ := bind_inv h
    rcases br_inv h with ⟨h840, h⟩ | ⟨h840, h⟩
    · rcases br_inv h with ⟨h841, h⟩ | ⟨h841, h⟩
      · rcases br_inv h with ⟨h842, h⟩ | ⟨h842, h⟩
        · rcases br_inv h with ⟨h843, h⟩ | ⟨h843, h⟩
          · obtain ⟨x851, h852, h⟩ := bind_inv h
            replace h := Option.some.inj h; subst h
            exact Abs.Good.path_ret hm [.cond false, .reg [(4, { call := some { lend := [], pass := [], res := .t [.agg [.p (Kd.sl KI) x834.1], .p (Kd.sl KP) x834.2.1, .p (Kd.int .i64) x834.2.2], outs := [], back := [] } })], .reg [(2, { call := some { lend := [], pass := [], res := .v (.agg [.p (Kd.int .i64) x836.1, .p (Kd.arr 16 (Kd.int .u8)) x836.2.1, .p (Kd.int .i64) x836.2.2.1, .p (Kd.arr 16 (Kd.int .u8)) x836.2.2.2.1, .p (Kd.int .i64) x836.2.2.2.2.1, .nilsl, .p Kd.str x836.2.2.2.2.2]), outs := [], back := [] } }), (3, { call := some { lend := [], pass := [], res := .t [.agg [.p (Kd.sl KI) x838.1], .p (Kd.sl KP) x838.2.1, .p (Kd.int .i64) x838.2.2], outs := [], back := [] } })], .reg [(3, { dec := some true }), (4, { dec := some true }), (5, { pick := some true }), (7, { dec := some true }), (8, { dec := some true }), (9, { dec := some true }), (10, { pick := some true }), (12, { dec := some true }), (13, { dec := some true }), (14, { dec := some true }), (15, { dec := some true }), (16, { pick := some true }), (18, { dec := some true }), (19, { dec := some true }), (20, { dec := some true, call := some { lend := [], pass := [], res := .v (.p Kd.bool x851), outs := [], back := [] } }), (21, { pick := some true })]] [] Tryd.func10 (cs := [_, _, _, _, _, _, _, _, _, _, _, _, _, _, _, _, _, _, _, _, _, _, _]) (by kernel_rfl) ⟨h832, (by decide : 0 ≤ (0 : Int)), h833, (exchange_Hear_ok k p3 ((List.getD p1 (0) (Kd.dflt KP)).1) ((((List.getD p1 (0) (Kd.dflt KP)).2).1).1) (((((List.getD p1 (0) (Kd.dflt KP)).2).1).2).1) ((((List.getD p1 (0) (Kd.dflt KP)).2).2).1) (((((List.getD p1 (0) (Kd.dflt KP)).2).2).2).1) ((((((List.getD p1 (0) (Kd.dflt KP)).2).2).2).2).1) (((((((List.getD p1 (0) (Kd.dflt KP)).2).2).2).2).2).1) _ h835), (exchange_Open_ok k x834.1 _ h837), (exchange_Hear_n_ok k p4 x836.1 x836.2.1 x836.2.2.1 x836.2.2.2.1 x836.2.2.2.2.1 x836.2.2.2.2.2 _ h839), h840, h840, h840, h841, h841, h841, h841, h842, h842, h842, h842, h842, h843, h843, h843, (antiquaryref44_Same_ok k x834.1 p4 _ h852), h843, trivial⟩ (by kernel_rfl)
          · replace h := Option.some.inj h; subst h
            exact Abs.Good.path_ret hm [.cond false, .reg [(4, { call := some { lend := [], pass := [], res := .t [.agg [.p (Kd.sl KI) x834.1], .p (Kd.sl KP) x834.2.1, .p (Kd.int .i64) x834.2.2], outs := [], back := [] } })], .reg [(2, { call := some { lend := [], pass := [], res := .v (.agg [.p (Kd.int .i64) x836.1, .p (Kd.arr 16 (Kd.int .u8)) x836.2.1, .p (Kd.int .i64) x836.2.2.1, .p (Kd.arr 16 (Kd.int .u8)) x836.2.2.2.1, .p (Kd.int .i64) x836.2.2.2.2.1, .nilsl, .p Kd.str x836.2.2.2.2.2]), outs := [], back := [] } }), (3, { call := some { lend := [], pass := [], res := .t [.agg [.p (Kd.sl KI) x838.1], .p (Kd.sl KP) x838.2.1, .p (Kd.int .i64) x838.2.2], outs := [], back := [] } })], .reg [(3, { dec := some true }), (4, { dec := some true }), (5, { pick := some true }), (7, { dec := some true }), (8, { dec := some true }), (9, { dec := some true }), (10, { pick := some true }), (12, { dec := some true }), (13, { dec := some true }), (14, { dec := some true }), (15, { dec := some true }), (16, { pick := some true }), (18, { dec := some false }), (19, { dec := some false }), (20, { dec := some false }), (21, { pick := some false })]] [] Tryd.func10 (cs := [_, _, _, _, _, _, _, _, _, _, _, _, _, _, _, _, _, _, _, _, _, _]) (by kernel_rfl) ⟨h832, (by decide : 0 ≤ (0 : Int)), h833, (exchange_Hear_ok k p3 ((List.getD p1 (0) (Kd.dflt KP)).1) ((((List.getD p1 (0) (Kd.dflt KP)).2).1).1) (((((List.getD p1 (0) (Kd.dflt KP)).2).1).2).1) ((((List.getD p1 (0) (Kd.dflt KP)).2).2).1) (((((List.getD p1 (0) (Kd.dflt KP)).2).2).2).1) ((((((List.getD p1 (0) (Kd.dflt KP)).2).2).2).2).1) (((((((List.getD p1 (0) (Kd.dflt KP)).2).2).2).2).2).1) _ h835), (exchange_Open_ok k x834.1 _ h837), (exchange_Hear_n_ok k p4 x836.1 x836.2.1 x836.2.2.1 x836.2.2.2.1 x836.2.2.2.2.1 x836.2.2.2.2.2 _ h839), h840, h840, h840, h841, h841, h841, h841, h842, h842, h842, h842, h842, h843, h843, h843, h843, trivial⟩ (by kernel_rfl)
        · replace h := Option.some.inj h; subst h
          exact Abs.Good.path_ret hm [.cond false, .reg [(4, { call := some { lend := [], pass := [], res := .t [.agg [.p (Kd.sl KI) x834.1], .p (Kd.sl KP) x834.2.1, .p (Kd.int .i64) x834.2.2], outs := [], back := [] } })], .reg [(2, { call := some { lend := [], pass := [], res := .v (.agg [.p (Kd.int .i64) x836.1, .p (Kd.arr 16 (Kd.int .u8)) x836.2.1, .p (Kd.int .i64) x836.2.2.1, .p (Kd.arr 16 (Kd.int .u8)) x836.2.2.2.1, .p (Kd.int .i64) x836.2.2.2.2.1, .nilsl, .p Kd.str x836.2.2.2.2.2]), outs := [], back := [] } }), (3, { call := some { lend := [], pass := [], res := .t [.agg [.p (Kd.sl KI) x838.1], .p (Kd.sl KP) x838.2.1, .p (Kd.int .i64) x838.2.2], outs := [], back := [] } })], .reg [(3, { dec := some true }), (4, { dec := some true }), (5, { pick := some true }), (7, { dec := some true }), (8, { dec := some true }), (9, { dec := some true }), (10, { pick := some true }), (12, { dec := some false }), (13, { dec := some false }), (14, { dec := some false }), (15, { dec := some false }), (16, { pick := some false }), (18, { dec := some false }), (19, { dec := some false }), (20, { dec := some false }), (21, { pick := some false })]] [] Tryd.func10 (cs := [_, _, _, _, _, _, _, _, _, _, _, _, _, _, _, _, _, _, _, _, _, _]) (by kernel_rfl) ⟨h832, (by decide : 0 ≤ (0 : Int)), h833, (exchange_Hear_ok k p3 ((List.getD p1 (0) (Kd.dflt KP)).1) ((((List.getD p1 (0) (Kd.dflt KP)).2).1).1) (((((List.getD p1 (0) (Kd.dflt KP)).2).1).2).1) ((((List.getD p1 (0) (Kd.dflt KP)).2).2).1) (((((List.getD p1 (0) (Kd.dflt KP)).2).2).2).1) ((((((List.getD p1 (0) (Kd.dflt KP)).2).2).2).2).1) (((((((List.getD p1 (0) (Kd.dflt KP)).2).2).2).2).2).1) _ h835), (exchange_Open_ok k x834.1 _ h837), (exchange_Hear_n_ok k p4 x836.1 x836.2.1 x836.2.2.1 x836.2.2.2.1 x836.2.2.2.2.1 x836.2.2.2.2.2 _ h839), h840, h840, h840, h841, h841, h841, h841, h842, h842, h842, h842, h842, (rfl : false = false), (rfl : false = false), (rfl : false = false), (rfl : false = false), trivial⟩ (by kernel_rfl)
      · replace h := Option.some.inj h; subst h
        exact Abs.Good.path_ret hm [.cond false, .reg [(4, { call := some { lend := [], pass := [], res := .t [.agg [.p (Kd.sl KI) x834.1], .p (Kd.sl KP) x834.2.1, .p (Kd.int .i64) x834.2.2], outs := [], back := [] } })], .reg [(2, { call := some { lend := [], pass := [], res := .v (.agg [.p (Kd.int .i64) x836.1, .p (Kd.arr 16 (Kd.int .u8)) x836.2.1, .p (Kd.int .i64) x836.2.2.1, .p (Kd.arr 16 (Kd.int .u8)) x836.2.2.2.1, .p (Kd.int .i64) x836.2.2.2.2.1, .nilsl, .p Kd.str x836.2.2.2.2.2]), outs := [], back := [] } }), (3, { call := some { lend := [], pass := [], res := .t [.agg [.p (Kd.sl KI) x838.1], .p (Kd.sl KP) x838.2.1, .p (Kd.int .i64) x838.2.2], outs := [], back := [] } })], .reg [(3, { dec := some true }), (4, { dec := some true }), (5, { pick := some true }), (7, { dec := some false }), (8, { dec := some false }), (9, { dec := some false }), (10, { pick := some false }), (12, { dec := some false }), (13, { dec := some false }), (14, { dec := some false }), (15, { dec := some false }), (16, { pick := some false }), (18, { dec := some false }), (19, { dec := some false }), (20, { dec := some false }), (21, { pick := some false })]] [] Tryd.func10 (cs := [_, _, _, _, _, _, _, _, _, _, _, _, _, _, _, _, _, _, _, _, _, _]) (by kernel_rfl) ⟨h832, (by decide : 0 ≤ (0 : Int)), h833, (exchange_Hear_ok k p3 ((List.getD p1 (0) (Kd.dflt KP)).1) ((((List.getD p1 (0) (Kd.dflt KP)).2).1).1) (((((List.getD p1 (0) (Kd.dflt KP)).2).1).2).1) ((((List.getD p1 (0) (Kd.dflt KP)).2).2).1) (((((List.getD p1 (0) (Kd.dflt KP)).2).2).2).1) ((((((List.getD p1 (0) (Kd.dflt KP)).2).2).2).2).1) (((((((List.getD p1 (0) (Kd.dflt KP)).2).2).2).2).2).1) _ h835), (exchange_Open_ok k x834.1 _ h837), (exchange_Hear_n_ok k p4 x836.1 x836.2.1 x836.2.2.1 x836.2.2.2.1 x836.2.2.2.2.1 x836.2.2.2.2.2 _ h839), h840, h840, h840, h841, h841, h841, h841, (rfl : false = false), (rfl : false = false), (rfl : false = false), (rfl : false = false), (rfl : false = false), (rfl : false = false), (rfl : false = false), (rfl : false = false), (rfl : false = false), trivial⟩ (by kernel_rfl)
    · replace h := Option.some.inj h; subst h
      exact Abs.Good.path_ret hm [.cond false, .reg [(4, { call := some { lend := [], pass := [], res := .t [.agg [.p (Kd.sl KI) x834.1], .p (Kd.sl KP) x834.2.1, .p (Kd.int .i64) x834.2.2], outs := [], back := [] } })], .reg [(2, { call := some { lend := [], pass := [], res := .v (.agg [.p (Kd.int .i64) x836.1, .p (Kd.arr 16 (Kd.int .u8)) x836.2.1, .p (Kd.int .i64) x836.2.2.1, .p (Kd.arr 16 (Kd.int .u8)) x836.2.2.2.1, .p (Kd.int .i64) x836.2.2.2.2.1, .nilsl, .p Kd.str x836.2.2.2.2.2]), outs := [], back := [] } }), (3, { call := some { lend := [], pass := [], res := .t [.agg [.p (Kd.sl KI) x838.1], .p (Kd.sl KP) x838.2.1, .p (Kd.int .i64) x838.2.2], outs := [], back := [] } })], .reg [(3, { dec := some false }), (4, { dec := some false }), (5, { pick := some false }), (7, { dec := some false }), (8, { dec := some false }), (9, { dec := some false }), (10, { pick := some false }), (12, { dec := some false }), (13, { dec := some false }), (14, { dec := some false }), (15, { dec := some false }), (16, { pick := some false }), (18, { dec := some false }), (19, { dec := some false }), (20, { dec := some false }), (21, { pick := some false })]] [] Tryd.func10 (cs := [_, _, _, _, _, _, _, _, _, _, _, _, _, _, _, _, _, _, _, _, _, _]) (by kernel_rfl) ⟨h832, (by decide : 0 ≤ (0 : Int)), h833, (exchange_Hear_ok k p3 ((List.getD p1 (0) (Kd.dflt KP)).1) ((((List.getD p1 (0) (Kd.dflt KP)).2).1).1) (((((List.getD p1 (0) (Kd.dflt KP)).2).1).2).1) ((((List.getD p1 (0) (Kd.dflt KP)).2).2).1) (((((List.getD p1 (0) (Kd.dflt KP)).2).2).2).1) ((((((List.getD p1 (0) (Kd.dflt KP)).2).2).2).2).1) (((((((List.getD p1 (0) (Kd.dflt KP)).2).2).2).2).2).1) _ h835), (exchange_Open_ok k x834.1 _ h837), (exchange_Hear_n_ok k p4 x836.1 x836.2.1 x836.2.2.1 x836.2.2.2.1 x836.2.2.2.2.1 x836.2.2.2.2.2 _ h839), h840, h840, h840, (rfl : false = false), (rfl : false = false), (rfl : false = false), (rfl : false = false), (rfl : false = false), (rfl : false = false), (rfl : false = false), (rfl : false = false), (rfl : false = false), (rfl : false = false), (rfl : false = false), (rfl : false = false), (rfl : false = false), trivial⟩ (by kernel_rfl)
theorem antiquarylaw44_sanity_l2_ok (k : Nat) (p1 : List Pt) (p2 : Bool) (p3 : List It) (p4 : List It) (r : Bool) (h : antiquarylaw44_sanity_l2 k p1 p2 p3 p4 = some r) :
    Abs.Good P 10 Tryd.f10.ntmps [] [] (.v (.p Kd.bool r)) (pos Tryd.f10 [.r, .r, .r, .r, .c false, .r, .r, .c false, .r, .r]) [(sk 1, some (.v (.ptr 502001 0))), (sk 3, some (.v (.ptr 502002 0))), (sk 7, some (.v (.p (Kd.sl KP) p1))), (sk 112, some (.v (.p Kd.bool p2))), (ek 502001, some (.box [.p (Kd.sl KI) p3])), (ek 502002, some (.box [.p (Kd.sl KI) p4]))] := by
  unfold antiquarylaw44_sanity_l2 at h
  rcases br_inv h with ⟨h821, h⟩ | ⟨h821, h⟩
  · replace h := Option.some.inj h; subst h
    exact Abs.Good.path_ret hm [.cond true, .reg []] [] Tryd.func10 (cs := [_]) (by kernel_rfl) ⟨h821, trivial⟩ (by kernel_rfl)
  · obtain ⟨h822, h⟩ := gd_inv h
    obtain ⟨x823, h824, h⟩ := bind_inv h
    obtain ⟨h825, h⟩ := gd_inv h
    obtain ⟨x826, h827, h⟩ := bind_inv h
    rcases br_inv h with ⟨h828, h⟩ | ⟨h828, h⟩
    · exact Abs.Good.path hm [.cond false, .reg [(4, { call := some { lend := [], pass := [], res := .t [.agg [.p (Kd.sl KI) x823.1], .p (Kd.sl KP) x823.2.1, .p (Kd.int .i64) x823.2.2], outs := [], back := [] } })], .reg [(4, { call := some { lend := [], pass := [], res := .t [.agg [.p (Kd.sl KI) x826.1], .p (Kd.sl KP) x826.2.1, .p (Kd.int .i64) x826.2.2], outs := [], back := [] } })], .reg [(3, { dec := some true }), (4, { dec := some true }), (5, { pick := some true }), (7, { dec := some true }), (8, { dec := some true }), (9, { dec := some true }), (10, { pick := some true }), (12, { dec := some true }), (13, { dec := some true }), (14, { dec := some true }), (15, { dec := some true }), (16, { dec := some true }), (17, { pick := some true })], .keep [sk 1, sk 3, sk 9, sk 148, ek 502001, ek 502002], .ren [(502001, 503001), (502002, 503002)]] (cs := [_, _, _, _, _, _, _, _, _, _, _, _, _, _, _, _, _, _, _, _]) (by kernel_rfl) ⟨h821, (by decide : 0 ≤ (0 : Int)), h822, (exchange_Hear_ok k p4 ((List.getD p1 (0) (Kd.dflt KP)).1) ((((List.getD p1 (0) (Kd.dflt KP)).2).1).1) (((((List.getD p1 (0) (Kd.dflt KP)).2).1).2).1) ((((List.getD p1 (0) (Kd.dflt KP)).2).2).1) (((((List.getD p1 (0) (Kd.dflt KP)).2).2).2).1) ((((((List.getD p1 (0) (Kd.dflt KP)).2).2).2).2).1) (((((((List.getD p1 (0) (Kd.dflt KP)).2).2).2).2).2).1) _ h824), (by decide : 0 ≤ (1 : Int)), h825, (exchange_Hear_ok k x823.1 ((List.getD p1 (1) (Kd.dflt KP)).1) ((((List.getD p1 (1) (Kd.dflt KP)).2).1).1) (((((List.getD p1 (1) (Kd.dflt KP)).2).1).2).1) ((((List.getD p1 (1) (Kd.dflt KP)).2).2).1) (((((List.getD p1 (1) (Kd.dflt KP)).2).2).2).1) ((((((List.getD p1 (1) (Kd.dflt KP)).2).2).2).2).1) (((((((List.getD p1 (1) (Kd.dflt KP)).2).2).2).2).2).1) _ h827), h828, h828, h828, (rfl : true = true), (rfl : true = true), (rfl : true = true), (rfl : true = true), (rfl : true = true), (rfl : true = true), (rfl : true = true), (rfl : true = true), (rfl : true = true), (rfl : true = true), trivial⟩ (antiquarylaw44_sanity_l3_ok k x823.2.1 true p3 x826.1 r h)
    · rcases br_inv h with ⟨h829, h⟩ | ⟨h829, h⟩
      · exact Abs.Good.path hm [.cond false, .reg [(4, { call := some { lend := [], pass := [], res := .t [.agg [.p (Kd.sl KI) x823.1], .p (Kd.sl KP) x823.2.1, .p (Kd.int .i64) x823.2.2], outs := [], back := [] } })], .reg [(4, { call := some { lend := [], pass := [], res := .t [.agg [.p (Kd.sl KI) x826.1], .p (Kd.sl KP) x826.2.1, .p (Kd.int .i64) x826.2.2], outs := [], back := [] } })], .reg [(3, { dec := some false }), (4, { dec := some false }), (5, { pick := some false }), (7, { dec := some true }), (8, { dec := some true }), (9, { dec := some true }), (10, { pick := some true }), (12, { dec := some true }), (13, { dec := some true }), (14, { dec := some true }), (15, { dec := some true }), (16, { dec := some true }), (17, { pick := some true })], .keep [sk 1, sk 3, sk 9, sk 148, ek 502001, ek 502002], .ren [(502001, 503001), (502002, 503002)]] (cs := [_, _, _, _, _, _, _, _, _, _, _, _, _, _, _, _, _, _, _, _]) (by kernel_rfl) ⟨h821, (by decide : 0 ≤ (0 : Int)), h822, (exchange_Hear_ok k p4 ((List.getD p1 (0) (Kd.dflt KP)).1) ((((List.getD p1 (0) (Kd.dflt KP)).2).1).1) (((((List.getD p1 (0) (Kd.dflt KP)).2).1).2).1) ((((List.getD p1 (0) (Kd.dflt KP)).2).2).1) (((((List.getD p1 (0) (Kd.dflt KP)).2).2).2).1) ((((((List.getD p1 (0) (Kd.dflt KP)).2).2).2).2).1) (((((((List.getD p1 (0) (Kd.dflt KP)).2).2).2).2).2).1) _ h824), (by decide : 0 ≤ (1 : Int)), h825, (exchange_Hear_ok k x823.1 ((List.getD p1 (1) (Kd.dflt KP)).1) ((((List.getD p1 (1) (Kd.dflt KP)).2).1).1) (((((List.getD p1 (1) (Kd.dflt KP)).2).1).2).1) ((((List.getD p1 (1) (Kd.dflt KP)).2).2).1) (((((List.getD p1 (1) (Kd.dflt KP)).2).2).2).1) ((((((List.getD p1 (1) (Kd.dflt KP)).2).2).2).2).1) (((((((List.getD p1 (1) (Kd.dflt KP)).2).2).2).2).2).1) _ h827), h828, h828, h828, h829, h829, h829, h829, (rfl : true = true), (rfl : true = true), (rfl : true = true), (rfl : true = true), (rfl : true = true), (rfl : true = true), trivial⟩ (antiquarylaw44_sanity_l3_ok k x823.2.1 true p3 x826.1 r h)
      · rcases br_inv h with ⟨h830, h⟩ | ⟨h830, h⟩
        · exact Abs.Good.path hm [.cond false, .reg [(4, { call := some { lend := [], pass := [], res := .t [.agg [.p (Kd.sl KI) x823.1], .p (Kd.sl KP) x823.2.1, .p (Kd.int .i64) x823.2.2], outs := [], back := [] } })], .reg [(4, { call := some { lend := [], pass := [], res := .t [.agg [.p (Kd.sl KI) x826.1], .p (Kd.sl KP) x826.2.1, .p (Kd.int .i64) x826.2.2], outs := [], back := [] } })], .reg [(3, { dec := some false }), (4, { dec := some false }), (5, { pick := some false }), (7, { dec := some false }), (8, { dec := some false }), (9, { dec := some false }), (10, { pick := some false }), (12, { dec := some true }), (13, { dec := some true }), (14, { dec := some true }), (15, { dec := some true }), (16, { dec := some true }), (17, { pick := some true })], .keep [sk 1, sk 3, sk 9, sk 148, ek 502001, ek 502002], .ren [(502001, 503001), (502002, 503002)]] (cs := [_, _, _, _, _, _, _, _, _, _, _, _, _, _, _, _, _, _, _, _]) (by kernel_rfl) ⟨h821, (by decide : 0 ≤ (0 : Int)), h822, (exchange_Hear_ok k p4 ((List.getD p1 (0) (Kd.dflt KP)).1) ((((List.getD p1 (0) (Kd.dflt KP)).2).1).1) (((((List.getD p1 (0) (Kd.dflt KP)).2).1).2).1) ((((List.getD p1 (0) (Kd.dflt KP)).2).2).1) (((((List.getD p1 (0) (Kd.dflt KP)).2).2).2).1) ((((((List.getD p1 (0) (Kd.dflt KP)).2).2).2).2).1) (((((((List.getD p1 (0) (Kd.dflt KP)).2).2).2).2).2).1) _ h824), (by decide : 0 ≤ (1 : Int)), h825, (exchange_Hear_ok k x823.1 ((List.getD p1 (1) (Kd.dflt KP)).1) ((((List.getD p1 (1) (Kd.dflt KP)).2).1).1) (((((List.getD p1 (1) (Kd.dflt KP)).2).1).2).1) ((((List.getD p1 (1) (Kd.dflt KP)).2).2).1) (((((List.getD p1 (1) (Kd.dflt KP)).2).2).2).1) ((((((List.getD p1 (1) (Kd.dflt KP)).2).2).2).2).1) (((((((List.getD p1 (1) (Kd.dflt KP)).2).2).2).2).2).1) _ h827), h828, h828, h828, h829, h829, h829, h829, h830, h830, h830, h830, h830, h830, trivial⟩ (antiquarylaw44_sanity_l3_ok k x823.2.1 true p3 x826.1 r h)
        · obtain ⟨h831, h⟩ := gd_inv h
          exact Abs.Good.path hm [.cond false, .reg [(4, { call := some { lend := [], pass := [], res := .t [.agg [.p (Kd.sl KI) x823.1], .p (Kd.sl KP) x823.2.1, .p (Kd.int .i64) x823.2.2], outs := [], back := [] } })], .reg [(4, { call := some { lend := [], pass := [], res := .t [.agg [.p (Kd.sl KI) x826.1], .p (Kd.sl KP) x826.2.1, .p (Kd.int .i64) x826.2.2], outs := [], back := [] } })], .reg [(3, { dec := some false }), (4, { dec := some false }), (5, { pick := some false }), (7, { dec := some false }), (8, { dec := some false }), (9, { dec := some false }), (10, { pick := some false }), (12, { dec := some false }), (13, { dec := some false }), (14, { dec := some false }), (15, { dec := some false }), (16, { dec := some false }), (17, { pick := some false })], .keep [sk 1, sk 3, sk 9, sk 148, ek 502001, ek 502002], .ren [(502001, 503001), (502002, 503002)]] (cs := [_, _, _, _, _, _, _, _, _, _, _, _, _, _, _, _, _, _, _, _, _, _]) (by kernel_rfl) ⟨h821, (by decide : 0 ≤ (0 : Int)), h822, (exchange_Hear_ok k p4 ((List.getD p1 (0) (Kd.dflt KP)).1) ((((List.getD p1 (0) (Kd.dflt KP)).2).1).1) (((((List.getD p1 (0) (Kd.dflt KP)).2).1).2).1) ((((List.getD p1 (0) (Kd.dflt KP)).2).2).1) (((((List.getD p1 (0) (Kd.dflt KP)).2).2).2).1) ((((((List.getD p1 (0) (Kd.dflt KP)).2).2).2).2).1) (((((((List.getD p1 (0) (Kd.dflt KP)).2).2).2).2).2).1) _ h824), (by decide : 0 ≤ (1 : Int)), h825, (exchange_Hear_ok k x823.1 ((List.getD p1 (1) (Kd.dflt KP)).1) ((((List.getD p1 (1) (Kd.dflt KP)).2).1).1) (((((List.getD p1 (1) (Kd.dflt KP)).2).1).2).1) ((((List.getD p1 (1) (Kd.dflt KP)).2).2).1) (((((List.getD p1 (1) (Kd.dflt KP)).2).2).2).1) ((((((List.getD p1 (1) (Kd.dflt KP)).2).2).2).2).1) (((((((List.getD p1 (1) (Kd.dflt KP)).2).2).2).2).2).1) _ h827), h828, h828, h828, h829, h829, h829, h829, h830, h830, (by decide : 0 ≤ (0 : Int)), h831, h830, h830, h830, h830, trivial⟩ (antiquarylaw44_sanity_l3_ok k x823.2.1 (!(ByteArray.toList (((((((List.getD x823.2.1 (0) (Kd.dflt KP)).2).2).2).2).2).1) == ByteArray.toList (⟨#[122]⟩ : ByteArray))) p3 x826.1 r h)
theorem antiquarylaw44_sanity_l1_ok (k : Nat) (p1 : List Pt) (p2 : Bool) (p3 : List It) (p4 : List It) (r : Bool) (h : antiquarylaw44_sanity_l1 k p1 p2 p3 p4 = some r) :
    Abs.Good P 10 Tryd.f10.ntmps [] [] (.v (.p Kd.bool r)) (pos Tryd.f10 [.r, .r, .r, .r, .c false, .r, .r]) [(sk 1, some (.v (.ptr 501001 0))), (sk 3, some (.v (.ptr 501002 0))), (sk 5, some (.v (.p (Kd.sl KP) p1))), (sk 74, some (.v (.p Kd.bool p2))), (ek 501001, some (.box [.p (Kd.sl KI) p3])), (ek 501002, some (.box [.p (Kd.sl KI) p4]))] := by
  unfold antiquarylaw44_sanity_l1 at h
  rcases br_inv h with ⟨h811, h⟩ | ⟨h811, h⟩
  · replace h := Option.some.inj h; subst h
    exact Abs.Good.path_ret hm [.cond true, .reg []] [] Tryd.func10 (cs := [_]) (by kernel_rfl) ⟨h811, trivial⟩ (by kernel_rfl)
  · obtain ⟨h812, h⟩ := gd_inv h
    obtain ⟨x813, h814, h⟩ := bind_inv h
    rcases br_inv h with ⟨h815, h⟩ | ⟨h815, h⟩
    · exact Abs.Good.path hm [.cond false, .reg [(4, { call := some { lend := [], pass := [], res := .t [.agg [.p (Kd.sl KI) x813.1], .p (Kd.sl KP) x813.2.1, .p (Kd.int .i64) x813.2.2], outs := [], back := [] } })], .reg [(3, { dec := some true }), (4, { dec := some true }), (5, { dec := some true }), (6, { pick := some true }), (8, { dec := some true }), (9, { dec := some true }), (10, { dec := some true }), (11, { dec := some true }), (12, { dec := some true }), (13, { pick := some true }), (15, { dec := some true }), (16, { dec := some true }), (17, { dec := some true }), (18, { dec := some true }), (19, { dec := some true }), (20, { dec := some true }), (21, { pick := some true }), (23, { dec := some true }), (24, { dec := some true }), (25, { dec := some true }), (26, { dec := some true }), (27, { dec := some true }), (28, { pick := some true })], .keep [sk 1, sk 3, sk 7, sk 112, ek 501001, ek 501002], .ren [(501001, 502001), (501002, 502002)]] (cs := [_, _, _, _, _, _, _, _, _, _, _, _, _, _, _, _, _, _, _, _, _, _, _, _, _, _, _]) (by kernel_rfl) ⟨h811, (by decide : 0 ≤ (0 : Int)), h812, (exchange_Hear_ok k p3 ((List.getD p1 (0) (Kd.dflt KP)).1) ((((List.getD p1 (0) (Kd.dflt KP)).2).1).1) (((((List.getD p1 (0) (Kd.dflt KP)).2).1).2).1) ((((List.getD p1 (0) (Kd.dflt KP)).2).2).1) (((((List.getD p1 (0) (Kd.dflt KP)).2).2).2).1) ((((((List.getD p1 (0) (Kd.dflt KP)).2).2).2).2).1) (((((((List.getD p1 (0) (Kd.dflt KP)).2).2).2).2).2).1) _ h814), h815, h815, h815, h815, (rfl : true = true), (rfl : true = true), (rfl : true = true), (rfl : true = true), (rfl : true = true), (rfl : true = true), (rfl : true = true), (rfl : true = true), (rfl : true = true), (rfl : true = true), (rfl : true = true), (rfl : true = true), (rfl : true = true), (rfl : true = true), (rfl : true = true), (rfl : true = true), (rfl : true = true), (rfl : true = true), (rfl : true = true), trivial⟩ (antiquarylaw44_sanity_l2_ok k x813.2.1 true x813.1 p4 r h)
    · rcases br_inv h with ⟨h816, h⟩ | ⟨h816, h⟩
      · exact Abs.Good.path hm [.cond false, .reg [(4, { call := some { lend := [], pass := [], res := .t [.agg [.p (Kd.sl KI) x813.1], .p (Kd.sl KP) x813.2.1, .p (Kd.int .i64) x813.2.2], outs := [], back := [] } })], .reg [(3, { dec := some false }), (4, { dec := some false }), (5, { dec := some false }), (6, { pick := some false }), (8, { dec := some true }), (9, { dec := some true }), (10, { dec := some true }), (11, { dec := some true }), (12, { dec := some true }), (13, { pick := some true }), (15, { dec := some true }), (16, { dec := some true }), (17, { dec := some true }), (18, { dec := some true }), (19, { dec := some true }), (20, { dec := some true }), (21, { pick := some true }), (23, { dec := some true }), (24, { dec := some true }), (25, { dec := some true }), (26, { dec := some true }), (27, { dec := some true }), (28, { pick := some true })], .keep [sk 1, sk 3, sk 7, sk 112, ek 501001, ek 501002], .ren [(501001, 502001), (501002, 502002)]] (cs := [_, _, _, _, _, _, _, _, _, _, _, _, _, _, _, _, _, _, _, _, _, _, _, _, _, _, _]) (by kernel_rfl) ⟨h811, (by decide : 0 ≤ (0 : Int)), h812, (exchange_Hear_ok k p3 ((List.getD p1 (0) (Kd.dflt KP)).1) ((((List.getD p1 (0) (Kd.dflt KP)).2).1).1) (((((List.getD p1 (0) (Kd.dflt KP)).2).1).2).1) ((((List.getD p1 (0) (Kd.dflt KP)).2).2).1) (((((List.getD p1 (0) (Kd.dflt KP)).2).2).2).1) ((((((List.getD p1 (0) (Kd.dflt KP)).2).2).2).2).1) (((((((List.getD p1 (0) (Kd.dflt KP)).2).2).2).2).2).1) _ h814), h815, h815, h815, h815, h816, h816, h816, h816, h816, h816, (rfl : true = true), (rfl : true = true), (rfl : true = true), (rfl : true = true), (rfl : true = true), (rfl : true = true), (rfl : true = true), (rfl : true = true), (rfl : true = true), (rfl : true = true), (rfl : true = true), (rfl : true = true), (rfl : true = true), trivial⟩ (antiquarylaw44_sanity_l2_ok k x813.2.1 true x813.1 p4 r h)
      · obtain ⟨h817, h⟩ := gd_inv h
        rcases br_inv h with ⟨h818, h⟩ | ⟨h818, h⟩
        · exact Abs.Good.path hm [.cond false, .reg [(4, { call := some { lend := [], pass := [], res := .t [.agg [.p (Kd.sl KI) x813.1], .p (Kd.sl KP) x813.2.1, .p (Kd.int .i64) x813.2.2], outs := [], back := [] } })], .reg [(3, { dec := some false }), (4, { dec := some false }), (5, { dec := some false }), (6, { pick := some false }), (8, { dec := some false }), (9, { dec := some false }), (10, { dec := some false }), (11, { dec := some false }), (12, { dec := some false }), (13, { pick := some false }), (15, { dec := some true }), (16, { dec := some true }), (17, { dec := some true }), (18, { dec := some true }), (19, { dec := some true }), (20, { dec := some true }), (21, { pick := some true }), (23, { dec := some true }), (24, { dec := some true }), (25, { dec := some true }), (26, { dec := some true }), (27, { dec := some true }), (28, { pick := some true })], .keep [sk 1, sk 3, sk 7, sk 112, ek 501001, ek 501002], .ren [(501001, 502001), (501002, 502002)]] (cs := [_, _, _, _, _, _, _, _, _, _, _, _, _, _, _, _, _, _, _, _, _, _, _, _, _, _, _, _, _]) (by kernel_rfl) ⟨h811, (by decide : 0 ≤ (0 : Int)), h812, (exchange_Hear_ok k p3 ((List.getD p1 (0) (Kd.dflt KP)).1) ((((List.getD p1 (0) (Kd.dflt KP)).2).1).1) (((((List.getD p1 (0) (Kd.dflt KP)).2).1).2).1) ((((List.getD p1 (0) (Kd.dflt KP)).2).2).1) (((((List.getD p1 (0) (Kd.dflt KP)).2).2).2).1) ((((((List.getD p1 (0) (Kd.dflt KP)).2).2).2).2).1) (((((((List.getD p1 (0) (Kd.dflt KP)).2).2).2).2).2).1) _ h814), h815, h815, h815, h815, h816, h816, (by decide : 0 ≤ (0 : Int)), h817, h816, h816, h816, h816, h818, h818, h818, h818, h818, h818, h818, (rfl : true = true), (rfl : true = true), (rfl : true = true), (rfl : true = true), (rfl : true = true), (rfl : true = true), trivial⟩ (antiquarylaw44_sanity_l2_ok k x813.2.1 true x813.1 p4 r h)
        · rcases br_inv h with ⟨h819, h⟩ | ⟨h819, h⟩
          · exact Abs.Good.path hm [.cond false, .reg [(4, { call := some { lend := [], pass := [], res := .t [.agg [.p (Kd.sl KI) x813.1], .p (Kd.sl KP) x813.2.1, .p (Kd.int .i64) x813.2.2], outs := [], back := [] } })], .reg [(3, { dec := some false }), (4, { dec := some false }), (5, { dec := some false }), (6, { pick := some false }), (8, { dec := some false }), (9, { dec := some false }), (10, { dec := some false }), (11, { dec := some false }), (12, { dec := some false }), (13, { pick := some false }), (15, { dec := some false }), (16, { dec := some false }), (17, { dec := some false }), (18, { dec := some false }), (19, { dec := some false }), (20, { dec := some false }), (21, { pick := some false }), (23, { dec := some true }), (24, { dec := some true }), (25, { dec := some true }), (26, { dec := some true }), (27, { dec := some true }), (28, { pick := some true })], .keep [sk 1, sk 3, sk 7, sk 112, ek 501001, ek 501002], .ren [(501001, 502001), (501002, 502002)]] (cs := [_, _, _, _, _, _, _, _, _, _, _, _, _, _, _, _, _, _, _, _, _, _, _, _, _, _, _, _, _, _, _]) (by kernel_rfl) ⟨h811, (by decide : 0 ≤ (0 : Int)), h812, (exchange_Hear_ok k p3 ((List.getD p1 (0) (Kd.dflt KP)).1) ((((List.getD p1 (0) (Kd.dflt KP)).2).1).1) (((((List.getD p1 (0) (Kd.dflt KP)).2).1).2).1) ((((List.getD p1 (0) (Kd.dflt KP)).2).2).1) (((((List.getD p1 (0) (Kd.dflt KP)).2).2).2).1) ((((((List.getD p1 (0) (Kd.dflt KP)).2).2).2).2).1) (((((((List.getD p1 (0) (Kd.dflt KP)).2).2).2).2).2).1) _ h814), h815, h815, h815, h815, h816, h816, (by decide : 0 ≤ (0 : Int)), h817, h816, h816, h816, h816, h818, h818, (by decide : 0 ≤ (0 : Int)), h817, h818, h818, h818, h818, h818, h819, h819, h819, h819, h819, h819, trivial⟩ (antiquarylaw44_sanity_l2_ok k x813.2.1 true x813.1 p4 r h)
          · obtain ⟨h820, h⟩ := gd_inv h
            exact Abs.Good.path hm [.cond false, .reg [(4, { call := some { lend := [], pass := [], res := .t [.agg [.p (Kd.sl KI) x813.1], .p (Kd.sl KP) x813.2.1, .p (Kd.int .i64) x813.2.2], outs := [], back := [] } })], .reg [(3, { dec := some false }), (4, { dec := some false }), (5, { dec := some false }), (6, { pick := some false }), (8, { dec := some false }), (9, { dec := some false }), (10, { dec := some false }), (11, { dec := some false }), (12, { dec := some false }), (13, { pick := some false }), (15, { dec := some false }), (16, { dec := some false }), (17, { dec := some false }), (18, { dec := some false }), (19, { dec := some false }), (20, { dec := some false }), (21, { pick := some false }), (23, { dec := some false }), (24, { dec := some false }), (25, { dec := some false }), (26, { dec := some false }), (27, { dec := some false }), (28, { pick := some false })], .keep [sk 1, sk 3, sk 7, sk 112, ek 501001, ek 501002], .ren [(501001, 502001), (501002, 502002)]] (cs := [_, _, _, _, _, _, _, _, _, _, _, _, _, _, _, _, _, _, _, _, _, _, _, _, _, _, _, _, _, _, _, _, _]) (by kernel_rfl) ⟨h811, (by decide : 0 ≤ (0 : Int)), h812, (exchange_Hear_ok k p3 ((List.getD p1 (0) (Kd.dflt KP)).1) ((((List.getD p1 (0) (Kd.dflt KP)).2).1).1) (((((List.getD p1 (0) (Kd.dflt KP)).2).1).2).1) ((((List.getD p1 (0) (Kd.dflt KP)).2).2).1) (((((List.getD p1 (0) (Kd.dflt KP)).2).2).2).1) ((((((List.getD p1 (0) (Kd.dflt KP)).2).2).2).2).1) (((((((List.getD p1 (0) (Kd.dflt KP)).2).2).2).2).2).1) _ h814), h815, h815, h815, h815, h816, h816, (by decide : 0 ≤ (0 : Int)), h817, h816, h816, h816, h816, h818, h818, (by decide : 0 ≤ (0 : Int)), h817, h818, h818, h818, h818, h818, h819, h819, (by decide : 0 ≤ (1 : Int)), h820, h819, h819, h819, h819, trivial⟩ (antiquarylaw44_sanity_l2_ok k x813.2.1 (!(ByteArray.toList (((((((List.getD x813.2.1 (1) (Kd.dflt KP)).2).2).2).2).2).1) == ByteArray.toList (⟨#[120]⟩ : ByteArray))) x813.1 p4 r h)
theorem antiquarylaw44_sanity_l0_ok (k : Nat) (p1 : Bool) (p2 : List It) (p3 : List It) (r : Bool) (h : antiquarylaw44_sanity_l0 k p1 p2 p3 = some r) :
    Abs.Good P 10 Tryd.f10.ntmps [] [] (.v (.p Kd.bool r)) (pos Tryd.f10 [.r, .r, .r, .r]) [(sk 1, some (.v (.ptr 500001 0))), (sk 3, some (.v (.ptr 500002 0))), (sk 44, some (.v (.p Kd.bool p1))), (ek 500001, some (.box [.p (Kd.sl KI) p2])), (ek 500002, some (.box [.p (Kd.sl KI) p3]))] := by
  unfold antiquarylaw44_sanity_l0 at h
  rcases br_inv h with ⟨h802, h⟩ | ⟨h802, h⟩
  · replace h := Option.some.inj h; subst h
    exact Abs.Good.path_ret hm [.cond true, .reg []] [] Tryd.func10 (cs := [_]) (by kernel_rfl) ⟨h802, trivial⟩ (by kernel_rfl)
  · obtain ⟨x803, h804, h⟩ := bind_inv h
    obtain ⟨x805, h806, h⟩ := bind_inv h
    rcases br_inv h with ⟨h807, h⟩ | ⟨h807, h⟩
    · exact Abs.Good.path hm [.cond false, .reg [(2, { call := some { lend := [], pass := [], res := .v (.agg [.p (Kd.int .i64) x803.1, .p (Kd.arr 16 (Kd.int .u8)) x803.2.1, .p (Kd.int .i64) x803.2.2.1, .p (Kd.arr 16 (Kd.int .u8)) x803.2.2.2.1, .p (Kd.int .i64) x803.2.2.2.2.1, .nilsl, .p Kd.str x803.2.2.2.2.2]), outs := [], back := [] } }), (3, { call := some { lend := [], pass := [], res := .t [.agg [.p (Kd.sl KI) x805.1], .p (Kd.sl KP) x805.2.1, .p (Kd.int .i64) x805.2.2], outs := [], back := [] } })], .reg [(3, { dec := some true }), (4, { dec := some true }), (5, { dec := some true }), (6, { pick := some true }), (8, { dec := some true }), (9, { dec := some true }), (10, { dec := some true }), (11, { dec := some true }), (12, { dec := some true }), (13, { pick := some true }), (15, { dec := some true }), (16, { dec := some true }), (17, { dec := some true }), (18, { dec := some true }), (19, { dec := some true }), (20, { dec := some true }), (21, { pick := some true })], .keep [sk 1, sk 3, sk 5, sk 74, ek 500001, ek 500002], .ren [(500001, 501001), (500002, 501002)]] (cs := [_, _, _, _, _, _, _, _, _, _, _, _, _, _, _, _, _, _, _, _]) (by kernel_rfl) ⟨h802, (exchange_Open_ok k p2 _ h804), (exchange_Hear_n_ok k p3 x803.1 x803.2.1 x803.2.2.1 x803.2.2.2.1 x803.2.2.2.2.1 x803.2.2.2.2.2 _ h806), h807, h807, h807, h807, (rfl : true = true), (rfl : true = true), (rfl : true = true), (rfl : true = true), (rfl : true = true), (rfl : true = true), (rfl : true = true), (rfl : true = true), (rfl : true = true), (rfl : true = true), (rfl : true = true), (rfl : true = true), (rfl : true = true), trivial⟩ (antiquarylaw44_sanity_l1_ok k x805.2.1 true p2 x805.1 r h)
    · rcases br_inv h with ⟨h808, h⟩ | ⟨h808, h⟩
      · exact Abs.Good.path hm [.cond false, .reg [(2, { call := some { lend := [], pass := [], res := .v (.agg [.p (Kd.int .i64) x803.1, .p (Kd.arr 16 (Kd.int .u8)) x803.2.1, .p (Kd.int .i64) x803.2.2.1, .p (Kd.arr 16 (Kd.int .u8)) x803.2.2.2.1, .p (Kd.int .i64) x803.2.2.2.2.1, .nilsl, .p Kd.str x803.2.2.2.2.2]), outs := [], back := [] } }), (3, { call := some { lend := [], pass := [], res := .t [.agg [.p (Kd.sl KI) x805.1], .p (Kd.sl KP) x805.2.1, .p (Kd.int .i64) x805.2.2], outs := [], back := [] } })], .reg [(3, { dec := some false }), (4, { dec := some false }), (5, { dec := some false }), (6, { pick := some false }), (8, { dec := some true }), (9, { dec := some true }), (10, { dec := some true }), (11, { dec := some true }), (12, { dec := some true }), (13, { pick := some true }), (15, { dec := some true }), (16, { dec := some true }), (17, { dec := some true }), (18, { dec := some true }), (19, { dec := some true }), (20, { dec := some true }), (21, { pick := some true })], .keep [sk 1, sk 3, sk 5, sk 74, ek 500001, ek 500002], .ren [(500001, 501001), (500002, 501002)]] (cs := [_, _, _, _, _, _, _, _, _, _, _, _, _, _, _, _, _, _, _, _]) (by kernel_rfl) ⟨h802, (exchange_Open_ok k p2 _ h804), (exchange_Hear_n_ok k p3 x803.1 x803.2.1 x803.2.2.1 x803.2.2.2.1 x803.2.2.2.2.1 x803.2.2.2.2.2 _ h806), h807, h807, h807, h807, h808, h808, h808, h808, h808, h808, (rfl : true = true), (rfl : true = true), (rfl : true = true), (rfl : true = true), (rfl : true = true), (rfl : true = true), (rfl : true = true), trivial⟩ (antiquarylaw44_sanity_l1_ok k x805.2.1 true p2 x805.1 r h)
      · obtain ⟨h809, h⟩ := gd_inv h
        rcases br_inv h with ⟨h810, h⟩ | ⟨h810, h⟩
        · exact Abs.Good.path hm [.cond false, .reg [(2, { call := some { lend := [], pass := [], res := .v (.agg [.p (Kd.int .i64) x803.1, .p (Kd.arr 16 (Kd.int .u8)) x803.2.1, .p (Kd.int .i64) x803.2.2.1, .p (Kd.arr 16 (Kd.int .u8)) x803.2.2.2.1, .p (Kd.int .i64) x803.2.2.2.2.1, .nilsl, .p Kd.str x803.2.2.2.2.2]), outs := [], back := [] } }), (3, { call := some { lend := [], pass := [], res := .t [.agg [.p (Kd.sl KI) x805.1], .p (Kd.sl KP) x805.2.1, .p (Kd.int .i64) x805.2.2], outs := [], back := [] } })], .reg [(3, { dec := some false }), (4, { dec := some false }), (5, { dec := some false }), (6, { pick := some false }), (8, { dec := some false }), (9, { dec := some false }), (10, { dec := some false }), (11, { dec := some false }), (12, { dec := some false }), (13, { pick := some false }), (15, { dec := some true }), (16, { dec := some true }), (17, { dec := some true }), (18, { dec := some true }), (19, { dec := some true }), (20, { dec := some true }), (21, { pick := some true })], .keep [sk 1, sk 3, sk 5, sk 74, ek 500001, ek 500002], .ren [(500001, 501001), (500002, 501002)]] (cs := [_, _, _, _, _, _, _, _, _, _, _, _, _, _, _, _, _, _, _, _, _, _]) (by kernel_rfl) ⟨h802, (exchange_Open_ok k p2 _ h804), (exchange_Hear_n_ok k p3 x803.1 x803.2.1 x803.2.2.1 x803.2.2.2.1 x803.2.2.2.2.1 x803.2.2.2.2.2 _ h806), h807, h807, h807, h807, h808, h808, (by decide : 0 ≤ (0 : Int)), h809, h808, h808, h808, h808, h810, h810, h810, h810, h810, h810, h810, trivial⟩ (antiquarylaw44_sanity_l1_ok k x805.2.1 true p2 x805.1 r h)
        · exact Abs.Good.path hm [.cond false, .reg [(2, { call := some { lend := [], pass := [], res := .v (.agg [.p (Kd.int .i64) x803.1, .p (Kd.arr 16 (Kd.int .u8)) x803.2.1, .p (Kd.int .i64) x803.2.2.1, .p (Kd.arr 16 (Kd.int .u8)) x803.2.2.2.1, .p (Kd.int .i64) x803.2.2.2.2.1, .nilsl, .p Kd.str x803.2.2.2.2.2]), outs := [], back := [] } }), (3, { call := some { lend := [], pass := [], res := .t [.agg [.p (Kd.sl KI) x805.1], .p (Kd.sl KP) x805.2.1, .p (Kd.int .i64) x805.2.2], outs := [], back := [] } })], .reg [(3, { dec := some false }), (4, { dec := some false }), (5, { dec := some false }), (6, { pick := some false }), (8, { dec := some false }), (9, { dec := some false }), (10, { dec := some false }), (11, { dec := some false }), (12, { dec := some false }), (13, { pick := some false }), (15, { dec := some false }), (16, { dec := some false }), (17, { dec := some false }), (18, { dec := some false }), (19, { dec := some false }), (20, { dec := some false }), (21, { pick := some false })], .keep [sk 1, sk 3, sk 5, sk 74, ek 500001, ek 500002], .ren [(500001, 501001), (500002, 501002)]] (cs := [_, _, _, _, _, _, _, _, _, _, _, _, _, _, _, _, _, _, _, _, _, _, _, _]) (by kernel_rfl) ⟨h802, (exchange_Open_ok k p2 _ h804), (exchange_Hear_n_ok k p3 x803.1 x803.2.1 x803.2.2.1 x803.2.2.2.1 x803.2.2.2.2.1 x803.2.2.2.2.2 _ h806), h807, h807, h807, h807, h808, h808, (by decide : 0 ≤ (0 : Int)), h809, h808, h808, h808, h808, h810, h810, (by decide : 0 ≤ (0 : Int)), h809, h810, h810, h810, h810, h810, trivial⟩ (antiquarylaw44_sanity_l1_ok k x805.2.1 ((List.length ((((((List.getD x805.2.1 (0) (Kd.dflt KP)).2).2).2).2).1) : Int) != (2 : Int)) p2 x805.1 r h)
theorem antiquarylaw44_sanity_ok (k : Nat) (r : Bool) (h : antiquarylaw44_sanity k = some r) : SpecOk P ⟨10, [], [], .v (.p Kd.bool r), []⟩ := by
  refine spec_at Tryd.func10 (by kernel_rfl) (Nat.le_of_ble_eq_true (by kernel_rfl)) ?_
  unfold antiquarylaw44_sanity at h
  obtain ⟨x793, h794, h⟩ := bind_inv h
  obtain ⟨x795, h796, h⟩ := bind_inv h
  rcases br_inv h with ⟨h797, h⟩ | ⟨h797, h⟩
  · exact Abs.Good.path hm [.reg [], .reg [(1, { call := some { lend := [(19, true)], pass := [], res := .t [.agg [.p (Kd.sl KI) x793.1], .p Kd.bool x793.2], outs := [], back := [] } })], .reg [(1, { call := some { lend := [(24, true)], pass := [], res := .t [.agg [.p (Kd.sl KI) x795.1], .p Kd.bool x795.2], outs := [], back := [] } })], .reg [(3, { dec := some true }), (4, { dec := some true }), (5, { pick := some true }), (7, { dec := some true }), (8, { dec := some true }), (9, { dec := some true }), (10, { dec := some true }), (11, { pick := some true }), (13, { dec := some true }), (14, { dec := some true }), (15, { dec := some true }), (16, { pick := some true })], .keep [sk 1, sk 3, sk 44, ek 1, ek 3], .ren [(1, 500001), (3, 500002)]] (cs := [_, _, _, _, _, _, _, _, _, _, _, _, _, _, _, _]) (by kernel_rfl) ⟨(antiquarylaw44_of_ok k ([(⟨#[120]⟩ : ByteArray), (⟨#[121]⟩ : ByteArray)] : List ByteArray) _ h794), (rfl : 2 = List.length ([(⟨#[120]⟩ : ByteArray), (⟨#[121]⟩ : ByteArray)] : List ByteArray)), (antiquarylaw44_of_ok k ([(⟨#[121]⟩ : ByteArray), (⟨#[122]⟩ : ByteArray)] : List ByteArray) _ h796), (rfl : 2 = List.length ([(⟨#[121]⟩ : ByteArray), (⟨#[122]⟩ : ByteArray)] : List ByteArray)), h797, h797, h797, (rfl : true = true), (rfl : true = true), (rfl : true = true), (rfl : true = true), (rfl : true = true), (rfl : true = true), (rfl : true = true), (rfl : true = true), (rfl : true = true), trivial⟩ (antiquarylaw44_sanity_l0_ok k true x793.1 x795.1 r h)
  · rcases br_inv h with ⟨h798, h⟩ | ⟨h798, h⟩
    · exact Abs.Good.path hm [.reg [], .reg [(1, { call := some { lend := [(19, true)], pass := [], res := .t [.agg [.p (Kd.sl KI) x793.1], .p Kd.bool x793.2], outs := [], back := [] } })], .reg [(1, { call := some { lend := [(24, true)], pass := [], res := .t [.agg [.p (Kd.sl KI) x795.1], .p Kd.bool x795.2], outs := [], back := [] } })], .reg [(3, { dec := some false }), (4, { dec := some false }), (5, { pick := some false }), (7, { dec := some true }), (8, { dec := some true }), (9, { dec := some true }), (10, { dec := some true }), (11, { pick := some true }), (13, { dec := some true }), (14, { dec := some true }), (15, { dec := some true }), (16, { pick := some true })], .keep [sk 1, sk 3, sk 44, ek 1, ek 3], .ren [(1, 500001), (3, 500002)]] (cs := [_, _, _, _, _, _, _, _, _, _, _, _, _, _, _, _]) (by kernel_rfl) ⟨(antiquarylaw44_of_ok k ([(⟨#[120]⟩ : ByteArray), (⟨#[121]⟩ : ByteArray)] : List ByteArray) _ h794), (rfl : 2 = List.length ([(⟨#[120]⟩ : ByteArray), (⟨#[121]⟩ : ByteArray)] : List ByteArray)), (antiquarylaw44_of_ok k ([(⟨#[121]⟩ : ByteArray), (⟨#[122]⟩ : ByteArray)] : List ByteArray) _ h796), (rfl : 2 = List.length ([(⟨#[121]⟩ : ByteArray), (⟨#[122]⟩ : ByteArray)] : List ByteArray)), h797, h797, h797, h798, h798, h798, h798, h798, (rfl : true = true), (rfl : true = true), (rfl : true = true), (rfl : true = true), trivial⟩ (antiquarylaw44_sanity_l0_ok k true x793.1 x795.1 r h)
    · rcases br_inv h with ⟨h799, h⟩ | ⟨h799, h⟩
      · exact Abs.Good.path hm [.reg [], .reg [(1, { call := some { lend := [(19, true)], pass := [], res := .t [.agg [.p (Kd.sl KI) x793.1], .p Kd.bool x793.2], outs := [], back := [] } })], .reg [(1, { call := some { lend := [(24, true)], pass := [], res := .t [.agg [.p (Kd.sl KI) x795.1], .p Kd.bool x795.2], outs := [], back := [] } })], .reg [(3, { dec := some false }), (4, { dec := some false }), (5, { pick := some false }), (7, { dec := some false }), (8, { dec := some false }), (9, { dec := some false }), (10, { dec := some false }), (11, { pick := some false }), (13, { dec := some true }), (14, { dec := some true }), (15, { dec := some true }), (16, { pick := some true })], .keep [sk 1, sk 3, sk 44, ek 1, ek 3], .ren [(1, 500001), (3, 500002)]] (cs := [_, _, _, _, _, _, _, _, _, _, _, _, _, _, _, _]) (by kernel_rfl) ⟨(antiquarylaw44_of_ok k ([(⟨#[120]⟩ : ByteArray), (⟨#[121]⟩ : ByteArray)] : List ByteArray) _ h794), (rfl : 2 = List.length ([(⟨#[120]⟩ : ByteArray), (⟨#[121]⟩ : ByteArray)] : List ByteArray)), (antiquarylaw44_of_ok k ([(⟨#[121]⟩ : ByteArray), (⟨#[122]⟩ : ByteArray)] : List ByteArray) _ h796), (rfl : 2 = List.length ([(⟨#[121]⟩ : ByteArray), (⟨#[122]⟩ : ByteArray)] : List ByteArray)), h797, h797, h797, h798, h798, h798, h798, h798, h799, h799, h799, h799, trivial⟩ (antiquarylaw44_sanity_l0_ok k true x793.1 x795.1 r h)
      · obtain ⟨x800, h801, h⟩ := bind_inv h
        exact Abs.Good.path hm [.reg [], .reg [(1, { call := some { lend := [(19, true)], pass := [], res := .t [.agg [.p (Kd.sl KI) x793.1], .p Kd.bool x793.2], outs := [], back := [] } })], .reg [(1, { call := some { lend := [(24, true)], pass := [], res := .t [.agg [.p (Kd.sl KI) x795.1], .p Kd.bool x795.2], outs := [], back := [] } })], .reg [(3, { dec := some false }), (4, { dec := some false }), (5, { pick := some false }), (7, { dec := some false }), (8, { dec := some false }), (9, { dec := some false }), (10, { dec := some false }), (11, { pick := some false }), (13, { dec := some false }), (14, { dec := some false, call := some { lend := [], pass := [], res := .v (.p Kd.bool x800), outs := [], back := [] } }), (15, { dec := some false }), (16, { pick := some false })], .keep [sk 1, sk 3, sk 44, ek 1, ek 3], .ren [(1, 500001), (3, 500002)]] (cs := [_, _, _, _, _, _, _, _, _, _, _, _, _, _, _, _, _]) (by kernel_rfl) ⟨(antiquarylaw44_of_ok k ([(⟨#[120]⟩ : ByteArray), (⟨#[121]⟩ : ByteArray)] : List ByteArray) _ h794), (rfl : 2 = List.length ([(⟨#[120]⟩ : ByteArray), (⟨#[121]⟩ : ByteArray)] : List ByteArray)), (antiquarylaw44_of_ok k ([(⟨#[121]⟩ : ByteArray), (⟨#[122]⟩ : ByteArray)] : List ByteArray) _ h796), (rfl : 2 = List.length ([(⟨#[121]⟩ : ByteArray), (⟨#[122]⟩ : ByteArray)] : List ByteArray)), h797, h797, h797, h798, h798, h798, h798, h798, h799, h799, (exchange_Valid_ok k x793.1 _ h801), h799, h799, trivial⟩ (antiquarylaw44_sanity_l0_ok k (!x800) x793.1 x795.1 r h)

def antiquaryref01_Int_l1 : Nat → Int → List Int → Option (List Int)
  | 0, _, _ => none
  | k + 1, p1, p2 =>
    if (decide (p1 ≥ (128 : Int))) = true then
      if List.length p2 + List.length ([(IntKind.u8.wrap ((IntKind.u8.wrap (Int.tmod p1 (128 : Int))) + (128 : Int)))] : List Int) ≤ 140737488355328 then
        antiquaryref01_Int_l1 k (IntKind.u64.wrap (Int.tdiv p1 (128 : Int))) (p2 ++ ([(IntKind.u8.wrap ((IntKind.u8.wrap (Int.tmod p1 (128 : Int))) + (128 : Int)))] : List Int))
      else none
    else
      if List.length p2 + List.length ([(IntKind.u8.wrap p1)] : List Int) ≤ 140737488355328 then
        some ((p2 ++ ([(IntKind.u8.wrap p1)] : List Int)))
      else none
def antiquaryref01_Int_l0 (k : Nat) (p1 : Int) : Option (List Int) :=
  antiquaryref01_Int_l1 k p1 ([] : List Int)
def antiquaryref01_Int (k : Nat) (a1 : Int) : Option (List Int) :=
  if (decide (a1 < (0 : Int))) = true then
    antiquaryref01_Int_l0 k (IntKind.u64.wrap ((IntKind.u64.wrap ((IntKind.u64.wrap (IntKind.i64.wrap ((-1 : Int) - a1))) * (2 : Int))) + (1 : Int)))
  else
    antiquaryref01_Int_l0 k (IntKind.u64.wrap ((IntKind.u64.wrap a1) * (2 : Int)))
theorem antiquaryref01_Int_l1_ok (k : Nat) : ∀ (p1 : Int) (p2 : List Int) (r : List Int), antiquaryref01_Int_l1 k p1 p2 = some r →
    Abs.Good P 87 Tryd.f87.ntmps [] [(700001, .row (Kd.int .u8) 5 r)] (.v (.row 700001 (List.length r))) (pos Tryd.f87 [.r, .r, .r, .c false, .r]) [(sk 3, some (.v (.p (Kd.int .u64) p1))), (sk 4, some (.v (.row 501001 (List.length p2)))), (ek 501001, some (.row (Kd.int .u8) 5 p2))] := by
  induction k with
  | zero => intro p1 p2 r h; cases h
  | succ k ih =>
    intro p1 p2 r h
    unfold antiquaryref01_Int_l1 at h
    rcases br_inv h with ⟨h881, h⟩ | ⟨h881, h⟩
    · obtain ⟨h882, h⟩ := gd_inv h
      exact Abs.Good.path hm [.reg [], .cond true, .reg [], .reg [], .keep [sk 3, sk 4, ek 23], .ren [(23, 501001)]] (cs := [_, _, _, _, _, _]) (by kernel_rfl) ⟨h881, (by decide : (128 : Int) ≠ 0), (rfl : (List.length p2) = List.length p2), (appBound (P := P) (et := 5) (b := 1) (by kernel_rfl) (by decide) h882), (rfl : 1 = List.length ([(IntKind.u8.wrap ((IntKind.u8.wrap (Int.tmod p1 (128 : Int))) + (128 : Int)))] : List Int)), (by decide : (128 : Int) ≠ 0), trivial⟩ (ih (IntKind.u64.wrap (Int.tdiv p1 (128 : Int))) (p2 ++ ([(IntKind.u8.wrap ((IntKind.u8.wrap (Int.tmod p1 (128 : Int))) + (128 : Int)))] : List Int)) r h)
    · obtain ⟨h883, h⟩ := gd_inv h
      replace h := Option.some.inj h; subst h
      exact Abs.Good.path_ret hm [.reg [], .cond false, .reg [], .keep [sk 2, ek 30], .ren [(30, 700001)]] [] Tryd.func87 (cs := [_, _, _, _]) (by kernel_rfl) ⟨h881, (rfl : (List.length p2) = List.length p2), (appBound (P := P) (et := 5) (b := 1) (by kernel_rfl) (by decide) h883), (rfl : 1 = List.length ([(IntKind.u8.wrap p1)] : List Int)), trivial⟩ (by kernel_rfl)
theorem antiquaryref01_Int_l0_ok (k : Nat) (p1 : Int) (r : List Int) (h : antiquaryref01_Int_l0 k p1 = some r) :
    Abs.Good P 87 Tryd.f87.ntmps [] [(700001, .row (Kd.int .u8) 5 r)] (.v (.row 700001 (List.length r))) (pos Tryd.f87 [.r, .r, .r, .c false]) [(sk 3, some (.v (.p (Kd.int .u64) p1)))] := by
  unfold antiquaryref01_Int_l0 at h
  exact Abs.Good.path hm [.reg [], .co (sk 4) 0 (.mk 900001 (Kd.int .u8) 5), .keep [sk 3, sk 4, ek 900001], .ren [(900001, 501001)]] (cs := []) (by kernel_rfl) trivial (antiquaryref01_Int_l1_ok k p1 ([] : List Int) r h)
theorem antiquaryref01_Int_ok (k : Nat) (a1 : Int) (r : List Int) (h : antiquaryref01_Int k a1 = some r) : SpecOk P ⟨87, [.p (Kd.int .i64) a1], [], .v (.row 700001 (List.length r)), [(700001, .row (Kd.int .u8) 5 r)]⟩ := by
  refine spec_at Tryd.func87 (by kernel_rfl) (Nat.le_of_ble_eq_true (by kernel_rfl)) ?_
  unfold antiquaryref01_Int at h
  rcases br_inv h with ⟨h880, h⟩ | ⟨h880, h⟩
  · exact Abs.Good.path hm [.reg [], .reg [], .reg [], .cond true, .reg [], .keep [sk 3]] (cs := [_]) (by kernel_rfl) ⟨h880, trivial⟩ (antiquaryref01_Int_l0_ok k (IntKind.u64.wrap ((IntKind.u64.wrap ((IntKind.u64.wrap (IntKind.i64.wrap ((-1 : Int) - a1))) * (2 : Int))) + (1 : Int))) r h)
  · exact Abs.Good.path hm [.reg [], .reg [], .reg [], .cond false, .keep [sk 3]] (cs := [_]) (by kernel_rfl) ⟨h880, trivial⟩ (antiquaryref01_Int_l0_ok k (IntKind.u64.wrap ((IntKind.u64.wrap a1) * (2 : Int))) r h)

def antiquaryref01_Bytes (k : Nat) (a1 : ByteArray) : Option (List Int) :=
  Option.bind (antiquaryref01_Int k (ByteArray.size a1 : Int)) fun x887 =>
  if List.length x887 + List.length (bytesOf a1) ≤ 140737488355328 then
    some ((x887 ++ (bytesOf a1)))
  else none
theorem antiquaryref01_Bytes_ok (k : Nat) (a1 : ByteArray) (r : List Int) (h : antiquaryref01_Bytes k a1 = some r) : SpecOk P ⟨80, [.p Kd.str a1], [], .v (.p (Kd.sl (Kd.int .u8)) r), []⟩ := by
  refine spec_at Tryd.func80 (by kernel_rfl) (Nat.le_of_ble_eq_true (by kernel_rfl)) ?_
  unfold antiquaryref01_Bytes at h
  obtain ⟨x887, h888, h⟩ := bind_inv h
  obtain ⟨h889, h⟩ := gd_inv h
  replace h := Option.some.inj h; subst h
  exact Abs.Good.path_ret hm [.reg [], .reg [(2, { call := some { lend := [], pass := [], res := .v (.row 700001 (List.length x887)), outs := [(700001, .row (Kd.int .u8) 5 x887)], back := [(700001, 2000040)] } })]] [7] Tryd.func80 (cs := [_, _, _, _]) (by kernel_rfl) ⟨(antiquaryref01_Int_ok k (ByteArray.size a1 : Int) _ h888), (rfl : (List.length x887) = List.length x887), (appBound (P := P) (et := 5) (b := 1) (by kernel_rfl) (by decide) h889), (rfl : (List.length (x887 ++ (bytesOf a1))) = List.length (x887 ++ (bytesOf a1))), trivial⟩ (by kernel_rfl)

def antiquaryref02_Input_l0 : Nat → List ByteArray → Int → List Int → Option (List Int)
  | 0, _, _, _ => none
  | k + 1, p1, p2, p3 =>
    if (decide (p2 < (List.length p1 : Int))) = true then
      if 0 ≤ p2 ∧ p2 < (List.length p1 : Int) then
        Option.bind (antiquaryref01_Bytes k (List.getD p1 (Int.toNat p2) (Kd.dflt Kd.str))) fun x895 =>
        if List.length p3 + List.length x895 ≤ 140737488355328 then
          antiquaryref02_Input_l0 k p1 (IntKind.i64.wrap (p2 + (1 : Int))) (p3 ++ x895)
        else none
      else none
    else
      some (p3)
def antiquaryref02_Input (k : Nat) (a1 : Int) (a2 : List ByteArray) : Option (List Int) :=
  antiquaryref02_Input_l0 k a2 (0 : Int) ([(IntKind.u8.wrap a1)] : List Int)
theorem antiquaryref02_Input_l0_ok (k : Nat) : ∀ (p1 : List ByteArray) (p2 : Int) (p3 : List Int) (r : List Int), antiquaryref02_Input_l0 k p1 p2 p3 = some r →
    Abs.Good P 66 Tryd.f66.ntmps [] [] (.v (.p (Kd.sl (Kd.int .u8)) r)) (pos Tryd.f66 [.r, .r, .r]) [(sk 1, some (.v (.p (Kd.sl Kd.str) p1))), (sk 5, some (.v (.row 500001 (List.length p3)))), (sk 6, some (.v (.p (Kd.int .i64) p2))), (ek 500001, some (.row (Kd.int .u8) 5 p3))] := by
  induction k with
  | zero => intro p1 p2 p3 r h; cases h
  | succ k ih =>
    intro p1 p2 p3 r h
    unfold antiquaryref02_Input_l0 at h
    rcases br_inv h with ⟨h893, h⟩ | ⟨h893, h⟩
    · obtain ⟨h894, h⟩ := gd_inv h
      obtain ⟨x895, h896, h⟩ := bind_inv h
      obtain ⟨h897, h⟩ := gd_inv h
      exact Abs.Good.path hm [.reg [], .cond true, .reg [(5, { call := some { lend := [], pass := [], res := .v (.p (Kd.sl (Kd.int .u8)) x895), outs := [], back := [] } })], .reg [], .keep [sk 1, sk 5, sk 6, ek 22], .ren [(22, 500001)]] (cs := [_, _, _, _, _, _]) (by kernel_rfl) ⟨h893, h894.1, h894.2, (antiquaryref01_Bytes_ok k (List.getD p1 (Int.toNat p2) (Kd.dflt Kd.str)) _ h896), (rfl : (List.length p3) = List.length p3), (appBound (P := P) (et := 5) (b := 1) (by kernel_rfl) (by decide) h897), trivial⟩ (ih p1 (IntKind.i64.wrap (p2 + (1 : Int))) (p3 ++ x895) r h)
    · replace h := Option.some.inj h; subst h
      exact Abs.Good.path_ret hm [.reg [], .cond false, .reg []] [500001] Tryd.func66 (cs := [_, _]) (by kernel_rfl) ⟨h893, (rfl : (List.length p3) = List.length p3), trivial⟩ (by kernel_rfl)
theorem antiquaryref02_Input_ok (k : Nat) (a1 : Int) (a2 : List ByteArray) (r : List Int) (h : antiquaryref02_Input k a1 a2 = some r) : SpecOk P ⟨66, [.p (Kd.int .i64) a1, .p (Kd.sl Kd.str) a2], [], .v (.p (Kd.sl (Kd.int .u8)) r), []⟩ := by
  refine spec_at Tryd.func66 (by kernel_rfl) (Nat.le_of_ble_eq_true (by kernel_rfl)) ?_
  unfold antiquaryref02_Input at h
  exact Abs.Good.path hm [.reg [], .reg [], .reg [], .keep [sk 1, sk 5, sk 6, ek 9], .ren [(9, 500001)]] (cs := []) (by kernel_rfl) trivial (antiquaryref02_Input_l0_ok k a2 (0 : Int) ([(IntKind.u8.wrap a1)] : List Int) r h)

def antiquaryref02_padded_l1 : Nat → Int → Int → List Int → Option (List Int)
  | 0, _, _, _ => none
  | k + 1, p1, p2, p3 =>
    if (decide (p2 < (8 : Int))) = true then
      if 0 ≤ (IntKind.i64.wrap ((56 : Int) - (IntKind.i64.wrap ((8 : Int) * p2)))) then
        if List.length p3 + List.length ([(IntKind.u8.wrap (Int.fdiv p1 (2 ^ (min (Int.toNat (IntKind.i64.wrap ((56 : Int) - (IntKind.i64.wrap ((8 : Int) * p2))))) (IntKind.bits .u64)))))] : List Int) ≤ 140737488355328 then
          antiquaryref02_padded_l1 k p1 (IntKind.i64.wrap (p2 + (1 : Int))) (p3 ++ ([(IntKind.u8.wrap (Int.fdiv p1 (2 ^ (min (Int.toNat (IntKind.i64.wrap ((56 : Int) - (IntKind.i64.wrap ((8 : Int) * p2))))) (IntKind.bits .u64)))))] : List Int))
        else none
      else none
    else
      some (p3)
def antiquaryref02_padded_l0 : Nat → List Int → List Int → Option (List Int)
  | 0, _, _ => none
  | k + 1, p1, p2 =>
    if ((Int.tmod ((List.length p2) : Int) (64 : Int)) != (56 : Int)) = true then
      if List.length p2 + List.length ([(0 : Int)] : List Int) ≤ 140737488355328 then
        antiquaryref02_padded_l0 k p1 (p2 ++ ([(0 : Int)] : List Int))
      else none
    else
      antiquaryref02_padded_l1 k (IntKind.u64.wrap ((8 : Int) * (IntKind.u64.wrap (List.length p1 : Int)))) (0 : Int) p2
def antiquaryref02_padded (k : Nat) (a1 : List Int) : Option (List Int) :=
  if List.length ([] : List Int) + List.length a1 ≤ 140737488355328 then
    if List.length (([] : List Int) ++ a1) + List.length ([(128 : Int)] : List Int) ≤ 140737488355328 then
      antiquaryref02_padded_l0 k a1 ((([] : List Int) ++ a1) ++ ([(128 : Int)] : List Int))
    else none
  else none
theorem antiquaryref02_padded_l1_ok (k : Nat) : ∀ (p1 : Int) (p2 : Int) (p3 : List Int) (r : List Int), antiquaryref02_padded_l1 k p1 p2 p3 = some r →
    Abs.Good P 84 Tryd.f84.ntmps [] [] (.v (.p (Kd.sl (Kd.int .u8)) r)) (pos Tryd.f84 [.r, .r, .r, .r, .c false, .r, .r]) [(sk 3, some (.v (.row 501001 (List.length p3)))), (sk 4, some (.v (.p (Kd.int .u64) p1))), (sk 5, some (.v (.p (Kd.int .i64) p2))), (ek 501001, some (.row (Kd.int .u8) 5 p3))] := by
  induction k with
  | zero => intro p1 p2 p3 r h; cases h
  | succ k ih =>
    intro p1 p2 p3 r h
    unfold antiquaryref02_padded_l1 at h
    rcases br_inv h with ⟨h917, h⟩ | ⟨h917, h⟩
    · obtain ⟨h918, h⟩ := gd_inv h
      obtain ⟨h919, h⟩ := gd_inv h
      exact Abs.Good.path hm [.reg [], .cond true, .reg [], .reg [], .keep [sk 3, sk 4, sk 5, ek 35], .ren [(35, 501001)]] (cs := [_, _, _, _, _]) (by kernel_rfl) ⟨h917, h918, (rfl : (List.length p3) = List.length p3), (appBound (P := P) (et := 5) (b := 1) (by kernel_rfl) (by decide) h919), (rfl : 1 = List.length ([(IntKind.u8.wrap (Int.fdiv p1 (2 ^ (min (Int.toNat (IntKind.i64.wrap ((56 : Int) - (IntKind.i64.wrap ((8 : Int) * p2))))) (IntKind.bits .u64)))))] : List Int)), trivial⟩ (ih p1 (IntKind.i64.wrap (p2 + (1 : Int))) (p3 ++ ([(IntKind.u8.wrap (Int.fdiv p1 (2 ^ (min (Int.toNat (IntKind.i64.wrap ((56 : Int) - (IntKind.i64.wrap ((8 : Int) * p2))))) (IntKind.bits .u64)))))] : List Int)) r h)
    · replace h := Option.some.inj h; subst h
      exact Abs.Good.path_ret hm [.reg [], .cond false, .reg []] [501001] Tryd.func84 (cs := [_, _]) (by kernel_rfl) ⟨h917, (rfl : (List.length p3) = List.length p3), trivial⟩ (by kernel_rfl)
theorem antiquaryref02_padded_l0_ok (k : Nat) : ∀ (p1 : List Int) (p2 : List Int) (r : List Int), antiquaryref02_padded_l0 k p1 p2 = some r →
    Abs.Good P 84 Tryd.f84.ntmps [] [] (.v (.p (Kd.sl (Kd.int .u8)) r)) (pos Tryd.f84 [.r, .r, .r]) [(sk 0, some (.v (.p (Kd.sl (Kd.int .u8)) p1))), (sk 3, some (.v (.row 500001 (List.length p2)))), (ek 500001, some (.row (Kd.int .u8) 5 p2))] := by
  induction k with
  | zero => intro p1 p2 r h; cases h
  | succ k ih =>
    intro p1 p2 r h
    unfold antiquaryref02_padded_l0 at h
    rcases br_inv h with ⟨h915, h⟩ | ⟨h915, h⟩
    · obtain ⟨h916, h⟩ := gd_inv h
      exact Abs.Good.path hm [.reg [], .cond true, .reg [], .keep [sk 0, sk 3, ek 18], .ren [(18, 500001)]] (cs := [_, _, _, _, _]) (by kernel_rfl) ⟨(by decide : (64 : Int) ≠ 0), h915, (rfl : (List.length p2) = List.length p2), (appBound (P := P) (et := 5) (b := 1) (by kernel_rfl) (by decide) h916), (rfl : 1 = List.length ([(0 : Int)] : List Int)), trivial⟩ (ih p1 (p2 ++ ([(0 : Int)] : List Int)) r h)
    · exact Abs.Good.path hm [.reg [], .cond false, .reg [], .reg [], .keep [sk 3, sk 4, sk 5, ek 500001], .ren [(500001, 501001)]] (cs := [_, _]) (by kernel_rfl) ⟨(by decide : (64 : Int) ≠ 0), h915, trivial⟩ (antiquaryref02_padded_l1_ok k (IntKind.u64.wrap ((8 : Int) * (IntKind.u64.wrap (List.length p1 : Int)))) (0 : Int) p2 r h)
theorem antiquaryref02_padded_ok (k : Nat) (a1 : List Int) (r : List Int) (h : antiquaryref02_padded k a1 = some r) : SpecOk P ⟨84, [.p (Kd.sl (Kd.int .u8)) a1], [], .v (.p (Kd.sl (Kd.int .u8)) r), []⟩ := by
  refine spec_at Tryd.func84 (by kernel_rfl) (Nat.le_of_ble_eq_true (by kernel_rfl)) ?_
  unfold antiquaryref02_padded at h
  obtain ⟨h913, h⟩ := gd_inv h
  obtain ⟨h914, h⟩ := gd_inv h
  exact Abs.Good.path hm [.reg [], .reg [], .reg [], .keep [sk 0, sk 3, ek 11], .ren [(11, 500001)]] (cs := [_, _, _, _, _]) (by kernel_rfl) ⟨(rfl : 0 = List.length ([] : List Int)), (appBound (P := P) (et := 5) (b := 1) (by kernel_rfl) (by decide) h913), (rfl : (List.length (([] : List Int) ++ a1)) = List.length (([] : List Int) ++ a1)), (appBound (P := P) (et := 5) (b := 1) (by kernel_rfl) (by decide) h914), (rfl : 1 = List.length ([(128 : Int)] : List Int)), trivial⟩ (antiquaryref02_padded_l0_ok k a1 ((([] : List Int) ++ a1) ++ ([(128 : Int)] : List Int)) r h)

def antiquaryref02_rotr (k : Nat) (a1 : Int) (a2 : Int) : Option (Int) :=
  if 0 ≤ a2 then
    if 0 ≤ (IntKind.i64.wrap ((32 : Int) - a2)) then
      some ((IntKind.u32.wrap (((BitVec.ofInt (IntKind.bits .u32) (Int.fdiv a1 (2 ^ (min (Int.toNat a2) (IntKind.bits .u32))))) ||| (BitVec.ofInt (IntKind.bits .u32) (IntKind.u32.wrap (a1 * 2 ^ (min (Int.toNat (IntKind.i64.wrap ((32 : Int) - a2))) (IntKind.bits .u32)))))).toNat : Int)))
    else none
  else none
theorem antiquaryref02_rotr_ok (k : Nat) (a1 : Int) (a2 : Int) (r : Int) (h : antiquaryref02_rotr k a1 a2 = some r) : SpecOk P ⟨86, [.p (Kd.int .u32) a1, .p (Kd.int .i64) a2], [], .v (.p (Kd.int .u32) r), []⟩ := by
  refine spec_at Tryd.func86 (by kernel_rfl) (Nat.le_of_ble_eq_true (by kernel_rfl)) ?_
  unfold antiquaryref02_rotr at h
  obtain ⟨h942, h⟩ := gd_inv h
  obtain ⟨h943, h⟩ := gd_inv h
  replace h := Option.some.inj h; subst h
  exact Abs.Good.path_ret hm [.reg [], .reg []] [] Tryd.func86 (cs := [_, _]) (by kernel_rfl) ⟨h942, h943, trivial⟩ (by kernel_rfl)

def antiquaryref02_words_l1 : Nat → Int → List Int → List Int → Option (List Int)
  | 0, _, _, _ => none
  | k + 1, p1, p2, p3 =>
    if (decide (p1 < (64 : Int))) = true then
      if 0 ≤ (IntKind.i64.wrap (p1 - (15 : Int))) ∧ (IntKind.i64.wrap (p1 - (15 : Int))) < (64 : Int) then
        Option.bind (antiquaryref02_rotr k (List.getD p3 (Int.toNat (IntKind.i64.wrap (p1 - (15 : Int)))) (Kd.dflt (Kd.int .u32))) (7 : Int)) fun x964 =>
        Option.bind (antiquaryref02_rotr k (List.getD p3 (Int.toNat (IntKind.i64.wrap (p1 - (15 : Int)))) (Kd.dflt (Kd.int .u32))) (18 : Int)) fun x966 =>
        if 0 ≤ (IntKind.i64.wrap (p1 - (2 : Int))) ∧ (IntKind.i64.wrap (p1 - (2 : Int))) < (64 : Int) then
          Option.bind (antiquaryref02_rotr k (List.getD p3 (Int.toNat (IntKind.i64.wrap (p1 - (2 : Int)))) (Kd.dflt (Kd.int .u32))) (17 : Int)) fun x969 =>
          Option.bind (antiquaryref02_rotr k (List.getD p3 (Int.toNat (IntKind.i64.wrap (p1 - (2 : Int)))) (Kd.dflt (Kd.int .u32))) (19 : Int)) fun x971 =>
          if 0 ≤ (IntKind.i64.wrap (p1 - (16 : Int))) ∧ (IntKind.i64.wrap (p1 - (16 : Int))) < (64 : Int) then
            if 0 ≤ (IntKind.i64.wrap (p1 - (7 : Int))) ∧ (IntKind.i64.wrap (p1 - (7 : Int))) < (64 : Int) then
              if 0 ≤ p1 ∧ p1 < (64 : Int) then
                antiquaryref02_words_l1 k (IntKind.i64.wrap (p1 + (1 : Int))) p2 (List.set p3 (Int.toNat p1) (IntKind.u32.wrap ((IntKind.u32.wrap ((IntKind.u32.wrap ((List.getD p3 (Int.toNat (IntKind.i64.wrap (p1 - (16 : Int)))) (Kd.dflt (Kd.int .u32))) + (IntKind.u32.wrap (((BitVec.ofInt (IntKind.bits .u32) (IntKind.u32.wrap (((BitVec.ofInt (IntKind.bits .u32) x964) ^^^ (BitVec.ofInt (IntKind.bits .u32) x966)).toNat : Int))) ^^^ (BitVec.ofInt (IntKind.bits .u32) (Int.fdiv (List.getD p3 (Int.toNat (IntKind.i64.wrap (p1 - (15 : Int)))) (Kd.dflt (Kd.int .u32))) (2 ^ (min (Int.toNat (3 : Int)) (IntKind.bits .u32)))))).toNat : Int)))) + (List.getD p3 (Int.toNat (IntKind.i64.wrap (p1 - (7 : Int)))) (Kd.dflt (Kd.int .u32))))) + (IntKind.u32.wrap (((BitVec.ofInt (IntKind.bits .u32) (IntKind.u32.wrap (((BitVec.ofInt (IntKind.bits .u32) x969) ^^^ (BitVec.ofInt (IntKind.bits .u32) x971)).toNat : Int))) ^^^ (BitVec.ofInt (IntKind.bits .u32) (Int.fdiv (List.getD p3 (Int.toNat (IntKind.i64.wrap (p1 - (2 : Int)))) (Kd.dflt (Kd.int .u32))) (2 ^ (min (Int.toNat (10 : Int)) (IntKind.bits .u32)))))).toNat : Int)))))
              else none
            else none
          else none
        else none
      else none
    else
      some (p3)
def antiquaryref02_words_l0 : Nat → List Int → Int → List Int → List Int → Option (List Int)
  | 0, _, _, _, _ => none
  | k + 1, p1, p2, p3, p4 =>
    if (decide (p2 < (16 : Int))) = true then
      if 0 ≤ (IntKind.i64.wrap ((4 : Int) * p2)) ∧ (IntKind.i64.wrap ((4 : Int) * p2)) < (List.length p1 : Int) then
        if 0 ≤ (IntKind.i64.wrap ((IntKind.i64.wrap ((4 : Int) * p2)) + (1 : Int))) ∧ (IntKind.i64.wrap ((IntKind.i64.wrap ((4 : Int) * p2)) + (1 : Int))) < (List.length p1 : Int) then
          if 0 ≤ (IntKind.i64.wrap ((IntKind.i64.wrap ((4 : Int) * p2)) + (2 : Int))) ∧ (IntKind.i64.wrap ((IntKind.i64.wrap ((4 : Int) * p2)) + (2 : Int))) < (List.length p1 : Int) then
            if 0 ≤ (IntKind.i64.wrap ((IntKind.i64.wrap ((4 : Int) * p2)) + (3 : Int))) ∧ (IntKind.i64.wrap ((IntKind.i64.wrap ((4 : Int) * p2)) + (3 : Int))) < (List.length p1 : Int) then
              if 0 ≤ p2 ∧ p2 < (64 : Int) then
                antiquaryref02_words_l0 k p1 (IntKind.i64.wrap (p2 + (1 : Int))) p3 (List.set p4 (Int.toNat p2) (IntKind.u32.wrap (((BitVec.ofInt (IntKind.bits .u32) (IntKind.u32.wrap (((BitVec.ofInt (IntKind.bits .u32) (IntKind.u32.wrap (((BitVec.ofInt (IntKind.bits .u32) (IntKind.u32.wrap ((IntKind.u32.wrap (List.getD p1 (Int.toNat (IntKind.i64.wrap ((4 : Int) * p2))) (Kd.dflt (Kd.int .u8)))) * 2 ^ (min (Int.toNat (24 : Int)) (IntKind.bits .u32))))) ||| (BitVec.ofInt (IntKind.bits .u32) (IntKind.u32.wrap ((IntKind.u32.wrap (List.getD p1 (Int.toNat (IntKind.i64.wrap ((IntKind.i64.wrap ((4 : Int) * p2)) + (1 : Int)))) (Kd.dflt (Kd.int .u8)))) * 2 ^ (min (Int.toNat (16 : Int)) (IntKind.bits .u32)))))).toNat : Int))) ||| (BitVec.ofInt (IntKind.bits .u32) (IntKind.u32.wrap ((IntKind.u32.wrap (List.getD p1 (Int.toNat (IntKind.i64.wrap ((IntKind.i64.wrap ((4 : Int) * p2)) + (2 : Int)))) (Kd.dflt (Kd.int .u8)))) * 2 ^ (min (Int.toNat (8 : Int)) (IntKind.bits .u32)))))).toNat : Int))) ||| (BitVec.ofInt (IntKind.bits .u32) (IntKind.u32.wrap (List.getD p1 (Int.toNat (IntKind.i64.wrap ((IntKind.i64.wrap ((4 : Int) * p2)) + (3 : Int)))) (Kd.dflt (Kd.int .u8)))))).toNat : Int)))
              else none
            else none
          else none
        else none
      else none
    else
      antiquaryref02_words_l1 k (16 : Int) p3 p4
def antiquaryref02_words (k : Nat) (a1 : List Int) : Option (List Int) :=
  antiquaryref02_words_l0 k a1 (0 : Int) (Kd.dflt (Kd.arr 64 (Kd.int .u32))) (Kd.dflt (Kd.arr 64 (Kd.int .u32)))
theorem antiquaryref02_words_l1_ok (k : Nat) : ∀ (p1 : Int) (p2 : List Int) (p3 : List Int) (r : List Int), antiquaryref02_words_l1 k p1 p2 p3 = some r →
    Abs.Good P 85 Tryd.f85.ntmps [] [] (.v (.p (Kd.arr 64 (Kd.int .u32)) r)) (pos Tryd.f85 [.r, .r, .r, .r, .c false, .r]) [(sk 2, some (.v (.ptr 501001 0))), (sk 3, some (.v (.ptr 501002 0))), (sk 5, some (.v (.p (Kd.int .i64) p1))), (ek 501001, some (.box [.p (Kd.arr 64 (Kd.int .u32)) p2])), (ek 501002, some (.box [.p (Kd.arr 64 (Kd.int .u32)) p3]))] := by
  induction k with
  | zero => intro p1 p2 p3 r h; cases h
  | succ k ih =>
    intro p1 p2 p3 r h
    unfold antiquaryref02_words_l1 at h
    rcases br_inv h with ⟨h962, h⟩ | ⟨h962, h⟩
    · obtain ⟨h963, h⟩ := gd_inv h
      obtain ⟨x964, h965, h⟩ := bind_inv h
      obtain ⟨x966, h967, h⟩ := bind_inv h
      obtain ⟨h968, h⟩ := gd_inv h
      obtain ⟨x969, h970, h⟩ := bind_inv h
      obtain ⟨x971, h972, h⟩ := bind_inv h
      obtain ⟨h973, h⟩ := gd_inv h
      obtain ⟨h974, h⟩ := gd_inv h
      obtain ⟨h975, h⟩ := gd_inv h
      exact Abs.Good.path hm [.reg [], .cond true, .reg [(4, { call := some { lend := [], pass := [], res := .v (.p (Kd.int .u32) x964), outs := [], back := [] } }), (9, { call := some { lend := [], pass := [], res := .v (.p (Kd.int .u32) x966), outs := [], back := [] } })], .reg [(4, { call := some { lend := [], pass := [], res := .v (.p (Kd.int .u32) x969), outs := [], back := [] } }), (9, { call := some { lend := [], pass := [], res := .v (.p (Kd.int .u32) x971), outs := [], back := [] } })], .reg [], .reg [], .keep [sk 2, sk 3, sk 5, ek 501001, ek 501002]] (cs := [_, _, _, _, _, _, _, _, _, _, _, _, _, _, _, _, _, _, _, _, _, _, _, _, _]) (by kernel_rfl) ⟨h962, h963.1, h963.2, (antiquaryref02_rotr_ok k (List.getD p3 (Int.toNat (IntKind.i64.wrap (p1 - (15 : Int)))) (Kd.dflt (Kd.int .u32))) (7 : Int) _ h965), h963.1, h963.2, (antiquaryref02_rotr_ok k (List.getD p3 (Int.toNat (IntKind.i64.wrap (p1 - (15 : Int)))) (Kd.dflt (Kd.int .u32))) (18 : Int) _ h967), h963.1, h963.2, (by decide : 0 ≤ (3 : Int)), h968.1, h968.2, (antiquaryref02_rotr_ok k (List.getD p3 (Int.toNat (IntKind.i64.wrap (p1 - (2 : Int)))) (Kd.dflt (Kd.int .u32))) (17 : Int) _ h970), h968.1, h968.2, (antiquaryref02_rotr_ok k (List.getD p3 (Int.toNat (IntKind.i64.wrap (p1 - (2 : Int)))) (Kd.dflt (Kd.int .u32))) (19 : Int) _ h972), h968.1, h968.2, (by decide : 0 ≤ (10 : Int)), h973.1, h973.2, h974.1, h974.2, h975.1, h975.2, trivial⟩ (ih (IntKind.i64.wrap (p1 + (1 : Int))) p2 (List.set p3 (Int.toNat p1) (IntKind.u32.wrap ((IntKind.u32.wrap ((IntKind.u32.wrap ((List.getD p3 (Int.toNat (IntKind.i64.wrap (p1 - (16 : Int)))) (Kd.dflt (Kd.int .u32))) + (IntKind.u32.wrap (((BitVec.ofInt (IntKind.bits .u32) (IntKind.u32.wrap (((BitVec.ofInt (IntKind.bits .u32) x964) ^^^ (BitVec.ofInt (IntKind.bits .u32) x966)).toNat : Int))) ^^^ (BitVec.ofInt (IntKind.bits .u32) (Int.fdiv (List.getD p3 (Int.toNat (IntKind.i64.wrap (p1 - (15 : Int)))) (Kd.dflt (Kd.int .u32))) (2 ^ (min (Int.toNat (3 : Int)) (IntKind.bits .u32)))))).toNat : Int)))) + (List.getD p3 (Int.toNat (IntKind.i64.wrap (p1 - (7 : Int)))) (Kd.dflt (Kd.int .u32))))) + (IntKind.u32.wrap (((BitVec.ofInt (IntKind.bits .u32) (IntKind.u32.wrap (((BitVec.ofInt (IntKind.bits .u32) x969) ^^^ (BitVec.ofInt (IntKind.bits .u32) x971)).toNat : Int))) ^^^ (BitVec.ofInt (IntKind.bits .u32) (Int.fdiv (List.getD p3 (Int.toNat (IntKind.i64.wrap (p1 - (2 : Int)))) (Kd.dflt (Kd.int .u32))) (2 ^ (min (Int.toNat (10 : Int)) (IntKind.bits .u32)))))).toNat : Int))))) r h)
    · replace h := Option.some.inj h; subst h
      exact Abs.Good.path_ret hm [.reg [], .cond false, .reg []] [] Tryd.func85 (cs := [_]) (by kernel_rfl) ⟨h962, trivial⟩ (by kernel_rfl)
theorem antiquaryref02_words_l0_ok (k : Nat) : ∀ (p1 : List Int) (p2 : Int) (p3 : List Int) (p4 : List Int) (r : List Int), antiquaryref02_words_l0 k p1 p2 p3 p4 = some r →
    Abs.Good P 85 Tryd.f85.ntmps [] [] (.v (.p (Kd.arr 64 (Kd.int .u32)) r)) (pos Tryd.f85 [.r, .r, .r]) [(sk 0, some (.v (.p (Kd.sl (Kd.int .u8)) p1))), (sk 2, some (.v (.ptr 500001 0))), (sk 3, some (.v (.ptr 500002 0))), (sk 4, some (.v (.p (Kd.int .i64) p2))), (ek 500001, some (.box [.p (Kd.arr 64 (Kd.int .u32)) p3])), (ek 500002, some (.box [.p (Kd.arr 64 (Kd.int .u32)) p4]))] := by
  induction k with
  | zero => intro p1 p2 p3 p4 r h; cases h
  | succ k ih =>
    intro p1 p2 p3 p4 r h
    unfold antiquaryref02_words_l0 at h
    rcases br_inv h with ⟨h956, h⟩ | ⟨h956, h⟩
    · obtain ⟨h957, h⟩ := gd_inv h
      obtain ⟨h958, h⟩ := gd_inv h
      obtain ⟨h959, h⟩ := gd_inv h
      obtain ⟨h960, h⟩ := gd_inv h
      obtain ⟨h961, h⟩ := gd_inv h
      exact Abs.Good.path hm [.reg [], .cond true, .reg [], .reg [], .keep [sk 0, sk 2, sk 3, sk 4, ek 500001, ek 500002]] (cs := [_, _, _, _, _, _, _, _, _, _, _, _, _, _]) (by kernel_rfl) ⟨h956, h957.1, h957.2, (by decide : 0 ≤ (24 : Int)), h958.1, h958.2, (by decide : 0 ≤ (16 : Int)), h959.1, h959.2, (by decide : 0 ≤ (8 : Int)), h960.1, h960.2, h961.1, h961.2, trivial⟩ (ih p1 (IntKind.i64.wrap (p2 + (1 : Int))) p3 (List.set p4 (Int.toNat p2) (IntKind.u32.wrap (((BitVec.ofInt (IntKind.bits .u32) (IntKind.u32.wrap (((BitVec.ofInt (IntKind.bits .u32) (IntKind.u32.wrap (((BitVec.ofInt (IntKind.bits .u32) (IntKind.u32.wrap ((IntKind.u32.wrap (List.getD p1 (Int.toNat (IntKind.i64.wrap ((4 : Int) * p2))) (Kd.dflt (Kd.int .u8)))) * 2 ^ (min (Int.toNat (24 : Int)) (IntKind.bits .u32))))) ||| (BitVec.ofInt (IntKind.bits .u32) (IntKind.u32.wrap ((IntKind.u32.wrap (List.getD p1 (Int.toNat (IntKind.i64.wrap ((IntKind.i64.wrap ((4 : Int) * p2)) + (1 : Int)))) (Kd.dflt (Kd.int .u8)))) * 2 ^ (min (Int.toNat (16 : Int)) (IntKind.bits .u32)))))).toNat : Int))) ||| (BitVec.ofInt (IntKind.bits .u32) (IntKind.u32.wrap ((IntKind.u32.wrap (List.getD p1 (Int.toNat (IntKind.i64.wrap ((IntKind.i64.wrap ((4 : Int) * p2)) + (2 : Int)))) (Kd.dflt (Kd.int .u8)))) * 2 ^ (min (Int.toNat (8 : Int)) (IntKind.bits .u32)))))).toNat : Int))) ||| (BitVec.ofInt (IntKind.bits .u32) (IntKind.u32.wrap (List.getD p1 (Int.toNat (IntKind.i64.wrap ((IntKind.i64.wrap ((4 : Int) * p2)) + (3 : Int)))) (Kd.dflt (Kd.int .u8)))))).toNat : Int))) r h)
    · exact Abs.Good.path hm [.reg [], .cond false, .reg [], .keep [sk 2, sk 3, sk 5, ek 500001, ek 500002], .ren [(500001, 501001), (500002, 501002)]] (cs := [_]) (by kernel_rfl) ⟨h956, trivial⟩ (antiquaryref02_words_l1_ok k (16 : Int) p3 p4 r h)
theorem antiquaryref02_words_ok (k : Nat) (a1 : List Int) (r : List Int) (h : antiquaryref02_words k a1 = some r) : SpecOk P ⟨85, [.p (Kd.sl (Kd.int .u8)) a1], [], .v (.p (Kd.arr 64 (Kd.int .u32)) r), []⟩ := by
  refine spec_at Tryd.func85 (by kernel_rfl) (Nat.le_of_ble_eq_true (by kernel_rfl)) ?_
  unfold antiquaryref02_words at h
  exact Abs.Good.path hm [.reg [], .reg [], .reg [], .keep [sk 0, sk 2, sk 3, sk 4, ek 2, ek 3], .ren [(2, 500001), (3, 500002)]] (cs := []) (by kernel_rfl) trivial (antiquaryref02_words_l0_ok k a1 (0 : Int) (Kd.dflt (Kd.arr 64 (Kd.int .u32))) (Kd.dflt (Kd.arr 64 (Kd.int .u32))) r h)

def antiquaryref02_Sum_l2 : Nat → Int → List Int → List Int → List Int → Option (List Int)
  | 0, _, _, _, _ => none
  | k + 1, p1, p2, p3, p4 =>
    if (decide (p1 < (32 : Int))) = true then
      if 0 ≤ (IntKind.i64.wrap (Int.tdiv p1 (4 : Int))) ∧ (IntKind.i64.wrap (Int.tdiv p1 (4 : Int))) < (8 : Int) then
        if 0 ≤ (IntKind.i64.wrap ((24 : Int) - (IntKind.i64.wrap ((8 : Int) * (Int.tmod p1 (4 : Int)))))) then
          if 0 ≤ p1 ∧ p1 < (32 : Int) then
            antiquaryref02_Sum_l2 k (IntKind.i64.wrap (p1 + (1 : Int))) p2 p3 (List.set p4 (Int.toNat p1) (IntKind.u8.wrap (Int.fdiv (List.getD p3 (Int.toNat (IntKind.i64.wrap (Int.tdiv p1 (4 : Int)))) (Kd.dflt (Kd.int .u32))) (2 ^ (min (Int.toNat (IntKind.i64.wrap ((24 : Int) - (IntKind.i64.wrap ((8 : Int) * (Int.tmod p1 (4 : Int))))))) (IntKind.bits .u32))))))
          else none
        else none
      else none
    else
      some (p4)
def antiquaryref02_Sum_l3 (s0 : List Int → Int → List Int → List Int → Option (List Int)) : Nat → List Int → Int → Int → List Int → List Int → List Int → Option (List Int)
  | 0, _, _, _, _, _, _ => none
  | k + 1, p1, p2, p3, p4, p5, p6 =>
    if (decide (p3 < (8 : Int))) = true then
      if 0 ≤ p3 ∧ p3 < (8 : Int) then
        antiquaryref02_Sum_l3 s0 k p1 p2 (IntKind.i64.wrap (p3 + (1 : Int))) p4 (List.set p5 (Int.toNat p3) (IntKind.u32.wrap ((List.getD p5 (Int.toNat p3) (Kd.dflt (Kd.int .u32))) + (List.getD p6 (Int.toNat p3) (Kd.dflt (Kd.int .u32)))))) p6
      else none
    else
      s0 p1 (IntKind.i64.wrap (p2 + (64 : Int))) p4 p5
def antiquaryref02_Sum_l1 (s0 : List Int → Int → List Int → List Int → Option (List Int)) : Nat → List Int → Int → Int → List Int → List Int → List Int → List Int → Option (List Int)
  | 0, _, _, _, _, _, _, _ => none
  | k + 1, p1, p2, p3, p4, p5, p6, p7 =>
    if (decide (p3 < (64 : Int))) = true then
      Option.bind (antiquaryref02_rotr k (List.getD p7 (4) (Kd.dflt (Kd.int .u32))) (6 : Int)) fun x1035 =>
      Option.bind (antiquaryref02_rotr k (List.getD p7 (4) (Kd.dflt (Kd.int .u32))) (11 : Int)) fun x1037 =>
      Option.bind (antiquaryref02_rotr k (List.getD p7 (4) (Kd.dflt (Kd.int .u32))) (25 : Int)) fun x1039 =>
      if 0 ≤ p3 ∧ p3 < (64 : Int) then
        Option.bind (antiquaryref02_rotr k (List.getD p7 (0) (Kd.dflt (Kd.int .u32))) (2 : Int)) fun x1042 =>
        Option.bind (antiquaryref02_rotr k (List.getD p7 (0) (Kd.dflt (Kd.int .u32))) (13 : Int)) fun x1044 =>
        Option.bind (antiquaryref02_rotr k (List.getD p7 (0) (Kd.dflt (Kd.int .u32))) (22 : Int)) fun x1046 =>
        antiquaryref02_Sum_l1 s0 k p1 p2 (IntKind.i64.wrap (p3 + (1 : Int))) p4 p5 p6 ([(IntKind.u32.wrap ((IntKind.u32.wrap ((IntKind.u32.wrap ((IntKind.u32.wrap ((IntKind.u32.wrap ((List.getD p7 (7) (Kd.dflt (Kd.int .u32))) + (IntKind.u32.wrap (((BitVec.ofInt (IntKind.bits .u32) (IntKind.u32.wrap (((BitVec.ofInt (IntKind.bits .u32) x1035) ^^^ (BitVec.ofInt (IntKind.bits .u32) x1037)).toNat : Int))) ^^^ (BitVec.ofInt (IntKind.bits .u32) x1039)).toNat : Int)))) + (IntKind.u32.wrap (((BitVec.ofInt (IntKind.bits .u32) (IntKind.u32.wrap (((BitVec.ofInt (IntKind.bits .u32) (List.getD p7 (4) (Kd.dflt (Kd.int .u32)))) &&& (BitVec.ofInt (IntKind.bits .u32) (List.getD p7 (5) (Kd.dflt (Kd.int .u32))))).toNat : Int))) ^^^ (BitVec.ofInt (IntKind.bits .u32) (IntKind.u32.wrap (((BitVec.ofInt (IntKind.bits .u32) (IntKind.u32.wrap (((BitVec.ofInt (IntKind.bits .u32) (List.getD p7 (4) (Kd.dflt (Kd.int .u32)))) ^^^ (BitVec.ofInt (IntKind.bits .u32) (4294967295 : Int))).toNat : Int))) &&& (BitVec.ofInt (IntKind.bits .u32) (List.getD p7 (6) (Kd.dflt (Kd.int .u32))))).toNat : Int)))).toNat : Int)))) + (List.getD gK2 (Int.toNat p3) (Kd.dflt (Kd.int .u32))))) + (List.getD p6 (Int.toNat p3) (Kd.dflt (Kd.int .u32))))) + (IntKind.u32.wrap ((IntKind.u32.wrap (((BitVec.ofInt (IntKind.bits .u32) (IntKind.u32.wrap (((BitVec.ofInt (IntKind.bits .u32) x1042) ^^^ (BitVec.ofInt (IntKind.bits .u32) x1044)).toNat : Int))) ^^^ (BitVec.ofInt (IntKind.bits .u32) x1046)).toNat : Int)) + (IntKind.u32.wrap (((BitVec.ofInt (IntKind.bits .u32) (IntKind.u32.wrap (((BitVec.ofInt (IntKind.bits .u32) (IntKind.u32.wrap (((BitVec.ofInt (IntKind.bits .u32) (List.getD p7 (0) (Kd.dflt (Kd.int .u32)))) &&& (BitVec.ofInt (IntKind.bits .u32) (List.getD p7 (1) (Kd.dflt (Kd.int .u32))))).toNat : Int))) ^^^ (BitVec.ofInt (IntKind.bits .u32) (IntKind.u32.wrap (((BitVec.ofInt (IntKind.bits .u32) (List.getD p7 (0) (Kd.dflt (Kd.int .u32)))) &&& (BitVec.ofInt (IntKind.bits .u32) (List.getD p7 (2) (Kd.dflt (Kd.int .u32))))).toNat : Int)))).toNat : Int))) ^^^ (BitVec.ofInt (IntKind.bits .u32) (IntKind.u32.wrap (((BitVec.ofInt (IntKind.bits .u32) (List.getD p7 (1) (Kd.dflt (Kd.int .u32)))) &&& (BitVec.ofInt (IntKind.bits .u32) (List.getD p7 (2) (Kd.dflt (Kd.int .u32))))).toNat : Int)))).toNat : Int)))))), (List.getD p7 (0) (Kd.dflt (Kd.int .u32))), (List.getD p7 (1) (Kd.dflt (Kd.int .u32))), (List.getD p7 (2) (Kd.dflt (Kd.int .u32))), (IntKind.u32.wrap ((List.getD p7 (3) (Kd.dflt (Kd.int .u32))) + (IntKind.u32.wrap ((IntKind.u32.wrap ((IntKind.u32.wrap ((IntKind.u32.wrap ((List.getD p7 (7) (Kd.dflt (Kd.int .u32))) + (IntKind.u32.wrap (((BitVec.ofInt (IntKind.bits .u32) (IntKind.u32.wrap (((BitVec.ofInt (IntKind.bits .u32) x1035) ^^^ (BitVec.ofInt (IntKind.bits .u32) x1037)).toNat : Int))) ^^^ (BitVec.ofInt (IntKind.bits .u32) x1039)).toNat : Int)))) + (IntKind.u32.wrap (((BitVec.ofInt (IntKind.bits .u32) (IntKind.u32.wrap (((BitVec.ofInt (IntKind.bits .u32) (List.getD p7 (4) (Kd.dflt (Kd.int .u32)))) &&& (BitVec.ofInt (IntKind.bits .u32) (List.getD p7 (5) (Kd.dflt (Kd.int .u32))))).toNat : Int))) ^^^ (BitVec.ofInt (IntKind.bits .u32) (IntKind.u32.wrap (((BitVec.ofInt (IntKind.bits .u32) (IntKind.u32.wrap (((BitVec.ofInt (IntKind.bits .u32) (List.getD p7 (4) (Kd.dflt (Kd.int .u32)))) ^^^ (BitVec.ofInt (IntKind.bits .u32) (4294967295 : Int))).toNat : Int))) &&& (BitVec.ofInt (IntKind.bits .u32) (List.getD p7 (6) (Kd.dflt (Kd.int .u32))))).toNat : Int)))).toNat : Int)))) + (List.getD gK2 (Int.toNat p3) (Kd.dflt (Kd.int .u32))))) + (List.getD p6 (Int.toNat p3) (Kd.dflt (Kd.int .u32))))))), (List.getD p7 (4) (Kd.dflt (Kd.int .u32))), (List.getD p7 (5) (Kd.dflt (Kd.int .u32))), (List.getD p7 (6) (Kd.dflt (Kd.int .u32)))] : List Int)
      else none
    else
      antiquaryref02_Sum_l3 s0 k p1 p2 (0 : Int) p4 p5 p7
def antiquaryref02_Sum_l0 : Nat → List Int → Int → List Int → List Int → Option (List Int)
  | 0, _, _, _, _ => none
  | k + 1, p1, p2, p3, p4 =>
    if (decide (p2 < (List.length p1 : Int))) = true then
      if 0 ≤ (IntKind.i64.wrap (p2 + (64 : Int))) ∧ (IntKind.i64.wrap (p2 + (64 : Int))) ≤ (List.length p1 : Int) ∧ 0 ≤ p2 ∧ p2 ≤ (IntKind.i64.wrap (p2 + (64 : Int))) then
        Option.bind (antiquaryref02_words k (List.drop (Int.toNat p2) (List.take (Int.toNat (IntKind.i64.wrap (p2 + (64 : Int)))) p1))) fun x1032 =>
        antiquaryref02_Sum_l1 (antiquaryref02_Sum_l0 k) k p1 p2 (0 : Int) p3 p4 x1032 p4
      else none
    else
      antiquaryref02_Sum_l2 k (0 : Int) p3 p4 (Kd.dflt (Kd.arr 32 (Kd.int .u8)))
def antiquaryref02_Sum (k : Nat) (a1 : List Int) : Option (List Int) :=
  Option.bind (antiquaryref02_padded k a1) fun x1028 =>
  antiquaryref02_Sum_l0 k x1028 (0 : Int) (Kd.dflt (Kd.arr 32 (Kd.int .u8))) ([(1779033703 : Int), (3144134277 : Int), (1013904242 : Int), (2773480762 : Int), (1359893119 : Int), (2600822924 : Int), (528734635 : Int), (1541459225 : Int)] : List Int)
theorem antiquaryref02_Sum_l2_ok (k : Nat) : ∀ (p1 : Int) (p2 : List Int) (p3 : List Int) (p4 : List Int) (r : List Int), antiquaryref02_Sum_l2 k p1 p2 p3 p4 = some r →
    Abs.Good P 79 Tryd.f79.ntmps [] [] (.v (.p (Kd.arr 32 (Kd.int .u8)) r)) (pos Tryd.f79 [.r, .r, .r, .r, .r, .c false, .r, .r]) [(sk 2, some (.v (.ptr 502001 0))), (sk 3, some (.v (.ptr 502002 0))), (sk 12, some (.v (.ptr 502003 0))), (sk 13, some (.v (.p (Kd.int .i64) p1))), (ek 502001, some (.box [.p (Kd.arr 32 (Kd.int .u8)) p2])), (ek 502002, some (.box [.p (Kd.arr 8 (Kd.int .u32)) p3])), (ek 502003, some (.box [.p (Kd.arr 32 (Kd.int .u8)) p4]))] := by
  induction k with
  | zero => intro p1 p2 p3 p4 r h; cases h
  | succ k ih =>
    intro p1 p2 p3 p4 r h
    unfold antiquaryref02_Sum_l2 at h
    rcases br_inv h with ⟨h1048, h⟩ | ⟨h1048, h⟩
    · obtain ⟨h1049, h⟩ := gd_inv h
      obtain ⟨h1050, h⟩ := gd_inv h
      obtain ⟨h1051, h⟩ := gd_inv h
      exact Abs.Good.path hm [.reg [], .cond true, .reg [], .reg [], .keep [sk 2, sk 3, sk 12, sk 13, ek 502001, ek 502002, ek 502003]] (cs := [_, _, _, _, _, _, _, _]) (by kernel_rfl) ⟨h1048, (by decide : (4 : Int) ≠ 0), h1049.1, h1049.2, (by decide : (4 : Int) ≠ 0), h1050, h1051.1, h1051.2, trivial⟩ (ih (IntKind.i64.wrap (p1 + (1 : Int))) p2 p3 (List.set p4 (Int.toNat p1) (IntKind.u8.wrap (Int.fdiv (List.getD p3 (Int.toNat (IntKind.i64.wrap (Int.tdiv p1 (4 : Int)))) (Kd.dflt (Kd.int .u32))) (2 ^ (min (Int.toNat (IntKind.i64.wrap ((24 : Int) - (IntKind.i64.wrap ((8 : Int) * (Int.tmod p1 (4 : Int))))))) (IntKind.bits .u32)))))) r h)
    · replace h := Option.some.inj h; subst h
      exact Abs.Good.path_ret hm [.reg [], .cond false, .reg []] [] Tryd.func79 (cs := [_]) (by kernel_rfl) ⟨h1048, trivial⟩ (by kernel_rfl)
theorem antiquaryref02_Sum_l3_ok (s0 : List Int → Int → List Int → List Int → Option (List Int)) (hs0 : ∀ (p1 : List Int) (p2 : Int) (p3 : List Int) (p4 : List Int) (r : List Int), s0 p1 p2 p3 p4 = some r → Abs.Good P 79 Tryd.f79.ntmps [] [] (.v (.p (Kd.arr 32 (Kd.int .u8)) r)) (pos Tryd.f79 [.r, .r, .r, .r]) [(sk 2, some (.v (.ptr 500001 0))), (sk 3, some (.v (.ptr 500002 0))), (sk 4, some (.v (.p (Kd.sl (Kd.int .u8)) p1))), (sk 5, some (.v (.p (Kd.int .i64) p2))), (ek 500001, some (.box [.p (Kd.arr 32 (Kd.int .u8)) p3])), (ek 500002, some (.box [.p (Kd.arr 8 (Kd.int .u32)) p4]))]) (k : Nat) : ∀ (p1 : List Int) (p2 : Int) (p3 : Int) (p4 : List Int) (p5 : List Int) (p6 : List Int) (r : List Int), antiquaryref02_Sum_l3 s0 k p1 p2 p3 p4 p5 p6 = some r →
    Abs.Good P 79 Tryd.f79.ntmps [] [] (.v (.p (Kd.arr 32 (Kd.int .u8)) r)) (pos Tryd.f79 [.r, .r, .r, .r, .r, .c true, .r, .r, .r, .r, .c false, .r]) [(sk 2, some (.v (.ptr 503001 0))), (sk 3, some (.v (.ptr 503002 0))), (sk 4, some (.v (.p (Kd.sl (Kd.int .u8)) p1))), (sk 5, some (.v (.p (Kd.int .i64) p2))), (sk 7, some (.v (.ptr 503003 0))), (sk 11, some (.v (.p (Kd.int .i64) p3))), (ek 503001, some (.box [.p (Kd.arr 32 (Kd.int .u8)) p4])), (ek 503002, some (.box [.p (Kd.arr 8 (Kd.int .u32)) p5])), (ek 503003, some (.box [.p (Kd.arr 8 (Kd.int .u32)) p6]))] := by
  induction k with
  | zero => intro p1 p2 p3 p4 p5 p6 r h; cases h
  | succ k ih =>
    intro p1 p2 p3 p4 p5 p6 r h
    unfold antiquaryref02_Sum_l3 at h
    rcases br_inv h with ⟨h1052, h⟩ | ⟨h1052, h⟩
    · obtain ⟨h1053, h⟩ := gd_inv h
      exact Abs.Good.path hm [.reg [], .cond true, .reg [], .reg [], .keep [sk 2, sk 3, sk 4, sk 5, sk 7, sk 11, ek 503001, ek 503002, ek 503003]] (cs := [_, _, _, _, _, _, _]) (by kernel_rfl) ⟨h1052, h1053.1, h1053.2, h1053.1, h1053.2, h1053.1, h1053.2, trivial⟩ (ih p1 p2 (IntKind.i64.wrap (p3 + (1 : Int))) p4 (List.set p5 (Int.toNat p3) (IntKind.u32.wrap ((List.getD p5 (Int.toNat p3) (Kd.dflt (Kd.int .u32))) + (List.getD p6 (Int.toNat p3) (Kd.dflt (Kd.int .u32)))))) p6 r h)
    · exact Abs.Good.path hm [.reg [], .cond false, .reg [], .keep [sk 2, sk 3, sk 4, sk 5, ek 503001, ek 503002], .ren [(503001, 500001), (503002, 500002)]] (cs := [_]) (by kernel_rfl) ⟨h1052, trivial⟩ (hs0 p1 (IntKind.i64.wrap (p2 + (64 : Int))) p4 p5 r h)
theorem antiquaryref02_Sum_l1_ok (s0 : List Int → Int → List Int → List Int → Option (List Int)) (hs0 : ∀ (p1 : List Int) (p2 : Int) (p3 : List Int) (p4 : List Int) (r : List Int), s0 p1 p2 p3 p4 = some r → Abs.Good P 79 Tryd.f79.ntmps [] [] (.v (.p (Kd.arr 32 (Kd.int .u8)) r)) (pos Tryd.f79 [.r, .r, .r, .r]) [(sk 2, some (.v (.ptr 500001 0))), (sk 3, some (.v (.ptr 500002 0))), (sk 4, some (.v (.p (Kd.sl (Kd.int .u8)) p1))), (sk 5, some (.v (.p (Kd.int .i64) p2))), (ek 500001, some (.box [.p (Kd.arr 32 (Kd.int .u8)) p3])), (ek 500002, some (.box [.p (Kd.arr 8 (Kd.int .u32)) p4]))]) (k : Nat) : ∀ (p1 : List Int) (p2 : Int) (p3 : Int) (p4 : List Int) (p5 : List Int) (p6 : List Int) (p7 : List Int) (r : List Int), antiquaryref02_Sum_l1 s0 k p1 p2 p3 p4 p5 p6 p7 = some r →
    Abs.Good P 79 Tryd.f79.ntmps [] [] (.v (.p (Kd.arr 32 (Kd.int .u8)) r)) (pos Tryd.f79 [.r, .r, .r, .r, .r, .c true, .r, .r, .r]) [(sk 2, some (.v (.ptr 501001 0))), (sk 3, some (.v (.ptr 501002 0))), (sk 4, some (.v (.p (Kd.sl (Kd.int .u8)) p1))), (sk 5, some (.v (.p (Kd.int .i64) p2))), (sk 6, some (.v (.ptr 501003 0))), (sk 7, some (.v (.ptr 501004 0))), (sk 8, some (.v (.p (Kd.int .i64) p3))), (ek 501001, some (.box [.p (Kd.arr 32 (Kd.int .u8)) p4])), (ek 501002, some (.box [.p (Kd.arr 8 (Kd.int .u32)) p5])), (ek 501003, some (.box [.p (Kd.arr 64 (Kd.int .u32)) p6])), (ek 501004, some (.box [.p (Kd.arr 8 (Kd.int .u32)) p7]))] := by
  induction k with
  | zero => intro p1 p2 p3 p4 p5 p6 p7 r h; cases h
  | succ k ih =>
    intro p1 p2 p3 p4 p5 p6 p7 r h
    unfold antiquaryref02_Sum_l1 at h
    rcases br_inv h with ⟨h1034, h⟩ | ⟨h1034, h⟩
    · obtain ⟨x1035, h1036, h⟩ := bind_inv h
      obtain ⟨x1037, h1038, h⟩ := bind_inv h
      obtain ⟨x1039, h1040, h⟩ := bind_inv h
      obtain ⟨h1041, h⟩ := gd_inv h
      obtain ⟨x1042, h1043, h⟩ := bind_inv h
      obtain ⟨x1044, h1045, h⟩ := bind_inv h
      obtain ⟨x1046, h1047, h⟩ := bind_inv h
      exact Abs.Good.path hm [.reg [], .cond true, .reg [(4, { call := some { lend := [], pass := [], res := .v (.p (Kd.int .u32) x1035), outs := [], back := [] } }), (7, { call := some { lend := [], pass := [], res := .v (.p (Kd.int .u32) x1037), outs := [], back := [] } }), (11, { call := some { lend := [], pass := [], res := .v (.p (Kd.int .u32) x1039), outs := [], back := [] } })], .reg [(2, { call := some { lend := [], pass := [], res := .v (.p (Kd.int .u32) x1042), outs := [], back := [] } }), (5, { call := some { lend := [], pass := [], res := .v (.p (Kd.int .u32) x1044), outs := [], back := [] } }), (9, { call := some { lend := [], pass := [], res := .v (.p (Kd.int .u32) x1046), outs := [], back := [] } })], .reg [], .reg [], .keep [sk 2, sk 3, sk 4, sk 5, sk 6, sk 7, sk 8, ek 501001, ek 501002, ek 501003, ek 501004]] (cs := [_, _, _, _, _, _, _, _, _, _, _, _, _, _, _, _, _, _, _, _, _, _, _, _, _, _, _, _, _, _, _, _, _, _, _, _, _, _, _, _, _, _, _, _, _, _, _, _, _, _, _, _, _, _, _, _, _, _, _]) (by kernel_rfl) ⟨h1034, (by decide : 0 ≤ (7 : Int)), (by decide : (7 : Int) < (8 : Int)), (by decide : 0 ≤ (4 : Int)), (by decide : (4 : Int) < (8 : Int)), (antiquaryref02_rotr_ok k (List.getD p7 (4) (Kd.dflt (Kd.int .u32))) (6 : Int) _ h1036), (by decide : 0 ≤ (4 : Int)), (by decide : (4 : Int) < (8 : Int)), (antiquaryref02_rotr_ok k (List.getD p7 (4) (Kd.dflt (Kd.int .u32))) (11 : Int) _ h1038), (by decide : 0 ≤ (4 : Int)), (by decide : (4 : Int) < (8 : Int)), (antiquaryref02_rotr_ok k (List.getD p7 (4) (Kd.dflt (Kd.int .u32))) (25 : Int) _ h1040), (by decide : 0 ≤ (4 : Int)), (by decide : (4 : Int) < (8 : Int)), (by decide : 0 ≤ (5 : Int)), (by decide : (5 : Int) < (8 : Int)), (by decide : 0 ≤ (4 : Int)), (by decide : (4 : Int) < (8 : Int)), (by decide : 0 ≤ (6 : Int)), (by decide : (6 : Int) < (8 : Int)), h1041.1, h1041.2, h1041.1, h1041.2, (by decide : 0 ≤ (0 : Int)), (by decide : (0 : Int) < (8 : Int)), (antiquaryref02_rotr_ok k (List.getD p7 (0) (Kd.dflt (Kd.int .u32))) (2 : Int) _ h1043), (by decide : 0 ≤ (0 : Int)), (by decide : (0 : Int) < (8 : Int)), (antiquaryref02_rotr_ok k (List.getD p7 (0) (Kd.dflt (Kd.int .u32))) (13 : Int) _ h1045), (by decide : 0 ≤ (0 : Int)), (by decide : (0 : Int) < (8 : Int)), (antiquaryref02_rotr_ok k (List.getD p7 (0) (Kd.dflt (Kd.int .u32))) (22 : Int) _ h1047), (by decide : 0 ≤ (0 : Int)), (by decide : (0 : Int) < (8 : Int)), (by decide : 0 ≤ (1 : Int)), (by decide : (1 : Int) < (8 : Int)), (by decide : 0 ≤ (0 : Int)), (by decide : (0 : Int) < (8 : Int)), (by decide : 0 ≤ (2 : Int)), (by decide : (2 : Int) < (8 : Int)), (by decide : 0 ≤ (1 : Int)), (by decide : (1 : Int) < (8 : Int)), (by decide : 0 ≤ (2 : Int)), (by decide : (2 : Int) < (8 : Int)), (by decide : 0 ≤ (0 : Int)), (by decide : (0 : Int) < (8 : Int)), (by decide : 0 ≤ (1 : Int)), (by decide : (1 : Int) < (8 : Int)), (by decide : 0 ≤ (2 : Int)), (by decide : (2 : Int) < (8 : Int)), (by decide : 0 ≤ (3 : Int)), (by decide : (3 : Int) < (8 : Int)), (by decide : 0 ≤ (4 : Int)), (by decide : (4 : Int) < (8 : Int)), (by decide : 0 ≤ (5 : Int)), (by decide : (5 : Int) < (8 : Int)), (by decide : 0 ≤ (6 : Int)), (by decide : (6 : Int) < (8 : Int)), trivial⟩ (ih p1 p2 (IntKind.i64.wrap (p3 + (1 : Int))) p4 p5 p6 ([(IntKind.u32.wrap ((IntKind.u32.wrap ((IntKind.u32.wrap ((IntKind.u32.wrap ((IntKind.u32.wrap ((List.getD p7 (7) (Kd.dflt (Kd.int .u32))) + (IntKind.u32.wrap (((BitVec.ofInt (IntKind.bits .u32) (IntKind.u32.wrap (((BitVec.ofInt (IntKind.bits .u32) x1035) ^^^ (BitVec.ofInt (IntKind.bits .u32) x1037)).toNat : Int))) ^^^ (BitVec.ofInt (IntKind.bits .u32) x1039)).toNat : Int)))) + (IntKind.u32.wrap (((BitVec.ofInt (IntKind.bits .u32) (IntKind.u32.wrap (((BitVec.ofInt (IntKind.bits .u32) (List.getD p7 (4) (Kd.dflt (Kd.int .u32)))) &&& (BitVec.ofInt (IntKind.bits .u32) (List.getD p7 (5) (Kd.dflt (Kd.int .u32))))).toNat : Int))) ^^^ (BitVec.ofInt (IntKind.bits .u32) (IntKind.u32.wrap (((BitVec.ofInt (IntKind.bits .u32) (IntKind.u32.wrap (((BitVec.ofInt (IntKind.bits .u32) (List.getD p7 (4) (Kd.dflt (Kd.int .u32)))) ^^^ (BitVec.ofInt (IntKind.bits .u32) (4294967295 : Int))).toNat : Int))) &&& (BitVec.ofInt (IntKind.bits .u32) (List.getD p7 (6) (Kd.dflt (Kd.int .u32))))).toNat : Int)))).toNat : Int)))) + (List.getD gK2 (Int.toNat p3) (Kd.dflt (Kd.int .u32))))) + (List.getD p6 (Int.toNat p3) (Kd.dflt (Kd.int .u32))))) + (IntKind.u32.wrap ((IntKind.u32.wrap (((BitVec.ofInt (IntKind.bits .u32) (IntKind.u32.wrap (((BitVec.ofInt (IntKind.bits .u32) x1042) ^^^ (BitVec.ofInt (IntKind.bits .u32) x1044)).toNat : Int))) ^^^ (BitVec.ofInt (IntKind.bits .u32) x1046)).toNat : Int)) + (IntKind.u32.wrap (((BitVec.ofInt (IntKind.bits .u32) (IntKind.u32.wrap (((BitVec.ofInt (IntKind.bits .u32) (IntKind.u32.wrap (((BitVec.ofInt (IntKind.bits .u32) (List.getD p7 (0) (Kd.dflt (Kd.int .u32)))) &&& (BitVec.ofInt (IntKind.bits .u32) (List.getD p7 (1) (Kd.dflt (Kd.int .u32))))).toNat : Int))) ^^^ (BitVec.ofInt (IntKind.bits .u32) (IntKind.u32.wrap (((BitVec.ofInt (IntKind.bits .u32) (List.getD p7 (0) (Kd.dflt (Kd.int .u32)))) &&& (BitVec.ofInt (IntKind.bits .u32) (List.getD p7 (2) (Kd.dflt (Kd.int .u32))))).toNat : Int)))).toNat : Int))) ^^^ (BitVec.ofInt (IntKind.bits .u32) (IntKind.u32.wrap (((BitVec.ofInt (IntKind.bits .u32) (List.getD p7 (1) (Kd.dflt (Kd.int .u32)))) &&& (BitVec.ofInt (IntKind.bits .u32) (List.getD p7 (2) (Kd.dflt (Kd.int .u32))))).toNat : Int)))).toNat : Int)))))), (List.getD p7 (0) (Kd.dflt (Kd.int .u32))), (List.getD p7 (1) (Kd.dflt (Kd.int .u32))), (List.getD p7 (2) (Kd.dflt (Kd.int .u32))), (IntKind.u32.wrap ((List.getD p7 (3) (Kd.dflt (Kd.int .u32))) + (IntKind.u32.wrap ((IntKind.u32.wrap ((IntKind.u32.wrap ((IntKind.u32.wrap ((List.getD p7 (7) (Kd.dflt (Kd.int .u32))) + (IntKind.u32.wrap (((BitVec.ofInt (IntKind.bits .u32) (IntKind.u32.wrap (((BitVec.ofInt (IntKind.bits .u32) x1035) ^^^ (BitVec.ofInt (IntKind.bits .u32) x1037)).toNat : Int))) ^^^ (BitVec.ofInt (IntKind.bits .u32) x1039)).toNat : Int)))) + (IntKind.u32.wrap (((BitVec.ofInt (IntKind.bits .u32) (IntKind.u32.wrap (((BitVec.ofInt (IntKind.bits .u32) (List.getD p7 (4) (Kd.dflt (Kd.int .u32)))) &&& (BitVec.ofInt (IntKind.bits .u32) (List.getD p7 (5) (Kd.dflt (Kd.int .u32))))).toNat : Int))) ^^^ (BitVec.ofInt (IntKind.bits .u32) (IntKind.u32.wrap (((BitVec.ofInt (IntKind.bits .u32) (IntKind.u32.wrap (((BitVec.ofInt (IntKind.bits .u32) (List.getD p7 (4) (Kd.dflt (Kd.int .u32)))) ^^^ (BitVec.ofInt (IntKind.bits .u32) (4294967295 : Int))).toNat : Int))) &&& (BitVec.ofInt (IntKind.bits .u32) (List.getD p7 (6) (Kd.dflt (Kd.int .u32))))).toNat : Int)))).toNat : Int)))) + (List.getD gK2 (Int.toNat p3) (Kd.dflt (Kd.int .u32))))) + (List.getD p6 (Int.toNat p3) (Kd.dflt (Kd.int .u32))))))), (List.getD p7 (4) (Kd.dflt (Kd.int .u32))), (List.getD p7 (5) (Kd.dflt (Kd.int .u32))), (List.getD p7 (6) (Kd.dflt (Kd.int .u32)))] : List Int) r h)
    · exact Abs.Good.path hm [.reg [], .cond false, .reg [], .keep [sk 2, sk 3, sk 4, sk 5, sk 7, sk 11, ek 501001, ek 501002, ek 501004], .ren [(501001, 503001), (501002, 503002), (501004, 503003)]] (cs := [_]) (by kernel_rfl) ⟨h1034, trivial⟩ (antiquaryref02_Sum_l3_ok s0 hs0 k p1 p2 (0 : Int) p4 p5 p7 r h)
theorem antiquaryref02_Sum_l0_ok (k : Nat) : ∀ (p1 : List Int) (p2 : Int) (p3 : List Int) (p4 : List Int) (r : List Int), antiquaryref02_Sum_l0 k p1 p2 p3 p4 = some r →
    Abs.Good P 79 Tryd.f79.ntmps [] [] (.v (.p (Kd.arr 32 (Kd.int .u8)) r)) (pos Tryd.f79 [.r, .r, .r, .r]) [(sk 2, some (.v (.ptr 500001 0))), (sk 3, some (.v (.ptr 500002 0))), (sk 4, some (.v (.p (Kd.sl (Kd.int .u8)) p1))), (sk 5, some (.v (.p (Kd.int .i64) p2))), (ek 500001, some (.box [.p (Kd.arr 32 (Kd.int .u8)) p3])), (ek 500002, some (.box [.p (Kd.arr 8 (Kd.int .u32)) p4]))] := by
  induction k with
  | zero => intro p1 p2 p3 p4 r h; cases h
  | succ k ih =>
    intro p1 p2 p3 p4 r h
    unfold antiquaryref02_Sum_l0 at h
    rcases br_inv h with ⟨h1030, h⟩ | ⟨h1030, h⟩
    · obtain ⟨h1031, h⟩ := gd_inv h
      obtain ⟨x1032, h1033, h⟩ := bind_inv h
      exact Abs.Good.path hm [.reg [], .cond true, .reg [(5, { call := some { lend := [], pass := [], res := .v (.p (Kd.arr 64 (Kd.int .u32)) x1032), outs := [], back := [] } })], .reg [], .reg [], .keep [sk 2, sk 3, sk 4, sk 5, sk 6, sk 7, sk 8, ek 500001, ek 500002, ek 6, ek 7], .ren [(500001, 501001), (500002, 501002), (6, 501003), (7, 501004)]] (cs := [_, _, _, _, _, _]) (by kernel_rfl) ⟨h1030, h1031.1, h1031.2.1, h1031.2.2.1, h1031.2.2.2, (antiquaryref02_words_ok k (List.drop (Int.toNat p2) (List.take (Int.toNat (IntKind.i64.wrap (p2 + (64 : Int)))) p1)) _ h1033), trivial⟩ (antiquaryref02_Sum_l1_ok (antiquaryref02_Sum_l0 k) ih k p1 p2 (0 : Int) p3 p4 x1032 p4 r h)
    · exact Abs.Good.path hm [.reg [], .cond false, .reg [], .reg [], .keep [sk 2, sk 3, sk 12, sk 13, ek 500001, ek 500002, ek 12], .ren [(500001, 502001), (500002, 502002), (12, 502003)]] (cs := [_]) (by kernel_rfl) ⟨h1030, trivial⟩ (antiquaryref02_Sum_l2_ok k (0 : Int) p3 p4 (Kd.dflt (Kd.arr 32 (Kd.int .u8))) r h)
theorem antiquaryref02_Sum_ok (k : Nat) (a1 : List Int) (r : List Int) (h : antiquaryref02_Sum k a1 = some r) : SpecOk P ⟨79, [.p (Kd.sl (Kd.int .u8)) a1], [], .v (.p (Kd.arr 32 (Kd.int .u8)) r), []⟩ := by
  refine spec_at Tryd.func79 (by kernel_rfl) (Nat.le_of_ble_eq_true (by kernel_rfl)) ?_
  unfold antiquaryref02_Sum at h
  obtain ⟨x1028, h1029, h⟩ := bind_inv h
  exact Abs.Good.path hm [.reg [], .reg [], .reg [(1, { call := some { lend := [], pass := [], res := .v (.p (Kd.sl (Kd.int .u8)) x1028), outs := [], back := [] } })], .reg [], .keep [sk 2, sk 3, sk 4, sk 5, ek 2, ek 3], .ren [(2, 500001), (3, 500002)]] (cs := [_]) (by kernel_rfl) ⟨(antiquaryref02_padded_ok k a1 _ h1029), trivial⟩ (antiquaryref02_Sum_l0_ok k x1028 (0 : Int) (Kd.dflt (Kd.arr 32 (Kd.int .u8))) ([(1779033703 : Int), (3144134277 : Int), (1013904242 : Int), (2773480762 : Int), (1359893119 : Int), (2600822924 : Int), (528734635 : Int), (1541459225 : Int)] : List Int) r h)

def antiquaryref02_Short_l0 : Nat → Int → List Int → List Int → List Int → Option (List Int)
  | 0, _, _, _, _ => none
  | k + 1, p1, p2, p3, p4 =>
    if (decide (p1 < (16 : Int))) = true then
      if 0 ≤ p1 ∧ p1 < (32 : Int) then
        if p1 < (16 : Int) then
          antiquaryref02_Short_l0 k (IntKind.i64.wrap (p1 + (1 : Int))) p2 p3 (List.set p4 (Int.toNat p1) (List.getD p3 (Int.toNat p1) (Kd.dflt (Kd.int .u8))))
        else none
      else none
    else
      some (p4)
def antiquaryref02_Short (k : Nat) (a1 : List Int) : Option (List Int) :=
  Option.bind (antiquaryref02_Sum k a1) fun x1061 =>
  antiquaryref02_Short_l0 k (0 : Int) (Kd.dflt (Kd.arr 16 (Kd.int .u8))) x1061 ([(Kd.dflt (Kd.int .u8)), (Kd.dflt (Kd.int .u8)), (Kd.dflt (Kd.int .u8)), (Kd.dflt (Kd.int .u8)), (Kd.dflt (Kd.int .u8)), (Kd.dflt (Kd.int .u8)), (Kd.dflt (Kd.int .u8)), (Kd.dflt (Kd.int .u8)), (Kd.dflt (Kd.int .u8)), (Kd.dflt (Kd.int .u8)), (Kd.dflt (Kd.int .u8)), (Kd.dflt (Kd.int .u8)), (Kd.dflt (Kd.int .u8)), (Kd.dflt (Kd.int .u8)), (Kd.dflt (Kd.int .u8)), (Kd.dflt (Kd.int .u8))] : List Int)
theorem antiquaryref02_Short_l0_ok (k : Nat) : ∀ (p1 : Int) (p2 : List Int) (p3 : List Int) (p4 : List Int) (r : List Int), antiquaryref02_Short_l0 k p1 p2 p3 p4 = some r →
    Abs.Good P 65 Tryd.f65.ntmps [] [] (.v (.p (Kd.arr 16 (Kd.int .u8)) r)) (pos Tryd.f65 [.r, .r, .r, .r]) [(sk 2, some (.v (.ptr 500001 0))), (sk 3, some (.v (.ptr 500002 0))), (sk 4, some (.v (.ptr 500003 0))), (sk 5, some (.v (.p (Kd.int .i64) p1))), (ek 500001, some (.box [.p (Kd.arr 16 (Kd.int .u8)) p2])), (ek 500002, some (.box [.p (Kd.arr 32 (Kd.int .u8)) p3])), (ek 500003, some (.box [.p (Kd.arr 16 (Kd.int .u8)) p4]))] := by
  induction k with
  | zero => intro p1 p2 p3 p4 r h; cases h
  | succ k ih =>
    intro p1 p2 p3 p4 r h
    unfold antiquaryref02_Short_l0 at h
    rcases br_inv h with ⟨h1063, h⟩ | ⟨h1063, h⟩
    · obtain ⟨h1064, h⟩ := gd_inv h
      obtain ⟨h1065, h⟩ := gd_inv h
      exact Abs.Good.path hm [.reg [], .cond true, .reg [], .reg [], .keep [sk 2, sk 3, sk 4, sk 5, ek 500001, ek 500002, ek 500003]] (cs := [_, _, _, _, _]) (by kernel_rfl) ⟨h1063, h1064.1, h1064.2, h1064.1, h1065, trivial⟩ (ih (IntKind.i64.wrap (p1 + (1 : Int))) p2 p3 (List.set p4 (Int.toNat p1) (List.getD p3 (Int.toNat p1) (Kd.dflt (Kd.int .u8)))) r h)
    · replace h := Option.some.inj h; subst h
      exact Abs.Good.path_ret hm [.reg [], .cond false, .reg []] [] Tryd.func65 (cs := [_]) (by kernel_rfl) ⟨h1063, trivial⟩ (by kernel_rfl)
theorem antiquaryref02_Short_ok (k : Nat) (a1 : List Int) (r : List Int) (h : antiquaryref02_Short k a1 = some r) : SpecOk P ⟨65, [.p (Kd.sl (Kd.int .u8)) a1], [], .v (.p (Kd.arr 16 (Kd.int .u8)) r), []⟩ := by
  refine spec_at Tryd.func65 (by kernel_rfl) (Nat.le_of_ble_eq_true (by kernel_rfl)) ?_
  unfold antiquaryref02_Short at h
  obtain ⟨x1061, h1062, h⟩ := bind_inv h
  exact Abs.Good.path hm [.reg [], .reg [(1, { call := some { lend := [], pass := [], res := .v (.p (Kd.arr 32 (Kd.int .u8)) x1061), outs := [], back := [] } })], .reg [], .reg [], .keep [sk 2, sk 3, sk 4, sk 5, ek 2, ek 3, ek 4], .ren [(2, 500001), (3, 500002), (4, 500003)]] (cs := [_]) (by kernel_rfl) ⟨(antiquaryref02_Sum_ok k a1 _ h1062), trivial⟩ (antiquaryref02_Short_l0_ok k (0 : Int) (Kd.dflt (Kd.arr 16 (Kd.int .u8))) x1061 ([(Kd.dflt (Kd.int .u8)), (Kd.dflt (Kd.int .u8)), (Kd.dflt (Kd.int .u8)), (Kd.dflt (Kd.int .u8)), (Kd.dflt (Kd.int .u8)), (Kd.dflt (Kd.int .u8)), (Kd.dflt (Kd.int .u8)), (Kd.dflt (Kd.int .u8)), (Kd.dflt (Kd.int .u8)), (Kd.dflt (Kd.int .u8)), (Kd.dflt (Kd.int .u8)), (Kd.dflt (Kd.int .u8)), (Kd.dflt (Kd.int .u8)), (Kd.dflt (Kd.int .u8)), (Kd.dflt (Kd.int .u8)), (Kd.dflt (Kd.int .u8))] : List Int) r h)

def antiquaryref02_Of (k : Nat) (a1 : Int) (a2 : List ByteArray) : Option (List Int) :=
  Option.bind (antiquaryref02_Input k a1 a2) fun x1068 =>
  Option.bind (antiquaryref02_Short k x1068) fun x1070 =>
  some (x1070)
theorem antiquaryref02_Of_ok (k : Nat) (a1 : Int) (a2 : List ByteArray) (r : List Int) (h : antiquaryref02_Of k a1 a2 = some r) : SpecOk P ⟨44, [.p (Kd.int .i64) a1, .p (Kd.sl Kd.str) a2], [], .v (.p (Kd.arr 16 (Kd.int .u8)) r), []⟩ := by
  refine spec_at Tryd.func44 (by kernel_rfl) (Nat.le_of_ble_eq_true (by kernel_rfl)) ?_
  unfold antiquaryref02_Of at h
  obtain ⟨x1068, h1069, h⟩ := bind_inv h
  obtain ⟨x1070, h1071, h⟩ := bind_inv h
  replace h := Option.some.inj h; subst h
  exact Abs.Good.path_ret hm [.reg [], .reg [(2, { call := some { lend := [], pass := [], res := .v (.p (Kd.sl (Kd.int .u8)) x1068), outs := [], back := [] } }), (3, { call := some { lend := [], pass := [], res := .v (.p (Kd.arr 16 (Kd.int .u8)) x1070), outs := [], back := [] } })]] [] Tryd.func44 (cs := [_, _]) (by kernel_rfl) ⟨(antiquaryref02_Input_ok k a1 a2 _ h1069), (antiquaryref02_Short_ok k x1068 _ h1071), trivial⟩ (by kernel_rfl)

def antiquaryref44_Name (k : Nat) (a1 : ByteArray) : Option (List Int) :=
  Option.bind (antiquaryref02_Of k (44 : Int) ([a1] : List ByteArray)) fun x1074 =>
  some (x1074)
theorem antiquaryref44_Name_ok (k : Nat) (a1 : ByteArray) (r : List Int) (h : antiquaryref44_Name k a1 = some r) : SpecOk P ⟨14, [.p Kd.str a1], [], .v (.p (Kd.arr 16 (Kd.int .u8)) r), []⟩ := by
  refine spec_at Tryd.func14 (by kernel_rfl) (Nat.le_of_ble_eq_true (by kernel_rfl)) ?_
  unfold antiquaryref44_Name at h
  obtain ⟨x1074, h1075, h⟩ := bind_inv h
  replace h := Option.some.inj h; subst h
  exact Abs.Good.path_ret hm [.reg [], .reg [(2, { call := some { lend := [(4, false)], pass := [], res := .v (.p (Kd.arr 16 (Kd.int .u8)) x1074), outs := [], back := [] } })]] [] Tryd.func14 (cs := [_, _]) (by kernel_rfl) ⟨(antiquaryref02_Of_ok k (44 : Int) ([a1] : List ByteArray) _ h1075), (rfl : 1 = List.length ([a1] : List ByteArray)), trivial⟩ (by kernel_rfl)

def antiquaryref44_Less_l0 : Nat → Int → List Int → List Int → Option (Bool)
  | 0, _, _, _ => none
  | k + 1, p1, p2, p3 =>
    if (decide (p1 < (16 : Int))) = true then
      if 0 ≤ p1 ∧ p1 < (16 : Int) then
        if ((List.getD p2 (Int.toNat p1) (Kd.dflt (Kd.int .u8))) != (List.getD p3 (Int.toNat p1) (Kd.dflt (Kd.int .u8)))) = true then
          some ((decide ((List.getD p2 (Int.toNat p1) (Kd.dflt (Kd.int .u8))) < (List.getD p3 (Int.toNat p1) (Kd.dflt (Kd.int .u8))))))
        else
          antiquaryref44_Less_l0 k (IntKind.i64.wrap (p1 + (1 : Int))) p2 p3
      else none
    else
      some (false)
def antiquaryref44_Less (k : Nat) (a1 : List Int) (a2 : List Int) : Option (Bool) :=
  antiquaryref44_Less_l0 k (0 : Int) a1 a2
theorem antiquaryref44_Less_l0_ok (k : Nat) : ∀ (p1 : Int) (p2 : List Int) (p3 : List Int) (r : Bool), antiquaryref44_Less_l0 k p1 p2 p3 = some r →
    Abs.Good P 42 Tryd.f42.ntmps [] [] (.v (.p Kd.bool r)) (pos Tryd.f42 [.r, .r]) [(sk 2, some (.v (.ptr 500001 0))), (sk 3, some (.v (.ptr 500002 0))), (sk 5, some (.v (.p (Kd.int .i64) p1))), (ek 500001, some (.box [.p (Kd.arr 16 (Kd.int .u8)) p2])), (ek 500002, some (.box [.p (Kd.arr 16 (Kd.int .u8)) p3]))] := by
  induction k with
  | zero => intro p1 p2 p3 r h; cases h
  | succ k ih =>
    intro p1 p2 p3 r h
    unfold antiquaryref44_Less_l0 at h
    rcases br_inv h with ⟨h1084, h⟩ | ⟨h1084, h⟩
    · obtain ⟨h1085, h⟩ := gd_inv h
      rcases br_inv h with ⟨h1086, h⟩ | ⟨h1086, h⟩
      · replace h := Option.some.inj h; subst h
        exact Abs.Good.path_ret hm [.reg [], .cond true, .reg [], .cond true, .reg []] [] Tryd.func42 (cs := [_, _, _, _, _, _, _, _, _, _]) (by kernel_rfl) ⟨h1084, h1085.1, h1085.2, h1085.1, h1085.2, h1086, h1085.1, h1085.2, h1085.1, h1085.2, trivial⟩ (by kernel_rfl)
      · exact Abs.Good.path hm [.reg [], .cond true, .reg [], .cond false, .reg [], .keep [sk 2, sk 3, sk 5, ek 500001, ek 500002]] (cs := [_, _, _, _, _, _]) (by kernel_rfl) ⟨h1084, h1085.1, h1085.2, h1085.1, h1085.2, h1086, trivial⟩ (ih (IntKind.i64.wrap (p1 + (1 : Int))) p2 p3 r h)
    · replace h := Option.some.inj h; subst h
      exact Abs.Good.path_ret hm [.reg [], .cond false, .reg []] [] Tryd.func42 (cs := [_]) (by kernel_rfl) ⟨h1084, trivial⟩ (by kernel_rfl)
theorem antiquaryref44_Less_ok (k : Nat) (a1 : List Int) (a2 : List Int) (r : Bool) (h : antiquaryref44_Less k a1 a2 = some r) : SpecOk P ⟨42, [.p (Kd.arr 16 (Kd.int .u8)) a1, .p (Kd.arr 16 (Kd.int .u8)) a2], [], .v (.p Kd.bool r), []⟩ := by
  refine spec_at Tryd.func42 (by kernel_rfl) (Nat.le_of_ble_eq_true (by kernel_rfl)) ?_
  unfold antiquaryref44_Less at h
  exact Abs.Good.path hm [.reg [], .reg [], .keep [sk 2, sk 3, sk 5, ek 2, ek 3], .ren [(2, 500001), (3, 500002)]] (cs := []) (by kernel_rfl) trivial (antiquaryref44_Less_l0_ok k (0 : Int) a1 a2 r h)

def antiquaryref44_Valid_l1 (s0 : Int → List It → Option (Bool)) (k : Nat) (p1 : Int) (p2 : Bool) (p3 : List It) : Option (Bool) :=
  if p2 = true then
    some (false)
  else
    s0 (IntKind.i64.wrap (p1 + (1 : Int))) p3
def antiquaryref44_Valid_l0 : Nat → Int → List It → Option (Bool)
  | 0, _, _ => none
  | k + 1, p1, p2 =>
    if (decide (p1 < (List.length p2 : Int))) = true then
      if 0 ≤ p1 ∧ p1 < (List.length p2 : Int) then
        if (decide ((ByteArray.size (((List.getD p2 (Int.toNat p1) (Kd.dflt KI)).2).1) : Int) > (1048576 : Int))) = true then
          antiquaryref44_Valid_l1 (antiquaryref44_Valid_l0 k) k p1 true p2
        else
          Option.bind (antiquaryref44_Name k (((List.getD p2 (Int.toNat p1) (Kd.dflt KI)).2).1)) fun x1092 =>
          if (!(Kd.eqb (Kd.arr 16 (Kd.int .u8)) x1092 ((List.getD p2 (Int.toNat p1) (Kd.dflt KI)).1))) = true then
            antiquaryref44_Valid_l1 (antiquaryref44_Valid_l0 k) k p1 true p2
          else
            if (decide (p1 > (0 : Int))) = true then
              if 0 ≤ (IntKind.i64.wrap (p1 - (1 : Int))) ∧ (IntKind.i64.wrap (p1 - (1 : Int))) < (List.length p2 : Int) then
                Option.bind (antiquaryref44_Less k ((List.getD p2 (Int.toNat (IntKind.i64.wrap (p1 - (1 : Int)))) (Kd.dflt KI)).1) ((List.getD p2 (Int.toNat p1) (Kd.dflt KI)).1)) fun x1097 =>
                antiquaryref44_Valid_l1 (antiquaryref44_Valid_l0 k) k p1 (!x1097) p2
              else none
            else
              antiquaryref44_Valid_l1 (antiquaryref44_Valid_l0 k) k p1 false p2
      else none
    else
      some ((decide ((List.length p2 : Int) ≤ (65536 : Int))))
def antiquaryref44_Valid (k : Nat) (a1 : List It) : Option (Bool) :=
  antiquaryref44_Valid_l0 k (0 : Int) a1
theorem antiquaryref44_Valid_l1_ok (s0 : Int → List It → Option (Bool)) (hs0 : ∀ (p1 : Int) (p2 : List It) (r : Bool), s0 p1 p2 = some r → Abs.Good P 12 Tryd.f12.ntmps [] [] (.v (.p Kd.bool r)) (pos Tryd.f12 [.r, .r]) [(sk 1, some (.v (.ptr 500001 0))), (sk 3, some (.v (.p (Kd.int .i64) p1))), (ek 500001, some (.box [.p (Kd.sl KI) p2]))]) (k : Nat) (p1 : Int) (p2 : Bool) (p3 : List It) (r : Bool) (h : antiquaryref44_Valid_l1 s0 k p1 p2 p3 = some r) :
    Abs.Good P 12 Tryd.f12.ntmps [] [] (.v (.p Kd.bool r)) (pos Tryd.f12 [.r, .r, .r, .c true, .r]) [(sk 1, some (.v (.ptr 501001 0))), (sk 3, some (.v (.p (Kd.int .i64) p1))), (sk 55, some (.v (.p Kd.bool p2))), (ek 501001, some (.box [.p (Kd.sl KI) p3]))] := by
  unfold antiquaryref44_Valid_l1 at h
  rcases br_inv h with ⟨h1099, h⟩ | ⟨h1099, h⟩
  · replace h := Option.some.inj h; subst h
    exact Abs.Good.path_ret hm [.cond true, .reg []] [] Tryd.func12 (cs := [_]) (by kernel_rfl) ⟨h1099, trivial⟩ (by kernel_rfl)
  · exact Abs.Good.path hm [.cond false, .reg [], .keep [sk 1, sk 3, ek 501001], .ren [(501001, 500001)]] (cs := [_]) (by kernel_rfl) ⟨h1099, trivial⟩ (hs0 (IntKind.i64.wrap (p1 + (1 : Int))) p3 r h)
theorem antiquaryref44_Valid_l0_ok (k : Nat) : ∀ (p1 : Int) (p2 : List It) (r : Bool), antiquaryref44_Valid_l0 k p1 p2 = some r →
    Abs.Good P 12 Tryd.f12.ntmps [] [] (.v (.p Kd.bool r)) (pos Tryd.f12 [.r, .r]) [(sk 1, some (.v (.ptr 500001 0))), (sk 3, some (.v (.p (Kd.int .i64) p1))), (ek 500001, some (.box [.p (Kd.sl KI) p2]))] := by
  induction k with
  | zero => intro p1 p2 r h; cases h
  | succ k ih =>
    intro p1 p2 r h
    unfold antiquaryref44_Valid_l0 at h
    rcases br_inv h with ⟨h1089, h⟩ | ⟨h1089, h⟩
    · obtain ⟨h1090, h⟩ := gd_inv h
      rcases br_inv h with ⟨h1091, h⟩ | ⟨h1091, h⟩
      · exact Abs.Good.path hm [.reg [], .cond true, .reg [(9, { dec := some true }), (10, { dec := some true }), (11, { dec := some true }), (12, { dec := some true }), (13, { dec := some true }), (14, { dec := some true }), (15, { dec := some true }), (16, { dec := some true }), (17, { dec := some true }), (18, { dec := some true }), (19, { dec := some true }), (20, { dec := some true }), (21, { dec := some true }), (22, { dec := some true }), (23, { pick := some true }), (25, { dec := some true }), (26, { dec := some true }), (27, { dec := some true }), (43, { dec := some true }), (44, { pick := some true })], .keep [sk 1, sk 3, sk 55, ek 500001], .ren [(500001, 501001)]] (cs := [_, _, _, _, _, _, _, _, _, _, _, _, _, _, _, _, _, _, _, _, _, _, _]) (by kernel_rfl) ⟨h1089, h1090.1, h1090.2, h1091, h1091, h1091, h1091, h1091, h1091, h1091, h1091, h1091, h1091, h1091, h1091, h1091, h1091, h1091, (rfl : true = true), (rfl : true = true), (rfl : true = true), (rfl : true = true), (rfl : true = true), trivial⟩ (antiquaryref44_Valid_l1_ok (antiquaryref44_Valid_l0 k) ih k p1 true p2 r h)
      · obtain ⟨x1092, h1093, h⟩ := bind_inv h
        rcases br_inv h with ⟨h1094, h⟩ | ⟨h1094, h⟩
        · exact Abs.Good.path hm [.reg [], .cond true, .reg [(9, { dec := some false }), (10, { dec := some false }), (11, { dec := some false }), (12, { dec := some false }), (13, { dec := some false }), (14, { dec := some false }), (15, { dec := some false, call := some { lend := [], pass := [], res := .v (.p (Kd.arr 16 (Kd.int .u8)) x1092), outs := [], back := [] } }), (16, { dec := some false }), (17, { dec := some false }), (18, { dec := some false }), (19, { dec := some false }), (20, { dec := some false }), (21, { dec := some false }), (22, { dec := some false }), (23, { pick := some false }), (25, { dec := some true }), (26, { dec := some true }), (27, { dec := some true }), (43, { dec := some true }), (44, { pick := some true })], .keep [sk 1, sk 3, sk 55, ek 500001], .ren [(500001, 501001)]] (cs := [_, _, _, _, _, _, _, _, _, _, _, _, _, _, _, _, _, _, _, _, _, _, _, _, _, _, _, _, _]) (by kernel_rfl) ⟨h1089, h1090.1, h1090.2, h1091, h1091, h1091, h1091, h1090.1, h1090.2, h1091, h1091, h1091, (antiquaryref44_Name_ok k (((List.getD p2 (Int.toNat p1) (Kd.dflt KI)).2).1) _ h1093), h1091, h1091, h1091, h1091, h1090.1, h1090.2, h1091, h1091, h1091, eq26, h1091, h1094, h1094, h1094, h1094, h1094, trivial⟩ (antiquaryref44_Valid_l1_ok (antiquaryref44_Valid_l0 k) ih k p1 true p2 r h)
        · rcases br_inv h with ⟨h1095, h⟩ | ⟨h1095, h⟩
          · obtain ⟨h1096, h⟩ := gd_inv h
            obtain ⟨x1097, h1098, h⟩ := bind_inv h
            exact Abs.Good.path hm [.reg [], .cond true, .reg [(9, { dec := some false }), (10, { dec := some false }), (11, { dec := some false }), (12, { dec := some false }), (13, { dec := some false }), (14, { dec := some false }), (15, { dec := some false, call := some { lend := [], pass := [], res := .v (.p (Kd.arr 16 (Kd.int .u8)) x1092), outs := [], back := [] } }), (16, { dec := some false }), (17, { dec := some false }), (18, { dec := some false }), (19, { dec := some false }), (20, { dec := some false }), (21, { dec := some false }), (22, { dec := some false }), (23, { pick := some false }), (25, { dec := some false }), (26, { dec := some false }), (27, { dec := some false }), (28, { dec := some true }), (29, { dec := some true }), (30, { dec := some true }), (31, { dec := some true }), (32, { dec := some true }), (33, { dec := some true }), (34, { dec := some true }), (35, { dec := some true }), (36, { dec := some true }), (37, { dec := some true }), (38, { dec := some true }), (39, { dec := some true }), (40, { dec := some true }), (41, { dec := some true, call := some { lend := [], pass := [], res := .v (.p Kd.bool x1097), outs := [], back := [] } }), (42, { dec := some true }), (43, { dec := some false, pick := some true }), (44, { pick := some false })], .keep [sk 1, sk 3, sk 55, ek 500001], .ren [(500001, 501001)]] (cs := [_, _, _, _, _, _, _, _, _, _, _, _, _, _, _, _, _, _, _, _, _, _, _, _, _, _, _, _, _, _, _, _, _, _, _, _, _, _, _, _, _, _, _, _, _, _, _, _, _, _]) (by kernel_rfl) ⟨h1089, h1090.1, h1090.2, h1091, h1091, h1091, h1091, h1090.1, h1090.2, h1091, h1091, h1091, (antiquaryref44_Name_ok k (((List.getD p2 (Int.toNat p1) (Kd.dflt KI)).2).1) _ h1093), h1091, h1091, h1091, h1091, h1090.1, h1090.2, h1091, h1091, h1091, eq26, h1091, h1094, h1094, h1094, h1095, h1095, h1095, h1095, h1095, h1096.1, h1096.2, h1095, h1095, h1095, h1095, h1095, h1095, h1090.1, h1090.2, h1095, h1095, h1095, (antiquaryref44_Less_ok k ((List.getD p2 (Int.toNat (IntKind.i64.wrap (p1 - (1 : Int)))) (Kd.dflt KI)).1) ((List.getD p2 (Int.toNat p1) (Kd.dflt KI)).1) _ h1098), h1095, h1094, h1095, h1094, trivial⟩ (antiquaryref44_Valid_l1_ok (antiquaryref44_Valid_l0 k) ih k p1 (!x1097) p2 r h)
          · exact Abs.Good.path hm [.reg [], .cond true, .reg [(9, { dec := some false }), (10, { dec := some false }), (11, { dec := some false }), (12, { dec := some false }), (13, { dec := some false }), (14, { dec := some false }), (15, { dec := some false, call := some { lend := [], pass := [], res := .v (.p (Kd.arr 16 (Kd.int .u8)) x1092), outs := [], back := [] } }), (16, { dec := some false }), (17, { dec := some false }), (18, { dec := some false }), (19, { dec := some false }), (20, { dec := some false }), (21, { dec := some false }), (22, { dec := some false }), (23, { pick := some false }), (25, { dec := some false }), (26, { dec := some false }), (27, { dec := some false }), (28, { dec := some false }), (29, { dec := some false }), (30, { dec := some false }), (31, { dec := some false }), (32, { dec := some false }), (33, { dec := some false }), (34, { dec := some false }), (35, { dec := some false }), (36, { dec := some false }), (37, { dec := some false }), (38, { dec := some false }), (39, { dec := some false }), (40, { dec := some false }), (41, { dec := some false }), (42, { dec := some false }), (43, { dec := some false, pick := some false }), (44, { pick := some false })], .keep [sk 1, sk 3, sk 55, ek 500001], .ren [(500001, 501001)]] (cs := [_, _, _, _, _, _, _, _, _, _, _, _, _, _, _, _, _, _, _, _, _, _, _, _, _, _, _, _, _, _, _, _, _, _, _, _, _, _, _, _, _, _, _, _, _]) (by kernel_rfl) ⟨h1089, h1090.1, h1090.2, h1091, h1091, h1091, h1091, h1090.1, h1090.2, h1091, h1091, h1091, (antiquaryref44_Name_ok k (((List.getD p2 (Int.toNat p1) (Kd.dflt KI)).2).1) _ h1093), h1091, h1091, h1091, h1091, h1090.1, h1090.2, h1091, h1091, h1091, eq26, h1091, h1094, h1094, h1094, h1095, h1095, h1095, h1095, h1095, h1095, h1095, h1095, h1095, h1095, h1095, h1095, h1095, h1095, h1095, h1094, h1095, h1094, trivial⟩ (antiquaryref44_Valid_l1_ok (antiquaryref44_Valid_l0 k) ih k p1 false p2 r h)
    · replace h := Option.some.inj h; subst h
      exact Abs.Good.path_ret hm [.reg [], .cond false, .reg []] [] Tryd.func12 (cs := [_]) (by kernel_rfl) ⟨h1089, trivial⟩ (by kernel_rfl)
theorem antiquaryref44_Valid_ok (k : Nat) (a1 : List It) (r : Bool) (h : antiquaryref44_Valid k a1 = some r) : SpecOk P ⟨12, [.agg [.p (Kd.sl KI) a1]], [], .v (.p Kd.bool r), []⟩ := by
  refine spec_at Tryd.func12 (by kernel_rfl) (Nat.le_of_ble_eq_true (by kernel_rfl)) ?_
  unfold antiquaryref44_Valid at h
  exact Abs.Good.path hm [.reg [], .reg [], .keep [sk 1, sk 3, ek 1], .ren [(1, 500001)]] (cs := []) (by kernel_rfl) trivial (antiquaryref44_Valid_l0_ok k (0 : Int) a1 r h)

def antiquaryref44_Bit (k : Nat) (a1 : List Int) (a2 : Int) : Option (Bool) :=
  if 0 ≤ (IntKind.i64.wrap (Int.tdiv a2 (8 : Int))) ∧ (IntKind.i64.wrap (Int.tdiv a2 (8 : Int))) < (16 : Int) then
    if 0 ≤ (IntKind.i64.wrap ((7 : Int) - (Int.tmod a2 (8 : Int)))) then
      some (((IntKind.u8.wrap (((BitVec.ofInt (IntKind.bits .u8) (Int.fdiv (List.getD a1 (Int.toNat (IntKind.i64.wrap (Int.tdiv a2 (8 : Int)))) (Kd.dflt (Kd.int .u8))) (2 ^ (min (Int.toNat (IntKind.i64.wrap ((7 : Int) - (Int.tmod a2 (8 : Int))))) (IntKind.bits .u8))))) &&& (BitVec.ofInt (IntKind.bits .u8) (1 : Int))).toNat : Int)) == (1 : Int)))
    else none
  else none
theorem antiquaryref44_Bit_ok (k : Nat) (a1 : List Int) (a2 : Int) (r : Bool) (h : antiquaryref44_Bit k a1 a2 = some r) : SpecOk P ⟨45, [.p (Kd.arr 16 (Kd.int .u8)) a1, .p (Kd.int .i64) a2], [], .v (.p Kd.bool r), []⟩ := by
  refine spec_at Tryd.func45 (by kernel_rfl) (Nat.le_of_ble_eq_true (by kernel_rfl)) ?_
  unfold antiquaryref44_Bit at h
  obtain ⟨h1129, h⟩ := gd_inv h
  obtain ⟨h1130, h⟩ := gd_inv h
  replace h := Option.some.inj h; subst h
  exact Abs.Good.path_ret hm [.reg [], .reg []] [] Tryd.func45 (cs := [_, _, _, _, _]) (by kernel_rfl) ⟨(by decide : (8 : Int) ≠ 0), h1129.1, h1129.2, (by decide : (8 : Int) ≠ 0), h1130, trivial⟩ (by kernel_rfl)

def antiquaryref44_Right_l1 : Nat → Int → List Int → Int → Option (Bool)
  | 0, _, _, _ => none
  | k + 1, p1, p2, p3 =>
    if (decide (p1 < (128 : Int))) = true then
      Option.bind (antiquaryref44_Bit k p2 p1) fun x1131 =>
      if x1131 = true then
        some (false)
      else
        antiquaryref44_Right_l1 k (IntKind.i64.wrap (p1 + (1 : Int))) p2 p3
    else
      some (true)
def antiquaryref44_Right_l0 (k : Nat) (p1 : Bool) (p2 : List Int) (p3 : Int) : Option (Bool) :=
  if p1 = true then
    some (false)
  else
    antiquaryref44_Right_l1 k p3 p2 p3
def antiquaryref44_Right (k : Nat) (a1 : List Int) (a2 : Int) : Option (Bool) :=
  if (decide (a2 < (0 : Int))) = true then
    antiquaryref44_Right_l0 k true a1 a2
  else
    antiquaryref44_Right_l0 k (decide (a2 > (128 : Int))) a1 a2
theorem antiquaryref44_Right_l1_ok (k : Nat) : ∀ (p1 : Int) (p2 : List Int) (p3 : Int) (r : Bool), antiquaryref44_Right_l1 k p1 p2 p3 = some r →
    Abs.Good P 15 Tryd.f15.ntmps [] [] (.v (.p Kd.bool r)) (pos Tryd.f15 [.r, .r, .c false, .r]) [(sk 1, some (.v (.ptr 501001 0))), (sk 3, some (.v (.p (Kd.int .i64) p1))), (ek 501001, some (.box [.p (Kd.arr 16 (Kd.int .u8)) p2, .p (Kd.int .i64) p3]))] := by
  induction k with
  | zero => intro p1 p2 p3 r h; cases h
  | succ k ih =>
    intro p1 p2 p3 r h
    unfold antiquaryref44_Right_l1 at h
    rcases br_inv h with ⟨h1126, h⟩ | ⟨h1126, h⟩
    · obtain ⟨x1131, h1132, h⟩ := bind_inv h
      rcases br_inv h with ⟨h1133, h⟩ | ⟨h1133, h⟩
      · replace h := Option.some.inj h; subst h
        exact Abs.Good.path_ret hm [.reg [], .cond true, .reg [(3, { call := some { lend := [], pass := [], res := .v (.p Kd.bool x1131), outs := [], back := [] } })], .reg [], .cond true, .reg []] [] Tryd.func15 (cs := [_, _, _]) (by kernel_rfl) ⟨h1126, (antiquaryref44_Bit_ok k p2 p1 _ h1132), h1133, trivial⟩ (by kernel_rfl)
      · exact Abs.Good.path hm [.reg [], .cond true, .reg [(3, { call := some { lend := [], pass := [], res := .v (.p Kd.bool x1131), outs := [], back := [] } })], .reg [], .cond false, .reg [], .keep [sk 1, sk 3, ek 501001]] (cs := [_, _, _]) (by kernel_rfl) ⟨h1126, (antiquaryref44_Bit_ok k p2 p1 _ h1132), h1133, trivial⟩ (ih (IntKind.i64.wrap (p1 + (1 : Int))) p2 p3 r h)
    · replace h := Option.some.inj h; subst h
      exact Abs.Good.path_ret hm [.reg [], .cond false, .reg []] [] Tryd.func15 (cs := [_]) (by kernel_rfl) ⟨h1126, trivial⟩ (by kernel_rfl)
theorem antiquaryref44_Right_l0_ok (k : Nat) (p1 : Bool) (p2 : List Int) (p3 : Int) (r : Bool) (h : antiquaryref44_Right_l0 k p1 p2 p3 = some r) :
    Abs.Good P 15 Tryd.f15.ntmps [] [] (.v (.p Kd.bool r)) (pos Tryd.f15 [.r, .r]) [(sk 1, some (.v (.ptr 500001 0))), (sk 12, some (.v (.p Kd.bool p1))), (ek 500001, some (.box [.p (Kd.arr 16 (Kd.int .u8)) p2, .p (Kd.int .i64) p3]))] := by
  unfold antiquaryref44_Right_l0 at h
  rcases br_inv h with ⟨h1125, h⟩ | ⟨h1125, h⟩
  · replace h := Option.some.inj h; subst h
    exact Abs.Good.path_ret hm [.cond true, .reg []] [] Tryd.func15 (cs := [_]) (by kernel_rfl) ⟨h1125, trivial⟩ (by kernel_rfl)
  · exact Abs.Good.path hm [.cond false, .reg [], .keep [sk 1, sk 3, ek 500001], .ren [(500001, 501001)]] (cs := [_]) (by kernel_rfl) ⟨h1125, trivial⟩ (antiquaryref44_Right_l1_ok k p3 p2 p3 r h)
theorem antiquaryref44_Right_ok (k : Nat) (a1 : List Int) (a2 : Int) (r : Bool) (h : antiquaryref44_Right k a1 a2 = some r) : SpecOk P ⟨15, [.agg [.p (Kd.arr 16 (Kd.int .u8)) a1, .p (Kd.int .i64) a2]], [], .v (.p Kd.bool r), []⟩ := by
  refine spec_at Tryd.func15 (by kernel_rfl) (Nat.le_of_ble_eq_true (by kernel_rfl)) ?_
  unfold antiquaryref44_Right at h
  rcases br_inv h with ⟨h1124, h⟩ | ⟨h1124, h⟩
  · exact Abs.Good.path hm [.reg [], .reg [(4, { dec := some true }), (5, { dec := some true }), (6, { dec := some true }), (7, { pick := some true })], .keep [sk 1, sk 12, ek 1], .ren [(1, 500001)]] (cs := [_, _, _, _]) (by kernel_rfl) ⟨h1124, h1124, h1124, h1124, trivial⟩ (antiquaryref44_Right_l0_ok k true a1 a2 r h)
  · exact Abs.Good.path hm [.reg [], .reg [(4, { dec := some false }), (5, { dec := some false }), (6, { dec := some false }), (7, { pick := some false })], .keep [sk 1, sk 12, ek 1], .ren [(1, 500001)]] (cs := [_, _, _, _]) (by kernel_rfl) ⟨h1124, h1124, h1124, h1124, trivial⟩ (antiquaryref44_Right_l0_ok k (decide (a2 > (128 : Int))) a1 a2 r h)

def antiquaryref44_Place_l0 : Nat → Int → List It → List Int → Option (Int)
  | 0, _, _, _ => none
  | k + 1, p1, p2, p3 =>
    if (decide (p1 < (List.length p2 : Int))) = true then
      if 0 ≤ p1 ∧ p1 < (List.length p2 : Int) then
        if (Kd.eqb (Kd.arr 16 (Kd.int .u8)) ((List.getD p2 (Int.toNat p1) (Kd.dflt KI)).1) p3) = true then
          some (p1)
        else
          antiquaryref44_Place_l0 k (IntKind.i64.wrap (p1 + (1 : Int))) p2 p3
      else none
    else
      some ((-1 : Int))
def antiquaryref44_Place (k : Nat) (a1 : List It) (a2 : List Int) : Option (Int) :=
  antiquaryref44_Place_l0 k (0 : Int) a1 a2
theorem antiquaryref44_Place_l0_ok (k : Nat) : ∀ (p1 : Int) (p2 : List It) (p3 : List Int) (r : Int), antiquaryref44_Place_l0 k p1 p2 p3 = some r →
    Abs.Good P 17 Tryd.f17.ntmps [] [] (.v (.p (Kd.int .i64) r)) (pos Tryd.f17 [.r, .r]) [(sk 2, some (.v (.ptr 500001 0))), (sk 3, some (.v (.ptr 500002 0))), (sk 5, some (.v (.p (Kd.int .i64) p1))), (ek 500001, some (.box [.p (Kd.sl KI) p2])), (ek 500002, some (.box [.p (Kd.arr 16 (Kd.int .u8)) p3]))] := by
  induction k with
  | zero => intro p1 p2 p3 r h; cases h
  | succ k ih =>
    intro p1 p2 p3 r h
    unfold antiquaryref44_Place_l0 at h
    rcases br_inv h with ⟨h1168, h⟩ | ⟨h1168, h⟩
    · obtain ⟨h1169, h⟩ := gd_inv h
      rcases br_inv h with ⟨h1170, h⟩ | ⟨h1170, h⟩
      · replace h := Option.some.inj h; subst h
        exact Abs.Good.path_ret hm [.reg [], .cond true, .reg [], .cond true, .reg []] [] Tryd.func17 (cs := [_, _, _, _, _]) (by kernel_rfl) ⟨h1168, h1169.1, h1169.2, eq26, h1170, trivial⟩ (by kernel_rfl)
      · exact Abs.Good.path hm [.reg [], .cond true, .reg [], .cond false, .reg [], .keep [sk 2, sk 3, sk 5, ek 500001, ek 500002]] (cs := [_, _, _, _, _]) (by kernel_rfl) ⟨h1168, h1169.1, h1169.2, eq26, h1170, trivial⟩ (ih (IntKind.i64.wrap (p1 + (1 : Int))) p2 p3 r h)
    · replace h := Option.some.inj h; subst h
      exact Abs.Good.path_ret hm [.reg [], .cond false, .reg []] [] Tryd.func17 (cs := [_]) (by kernel_rfl) ⟨h1168, trivial⟩ (by kernel_rfl)
theorem antiquaryref44_Place_ok (k : Nat) (a1 : List It) (a2 : List Int) (r : Int) (h : antiquaryref44_Place k a1 a2 = some r) : SpecOk P ⟨17, [.agg [.p (Kd.sl KI) a1], .p (Kd.arr 16 (Kd.int .u8)) a2], [], .v (.p (Kd.int .i64) r), []⟩ := by
  refine spec_at Tryd.func17 (by kernel_rfl) (Nat.le_of_ble_eq_true (by kernel_rfl)) ?_
  unfold antiquaryref44_Place at h
  exact Abs.Good.path hm [.reg [], .reg [], .keep [sk 2, sk 3, sk 5, ek 2, ek 3], .ren [(2, 500001), (3, 500002)]] (cs := []) (by kernel_rfl) trivial (antiquaryref44_Place_l0_ok k (0 : Int) a1 a2 r h)

def antiquaryref44_Add_l2 (s0 : ByteArray → Bool → Int → List It → Int → List Int → List It → Option (List It × Int)) (k : Nat) (p1 : ByteArray) (p2 : Bool) (p3 : Int) (p4 : List It) (p5 : Int) (p6 : List Int) (p7 : List It) : Option (List It × Int) :=
  if 0 ≤ p3 ∧ p3 < (List.length p4 : Int) then
    if List.length p7 + List.length ([((List.getD p4 (Int.toNat p3) (Kd.dflt KI)).1, (((List.getD p4 (Int.toNat p3) (Kd.dflt KI)).2).1, ()))] : List It) ≤ 4398046511104 then
      s0 p1 p2 (IntKind.i64.wrap (p3 + (1 : Int))) p4 p5 p6 (p7 ++ ([((List.getD p4 (Int.toNat p3) (Kd.dflt KI)).1, (((List.getD p4 (Int.toNat p3) (Kd.dflt KI)).2).1, ()))] : List It))
    else none
  else none
def antiquaryref44_Add_l1 (s0 : ByteArray → Bool → Int → List It → Int → List Int → List It → Option (List It × Int)) (k : Nat) (p1 : ByteArray) (p2 : Bool) (p3 : Int) (p4 : Bool) (p5 : List It) (p6 : Int) (p7 : List Int) (p8 : List It) : Option (List It × Int) :=
  if p4 = true then
    if List.length p8 + List.length ([(p7, (p1, ()))] : List It) ≤ 4398046511104 then
      antiquaryref44_Add_l2 s0 k p1 true p3 p5 p6 p7 (p8 ++ ([(p7, (p1, ()))] : List It))
    else none
  else
    antiquaryref44_Add_l2 s0 k p1 p2 p3 p5 p6 p7 p8
def antiquaryref44_Add_l0 : Nat → ByteArray → Bool → Int → List It → Int → List Int → List It → Option (List It × Int)
  | 0, _, _, _, _, _, _, _ => none
  | k + 1, p1, p2, p3, p4, p5, p6, p7 =>
    if (decide (p3 < (List.length p4 : Int))) = true then
      if (!p2) = true then
        if 0 ≤ p3 ∧ p3 < (List.length p4 : Int) then
          Option.bind (antiquaryref44_Less k p6 ((List.getD p4 (Int.toNat p3) (Kd.dflt KI)).1)) fun x1251 =>
          antiquaryref44_Add_l1 (antiquaryref44_Add_l0 k) k p1 p2 p3 x1251 p4 p5 p6 p7
        else none
      else
        antiquaryref44_Add_l1 (antiquaryref44_Add_l0 k) k p1 p2 p3 false p4 p5 p6 p7
    else
      if (!p2) = true then
        if List.length p7 + List.length ([(p6, (p1, ()))] : List It) ≤ 4398046511104 then
          some ((p7 ++ ([(p6, (p1, ()))] : List It)), (0 : Int))
        else none
      else
        some (p7, (0 : Int))
def antiquaryref44_Add (k : Nat) (a1 : List It) (a2 : ByteArray) : Option (List It × Int) :=
  if (decide ((ByteArray.size a2 : Int) > (1048576 : Int))) = true then
    some (a1, (1 : Int))
  else
    Option.bind (antiquaryref44_Name k a2) fun x1242 =>
    Option.bind (antiquaryref44_Place k a1 x1242) fun x1244 =>
    if (decide (x1244 ≥ (0 : Int))) = true then
      some (a1, (6 : Int))
    else
      if (decide ((List.length a1 : Int) ≥ (65536 : Int))) = true then
        some (a1, (2 : Int))
      else
        antiquaryref44_Add_l0 k a2 false (0 : Int) a1 (0 : Int) x1242 ([] : List It)
theorem antiquaryref44_Add_l2_ok (s0 : ByteArray → Bool → Int → List It → Int → List Int → List It → Option (List It × Int)) (hs0 : ∀ (p1 : ByteArray) (p2 : Bool) (p3 : Int) (p4 : List It) (p5 : Int) (p6 : List Int) (p7 : List It) (r : List It × Int), s0 p1 p2 p3 p4 p5 p6 p7 = some r → Abs.Good P 19 Tryd.f19.ntmps [] [] (.v (.agg [.p (Kd.sl KI) r.1, .nilsl, .p (Kd.int .i64) r.2])) (pos Tryd.f19 [.r, .r, .c false, .r, .r, .c false, .r, .c false, .r, .r, .r]) [(sk 1, some (.v (.p Kd.str p1))), (sk 2, some (.v (.ptr 500001 0))), (sk 4, some (.v (.ptr 500002 0))), (sk 5, some (.v (.ptr 500003 0))), (sk 6, some (.v (.ptr 500004 0))), (sk 7, some (.v (.p Kd.bool p2))), (sk 8, some (.v (.p (Kd.int .i64) p3))), (ek 500001, some (.box [.p (Kd.sl KI) p4])), (ek 500002, some (.box [.nilsl, .nilsl, .p (Kd.int .i64) p5])), (ek 500003, some (.box [.p (Kd.arr 16 (Kd.int .u8)) p6])), (ek 500004, some (.box [.row 500005 (List.length p7)])), (ek 500005, some (.row KI 50 p7))]) (k : Nat) (p1 : ByteArray) (p2 : Bool) (p3 : Int) (p4 : List It) (p5 : Int) (p6 : List Int) (p7 : List It) (r : List It × Int) (h : antiquaryref44_Add_l2 s0 k p1 p2 p3 p4 p5 p6 p7 = some r) :
    Abs.Good P 19 Tryd.f19.ntmps [] [] (.v (.agg [.p (Kd.sl KI) r.1, .nilsl, .p (Kd.int .i64) r.2])) (pos Tryd.f19 [.r, .r, .c false, .r, .r, .c false, .r, .c false, .r, .r, .r, .r, .c true, .r, .c false]) [(sk 1, some (.v (.p Kd.str p1))), (sk 2, some (.v (.ptr 502001 0))), (sk 4, some (.v (.ptr 502002 0))), (sk 5, some (.v (.ptr 502003 0))), (sk 6, some (.v (.ptr 502004 0))), (sk 7, some (.v (.p Kd.bool p2))), (sk 8, some (.v (.p (Kd.int .i64) p3))), (ek 502001, some (.box [.p (Kd.sl KI) p4])), (ek 502002, some (.box [.nilsl, .nilsl, .p (Kd.int .i64) p5])), (ek 502003, some (.box [.p (Kd.arr 16 (Kd.int .u8)) p6])), (ek 502004, some (.box [.row 502005 (List.length p7)])), (ek 502005, some (.row KI 50 p7))] := by
  unfold antiquaryref44_Add_l2 at h
  obtain ⟨h1257, h⟩ := gd_inv h
  obtain ⟨h1258, h⟩ := gd_inv h
  exact Abs.Good.path hm [.reg [], .reg [], .keep [sk 1, sk 2, sk 4, sk 5, sk 6, sk 7, sk 8, ek 502001, ek 502002, ek 502003, ek 502004, ek 63], .ren [(502001, 500001), (502002, 500002), (502003, 500003), (502004, 500004), (63, 500005)]] (cs := [_, _, _, _, _]) (by kernel_rfl) ⟨h1257.1, h1257.2, (rfl : (List.length p7) = List.length p7), (appBound (P := P) (et := 50) (b := 32) (by kernel_rfl) (by decide) h1258), (rfl : 1 = List.length ([((List.getD p4 (Int.toNat p3) (Kd.dflt KI)).1, (((List.getD p4 (Int.toNat p3) (Kd.dflt KI)).2).1, ()))] : List It)), trivial⟩ (hs0 p1 p2 (IntKind.i64.wrap (p3 + (1 : Int))) p4 p5 p6 (p7 ++ ([((List.getD p4 (Int.toNat p3) (Kd.dflt KI)).1, (((List.getD p4 (Int.toNat p3) (Kd.dflt KI)).2).1, ()))] : List It)) r h)
theorem antiquaryref44_Add_l1_ok (s0 : ByteArray → Bool → Int → List It → Int → List Int → List It → Option (List It × Int)) (hs0 : ∀ (p1 : ByteArray) (p2 : Bool) (p3 : Int) (p4 : List It) (p5 : Int) (p6 : List Int) (p7 : List It) (r : List It × Int), s0 p1 p2 p3 p4 p5 p6 p7 = some r → Abs.Good P 19 Tryd.f19.ntmps [] [] (.v (.agg [.p (Kd.sl KI) r.1, .nilsl, .p (Kd.int .i64) r.2])) (pos Tryd.f19 [.r, .r, .c false, .r, .r, .c false, .r, .c false, .r, .r, .r]) [(sk 1, some (.v (.p Kd.str p1))), (sk 2, some (.v (.ptr 500001 0))), (sk 4, some (.v (.ptr 500002 0))), (sk 5, some (.v (.ptr 500003 0))), (sk 6, some (.v (.ptr 500004 0))), (sk 7, some (.v (.p Kd.bool p2))), (sk 8, some (.v (.p (Kd.int .i64) p3))), (ek 500001, some (.box [.p (Kd.sl KI) p4])), (ek 500002, some (.box [.nilsl, .nilsl, .p (Kd.int .i64) p5])), (ek 500003, some (.box [.p (Kd.arr 16 (Kd.int .u8)) p6])), (ek 500004, some (.box [.row 500005 (List.length p7)])), (ek 500005, some (.row KI 50 p7))]) (k : Nat) (p1 : ByteArray) (p2 : Bool) (p3 : Int) (p4 : Bool) (p5 : List It) (p6 : Int) (p7 : List Int) (p8 : List It) (r : List It × Int) (h : antiquaryref44_Add_l1 s0 k p1 p2 p3 p4 p5 p6 p7 p8 = some r) :
    Abs.Good P 19 Tryd.f19.ntmps [] [] (.v (.agg [.p (Kd.sl KI) r.1, .nilsl, .p (Kd.int .i64) r.2])) (pos Tryd.f19 [.r, .r, .c false, .r, .r, .c false, .r, .c false, .r, .r, .r, .r, .c true, .r]) [(sk 1, some (.v (.p Kd.str p1))), (sk 2, some (.v (.ptr 501001 0))), (sk 4, some (.v (.ptr 501002 0))), (sk 5, some (.v (.ptr 501003 0))), (sk 6, some (.v (.ptr 501004 0))), (sk 7, some (.v (.p Kd.bool p2))), (sk 8, some (.v (.p (Kd.int .i64) p3))), (sk 46, some (.v (.p Kd.bool p4))), (ek 501001, some (.box [.p (Kd.sl KI) p5])), (ek 501002, some (.box [.nilsl, .nilsl, .p (Kd.int .i64) p6])), (ek 501003, some (.box [.p (Kd.arr 16 (Kd.int .u8)) p7])), (ek 501004, some (.box [.row 501005 (List.length p8)])), (ek 501005, some (.row KI 50 p8))] := by
  unfold antiquaryref44_Add_l1 at h
  rcases br_inv h with ⟨h1255, h⟩ | ⟨h1255, h⟩
  · obtain ⟨h1256, h⟩ := gd_inv h
    exact Abs.Good.path hm [.cond true, .reg [], .reg [], .keep [sk 1, sk 2, sk 4, sk 5, sk 6, sk 7, sk 8, ek 501001, ek 501002, ek 501003, ek 501004, ek 53], .ren [(501001, 502001), (501002, 502002), (501003, 502003), (501004, 502004), (53, 502005)]] (cs := [_, _, _, _]) (by kernel_rfl) ⟨h1255, (rfl : (List.length p8) = List.length p8), (appBound (P := P) (et := 50) (b := 32) (by kernel_rfl) (by decide) h1256), (rfl : 1 = List.length ([(p7, (p1, ()))] : List It)), trivial⟩ (antiquaryref44_Add_l2_ok s0 hs0 k p1 true p3 p5 p6 p7 (p8 ++ ([(p7, (p1, ()))] : List It)) r h)
  · exact Abs.Good.path hm [.cond false, .keep [sk 1, sk 2, sk 4, sk 5, sk 6, sk 7, sk 8, ek 501001, ek 501002, ek 501003, ek 501004, ek 501005], .ren [(501001, 502001), (501002, 502002), (501003, 502003), (501004, 502004), (501005, 502005)]] (cs := [_]) (by kernel_rfl) ⟨h1255, trivial⟩ (antiquaryref44_Add_l2_ok s0 hs0 k p1 p2 p3 p5 p6 p7 p8 r h)
theorem antiquaryref44_Add_l0_ok (k : Nat) : ∀ (p1 : ByteArray) (p2 : Bool) (p3 : Int) (p4 : List It) (p5 : Int) (p6 : List Int) (p7 : List It) (r : List It × Int), antiquaryref44_Add_l0 k p1 p2 p3 p4 p5 p6 p7 = some r →
    Abs.Good P 19 Tryd.f19.ntmps [] [] (.v (.agg [.p (Kd.sl KI) r.1, .nilsl, .p (Kd.int .i64) r.2])) (pos Tryd.f19 [.r, .r, .c false, .r, .r, .c false, .r, .c false, .r, .r, .r]) [(sk 1, some (.v (.p Kd.str p1))), (sk 2, some (.v (.ptr 500001 0))), (sk 4, some (.v (.ptr 500002 0))), (sk 5, some (.v (.ptr 500003 0))), (sk 6, some (.v (.ptr 500004 0))), (sk 7, some (.v (.p Kd.bool p2))), (sk 8, some (.v (.p (Kd.int .i64) p3))), (ek 500001, some (.box [.p (Kd.sl KI) p4])), (ek 500002, some (.box [.nilsl, .nilsl, .p (Kd.int .i64) p5])), (ek 500003, some (.box [.p (Kd.arr 16 (Kd.int .u8)) p6])), (ek 500004, some (.box [.row 500005 (List.length p7)])), (ek 500005, some (.row KI 50 p7))] := by
  induction k with
  | zero => intro p1 p2 p3 p4 p5 p6 p7 r h; cases h
  | succ k ih =>
    intro p1 p2 p3 p4 p5 p6 p7 r h
    unfold antiquaryref44_Add_l0 at h
    rcases br_inv h with ⟨h1248, h⟩ | ⟨h1248, h⟩
    · rcases br_inv h with ⟨h1249, h⟩ | ⟨h1249, h⟩
      · obtain ⟨h1250, h⟩ := gd_inv h
        obtain ⟨x1251, h1252, h⟩ := bind_inv h
        exact Abs.Good.path hm [.reg [], .cond true, .reg [(3, { dec := some true }), (4, { dec := some true }), (5, { dec := some true }), (6, { dec := some true }), (7, { dec := some true }), (8, { dec := some true }), (9, { dec := some true }), (10, { dec := some true, call := some { lend := [], pass := [], res := .v (.p Kd.bool x1251), outs := [], back := [] } }), (11, { pick := some true })], .keep [sk 1, sk 2, sk 4, sk 5, sk 6, sk 7, sk 8, sk 46, ek 500001, ek 500002, ek 500003, ek 500004, ek 500005], .ren [(500001, 501001), (500002, 501002), (500003, 501003), (500004, 501004), (500005, 501005)]] (cs := [_, _, _, _, _, _, _, _, _, _, _, _, _]) (by kernel_rfl) ⟨h1248, h1249, h1249, h1249, h1249, h1249, h1250.1, h1250.2, h1249, h1249, h1249, (antiquaryref44_Less_ok k p6 ((List.getD p4 (Int.toNat p3) (Kd.dflt KI)).1) _ h1252), h1249, trivial⟩ (antiquaryref44_Add_l1_ok (antiquaryref44_Add_l0 k) ih k p1 p2 p3 x1251 p4 p5 p6 p7 r h)
      · exact Abs.Good.path hm [.reg [], .cond true, .reg [(3, { dec := some false }), (4, { dec := some false }), (5, { dec := some false }), (6, { dec := some false }), (7, { dec := some false }), (8, { dec := some false }), (9, { dec := some false }), (10, { dec := some false }), (11, { pick := some false })], .keep [sk 1, sk 2, sk 4, sk 5, sk 6, sk 7, sk 8, sk 46, ek 500001, ek 500002, ek 500003, ek 500004, ek 500005], .ren [(500001, 501001), (500002, 501002), (500003, 501003), (500004, 501004), (500005, 501005)]] (cs := [_, _, _, _, _, _, _, _, _, _]) (by kernel_rfl) ⟨h1248, h1249, h1249, h1249, h1249, h1249, h1249, h1249, h1249, h1249, trivial⟩ (antiquaryref44_Add_l1_ok (antiquaryref44_Add_l0 k) ih k p1 p2 p3 false p4 p5 p6 p7 r h)
    · rcases br_inv h with ⟨h1253, h⟩ | ⟨h1253, h⟩
      · obtain ⟨h1254, h⟩ := gd_inv h
        replace h := Option.some.inj h; subst h
        exact Abs.Good.path_ret hm [.reg [], .cond false, .reg [], .cond true, .reg [], .reg []] [73] Tryd.func19 (cs := [_, _, _, _, _, _]) (by kernel_rfl) ⟨h1248, h1253, (rfl : (List.length p7) = List.length p7), (appBound (P := P) (et := 50) (b := 32) (by kernel_rfl) (by decide) h1254), (rfl : 1 = List.length ([(p6, (p1, ()))] : List It)), (rfl : (List.length (p7 ++ ([(p6, (p1, ()))] : List It))) = List.length (p7 ++ ([(p6, (p1, ()))] : List It))), trivial⟩ (by kernel_rfl)
      · replace h := Option.some.inj h; subst h
        exact Abs.Good.path_ret hm [.reg [], .cond false, .reg [], .cond false, .reg []] [500005] Tryd.func19 (cs := [_, _, _]) (by kernel_rfl) ⟨h1248, h1253, (rfl : (List.length p7) = List.length p7), trivial⟩ (by kernel_rfl)
theorem antiquaryref44_Add_ok (k : Nat) (a1 : List It) (a2 : ByteArray) (r : List It × Int) (h : antiquaryref44_Add k a1 a2 = some r) : SpecOk P ⟨19, [.agg [.p (Kd.sl KI) a1], .p Kd.str a2], [], .v (.agg [.p (Kd.sl KI) r.1, .nilsl, .p (Kd.int .i64) r.2]), []⟩ := by
  refine spec_at Tryd.func19 (by kernel_rfl) (Nat.le_of_ble_eq_true (by kernel_rfl)) ?_
  unfold antiquaryref44_Add at h
  rcases br_inv h with ⟨h1241, h⟩ | ⟨h1241, h⟩
  · replace h := Option.some.inj h; subst h
    exact Abs.Good.path_ret hm [.reg [], .reg [], .cond true, .reg []] [] Tryd.func19 (cs := [_]) (by kernel_rfl) ⟨h1241, trivial⟩ (by kernel_rfl)
  · obtain ⟨x1242, h1243, h⟩ := bind_inv h
    obtain ⟨x1244, h1245, h⟩ := bind_inv h
    rcases br_inv h with ⟨h1246, h⟩ | ⟨h1246, h⟩
    · replace h := Option.some.inj h; subst h
      exact Abs.Good.path_ret hm [.reg [], .reg [], .cond false, .reg [(1, { call := some { lend := [], pass := [], res := .v (.p (Kd.arr 16 (Kd.int .u8)) x1242), outs := [], back := [] } })], .reg [(2, { call := some { lend := [], pass := [], res := .v (.p (Kd.int .i64) x1244), outs := [], back := [] } })], .cond true, .reg []] [] Tryd.func19 (cs := [_, _, _, _]) (by kernel_rfl) ⟨h1241, (antiquaryref44_Name_ok k a2 _ h1243), (antiquaryref44_Place_ok k a1 x1242 _ h1245), h1246, trivial⟩ (by kernel_rfl)
    · rcases br_inv h with ⟨h1247, h⟩ | ⟨h1247, h⟩
      · replace h := Option.some.inj h; subst h
        exact Abs.Good.path_ret hm [.reg [], .reg [], .cond false, .reg [(1, { call := some { lend := [], pass := [], res := .v (.p (Kd.arr 16 (Kd.int .u8)) x1242), outs := [], back := [] } })], .reg [(2, { call := some { lend := [], pass := [], res := .v (.p (Kd.int .i64) x1244), outs := [], back := [] } })], .cond false, .reg [], .cond true, .reg []] [] Tryd.func19 (cs := [_, _, _, _, _]) (by kernel_rfl) ⟨h1241, (antiquaryref44_Name_ok k a2 _ h1243), (antiquaryref44_Place_ok k a1 x1242 _ h1245), h1246, h1247, trivial⟩ (by kernel_rfl)
      · exact Abs.Good.path hm [.reg [], .reg [], .cond false, .reg [(1, { call := some { lend := [], pass := [], res := .v (.p (Kd.arr 16 (Kd.int .u8)) x1242), outs := [], back := [] } })], .reg [(2, { call := some { lend := [], pass := [], res := .v (.p (Kd.int .i64) x1244), outs := [], back := [] } })], .cond false, .reg [], .cond false, .reg [], .reg [], .reg [], .co (ek 6) 0 (.mk 900001 KI 50), .keep [sk 1, sk 2, sk 4, sk 5, sk 6, sk 7, sk 8, ek 2, ek 4, ek 5, ek 6, ek 900001], .ren [(2, 500001), (4, 500002), (5, 500003), (6, 500004), (900001, 500005)]] (cs := [_, _, _, _, _]) (by kernel_rfl) ⟨h1241, (antiquaryref44_Name_ok k a2 _ h1243), (antiquaryref44_Place_ok k a1 x1242 _ h1245), h1246, h1247, trivial⟩ (antiquaryref44_Add_l0_ok k a2 false (0 : Int) a1 (0 : Int) x1242 ([] : List It) r h)

def antiquaryref44_Under_l0 : Nat → Int → List Int → Int → List Int → Option (Bool)
  | 0, _, _, _, _ => none
  | k + 1, p1, p2, p3, p4 =>
    if (decide (p1 < p3)) = true then
      Option.bind (antiquaryref44_Bit k p2 p1) fun x1272 =>
      Option.bind (antiquaryref44_Bit k p4 p1) fun x1274 =>
      if (!(x1272 == x1274)) = true then
        some (false)
      else
        antiquaryref44_Under_l0 k (IntKind.i64.wrap (p1 + (1 : Int))) p2 p3 p4
    else
      some (true)
def antiquaryref44_Under (k : Nat) (a1 : List Int) (a2 : Int) (a3 : List Int) : Option (Bool) :=
  antiquaryref44_Under_l0 k (0 : Int) a1 a2 a3
theorem antiquaryref44_Under_l0_ok (k : Nat) : ∀ (p1 : Int) (p2 : List Int) (p3 : Int) (p4 : List Int) (r : Bool), antiquaryref44_Under_l0 k p1 p2 p3 p4 = some r →
    Abs.Good P 24 Tryd.f24.ntmps [] [] (.v (.p Kd.bool r)) (pos Tryd.f24 [.r, .r]) [(sk 2, some (.v (.ptr 500001 0))), (sk 3, some (.v (.ptr 500002 0))), (sk 5, some (.v (.p (Kd.int .i64) p1))), (ek 500001, some (.box [.p (Kd.arr 16 (Kd.int .u8)) p2, .p (Kd.int .i64) p3])), (ek 500002, some (.box [.p (Kd.arr 16 (Kd.int .u8)) p4]))] := by
  induction k with
  | zero => intro p1 p2 p3 p4 r h; cases h
  | succ k ih =>
    intro p1 p2 p3 p4 r h
    unfold antiquaryref44_Under_l0 at h
    rcases br_inv h with ⟨h1271, h⟩ | ⟨h1271, h⟩
    · obtain ⟨x1272, h1273, h⟩ := bind_inv h
      obtain ⟨x1274, h1275, h⟩ := bind_inv h
      rcases br_inv h with ⟨h1276, h⟩ | ⟨h1276, h⟩
      · replace h := Option.some.inj h; subst h
        exact Abs.Good.path_ret hm [.reg [], .cond true, .reg [(3, { call := some { lend := [], pass := [], res := .v (.p Kd.bool x1272), outs := [], back := [] } }), (6, { call := some { lend := [], pass := [], res := .v (.p Kd.bool x1274), outs := [], back := [] } })], .cond true, .reg []] [] Tryd.func24 (cs := [_, _, _, _]) (by kernel_rfl) ⟨h1271, (antiquaryref44_Bit_ok k p2 p1 _ h1273), (antiquaryref44_Bit_ok k p4 p1 _ h1275), h1276, trivial⟩ (by kernel_rfl)
      · exact Abs.Good.path hm [.reg [], .cond true, .reg [(3, { call := some { lend := [], pass := [], res := .v (.p Kd.bool x1272), outs := [], back := [] } }), (6, { call := some { lend := [], pass := [], res := .v (.p Kd.bool x1274), outs := [], back := [] } })], .cond false, .reg [], .keep [sk 2, sk 3, sk 5, ek 500001, ek 500002]] (cs := [_, _, _, _]) (by kernel_rfl) ⟨h1271, (antiquaryref44_Bit_ok k p2 p1 _ h1273), (antiquaryref44_Bit_ok k p4 p1 _ h1275), h1276, trivial⟩ (ih (IntKind.i64.wrap (p1 + (1 : Int))) p2 p3 p4 r h)
    · replace h := Option.some.inj h; subst h
      exact Abs.Good.path_ret hm [.reg [], .cond false, .reg []] [] Tryd.func24 (cs := [_]) (by kernel_rfl) ⟨h1271, trivial⟩ (by kernel_rfl)
theorem antiquaryref44_Under_ok (k : Nat) (a1 : List Int) (a2 : Int) (a3 : List Int) (r : Bool) (h : antiquaryref44_Under k a1 a2 a3 = some r) : SpecOk P ⟨24, [.agg [.p (Kd.arr 16 (Kd.int .u8)) a1, .p (Kd.int .i64) a2], .p (Kd.arr 16 (Kd.int .u8)) a3], [], .v (.p Kd.bool r), []⟩ := by
  refine spec_at Tryd.func24 (by kernel_rfl) (Nat.le_of_ble_eq_true (by kernel_rfl)) ?_
  unfold antiquaryref44_Under at h
  exact Abs.Good.path hm [.reg [], .reg [], .keep [sk 2, sk 3, sk 5, ek 2, ek 3], .ren [(2, 500001), (3, 500002)]] (cs := []) (by kernel_rfl) trivial (antiquaryref44_Under_l0_ok k (0 : Int) a1 a2 a3 r h)

def antiquaryref44_Names_l1 (s0 : Int → List It → List Int → Int → List (List Int) → Option (List (List Int))) (k : Nat) (p1 : Int) (p2 : List It) (p3 : List Int) (p4 : Int) (p5 : List (List Int)) : Option (List (List Int)) :=
  s0 (IntKind.i64.wrap (p1 + (1 : Int))) p2 p3 p4 p5
def antiquaryref44_Names_l0 : Nat → Int → List It → List Int → Int → List (List Int) → Option (List (List Int))
  | 0, _, _, _, _, _ => none
  | k + 1, p1, p2, p3, p4, p5 =>
    if (decide (p1 < (List.length p2 : Int))) = true then
      if 0 ≤ p1 ∧ p1 < (List.length p2 : Int) then
        Option.bind (antiquaryref44_Under k p3 p4 ((List.getD p2 (Int.toNat p1) (Kd.dflt KI)).1)) fun x1301 =>
        if x1301 = true then
          if List.length p5 + List.length ([(List.getD p2 (Int.toNat p1) (Kd.dflt KI)).1] : List (List Int)) ≤ 8796093022208 then
            antiquaryref44_Names_l1 (antiquaryref44_Names_l0 k) k p1 p2 p3 p4 (p5 ++ ([(List.getD p2 (Int.toNat p1) (Kd.dflt KI)).1] : List (List Int)))
          else none
        else
          antiquaryref44_Names_l1 (antiquaryref44_Names_l0 k) k p1 p2 p3 p4 p5
      else none
    else
      some (p5)
def antiquaryref44_Names (k : Nat) (a1 : List It) (a2 : List Int) (a3 : Int) : Option (List (List Int)) :=
  antiquaryref44_Names_l0 k (0 : Int) a1 a2 a3 ([] : List (List Int))
theorem antiquaryref44_Names_l1_ok (s0 : Int → List It → List Int → Int → List (List Int) → Option (List (List Int))) (hs0 : ∀ (p1 : Int) (p2 : List It) (p3 : List Int) (p4 : Int) (p5 : List (List Int)) (r : List (List Int)), s0 p1 p2 p3 p4 p5 = some r → Abs.Good P 27 Tryd.f27.ntmps [] [] (.v (.p (Kd.sl (Kd.arr 16 (Kd.int .u8))) r)) (pos Tryd.f27 [.r, .r, .r]) [(sk 2, some (.v (.ptr 500001 0))), (sk 3, some (.v (.ptr 500002 0))), (sk 5, some (.v (.row 500003 (List.length p5)))), (sk 6, some (.v (.p (Kd.int .i64) p1))), (ek 500001, some (.box [.p (Kd.sl KI) p2])), (ek 500002, some (.box [.p (Kd.arr 16 (Kd.int .u8)) p3, .p (Kd.int .i64) p4])), (ek 500003, some (.row (Kd.arr 16 (Kd.int .u8)) 26 p5))]) (k : Nat) (p1 : Int) (p2 : List It) (p3 : List Int) (p4 : Int) (p5 : List (List Int)) (r : List (List Int)) (h : antiquaryref44_Names_l1 s0 k p1 p2 p3 p4 p5 = some r) :
    Abs.Good P 27 Tryd.f27.ntmps [] [] (.v (.p (Kd.sl (Kd.arr 16 (Kd.int .u8))) r)) (pos Tryd.f27 [.r, .r, .r, .r, .c true, .r, .r, .c false]) [(sk 2, some (.v (.ptr 501001 0))), (sk 3, some (.v (.ptr 501002 0))), (sk 5, some (.v (.row 501003 (List.length p5)))), (sk 6, some (.v (.p (Kd.int .i64) p1))), (ek 501001, some (.box [.p (Kd.sl KI) p2])), (ek 501002, some (.box [.p (Kd.arr 16 (Kd.int .u8)) p3, .p (Kd.int .i64) p4])), (ek 501003, some (.row (Kd.arr 16 (Kd.int .u8)) 26 p5))] := by
  unfold antiquaryref44_Names_l1 at h
  exact Abs.Good.path hm [.reg [], .keep [sk 2, sk 3, sk 5, sk 6, ek 501001, ek 501002, ek 501003], .ren [(501001, 500001), (501002, 500002), (501003, 500003)]] (cs := []) (by kernel_rfl) trivial (hs0 (IntKind.i64.wrap (p1 + (1 : Int))) p2 p3 p4 p5 r h)
theorem antiquaryref44_Names_l0_ok (k : Nat) : ∀ (p1 : Int) (p2 : List It) (p3 : List Int) (p4 : Int) (p5 : List (List Int)) (r : List (List Int)), antiquaryref44_Names_l0 k p1 p2 p3 p4 p5 = some r →
    Abs.Good P 27 Tryd.f27.ntmps [] [] (.v (.p (Kd.sl (Kd.arr 16 (Kd.int .u8))) r)) (pos Tryd.f27 [.r, .r, .r]) [(sk 2, some (.v (.ptr 500001 0))), (sk 3, some (.v (.ptr 500002 0))), (sk 5, some (.v (.row 500003 (List.length p5)))), (sk 6, some (.v (.p (Kd.int .i64) p1))), (ek 500001, some (.box [.p (Kd.sl KI) p2])), (ek 500002, some (.box [.p (Kd.arr 16 (Kd.int .u8)) p3, .p (Kd.int .i64) p4])), (ek 500003, some (.row (Kd.arr 16 (Kd.int .u8)) 26 p5))] := by
  induction k with
  | zero => intro p1 p2 p3 p4 p5 r h; cases h
  | succ k ih =>
    intro p1 p2 p3 p4 p5 r h
    unfold antiquaryref44_Names_l0 at h
    rcases br_inv h with ⟨h1299, h⟩ | ⟨h1299, h⟩
    · obtain ⟨h1300, h⟩ := gd_inv h
      obtain ⟨x1301, h1302, h⟩ := bind_inv h
      rcases br_inv h with ⟨h1303, h⟩ | ⟨h1303, h⟩
      · obtain ⟨h1304, h⟩ := gd_inv h
        exact Abs.Good.path hm [.reg [], .cond true, .reg [(7, { call := some { lend := [], pass := [], res := .v (.p Kd.bool x1301), outs := [], back := [] } })], .reg [], .cond true, .reg [], .keep [sk 2, sk 3, sk 5, sk 6, ek 500001, ek 500002, ek 32], .ren [(500001, 501001), (500002, 501002), (32, 501003)]] (cs := [_, _, _, _, _, _, _, _, _, _]) (by kernel_rfl) ⟨h1299, h1300.1, h1300.2, (antiquaryref44_Under_ok k p3 p4 ((List.getD p2 (Int.toNat p1) (Kd.dflt KI)).1) _ h1302), h1303, h1300.1, h1300.2, (rfl : (List.length p5) = List.length p5), (appBound (P := P) (et := 26) (b := 16) (by kernel_rfl) (by decide) h1304), (rfl : 1 = List.length ([(List.getD p2 (Int.toNat p1) (Kd.dflt KI)).1] : List (List Int))), trivial⟩ (antiquaryref44_Names_l1_ok (antiquaryref44_Names_l0 k) ih k p1 p2 p3 p4 (p5 ++ ([(List.getD p2 (Int.toNat p1) (Kd.dflt KI)).1] : List (List Int))) r h)
      · exact Abs.Good.path hm [.reg [], .cond true, .reg [(7, { call := some { lend := [], pass := [], res := .v (.p Kd.bool x1301), outs := [], back := [] } })], .reg [], .cond false, .keep [sk 2, sk 3, sk 5, sk 6, ek 500001, ek 500002, ek 500003], .ren [(500001, 501001), (500002, 501002), (500003, 501003)]] (cs := [_, _, _, _, _]) (by kernel_rfl) ⟨h1299, h1300.1, h1300.2, (antiquaryref44_Under_ok k p3 p4 ((List.getD p2 (Int.toNat p1) (Kd.dflt KI)).1) _ h1302), h1303, trivial⟩ (antiquaryref44_Names_l1_ok (antiquaryref44_Names_l0 k) ih k p1 p2 p3 p4 p5 r h)
    · replace h := Option.some.inj h; subst h
      exact Abs.Good.path_ret hm [.reg [], .cond false, .reg []] [500003] Tryd.func27 (cs := [_, _]) (by kernel_rfl) ⟨h1299, (rfl : (List.length p5) = List.length p5), trivial⟩ (by kernel_rfl)
theorem antiquaryref44_Names_ok (k : Nat) (a1 : List It) (a2 : List Int) (a3 : Int) (r : List (List Int)) (h : antiquaryref44_Names k a1 a2 a3 = some r) : SpecOk P ⟨27, [.agg [.p (Kd.sl KI) a1], .agg [.p (Kd.arr 16 (Kd.int .u8)) a2, .p (Kd.int .i64) a3]], [], .v (.p (Kd.sl (Kd.arr 16 (Kd.int .u8))) r), []⟩ := by
  refine spec_at Tryd.func27 (by kernel_rfl) (Nat.le_of_ble_eq_true (by kernel_rfl)) ?_
  unfold antiquaryref44_Names at h
  exact Abs.Good.path hm [.reg [], .reg [], .reg [], .co (sk 5) 0 (.mk 900001 (Kd.arr 16 (Kd.int .u8)) 26), .keep [sk 2, sk 3, sk 5, sk 6, ek 2, ek 3, ek 900001], .ren [(2, 500001), (3, 500002), (900001, 500003)]] (cs := []) (by kernel_rfl) trivial (antiquaryref44_Names_l0_ok k (0 : Int) a1 a2 a3 ([] : List (List Int)) r h)

def antiquaryref44_bytes_l0 : Nat → Int → List Int → List Int → Option (ByteArray)
  | 0, _, _, _ => none
  | k + 1, p1, p2, p3 =>
    if (decide (p1 < (16 : Int))) = true then
      if 0 ≤ p1 ∧ p1 < (16 : Int) then
        if List.length p3 + List.length ([(List.getD p2 (Int.toNat p1) (Kd.dflt (Kd.int .u8)))] : List Int) ≤ 140737488355328 then
          antiquaryref44_bytes_l0 k (IntKind.i64.wrap (p1 + (1 : Int))) p2 (p3 ++ ([(List.getD p2 (Int.toNat p1) (Kd.dflt (Kd.int .u8)))] : List Int))
        else none
      else none
    else
      some ((strOf (List.take (List.length p3) p3)))
def antiquaryref44_bytes (k : Nat) (a1 : List Int) : Option (ByteArray) :=
  antiquaryref44_bytes_l0 k (0 : Int) a1 ([] : List Int)
theorem antiquaryref44_bytes_l0_ok (k : Nat) : ∀ (p1 : Int) (p2 : List Int) (p3 : List Int) (r : ByteArray), antiquaryref44_bytes_l0 k p1 p2 p3 = some r →
    Abs.Good P 50 Tryd.f50.ntmps [] [] (.v (.p Kd.str r)) (pos Tryd.f50 [.r, .r, .r]) [(sk 1, some (.v (.ptr 500001 0))), (sk 3, some (.v (.row 500002 (List.length p3)))), (sk 4, some (.v (.p (Kd.int .i64) p1))), (ek 500001, some (.box [.p (Kd.arr 16 (Kd.int .u8)) p2])), (ek 500002, some (.row (Kd.int .u8) 5 p3))] := by
  induction k with
  | zero => intro p1 p2 p3 r h; cases h
  | succ k ih =>
    intro p1 p2 p3 r h
    unfold antiquaryref44_bytes_l0 at h
    rcases br_inv h with ⟨h1317, h⟩ | ⟨h1317, h⟩
    · obtain ⟨h1318, h⟩ := gd_inv h
      obtain ⟨h1319, h⟩ := gd_inv h
      exact Abs.Good.path hm [.reg [], .cond true, .reg [], .reg [], .keep [sk 1, sk 3, sk 4, ek 500001, ek 14], .ren [(500001, 500001), (14, 500002)]] (cs := [_, _, _, _, _, _]) (by kernel_rfl) ⟨h1317, h1318.1, h1318.2, (rfl : (List.length p3) = List.length p3), (appBound (P := P) (et := 5) (b := 1) (by kernel_rfl) (by decide) h1319), (rfl : 1 = List.length ([(List.getD p2 (Int.toNat p1) (Kd.dflt (Kd.int .u8)))] : List Int)), trivial⟩ (ih (IntKind.i64.wrap (p1 + (1 : Int))) p2 (p3 ++ ([(List.getD p2 (Int.toNat p1) (Kd.dflt (Kd.int .u8)))] : List Int)) r h)
    · replace h := Option.some.inj h; subst h
      exact Abs.Good.path_ret hm [.reg [], .cond false, .reg []] [] Tryd.func50 (cs := [_]) (by kernel_rfl) ⟨h1317, trivial⟩ (by kernel_rfl)
theorem antiquaryref44_bytes_ok (k : Nat) (a1 : List Int) (r : ByteArray) (h : antiquaryref44_bytes k a1 = some r) : SpecOk P ⟨50, [.p (Kd.arr 16 (Kd.int .u8)) a1], [], .v (.p Kd.str r), []⟩ := by
  refine spec_at Tryd.func50 (by kernel_rfl) (Nat.le_of_ble_eq_true (by kernel_rfl)) ?_
  unfold antiquaryref44_bytes at h
  exact Abs.Good.path hm [.reg [], .reg [], .reg [], .co (sk 3) 0 (.mk 900001 (Kd.int .u8) 5), .keep [sk 1, sk 3, sk 4, ek 1, ek 900001], .ren [(1, 500001), (900001, 500002)]] (cs := []) (by kernel_rfl) trivial (antiquaryref44_bytes_l0_ok k (0 : Int) a1 ([] : List Int) r h)

def antiquaryref44_Sum_l0 : Nat → List (List Int) → Int → List Int → Int → Int → List Int → Int → List Int → Int → ByteArray → List ByteArray → Option (Int × List Int × Int × List Int × Int × ByteArray)
  | 0, _, _, _, _, _, _, _, _, _, _, _ => none
  | k + 1, p1, p2, p3, p4, p5, p6, p7, p8, p9, p10, p11 =>
    if (decide (p2 < (List.length p1 : Int))) = true then
      if 0 ≤ p2 ∧ p2 < (List.length p1 : Int) then
        Option.bind (antiquaryref44_bytes k (List.getD p1 (Int.toNat p2) (Kd.dflt (Kd.arr 16 (Kd.int .u8))))) fun x1336 =>
        if List.length p11 + List.length ([x1336] : List ByteArray) ≤ 8796093022208 then
          antiquaryref44_Sum_l0 k p1 (IntKind.i64.wrap (p2 + (1 : Int))) p3 p4 p5 p6 p7 p8 p9 p10 (p11 ++ ([x1336] : List ByteArray))
        else none
      else none
    else
      Option.bind (antiquaryref02_Of k (45 : Int) p11) fun x1339 =>
      some ((1 : Int), p3, p4, x1339, (List.length p1 : Int), (⟨#[]⟩ : ByteArray))
def antiquaryref44_Sum (k : Nat) (a1 : List It) (a2 : List Int) (a3 : Int) : Option (Int × List Int × Int × List Int × Int × ByteArray) :=
  Option.bind (antiquaryref44_Names k a1 a2 a3) fun x1332 =>
  antiquaryref44_Sum_l0 k x1332 (0 : Int) a2 a3 (0 : Int) (Kd.dflt (Kd.arr 16 (Kd.int .u8))) (0 : Int) (Kd.dflt (Kd.arr 16 (Kd.int .u8))) (0 : Int) (⟨#[]⟩ : ByteArray) ([] : List ByteArray)
theorem antiquaryref44_Sum_l0_ok (k : Nat) : ∀ (p1 : List (List Int)) (p2 : Int) (p3 : List Int) (p4 : Int) (p5 : Int) (p6 : List Int) (p7 : Int) (p8 : List Int) (p9 : Int) (p10 : ByteArray) (p11 : List ByteArray) (r : Int × List Int × Int × List Int × Int × ByteArray), antiquaryref44_Sum_l0 k p1 p2 p3 p4 p5 p6 p7 p8 p9 p10 p11 = some r →
    Abs.Good P 21 Tryd.f21.ntmps [] [] (.v (.agg [.p (Kd.int .i64) r.1, .p (Kd.arr 16 (Kd.int .u8)) r.2.1, .p (Kd.int .i64) r.2.2.1, .p (Kd.arr 16 (Kd.int .u8)) r.2.2.2.1, .p (Kd.int .i64) r.2.2.2.2.1, .nilsl, .p Kd.str r.2.2.2.2.2])) (pos Tryd.f21 [.r, .r, .r, .r]) [(sk 3, some (.v (.ptr 500001 0))), (sk 4, some (.v (.ptr 500002 0))), (sk 5, some (.v (.p (Kd.sl (Kd.arr 16 (Kd.int .u8))) p1))), (sk 6, some (.v (.row 500003 (List.length p11)))), (sk 7, some (.v (.p (Kd.int .i64) p2))), (ek 500001, some (.box [.p (Kd.arr 16 (Kd.int .u8)) p3, .p (Kd.int .i64) p4])), (ek 500002, some (.box [.p (Kd.int .i64) p5, .p (Kd.arr 16 (Kd.int .u8)) p6, .p (Kd.int .i64) p7, .p (Kd.arr 16 (Kd.int .u8)) p8, .p (Kd.int .i64) p9, .nilsl, .p Kd.str p10])), (ek 500003, some (.row Kd.str 9 p11))] := by
  induction k with
  | zero => intro p1 p2 p3 p4 p5 p6 p7 p8 p9 p10 p11 r h; cases h
  | succ k ih =>
    intro p1 p2 p3 p4 p5 p6 p7 p8 p9 p10 p11 r h
    unfold antiquaryref44_Sum_l0 at h
    rcases br_inv h with ⟨h1334, h⟩ | ⟨h1334, h⟩
    · obtain ⟨h1335, h⟩ := gd_inv h
      obtain ⟨x1336, h1337, h⟩ := bind_inv h
      obtain ⟨h1338, h⟩ := gd_inv h
      exact Abs.Good.path hm [.reg [], .cond true, .reg [(5, { call := some { lend := [], pass := [], res := .v (.p Kd.str x1336), outs := [], back := [] } })], .reg [], .keep [sk 3, sk 4, sk 5, sk 6, sk 7, ek 500001, ek 500002, ek 24], .ren [(500001, 500001), (500002, 500002), (24, 500003)]] (cs := [_, _, _, _, _, _, _]) (by kernel_rfl) ⟨h1334, h1335.1, h1335.2, (antiquaryref44_bytes_ok k (List.getD p1 (Int.toNat p2) (Kd.dflt (Kd.arr 16 (Kd.int .u8)))) _ h1337), (rfl : (List.length p11) = List.length p11), (appBound (P := P) (et := 9) (b := 16) (by kernel_rfl) (by decide) h1338), (rfl : 1 = List.length ([x1336] : List ByteArray)), trivial⟩ (ih p1 (IntKind.i64.wrap (p2 + (1 : Int))) p3 p4 p5 p6 p7 p8 p9 p10 (p11 ++ ([x1336] : List ByteArray)) r h)
    · obtain ⟨x1339, h1340, h⟩ := bind_inv h
      replace h := Option.some.inj h; subst h
      exact Abs.Good.path_ret hm [.reg [], .cond false, .reg [(2, { call := some { lend := [(500003, false)], pass := [], res := .v (.p (Kd.arr 16 (Kd.int .u8)) x1339), outs := [], back := [] } })]] [] Tryd.func21 (cs := [_, _, _]) (by kernel_rfl) ⟨h1334, (antiquaryref02_Of_ok k (45 : Int) p11 _ h1340), (rfl : (List.length p11) = List.length p11), trivial⟩ (by kernel_rfl)
theorem antiquaryref44_Sum_ok (k : Nat) (a1 : List It) (a2 : List Int) (a3 : Int) (r : Int × List Int × Int × List Int × Int × ByteArray) (h : antiquaryref44_Sum k a1 a2 a3 = some r) : SpecOk P ⟨21, [.agg [.p (Kd.sl KI) a1], .agg [.p (Kd.arr 16 (Kd.int .u8)) a2, .p (Kd.int .i64) a3]], [], .v (.agg [.p (Kd.int .i64) r.1, .p (Kd.arr 16 (Kd.int .u8)) r.2.1, .p (Kd.int .i64) r.2.2.1, .p (Kd.arr 16 (Kd.int .u8)) r.2.2.2.1, .p (Kd.int .i64) r.2.2.2.2.1, .nilsl, .p Kd.str r.2.2.2.2.2]), []⟩ := by
  refine spec_at Tryd.func21 (by kernel_rfl) (Nat.le_of_ble_eq_true (by kernel_rfl)) ?_
  unfold antiquaryref44_Sum at h
  obtain ⟨x1332, h1333, h⟩ := bind_inv h
  exact Abs.Good.path hm [.reg [], .reg [(2, { call := some { lend := [], pass := [], res := .v (.p (Kd.sl (Kd.arr 16 (Kd.int .u8))) x1332), outs := [], back := [] } })], .reg [], .reg [], .co (sk 6) 0 (.mk 900001 Kd.str 9), .keep [sk 3, sk 4, sk 5, sk 6, sk 7, ek 3, ek 4, ek 900001], .ren [(3, 500001), (4, 500002), (900001, 500003)]] (cs := [_]) (by kernel_rfl) ⟨(antiquaryref44_Names_ok k a1 a2 a3 _ h1333), trivial⟩ (antiquaryref44_Sum_l0_ok k x1332 (0 : Int) a2 a3 (0 : Int) (Kd.dflt (Kd.arr 16 (Kd.int .u8))) (0 : Int) (Kd.dflt (Kd.arr 16 (Kd.int .u8))) (0 : Int) (⟨#[]⟩ : ByteArray) ([] : List ByteArray) r h)

def antiquaryref44_SameNames_l0 : Nat → List (List Int) → List (List Int) → Int → Option (Bool)
  | 0, _, _, _ => none
  | k + 1, p1, p2, p3 =>
    if (decide (p3 < (List.length p1 : Int))) = true then
      if 0 ≤ p3 ∧ p3 < (List.length p1 : Int) then
        if p3 < (List.length p2 : Int) then
          if (!(Kd.eqb (Kd.arr 16 (Kd.int .u8)) (List.getD p1 (Int.toNat p3) (Kd.dflt (Kd.arr 16 (Kd.int .u8)))) (List.getD p2 (Int.toNat p3) (Kd.dflt (Kd.arr 16 (Kd.int .u8)))))) = true then
            some (false)
          else
            antiquaryref44_SameNames_l0 k p1 p2 (IntKind.i64.wrap (p3 + (1 : Int)))
        else none
      else none
    else
      some (true)
def antiquaryref44_SameNames (k : Nat) (a1 : List (List Int)) (a2 : List (List Int)) : Option (Bool) :=
  if ((List.length a1 : Int) != (List.length a2 : Int)) = true then
    some (false)
  else
    antiquaryref44_SameNames_l0 k a1 a2 (0 : Int)
theorem antiquaryref44_SameNames_l0_ok (k : Nat) : ∀ (p1 : List (List Int)) (p2 : List (List Int)) (p3 : Int) (r : Bool), antiquaryref44_SameNames_l0 k p1 p2 p3 = some r →
    Abs.Good P 25 Tryd.f25.ntmps [] [] (.v (.p Kd.bool r)) (pos Tryd.f25 [.r, .r, .c false, .r]) [(sk 0, some (.v (.p (Kd.sl (Kd.arr 16 (Kd.int .u8))) p1))), (sk 1, some (.v (.p (Kd.sl (Kd.arr 16 (Kd.int .u8))) p2))), (sk 5, some (.v (.p (Kd.int .i64) p3)))] := by
  induction k with
  | zero => intro p1 p2 p3 r h; cases h
  | succ k ih =>
    intro p1 p2 p3 r h
    unfold antiquaryref44_SameNames_l0 at h
    rcases br_inv h with ⟨h1491, h⟩ | ⟨h1491, h⟩
    · obtain ⟨h1492, h⟩ := gd_inv h
      obtain ⟨h1493, h⟩ := gd_inv h
      rcases br_inv h with ⟨h1494, h⟩ | ⟨h1494, h⟩
      · replace h := Option.some.inj h; subst h
        exact Abs.Good.path_ret hm [.reg [], .cond true, .reg [], .cond true, .reg []] [] Tryd.func25 (cs := [_, _, _, _, _, _, _]) (by kernel_rfl) ⟨h1491, h1492.1, h1492.2, h1492.1, h1493, eq26, h1494, trivial⟩ (by kernel_rfl)
      · exact Abs.Good.path hm [.reg [], .cond true, .reg [], .cond false, .reg [], .keep [sk 0, sk 1, sk 5]] (cs := [_, _, _, _, _, _, _]) (by kernel_rfl) ⟨h1491, h1492.1, h1492.2, h1492.1, h1493, eq26, h1494, trivial⟩ (ih p1 p2 (IntKind.i64.wrap (p3 + (1 : Int))) r h)
    · replace h := Option.some.inj h; subst h
      exact Abs.Good.path_ret hm [.reg [], .cond false, .reg []] [] Tryd.func25 (cs := [_]) (by kernel_rfl) ⟨h1491, trivial⟩ (by kernel_rfl)
theorem antiquaryref44_SameNames_ok (k : Nat) (a1 : List (List Int)) (a2 : List (List Int)) (r : Bool) (h : antiquaryref44_SameNames k a1 a2 = some r) : SpecOk P ⟨25, [.p (Kd.sl (Kd.arr 16 (Kd.int .u8))) a1, .p (Kd.sl (Kd.arr 16 (Kd.int .u8))) a2], [], .v (.p Kd.bool r), []⟩ := by
  refine spec_at Tryd.func25 (by kernel_rfl) (Nat.le_of_ble_eq_true (by kernel_rfl)) ?_
  unfold antiquaryref44_SameNames at h
  rcases br_inv h with ⟨h1490, h⟩ | ⟨h1490, h⟩
  · replace h := Option.some.inj h; subst h
    exact Abs.Good.path_ret hm [.reg [], .reg [], .cond true, .reg []] [] Tryd.func25 (cs := [_]) (by kernel_rfl) ⟨h1490, trivial⟩ (by kernel_rfl)
  · exact Abs.Good.path hm [.reg [], .reg [], .cond false, .reg [], .keep [sk 0, sk 1, sk 5]] (cs := [_]) (by kernel_rfl) ⟨h1490, trivial⟩ (antiquaryref44_SameNames_l0_ok k a1 a2 (0 : Int) r h)

def antiquaryref44_SameParcels_l1 (s0 : List Pt → List Pt → Int → Option (Bool)) (k : Nat) (p1 : List Pt) (p2 : List Pt) (p3 : Int) (p4 : Bool) : Option (Bool) :=
  if p4 = true then
    some (false)
  else
    s0 p1 p2 (IntKind.i64.wrap (p3 + (1 : Int)))
def antiquaryref44_SameParcels_l0 : Nat → List Pt → List Pt → Int → Option (Bool)
  | 0, _, _, _ => none
  | k + 1, p1, p2, p3 =>
    if (decide (p3 < (List.length p1 : Int))) = true then
      if 0 ≤ p3 ∧ p3 < (List.length p1 : Int) then
        if p3 < (List.length p2 : Int) then
          if ((List.getD p1 (Int.toNat p3) (Kd.dflt KP)).1 != (List.getD p2 (Int.toNat p3) (Kd.dflt KP)).1) = true then
            antiquaryref44_SameParcels_l1 (antiquaryref44_SameParcels_l0 k) k p1 p2 p3 true
          else
            if (!(Kd.eqb KX ((((List.getD p1 (Int.toNat p3) (Kd.dflt KP)).2).1).1, (((((List.getD p1 (Int.toNat p3) (Kd.dflt KP)).2).1).2).1, ())) ((((List.getD p2 (Int.toNat p3) (Kd.dflt KP)).2).1).1, (((((List.getD p2 (Int.toNat p3) (Kd.dflt KP)).2).1).2).1, ())))) = true then
              antiquaryref44_SameParcels_l1 (antiquaryref44_SameParcels_l0 k) k p1 p2 p3 true
            else
              if (!(Kd.eqb (Kd.arr 16 (Kd.int .u8)) ((((List.getD p1 (Int.toNat p3) (Kd.dflt KP)).2).2).1) ((((List.getD p2 (Int.toNat p3) (Kd.dflt KP)).2).2).1))) = true then
                antiquaryref44_SameParcels_l1 (antiquaryref44_SameParcels_l0 k) k p1 p2 p3 true
              else
                if (((((List.getD p1 (Int.toNat p3) (Kd.dflt KP)).2).2).2).1 != ((((List.getD p2 (Int.toNat p3) (Kd.dflt KP)).2).2).2).1) = true then
                  antiquaryref44_SameParcels_l1 (antiquaryref44_SameParcels_l0 k) k p1 p2 p3 true
                else
                  if (!(ByteArray.toList (((((((List.getD p1 (Int.toNat p3) (Kd.dflt KP)).2).2).2).2).2).1) == ByteArray.toList (((((((List.getD p2 (Int.toNat p3) (Kd.dflt KP)).2).2).2).2).2).1))) = true then
                    antiquaryref44_SameParcels_l1 (antiquaryref44_SameParcels_l0 k) k p1 p2 p3 true
                  else
                    Option.bind (antiquaryref44_SameNames k ((((((List.getD p1 (Int.toNat p3) (Kd.dflt KP)).2).2).2).2).1) ((((((List.getD p2 (Int.toNat p3) (Kd.dflt KP)).2).2).2).2).1)) fun x1518 =>
                    antiquaryref44_SameParcels_l1 (antiquaryref44_SameParcels_l0 k) k p1 p2 p3 (!x1518)
        else none
      else none
    else
      some (true)
def antiquaryref44_SameParcels (k : Nat) (a1 : List Pt) (a2 : List Pt) : Option (Bool) :=
  if ((List.length a1 : Int) != (List.length a2 : Int)) = true then
    some (false)
  else
    antiquaryref44_SameParcels_l0 k a1 a2 (0 : Int)
theorem antiquaryref44_SameParcels_l1_ok (s0 : List Pt → List Pt → Int → Option (Bool)) (hs0 : ∀ (p1 : List Pt) (p2 : List Pt) (p3 : Int) (r : Bool), s0 p1 p2 p3 = some r → Abs.Good P 28 Tryd.f28.ntmps [] [] (.v (.p Kd.bool r)) (pos Tryd.f28 [.r, .r, .c false, .r]) [(sk 0, some (.v (.p (Kd.sl KP) p1))), (sk 1, some (.v (.p (Kd.sl KP) p2))), (sk 5, some (.v (.p (Kd.int .i64) p3)))]) (k : Nat) (p1 : List Pt) (p2 : List Pt) (p3 : Int) (p4 : Bool) (r : Bool) (h : antiquaryref44_SameParcels_l1 s0 k p1 p2 p3 p4 = some r) :
    Abs.Good P 28 Tryd.f28.ntmps [] [] (.v (.p Kd.bool r)) (pos Tryd.f28 [.r, .r, .c false, .r, .r, .c true, .r]) [(sk 0, some (.v (.p (Kd.sl KP) p1))), (sk 1, some (.v (.p (Kd.sl KP) p2))), (sk 5, some (.v (.p (Kd.int .i64) p3))), (sk 93, some (.v (.p Kd.bool p4)))] := by
  unfold antiquaryref44_SameParcels_l1 at h
  rcases br_inv h with ⟨h1520, h⟩ | ⟨h1520, h⟩
  · replace h := Option.some.inj h; subst h
    exact Abs.Good.path_ret hm [.cond true, .reg []] [] Tryd.func28 (cs := [_]) (by kernel_rfl) ⟨h1520, trivial⟩ (by kernel_rfl)
  · exact Abs.Good.path hm [.cond false, .reg [], .keep [sk 0, sk 1, sk 5]] (cs := [_]) (by kernel_rfl) ⟨h1520, trivial⟩ (hs0 p1 p2 (IntKind.i64.wrap (p3 + (1 : Int))) r h)
theorem antiquaryref44_SameParcels_l0_ok (k : Nat) : ∀ (p1 : List Pt) (p2 : List Pt) (p3 : Int) (r : Bool), antiquaryref44_SameParcels_l0 k p1 p2 p3 = some r →
    Abs.Good P 28 Tryd.f28.ntmps [] [] (.v (.p Kd.bool r)) (pos Tryd.f28 [.r, .r, .c false, .r]) [(sk 0, some (.v (.p (Kd.sl KP) p1))), (sk 1, some (.v (.p (Kd.sl KP) p2))), (sk 5, some (.v (.p (Kd.int .i64) p3)))] := by
  induction k with
  | zero => intro p1 p2 p3 r h; cases h
  | succ k ih =>
    intro p1 p2 p3 r h
    unfold antiquaryref44_SameParcels_l0 at h
    rcases br_inv h with ⟨h1510, h⟩ | ⟨h1510, h⟩
    · obtain ⟨h1511, h⟩ := gd_inv h
      obtain ⟨h1512, h⟩ := gd_inv h
      rcases br_inv h with ⟨h1513, h⟩ | ⟨h1513, h⟩
      · exact Abs.Good.path hm [.reg [], .cond true, .reg [(12, { dec := some true }), (13, { dec := some true }), (14, { dec := some true }), (15, { dec := some true }), (16, { dec := some true }), (17, { dec := some true }), (18, { dec := some true }), (19, { dec := some true }), (20, { dec := some true }), (21, { dec := some true }), (22, { dec := some true }), (23, { pick := some true }), (25, { dec := some true }), (26, { dec := some true }), (27, { dec := some true }), (28, { dec := some true }), (29, { dec := some true }), (30, { dec := some true }), (31, { dec := some true }), (32, { dec := some true }), (33, { dec := some true }), (34, { dec := some true }), (35, { dec := some true }), (36, { pick := some true }), (38, { dec := some true }), (39, { dec := some true }), (40, { dec := some true }), (41, { dec := some true }), (42, { dec := some true }), (43, { dec := some true }), (44, { dec := some true }), (45, { dec := some true }), (46, { dec := some true }), (47, { dec := some true }), (48, { dec := some true }), (49, { pick := some true }), (51, { dec := some true }), (52, { dec := some true }), (53, { dec := some true }), (54, { dec := some true }), (55, { dec := some true }), (56, { dec := some true }), (57, { dec := some true }), (58, { dec := some true }), (59, { dec := some true }), (60, { dec := some true }), (61, { dec := some true }), (62, { pick := some true }), (64, { dec := some true }), (65, { dec := some true }), (66, { dec := some true }), (67, { dec := some true }), (68, { dec := some true }), (69, { dec := some true }), (70, { dec := some true }), (71, { dec := some true }), (72, { dec := some true }), (73, { dec := some true }), (74, { dec := some true }), (75, { dec := some true }), (76, { pick := some true })], .keep [sk 0, sk 1, sk 5, sk 93]] (cs := [_, _, _, _, _, _, _, _, _, _, _, _, _, _, _, _, _, _, _, _, _, _, _, _, _, _, _, _, _, _, _, _, _, _, _, _, _, _, _, _, _, _, _, _, _, _, _, _, _, _, _, _, _, _, _, _, _, _, _, _, _, _, _, _, _, _]) (by kernel_rfl) ⟨h1510, h1511.1, h1511.2, h1511.1, h1512, h1513, h1513, h1513, h1513, h1513, h1513, h1513, h1513, h1513, h1513, h1513, h1513, (rfl : true = true), (rfl : true = true), (rfl : true = true), (rfl : true = true), (rfl : true = true), (rfl : true = true), (rfl : true = true), (rfl : true = true), (rfl : true = true), (rfl : true = true), (rfl : true = true), (rfl : true = true), (rfl : true = true), (rfl : true = true), (rfl : true = true), (rfl : true = true), (rfl : true = true), (rfl : true = true), (rfl : true = true), (rfl : true = true), (rfl : true = true), (rfl : true = true), (rfl : true = true), (rfl : true = true), (rfl : true = true), (rfl : true = true), (rfl : true = true), (rfl : true = true), (rfl : true = true), (rfl : true = true), (rfl : true = true), (rfl : true = true), (rfl : true = true), (rfl : true = true), (rfl : true = true), (rfl : true = true), (rfl : true = true), (rfl : true = true), (rfl : true = true), (rfl : true = true), (rfl : true = true), (rfl : true = true), (rfl : true = true), (rfl : true = true), (rfl : true = true), (rfl : true = true), (rfl : true = true), (rfl : true = true), (rfl : true = true), trivial⟩ (antiquaryref44_SameParcels_l1_ok (antiquaryref44_SameParcels_l0 k) ih k p1 p2 p3 true r h)
      · rcases br_inv h with ⟨h1514, h⟩ | ⟨h1514, h⟩
        · exact Abs.Good.path hm [.reg [], .cond true, .reg [(12, { dec := some false }), (13, { dec := some false }), (14, { dec := some false }), (15, { dec := some false }), (16, { dec := some false }), (17, { dec := some false }), (18, { dec := some false }), (19, { dec := some false }), (20, { dec := some false }), (21, { dec := some false }), (22, { dec := some false }), (23, { pick := some false }), (25, { dec := some true }), (26, { dec := some true }), (27, { dec := some true }), (28, { dec := some true }), (29, { dec := some true }), (30, { dec := some true }), (31, { dec := some true }), (32, { dec := some true }), (33, { dec := some true }), (34, { dec := some true }), (35, { dec := some true }), (36, { pick := some true }), (38, { dec := some true }), (39, { dec := some true }), (40, { dec := some true }), (41, { dec := some true }), (42, { dec := some true }), (43, { dec := some true }), (44, { dec := some true }), (45, { dec := some true }), (46, { dec := some true }), (47, { dec := some true }), (48, { dec := some true }), (49, { pick := some true }), (51, { dec := some true }), (52, { dec := some true }), (53, { dec := some true }), (54, { dec := some true }), (55, { dec := some true }), (56, { dec := some true }), (57, { dec := some true }), (58, { dec := some true }), (59, { dec := some true }), (60, { dec := some true }), (61, { dec := some true }), (62, { pick := some true }), (64, { dec := some true }), (65, { dec := some true }), (66, { dec := some true }), (67, { dec := some true }), (68, { dec := some true }), (69, { dec := some true }), (70, { dec := some true }), (71, { dec := some true }), (72, { dec := some true }), (73, { dec := some true }), (74, { dec := some true }), (75, { dec := some true }), (76, { pick := some true })], .keep [sk 0, sk 1, sk 5, sk 93]] (cs := [_, _, _, _, _, _, _, _, _, _, _, _, _, _, _, _, _, _, _, _, _, _, _, _, _, _, _, _, _, _, _, _, _, _, _, _, _, _, _, _, _, _, _, _, _, _, _, _, _, _, _, _, _, _, _, _, _, _, _, _, _, _, _, _, _, _, _, _, _, _, _]) (by kernel_rfl) ⟨h1510, h1511.1, h1511.2, h1511.1, h1512, h1513, h1513, h1513, h1511.1, h1511.2, h1513, h1513, h1513, h1513, h1513, h1511.1, h1512, h1513, h1513, h1513, eq28, h1513, h1514, h1514, h1514, h1514, h1514, h1514, h1514, h1514, h1514, h1514, h1514, h1514, (rfl : true = true), (rfl : true = true), (rfl : true = true), (rfl : true = true), (rfl : true = true), (rfl : true = true), (rfl : true = true), (rfl : true = true), (rfl : true = true), (rfl : true = true), (rfl : true = true), (rfl : true = true), (rfl : true = true), (rfl : true = true), (rfl : true = true), (rfl : true = true), (rfl : true = true), (rfl : true = true), (rfl : true = true), (rfl : true = true), (rfl : true = true), (rfl : true = true), (rfl : true = true), (rfl : true = true), (rfl : true = true), (rfl : true = true), (rfl : true = true), (rfl : true = true), (rfl : true = true), (rfl : true = true), (rfl : true = true), (rfl : true = true), (rfl : true = true), (rfl : true = true), (rfl : true = true), (rfl : true = true), (rfl : true = true), trivial⟩ (antiquaryref44_SameParcels_l1_ok (antiquaryref44_SameParcels_l0 k) ih k p1 p2 p3 true r h)
        · rcases br_inv h with ⟨h1515, h⟩ | ⟨h1515, h⟩
          · exact Abs.Good.path hm [.reg [], .cond true, .reg [(12, { dec := some false }), (13, { dec := some false }), (14, { dec := some false }), (15, { dec := some false }), (16, { dec := some false }), (17, { dec := some false }), (18, { dec := some false }), (19, { dec := some false }), (20, { dec := some false }), (21, { dec := some false }), (22, { dec := some false }), (23, { pick := some false }), (25, { dec := some false }), (26, { dec := some false }), (27, { dec := some false }), (28, { dec := some false }), (29, { dec := some false }), (30, { dec := some false }), (31, { dec := some false }), (32, { dec := some false }), (33, { dec := some false }), (34, { dec := some false }), (35, { dec := some false }), (36, { pick := some false }), (38, { dec := some true }), (39, { dec := some true }), (40, { dec := some true }), (41, { dec := some true }), (42, { dec := some true }), (43, { dec := some true }), (44, { dec := some true }), (45, { dec := some true }), (46, { dec := some true }), (47, { dec := some true }), (48, { dec := some true }), (49, { pick := some true }), (51, { dec := some true }), (52, { dec := some true }), (53, { dec := some true }), (54, { dec := some true }), (55, { dec := some true }), (56, { dec := some true }), (57, { dec := some true }), (58, { dec := some true }), (59, { dec := some true }), (60, { dec := some true }), (61, { dec := some true }), (62, { pick := some true }), (64, { dec := some true }), (65, { dec := some true }), (66, { dec := some true }), (67, { dec := some true }), (68, { dec := some true }), (69, { dec := some true }), (70, { dec := some true }), (71, { dec := some true }), (72, { dec := some true }), (73, { dec := some true }), (74, { dec := some true }), (75, { dec := some true }), (76, { pick := some true })], .keep [sk 0, sk 1, sk 5, sk 93]] (cs := [_, _, _, _, _, _, _, _, _, _, _, _, _, _, _, _, _, _, _, _, _, _, _, _, _, _, _, _, _, _, _, _, _, _, _, _, _, _, _, _, _, _, _, _, _, _, _, _, _, _, _, _, _, _, _, _, _, _, _, _, _, _, _, _, _, _, _, _, _, _, _, _, _, _, _, _]) (by kernel_rfl) ⟨h1510, h1511.1, h1511.2, h1511.1, h1512, h1513, h1513, h1513, h1511.1, h1511.2, h1513, h1513, h1513, h1513, h1513, h1511.1, h1512, h1513, h1513, h1513, eq28, h1513, h1514, h1514, h1514, h1511.1, h1511.2, h1514, h1514, h1514, h1514, h1514, h1511.1, h1512, h1514, h1514, h1514, eq26, h1514, h1515, h1515, h1515, h1515, h1515, h1515, h1515, h1515, h1515, h1515, h1515, h1515, (rfl : true = true), (rfl : true = true), (rfl : true = true), (rfl : true = true), (rfl : true = true), (rfl : true = true), (rfl : true = true), (rfl : true = true), (rfl : true = true), (rfl : true = true), (rfl : true = true), (rfl : true = true), (rfl : true = true), (rfl : true = true), (rfl : true = true), (rfl : true = true), (rfl : true = true), (rfl : true = true), (rfl : true = true), (rfl : true = true), (rfl : true = true), (rfl : true = true), (rfl : true = true), (rfl : true = true), (rfl : true = true), trivial⟩ (antiquaryref44_SameParcels_l1_ok (antiquaryref44_SameParcels_l0 k) ih k p1 p2 p3 true r h)
          · rcases br_inv h with ⟨h1516, h⟩ | ⟨h1516, h⟩
            · exact Abs.Good.path hm [.reg [], .cond true, .reg [(12, { dec := some false }), (13, { dec := some false }), (14, { dec := some false }), (15, { dec := some false }), (16, { dec := some false }), (17, { dec := some false }), (18, { dec := some false }), (19, { dec := some false }), (20, { dec := some false }), (21, { dec := some false }), (22, { dec := some false }), (23, { pick := some false }), (25, { dec := some false }), (26, { dec := some false }), (27, { dec := some false }), (28, { dec := some false }), (29, { dec := some false }), (30, { dec := some false }), (31, { dec := some false }), (32, { dec := some false }), (33, { dec := some false }), (34, { dec := some false }), (35, { dec := some false }), (36, { pick := some false }), (38, { dec := some false }), (39, { dec := some false }), (40, { dec := some false }), (41, { dec := some false }), (42, { dec := some false }), (43, { dec := some false }), (44, { dec := some false }), (45, { dec := some false }), (46, { dec := some false }), (47, { dec := some false }), (48, { dec := some false }), (49, { pick := some false }), (51, { dec := some true }), (52, { dec := some true }), (53, { dec := some true }), (54, { dec := some true }), (55, { dec := some true }), (56, { dec := some true }), (57, { dec := some true }), (58, { dec := some true }), (59, { dec := some true }), (60, { dec := some true }), (61, { dec := some true }), (62, { pick := some true }), (64, { dec := some true }), (65, { dec := some true }), (66, { dec := some true }), (67, { dec := some true }), (68, { dec := some true }), (69, { dec := some true }), (70, { dec := some true }), (71, { dec := some true }), (72, { dec := some true }), (73, { dec := some true }), (74, { dec := some true }), (75, { dec := some true }), (76, { pick := some true })], .keep [sk 0, sk 1, sk 5, sk 93]] (cs := [_, _, _, _, _, _, _, _, _, _, _, _, _, _, _, _, _, _, _, _, _, _, _, _, _, _, _, _, _, _, _, _, _, _, _, _, _, _, _, _, _, _, _, _, _, _, _, _, _, _, _, _, _, _, _, _, _, _, _, _, _, _, _, _, _, _, _, _, _, _, _, _, _, _, _, _, _, _, _, _]) (by kernel_rfl) ⟨h1510, h1511.1, h1511.2, h1511.1, h1512, h1513, h1513, h1513, h1511.1, h1511.2, h1513, h1513, h1513, h1513, h1513, h1511.1, h1512, h1513, h1513, h1513, eq28, h1513, h1514, h1514, h1514, h1511.1, h1511.2, h1514, h1514, h1514, h1514, h1514, h1511.1, h1512, h1514, h1514, h1514, eq26, h1514, h1515, h1515, h1515, h1511.1, h1511.2, h1515, h1515, h1515, h1515, h1515, h1511.1, h1512, h1515, h1515, h1515, h1515, h1516, h1516, h1516, h1516, h1516, h1516, h1516, h1516, h1516, h1516, h1516, h1516, (rfl : true = true), (rfl : true = true), (rfl : true = true), (rfl : true = true), (rfl : true = true), (rfl : true = true), (rfl : true = true), (rfl : true = true), (rfl : true = true), (rfl : true = true), (rfl : true = true), (rfl : true = true), (rfl : true = true), trivial⟩ (antiquaryref44_SameParcels_l1_ok (antiquaryref44_SameParcels_l0 k) ih k p1 p2 p3 true r h)
            · rcases br_inv h with ⟨h1517, h⟩ | ⟨h1517, h⟩
              · exact Abs.Good.path hm [.reg [], .cond true, .reg [(12, { dec := some false }), (13, { dec := some false }), (14, { dec := some false }), (15, { dec := some false }), (16, { dec := some false }), (17, { dec := some false }), (18, { dec := some false }), (19, { dec := some false }), (20, { dec := some false }), (21, { dec := some false }), (22, { dec := some false }), (23, { pick := some false }), (25, { dec := some false }), (26, { dec := some false }), (27, { dec := some false }), (28, { dec := some false }), (29, { dec := some false }), (30, { dec := some false }), (31, { dec := some false }), (32, { dec := some false }), (33, { dec := some false }), (34, { dec := some false }), (35, { dec := some false }), (36, { pick := some false }), (38, { dec := some false }), (39, { dec := some false }), (40, { dec := some false }), (41, { dec := some false }), (42, { dec := some false }), (43, { dec := some false }), (44, { dec := some false }), (45, { dec := some false }), (46, { dec := some false }), (47, { dec := some false }), (48, { dec := some false }), (49, { pick := some false }), (51, { dec := some false }), (52, { dec := some false }), (53, { dec := some false }), (54, { dec := some false }), (55, { dec := some false }), (56, { dec := some false }), (57, { dec := some false }), (58, { dec := some false }), (59, { dec := some false }), (60, { dec := some false }), (61, { dec := some false }), (62, { pick := some false }), (64, { dec := some true }), (65, { dec := some true }), (66, { dec := some true }), (67, { dec := some true }), (68, { dec := some true }), (69, { dec := some true }), (70, { dec := some true }), (71, { dec := some true }), (72, { dec := some true }), (73, { dec := some true }), (74, { dec := some true }), (75, { dec := some true }), (76, { pick := some true })], .keep [sk 0, sk 1, sk 5, sk 93]] (cs := [_, _, _, _, _, _, _, _, _, _, _, _, _, _, _, _, _, _, _, _, _, _, _, _, _, _, _, _, _, _, _, _, _, _, _, _, _, _, _, _, _, _, _, _, _, _, _, _, _, _, _, _, _, _, _, _, _, _, _, _, _, _, _, _, _, _, _, _, _, _, _, _, _, _, _, _, _, _, _, _, _, _, _, _]) (by kernel_rfl) ⟨h1510, h1511.1, h1511.2, h1511.1, h1512, h1513, h1513, h1513, h1511.1, h1511.2, h1513, h1513, h1513, h1513, h1513, h1511.1, h1512, h1513, h1513, h1513, eq28, h1513, h1514, h1514, h1514, h1511.1, h1511.2, h1514, h1514, h1514, h1514, h1514, h1511.1, h1512, h1514, h1514, h1514, eq26, h1514, h1515, h1515, h1515, h1511.1, h1511.2, h1515, h1515, h1515, h1515, h1515, h1511.1, h1512, h1515, h1515, h1515, h1515, h1516, h1516, h1516, h1511.1, h1511.2, h1516, h1516, h1516, h1516, h1516, h1511.1, h1512, h1516, h1516, h1516, h1516, h1517, h1517, h1517, h1517, h1517, h1517, h1517, h1517, h1517, h1517, h1517, h1517, h1517, trivial⟩ (antiquaryref44_SameParcels_l1_ok (antiquaryref44_SameParcels_l0 k) ih k p1 p2 p3 true r h)
              · obtain ⟨x1518, h1519, h⟩ := bind_inv h
                exact Abs.Good.path hm [.reg [], .cond true, .reg [(12, { dec := some false }), (13, { dec := some false }), (14, { dec := some false }), (15, { dec := some false }), (16, { dec := some false }), (17, { dec := some false }), (18, { dec := some false }), (19, { dec := some false }), (20, { dec := some false }), (21, { dec := some false }), (22, { dec := some false }), (23, { pick := some false }), (25, { dec := some false }), (26, { dec := some false }), (27, { dec := some false }), (28, { dec := some false }), (29, { dec := some false }), (30, { dec := some false }), (31, { dec := some false }), (32, { dec := some false }), (33, { dec := some false }), (34, { dec := some false }), (35, { dec := some false }), (36, { pick := some false }), (38, { dec := some false }), (39, { dec := some false }), (40, { dec := some false }), (41, { dec := some false }), (42, { dec := some false }), (43, { dec := some false }), (44, { dec := some false }), (45, { dec := some false }), (46, { dec := some false }), (47, { dec := some false }), (48, { dec := some false }), (49, { pick := some false }), (51, { dec := some false }), (52, { dec := some false }), (53, { dec := some false }), (54, { dec := some false }), (55, { dec := some false }), (56, { dec := some false }), (57, { dec := some false }), (58, { dec := some false }), (59, { dec := some false }), (60, { dec := some false }), (61, { dec := some false }), (62, { pick := some false }), (64, { dec := some false }), (65, { dec := some false }), (66, { dec := some false }), (67, { dec := some false }), (68, { dec := some false }), (69, { dec := some false }), (70, { dec := some false }), (71, { dec := some false }), (72, { dec := some false }), (73, { dec := some false }), (74, { dec := some false, call := some { lend := [], pass := [], res := .v (.p Kd.bool x1518), outs := [], back := [] } }), (75, { dec := some false }), (76, { pick := some false })], .keep [sk 0, sk 1, sk 5, sk 93]] (cs := [_, _, _, _, _, _, _, _, _, _, _, _, _, _, _, _, _, _, _, _, _, _, _, _, _, _, _, _, _, _, _, _, _, _, _, _, _, _, _, _, _, _, _, _, _, _, _, _, _, _, _, _, _, _, _, _, _, _, _, _, _, _, _, _, _, _, _, _, _, _, _, _, _, _, _, _, _, _, _, _, _, _, _, _, _, _, _, _, _]) (by kernel_rfl) ⟨h1510, h1511.1, h1511.2, h1511.1, h1512, h1513, h1513, h1513, h1511.1, h1511.2, h1513, h1513, h1513, h1513, h1513, h1511.1, h1512, h1513, h1513, h1513, eq28, h1513, h1514, h1514, h1514, h1511.1, h1511.2, h1514, h1514, h1514, h1514, h1514, h1511.1, h1512, h1514, h1514, h1514, eq26, h1514, h1515, h1515, h1515, h1511.1, h1511.2, h1515, h1515, h1515, h1515, h1515, h1511.1, h1512, h1515, h1515, h1515, h1515, h1516, h1516, h1516, h1511.1, h1511.2, h1516, h1516, h1516, h1516, h1516, h1511.1, h1512, h1516, h1516, h1516, h1516, h1517, h1517, h1517, h1511.1, h1511.2, h1517, h1517, h1517, h1517, h1517, h1511.1, h1512, h1517, h1517, h1517, (antiquaryref44_SameNames_ok k ((((((List.getD p1 (Int.toNat p3) (Kd.dflt KP)).2).2).2).2).1) ((((((List.getD p2 (Int.toNat p3) (Kd.dflt KP)).2).2).2).2).1) _ h1519), h1517, h1517, trivial⟩ (antiquaryref44_SameParcels_l1_ok (antiquaryref44_SameParcels_l0 k) ih k p1 p2 p3 (!x1518) r h)
    · replace h := Option.some.inj h; subst h
      exact Abs.Good.path_ret hm [.reg [], .cond false, .reg []] [] Tryd.func28 (cs := [_]) (by kernel_rfl) ⟨h1510, trivial⟩ (by kernel_rfl)
theorem antiquaryref44_SameParcels_ok (k : Nat) (a1 : List Pt) (a2 : List Pt) (r : Bool) (h : antiquaryref44_SameParcels k a1 a2 = some r) : SpecOk P ⟨28, [.p (Kd.sl KP) a1, .p (Kd.sl KP) a2], [], .v (.p Kd.bool r), []⟩ := by
  refine spec_at Tryd.func28 (by kernel_rfl) (Nat.le_of_ble_eq_true (by kernel_rfl)) ?_
  unfold antiquaryref44_SameParcels at h
  rcases br_inv h with ⟨h1509, h⟩ | ⟨h1509, h⟩
  · replace h := Option.some.inj h; subst h
    exact Abs.Good.path_ret hm [.reg [], .reg [], .cond true, .reg []] [] Tryd.func28 (cs := [_]) (by kernel_rfl) ⟨h1509, trivial⟩ (by kernel_rfl)
  · exact Abs.Good.path hm [.reg [], .reg [], .cond false, .reg [], .keep [sk 0, sk 1, sk 5]] (cs := [_]) (by kernel_rfl) ⟨h1509, trivial⟩ (antiquaryref44_SameParcels_l0_ok k a1 a2 (0 : Int) r h)

def antiquaryref44_Half (k : Nat) (a1 : List Int) (a2 : Int) (a3 : Bool) : Option (List Int × Int) :=
  if a3 = true then
    if 0 ≤ (IntKind.i64.wrap (Int.tdiv a2 (8 : Int))) ∧ (IntKind.i64.wrap (Int.tdiv a2 (8 : Int))) < (16 : Int) then
      if 0 ≤ (Int.tmod a2 (8 : Int)) then
        some ((List.set a1 (Int.toNat (IntKind.i64.wrap (Int.tdiv a2 (8 : Int)))) (IntKind.u8.wrap ((List.getD a1 (Int.toNat (IntKind.i64.wrap (Int.tdiv a2 (8 : Int)))) (Kd.dflt (Kd.int .u8))) + (Int.fdiv (128 : Int) (2 ^ (min (Int.toNat (Int.tmod a2 (8 : Int))) (IntKind.bits .u8))))))), (IntKind.i64.wrap (a2 + (1 : Int))))
      else none
    else none
  else
    some (a1, (IntKind.i64.wrap (a2 + (1 : Int))))
theorem antiquaryref44_Half_ok (k : Nat) (a1 : List Int) (a2 : Int) (a3 : Bool) (r : List Int × Int) (h : antiquaryref44_Half k a1 a2 a3 = some r) : SpecOk P ⟨31, [.agg [.p (Kd.arr 16 (Kd.int .u8)) a1, .p (Kd.int .i64) a2], .p Kd.bool a3], [], .v (.agg [.p (Kd.arr 16 (Kd.int .u8)) r.1, .p (Kd.int .i64) r.2]), []⟩ := by
  refine spec_at Tryd.func31 (by kernel_rfl) (Nat.le_of_ble_eq_true (by kernel_rfl)) ?_
  unfold antiquaryref44_Half at h
  rcases br_inv h with ⟨h1535, h⟩ | ⟨h1535, h⟩
  · obtain ⟨h1536, h⟩ := gd_inv h
    obtain ⟨h1537, h⟩ := gd_inv h
    replace h := Option.some.inj h; subst h
    exact Abs.Good.path_ret hm [.reg [], .reg [], .reg [], .cond true, .reg [], .reg []] [] Tryd.func31 (cs := [_, _, _, _, _, _, _, _, _]) (by kernel_rfl) ⟨h1535, (by decide : (8 : Int) ≠ 0), (by decide : (8 : Int) ≠ 0), h1536.1, h1536.2, (by decide : (8 : Int) ≠ 0), h1537, h1536.1, h1536.2, trivial⟩ (by kernel_rfl)
  · replace h := Option.some.inj h; subst h
    exact Abs.Good.path_ret hm [.reg [], .reg [], .reg [], .cond false, .reg []] [] Tryd.func31 (cs := [_]) (by kernel_rfl) ⟨h1535, trivial⟩ (by kernel_rfl)

def antiquarylaw44_ExchangeStocksAsSpecified_l4 (k : Nat) (p1 : Bool) (p2 : List Int) (p3 : Int) : Option (Bool) :=
  if p1 = true then
    some (false)
  else
    if (p3 == (128 : Int)) = true then
      Option.bind (antiquarylaw44_sanity k) fun x1525 =>
      some (x1525)
    else
      Option.bind (exchange_Halves k p2 p3) fun x1527 =>
      Option.bind (antiquarylaw44_sanity k) fun x1529 =>
      if x1529 = true then
        Option.bind (antiquaryref44_Half k p2 p3 false) fun x1538 =>
        if (Kd.eqb KX (x1527.1, (x1527.2.1, ())) (x1538.1, (x1538.2, ()))) = true then
          Option.bind (antiquaryref44_Half k p2 p3 true) fun x1541 =>
          some ((Kd.eqb KX (x1527.2.2.1, (x1527.2.2.2, ())) (x1541.1, (x1541.2, ()))))
        else
          some (false)
      else
        some (false)
def antiquarylaw44_ExchangeStocksAsSpecified_l3 (k : Nat) (p1 : Bool) (p2 : List It) (p3 : List Int) (p4 : List Int) (p5 : Int) : Option (Bool) :=
  if p1 = true then
    some (false)
  else
    Option.bind (exchange_Under k p4 p5 p3) fun x1479 =>
    Option.bind (antiquaryref44_Under k p4 p5 p3) fun x1481 =>
    if (!(x1479 == x1481)) = true then
      antiquarylaw44_ExchangeStocksAsSpecified_l4 k true p4 p5
    else
      Option.bind (exchange_Names k p2 p4 p5) fun x1484 =>
      Option.bind (antiquaryref44_Names k p2 p4 p5) fun x1486 =>
      Option.bind (antiquaryref44_SameNames k x1484 x1486) fun x1495 =>
      if (!x1495) = true then
        antiquarylaw44_ExchangeStocksAsSpecified_l4 k true p4 p5
      else
        Option.bind (exchange_Open k p2) fun x1498 =>
        Option.bind (antiquaryref44_Sum k p2 (Kd.dflt (Kd.arr 16 (Kd.int .u8))) (0 : Int)) fun x1500 =>
        Option.bind (antiquaryref44_SameParcels k ([(x1498.1, ((x1498.2.1, (x1498.2.2.1, ())), (x1498.2.2.2.1, (x1498.2.2.2.2.1, (([] : List (List Int)), (x1498.2.2.2.2.2, ()))))))] : List Pt) ([(x1500.1, ((x1500.2.1, (x1500.2.2.1, ())), (x1500.2.2.2.1, (x1500.2.2.2.2.1, (([] : List (List Int)), (x1500.2.2.2.2.2, ()))))))] : List Pt)) fun x1521 =>
        antiquarylaw44_ExchangeStocksAsSpecified_l4 k (!x1521) p4 p5
def antiquarylaw44_ExchangeStocksAsSpecified_l2 (k : Nat) (p1 : ByteArray) (p2 : Bool) (p3 : List It) (p4 : List Int) (p5 : List Int) (p6 : Int) : Option (Bool) :=
  if p2 = true then
    Option.bind (antiquarylaw44_sanity k) fun x1436 =>
    some (x1436)
  else
    Option.bind (exchange_Find k p3 p4) fun x1438 =>
    Option.bind (antiquaryref44_Place k p3 p4) fun x1440 =>
    Option.bind (exchange_Add k p3 p1) fun x1442 =>
    Option.bind (antiquaryref44_Add k p3 p1) fun x1444 =>
    Option.bind (exchange_Sum k p3 p5 p6) fun x1446 =>
    Option.bind (antiquaryref44_Sum k p3 p5 p6) fun x1448 =>
    if (!(x1438.2 == (decide (x1440 ≥ (0 : Int))))) = true then
      antiquarylaw44_ExchangeStocksAsSpecified_l3 k true p3 p4 p5 p6
    else
      if x1438.2 = true then
        if 0 ≤ x1440 ∧ x1440 < (List.length p3 : Int) then
          if (!(ByteArray.toList x1438.1 == ByteArray.toList (((List.getD p3 (Int.toNat x1440) (Kd.dflt KI)).2).1))) = true then
            antiquarylaw44_ExchangeStocksAsSpecified_l3 k true p3 p4 p5 p6
          else
            if (!x1438.2) = true then
              if (!(ByteArray.toList x1438.1 == ByteArray.toList (⟨#[]⟩ : ByteArray))) = true then
                antiquarylaw44_ExchangeStocksAsSpecified_l3 k true p3 p4 p5 p6
              else
                if (x1442.2 != x1444.2) = true then
                  antiquarylaw44_ExchangeStocksAsSpecified_l3 k true p3 p4 p5 p6
                else
                  Option.bind (antiquaryref44_Same k x1442.1 x1444.1) fun x1457 =>
                  if (!x1457) = true then
                    antiquarylaw44_ExchangeStocksAsSpecified_l3 k true p3 p4 p5 p6
                  else
                    if (!(Kd.eqb (Kd.arr 16 (Kd.int .u8)) x1446.1 x1448.2.2.2.1)) = true then
                      antiquarylaw44_ExchangeStocksAsSpecified_l3 k true p3 p4 p5 p6
                    else
                      antiquarylaw44_ExchangeStocksAsSpecified_l3 k (x1446.2 != x1448.2.2.2.2.1) p3 p4 p5 p6
            else
              if (x1442.2 != x1444.2) = true then
                antiquarylaw44_ExchangeStocksAsSpecified_l3 k true p3 p4 p5 p6
              else
                Option.bind (antiquaryref44_Same k x1442.1 x1444.1) fun x1462 =>
                if (!x1462) = true then
                  antiquarylaw44_ExchangeStocksAsSpecified_l3 k true p3 p4 p5 p6
                else
                  if (!(Kd.eqb (Kd.arr 16 (Kd.int .u8)) x1446.1 x1448.2.2.2.1)) = true then
                    antiquarylaw44_ExchangeStocksAsSpecified_l3 k true p3 p4 p5 p6
                  else
                    antiquarylaw44_ExchangeStocksAsSpecified_l3 k (x1446.2 != x1448.2.2.2.2.1) p3 p4 p5 p6
        else none
      else
        if (!x1438.2) = true then
          if (!(ByteArray.toList x1438.1 == ByteArray.toList (⟨#[]⟩ : ByteArray))) = true then
            antiquarylaw44_ExchangeStocksAsSpecified_l3 k true p3 p4 p5 p6
          else
            if (x1442.2 != x1444.2) = true then
              antiquarylaw44_ExchangeStocksAsSpecified_l3 k true p3 p4 p5 p6
            else
              Option.bind (antiquaryref44_Same k x1442.1 x1444.1) fun x1469 =>
              if (!x1469) = true then
                antiquarylaw44_ExchangeStocksAsSpecified_l3 k true p3 p4 p5 p6
              else
                if (!(Kd.eqb (Kd.arr 16 (Kd.int .u8)) x1446.1 x1448.2.2.2.1)) = true then
                  antiquarylaw44_ExchangeStocksAsSpecified_l3 k true p3 p4 p5 p6
                else
                  antiquarylaw44_ExchangeStocksAsSpecified_l3 k (x1446.2 != x1448.2.2.2.2.1) p3 p4 p5 p6
        else
          if (x1442.2 != x1444.2) = true then
            antiquarylaw44_ExchangeStocksAsSpecified_l3 k true p3 p4 p5 p6
          else
            Option.bind (antiquaryref44_Same k x1442.1 x1444.1) fun x1474 =>
            if (!x1474) = true then
              antiquarylaw44_ExchangeStocksAsSpecified_l3 k true p3 p4 p5 p6
            else
              if (!(Kd.eqb (Kd.arr 16 (Kd.int .u8)) x1446.1 x1448.2.2.2.1)) = true then
                antiquarylaw44_ExchangeStocksAsSpecified_l3 k true p3 p4 p5 p6
              else
                antiquarylaw44_ExchangeStocksAsSpecified_l3 k (x1446.2 != x1448.2.2.2.2.1) p3 p4 p5 p6
def antiquarylaw44_ExchangeStocksAsSpecified_l1 (k : Nat) (p1 : ByteArray) (p2 : Bool) (p3 : List It) (p4 : List Int) (p5 : List Int) (p6 : Int) : Option (Bool) :=
  if p2 = true then
    some (false)
  else
    Option.bind (antiquaryref44_Right k p5 p6) fun x1430 =>
    Option.bind (antiquaryref44_Valid k p3) fun x1432 =>
    if (!x1430) = true then
      antiquarylaw44_ExchangeStocksAsSpecified_l2 k p1 true p3 p4 p5 p6
    else
      antiquarylaw44_ExchangeStocksAsSpecified_l2 k p1 (!x1432) p3 p4 p5 p6
def antiquarylaw44_ExchangeStocksAsSpecified_l0 (k : Nat) (p1 : ByteArray) (p2 : Bool) (p3 : List It) (p4 : List Int) (p5 : List Int) (p6 : Int) : Option (Bool) :=
  if p2 = true then
    Option.bind (antiquarylaw44_sanity k) fun x1418 =>
    some (x1418)
  else
    Option.bind (exchange_Valid k p3) fun x1420 =>
    Option.bind (antiquaryref44_Valid k p3) fun x1422 =>
    if (!(x1420 == x1422)) = true then
      antiquarylaw44_ExchangeStocksAsSpecified_l1 k p1 true p3 p4 p5 p6
    else
      Option.bind (exchange_Name k p1) fun x1425 =>
      Option.bind (antiquaryref44_Name k p1) fun x1427 =>
      antiquarylaw44_ExchangeStocksAsSpecified_l1 k p1 (!(Kd.eqb (Kd.arr 16 (Kd.int .u8)) x1425 x1427)) p3 p4 p5 p6
def antiquarylaw44_ExchangeStocksAsSpecified (k : Nat) (a1 : List It) (a2 : ByteArray) (a3 : List Int) (a4 : List Int) (a5 : Int) : Option (Bool) :=
  Option.bind (antiquarylaw44_few k a1) fun x1414 =>
  if (!x1414) = true then
    antiquarylaw44_ExchangeStocksAsSpecified_l0 k a2 true a1 a3 a4 a5
  else
    antiquarylaw44_ExchangeStocksAsSpecified_l0 k a2 (decide ((ByteArray.size a2 : Int) > (200 : Int))) a1 a3 a4 a5
theorem antiquarylaw44_ExchangeStocksAsSpecified_l4_ok (k : Nat) (p1 : Bool) (p2 : List Int) (p3 : Int) (r : Bool) (h : antiquarylaw44_ExchangeStocksAsSpecified_l4 k p1 p2 p3 = some r) :
    Abs.Good P 3 Tryd.f3.ntmps [] [] (.v (.p Kd.bool r)) (pos Tryd.f3 [.r, .r, .r, .c false, .r, .c false, .r, .r, .r, .c false, .r, .r, .r, .r, .r, .r, .r, .c false, .r]) [(sk 7, some (.v (.ptr 504001 0))), (sk 160, some (.v (.p Kd.bool p1))), (ek 504001, some (.box [.p (Kd.arr 16 (Kd.int .u8)) p2, .p (Kd.int .i64) p3]))] := by
  unfold antiquarylaw44_ExchangeStocksAsSpecified_l4 at h
  rcases br_inv h with ⟨h1523, h⟩ | ⟨h1523, h⟩
  · replace h := Option.some.inj h; subst h
    exact Abs.Good.path_ret hm [.cond true, .reg []] [] Tryd.func3 (cs := [_]) (by kernel_rfl) ⟨h1523, trivial⟩ (by kernel_rfl)
  · rcases br_inv h with ⟨h1524, h⟩ | ⟨h1524, h⟩
    · obtain ⟨x1525, h1526, h⟩ := bind_inv h
      replace h := Option.some.inj h; subst h
      exact Abs.Good.path_ret hm [.cond false, .reg [], .cond true, .reg [(0, { call := some { lend := [], pass := [], res := .v (.p Kd.bool x1525), outs := [], back := [] } })]] [] Tryd.func3 (cs := [_, _, _]) (by kernel_rfl) ⟨h1523, h1524, (antiquarylaw44_sanity_ok k  _ h1526), trivial⟩ (by kernel_rfl)
    · obtain ⟨x1527, h1528, h⟩ := bind_inv h
      obtain ⟨x1529, h1530, h⟩ := bind_inv h
      rcases br_inv h with ⟨h1531, h⟩ | ⟨h1531, h⟩
      · obtain ⟨x1538, h1539, h⟩ := bind_inv h
        rcases br_inv h with ⟨h1540, h⟩ | ⟨h1540, h⟩
        · obtain ⟨x1541, h1542, h⟩ := bind_inv h
          replace h := Option.some.inj h; subst h
          exact Abs.Good.path_ret hm [.cond false, .reg [], .cond false, .reg [(1, { call := some { lend := [], pass := [], res := .t [.agg [.p (Kd.arr 16 (Kd.int .u8)) x1527.1, .p (Kd.int .i64) x1527.2.1], .agg [.p (Kd.arr 16 (Kd.int .u8)) x1527.2.2.1, .p (Kd.int .i64) x1527.2.2.2]], outs := [], back := [] } })], .reg [(0, { call := some { lend := [], pass := [], res := .v (.p Kd.bool x1529), outs := [], back := [] } }), (2, { dec := some true }), (3, { dec := some true }), (4, { dec := some true, call := some { lend := [], pass := [], res := .v (.agg [.p (Kd.arr 16 (Kd.int .u8)) x1538.1, .p (Kd.int .i64) x1538.2]), outs := [], back := [] } }), (5, { dec := some true }), (6, { pick := some true }), (8, { dec := some true }), (9, { dec := some true }), (10, { dec := some true, call := some { lend := [], pass := [], res := .v (.agg [.p (Kd.arr 16 (Kd.int .u8)) x1541.1, .p (Kd.int .i64) x1541.2]), outs := [], back := [] } }), (11, { dec := some true }), (12, { pick := some true })]] [] Tryd.func3 (cs := [_, _, _, _, _, _, _, _, _, _, _, _, _, _, _, _, _, _]) (by kernel_rfl) ⟨h1523, h1524, (exchange_Halves_ok k p2 p3 _ h1528), (antiquarylaw44_sanity_ok k  _ h1530), h1531, h1531, h1531, (antiquaryref44_Half_ok k p2 p3 false _ h1539), h1531, eq28, h1531, h1540, h1540, h1540, (antiquaryref44_Half_ok k p2 p3 true _ h1542), h1540, eq28, h1540, trivial⟩ (by kernel_rfl)
        · replace h := Option.some.inj h; subst h
          exact Abs.Good.path_ret hm [.cond false, .reg [], .cond false, .reg [(1, { call := some { lend := [], pass := [], res := .t [.agg [.p (Kd.arr 16 (Kd.int .u8)) x1527.1, .p (Kd.int .i64) x1527.2.1], .agg [.p (Kd.arr 16 (Kd.int .u8)) x1527.2.2.1, .p (Kd.int .i64) x1527.2.2.2]], outs := [], back := [] } })], .reg [(0, { call := some { lend := [], pass := [], res := .v (.p Kd.bool x1529), outs := [], back := [] } }), (2, { dec := some true }), (3, { dec := some true }), (4, { dec := some true, call := some { lend := [], pass := [], res := .v (.agg [.p (Kd.arr 16 (Kd.int .u8)) x1538.1, .p (Kd.int .i64) x1538.2]), outs := [], back := [] } }), (5, { dec := some true }), (6, { pick := some true }), (8, { dec := some false }), (9, { dec := some false }), (10, { dec := some false }), (11, { dec := some false }), (12, { pick := some false })]] [] Tryd.func3 (cs := [_, _, _, _, _, _, _, _, _, _, _, _, _, _, _, _]) (by kernel_rfl) ⟨h1523, h1524, (exchange_Halves_ok k p2 p3 _ h1528), (antiquarylaw44_sanity_ok k  _ h1530), h1531, h1531, h1531, (antiquaryref44_Half_ok k p2 p3 false _ h1539), h1531, eq28, h1531, h1540, h1540, h1540, h1540, h1540, trivial⟩ (by kernel_rfl)
      · replace h := Option.some.inj h; subst h
        exact Abs.Good.path_ret hm [.cond false, .reg [], .cond false, .reg [(1, { call := some { lend := [], pass := [], res := .t [.agg [.p (Kd.arr 16 (Kd.int .u8)) x1527.1, .p (Kd.int .i64) x1527.2.1], .agg [.p (Kd.arr 16 (Kd.int .u8)) x1527.2.2.1, .p (Kd.int .i64) x1527.2.2.2]], outs := [], back := [] } })], .reg [(0, { call := some { lend := [], pass := [], res := .v (.p Kd.bool x1529), outs := [], back := [] } }), (2, { dec := some false }), (3, { dec := some false }), (4, { dec := some false }), (5, { dec := some false }), (6, { pick := some false }), (8, { dec := some false }), (9, { dec := some false }), (10, { dec := some false }), (11, { dec := some false }), (12, { pick := some false })]] [] Tryd.func3 (cs := [_, _, _, _, _, _, _, _, _, _, _, _, _, _]) (by kernel_rfl) ⟨h1523, h1524, (exchange_Halves_ok k p2 p3 _ h1528), (antiquarylaw44_sanity_ok k  _ h1530), h1531, h1531, h1531, h1531, h1531, (rfl : false = false), (rfl : false = false), (rfl : false = false), (rfl : false = false), (rfl : false = false), trivial⟩ (by kernel_rfl)
theorem antiquarylaw44_ExchangeStocksAsSpecified_l3_ok (k : Nat) (p1 : Bool) (p2 : List It) (p3 : List Int) (p4 : List Int) (p5 : Int) (r : Bool) (h : antiquarylaw44_ExchangeStocksAsSpecified_l3 k p1 p2 p3 p4 p5 = some r) :
    Abs.Good P 3 Tryd.f3.ntmps [] [] (.v (.p Kd.bool r)) (pos Tryd.f3 [.r, .r, .r, .c false, .r, .c false, .r, .r, .r, .c false, .r, .r, .r, .r, .r, .r, .r]) [(sk 4, some (.v (.ptr 503001 0))), (sk 6, some (.v (.ptr 503002 0))), (sk 7, some (.v (.ptr 503003 0))), (sk 132, some (.v (.p Kd.bool p1))), (ek 503001, some (.box [.p (Kd.sl KI) p2])), (ek 503002, some (.box [.p (Kd.arr 16 (Kd.int .u8)) p3])), (ek 503003, some (.box [.p (Kd.arr 16 (Kd.int .u8)) p4, .p (Kd.int .i64) p5]))] := by
  unfold antiquarylaw44_ExchangeStocksAsSpecified_l3 at h
  rcases br_inv h with ⟨h1478, h⟩ | ⟨h1478, h⟩
  · replace h := Option.some.inj h; subst h
    exact Abs.Good.path_ret hm [.cond true, .reg []] [] Tryd.func3 (cs := [_]) (by kernel_rfl) ⟨h1478, trivial⟩ (by kernel_rfl)
  · obtain ⟨x1479, h1480, h⟩ := bind_inv h
    obtain ⟨x1481, h1482, h⟩ := bind_inv h
    rcases br_inv h with ⟨h1483, h⟩ | ⟨h1483, h⟩
    · exact Abs.Good.path hm [.cond false, .reg [(2, { call := some { lend := [], pass := [], res := .v (.p Kd.bool x1479), outs := [], back := [] } }), (5, { call := some { lend := [], pass := [], res := .v (.p Kd.bool x1481), outs := [], back := [] } }), (8, { dec := some true }), (9, { dec := some true }), (10, { dec := some true }), (11, { dec := some true }), (12, { dec := some true }), (13, { dec := some true }), (14, { dec := some true }), (15, { dec := some true }), (16, { pick := some true }), (18, { dec := some true }), (19, { dec := some true }), (20, { dec := some true }), (21, { dec := some true }), (22, { dec := some true }), (23, { dec := some true }), (24, { dec := some true }), (25, { dec := some true }), (26, { dec := some true }), (27, { pick := some true })], .keep [sk 7, sk 160, ek 503003], .ren [(503003, 504001)]] (cs := [_, _, _, _, _, _, _, _, _, _, _, _, _, _, _, _, _, _, _, _, _, _]) (by kernel_rfl) ⟨h1478, (exchange_Under_ok k p4 p5 p3 _ h1480), (antiquaryref44_Under_ok k p4 p5 p3 _ h1482), h1483, h1483, h1483, h1483, h1483, h1483, h1483, h1483, h1483, (rfl : true = true), (rfl : true = true), (rfl : true = true), (rfl : true = true), (rfl : true = true), (rfl : true = true), (rfl : true = true), (rfl : true = true), (rfl : true = true), (rfl : true = true), trivial⟩ (antiquarylaw44_ExchangeStocksAsSpecified_l4_ok k true p4 p5 r h)
    · obtain ⟨x1484, h1485, h⟩ := bind_inv h
      obtain ⟨x1486, h1487, h⟩ := bind_inv h
      obtain ⟨x1495, h1496, h⟩ := bind_inv h
      rcases br_inv h with ⟨h1497, h⟩ | ⟨h1497, h⟩
      · exact Abs.Good.path hm [.cond false, .reg [(2, { call := some { lend := [], pass := [], res := .v (.p Kd.bool x1479), outs := [], back := [] } }), (5, { call := some { lend := [], pass := [], res := .v (.p Kd.bool x1481), outs := [], back := [] } }), (8, { dec := some false }), (9, { dec := some false }), (10, { dec := some false, call := some { lend := [], pass := [], res := .v (.p (Kd.sl (Kd.arr 16 (Kd.int .u8))) x1484), outs := [], back := [] } }), (11, { dec := some false }), (12, { dec := some false }), (13, { dec := some false, call := some { lend := [], pass := [], res := .v (.p (Kd.sl (Kd.arr 16 (Kd.int .u8))) x1486), outs := [], back := [] } }), (14, { dec := some false, call := some { lend := [], pass := [], res := .v (.p Kd.bool x1495), outs := [], back := [] } }), (15, { dec := some false }), (16, { pick := some false }), (18, { dec := some true }), (19, { dec := some true }), (20, { dec := some true }), (21, { dec := some true }), (22, { dec := some true }), (23, { dec := some true }), (24, { dec := some true }), (25, { dec := some true }), (26, { dec := some true }), (27, { pick := some true })], .keep [sk 7, sk 160, ek 503003], .ren [(503003, 504001)]] (cs := [_, _, _, _, _, _, _, _, _, _, _, _, _, _, _, _, _, _, _, _, _, _, _, _, _]) (by kernel_rfl) ⟨h1478, (exchange_Under_ok k p4 p5 p3 _ h1480), (antiquaryref44_Under_ok k p4 p5 p3 _ h1482), h1483, h1483, h1483, (exchange_Names_ok k p2 p4 p5 _ h1485), h1483, h1483, h1483, (antiquaryref44_Names_ok k p2 p4 p5 _ h1487), h1483, (antiquaryref44_SameNames_ok k x1484 x1486 _ h1496), h1483, h1483, h1497, h1497, h1497, h1497, h1497, h1497, h1497, h1497, h1497, h1497, trivial⟩ (antiquarylaw44_ExchangeStocksAsSpecified_l4_ok k true p4 p5 r h)
      · obtain ⟨x1498, h1499, h⟩ := bind_inv h
        obtain ⟨x1500, h1501, h⟩ := bind_inv h
        obtain ⟨x1521, h1522, h⟩ := bind_inv h
        exact Abs.Good.path hm [.cond false, .reg [(2, { call := some { lend := [], pass := [], res := .v (.p Kd.bool x1479), outs := [], back := [] } }), (5, { call := some { lend := [], pass := [], res := .v (.p Kd.bool x1481), outs := [], back := [] } }), (8, { dec := some false }), (9, { dec := some false }), (10, { dec := some false, call := some { lend := [], pass := [], res := .v (.p (Kd.sl (Kd.arr 16 (Kd.int .u8))) x1484), outs := [], back := [] } }), (11, { dec := some false }), (12, { dec := some false }), (13, { dec := some false, call := some { lend := [], pass := [], res := .v (.p (Kd.sl (Kd.arr 16 (Kd.int .u8))) x1486), outs := [], back := [] } }), (14, { dec := some false, call := some { lend := [], pass := [], res := .v (.p Kd.bool x1495), outs := [], back := [] } }), (15, { dec := some false }), (16, { pick := some false }), (18, { dec := some false }), (19, { dec := some false, call := some { lend := [], pass := [], res := .v (.agg [.p (Kd.int .i64) x1498.1, .p (Kd.arr 16 (Kd.int .u8)) x1498.2.1, .p (Kd.int .i64) x1498.2.2.1, .p (Kd.arr 16 (Kd.int .u8)) x1498.2.2.2.1, .p (Kd.int .i64) x1498.2.2.2.2.1, .nilsl, .p Kd.str x1498.2.2.2.2.2]), outs := [], back := [] } }), (20, { dec := some false }), (21, { dec := some false }), (22, { dec := some false }), (23, { dec := some false, call := some { lend := [], pass := [], res := .v (.agg [.p (Kd.int .i64) x1500.1, .p (Kd.arr 16 (Kd.int .u8)) x1500.2.1, .p (Kd.int .i64) x1500.2.2.1, .p (Kd.arr 16 (Kd.int .u8)) x1500.2.2.2.1, .p (Kd.int .i64) x1500.2.2.2.2.1, .nilsl, .p Kd.str x1500.2.2.2.2.2]), outs := [], back := [] } }), (24, { dec := some false }), (25, { dec := some false, call := some { lend := [(153, false), (157, false)], pass := [], res := .v (.p Kd.bool x1521), outs := [], back := [] } }), (26, { dec := some false }), (27, { pick := some false })], .keep [sk 7, sk 160, ek 503003], .ren [(503003, 504001)]] (cs := [_, _, _, _, _, _, _, _, _, _, _, _, _, _, _, _, _, _, _, _, _, _, _, _, _, _, _, _, _, _]) (by kernel_rfl) ⟨h1478, (exchange_Under_ok k p4 p5 p3 _ h1480), (antiquaryref44_Under_ok k p4 p5 p3 _ h1482), h1483, h1483, h1483, (exchange_Names_ok k p2 p4 p5 _ h1485), h1483, h1483, h1483, (antiquaryref44_Names_ok k p2 p4 p5 _ h1487), h1483, (antiquaryref44_SameNames_ok k x1484 x1486 _ h1496), h1483, h1483, h1497, h1497, (exchange_Open_ok k p2 _ h1499), h1497, h1497, h1497, h1497, (antiquaryref44_Sum_ok k p2 (Kd.dflt (Kd.arr 16 (Kd.int .u8))) (0 : Int) _ h1501), h1497, h1497, (antiquaryref44_SameParcels_ok k ([(x1498.1, ((x1498.2.1, (x1498.2.2.1, ())), (x1498.2.2.2.1, (x1498.2.2.2.2.1, (([] : List (List Int)), (x1498.2.2.2.2.2, ()))))))] : List Pt) ([(x1500.1, ((x1500.2.1, (x1500.2.2.1, ())), (x1500.2.2.2.1, (x1500.2.2.2.2.1, (([] : List (List Int)), (x1500.2.2.2.2.2, ()))))))] : List Pt) _ h1522), (rfl : 1 = List.length ([(x1498.1, ((x1498.2.1, (x1498.2.2.1, ())), (x1498.2.2.2.1, (x1498.2.2.2.2.1, (([] : List (List Int)), (x1498.2.2.2.2.2, ()))))))] : List Pt)), (rfl : 1 = List.length ([(x1500.1, ((x1500.2.1, (x1500.2.2.1, ())), (x1500.2.2.2.1, (x1500.2.2.2.2.1, (([] : List (List Int)), (x1500.2.2.2.2.2, ()))))))] : List Pt)), h1497, h1497, trivial⟩ (antiquarylaw44_ExchangeStocksAsSpecified_l4_ok k (!x1521) p4 p5 r h)
theorem antiquarylaw44_ExchangeStocksAsSpecified_l2_ok (k : Nat) (p1 : ByteArray) (p2 : Bool) (p3 : List It) (p4 : List Int) (p5 : List Int) (p6 : Int) (r : Bool) (h : antiquarylaw44_ExchangeStocksAsSpecified_l2 k p1 p2 p3 p4 p5 p6 = some r) :
    Abs.Good P 3 Tryd.f3.ntmps [] [] (.v (.p Kd.bool r)) (pos Tryd.f3 [.r, .r, .r, .c false, .r, .c false, .r, .r, .r]) [(sk 1, some (.v (.p Kd.str p1))), (sk 4, some (.v (.ptr 502001 0))), (sk 6, some (.v (.ptr 502002 0))), (sk 7, some (.v (.ptr 502003 0))), (sk 54, some (.v (.p Kd.bool p2))), (ek 502001, some (.box [.p (Kd.sl KI) p3])), (ek 502002, some (.box [.p (Kd.arr 16 (Kd.int .u8)) p4])), (ek 502003, some (.box [.p (Kd.arr 16 (Kd.int .u8)) p5, .p (Kd.int .i64) p6]))] := by
  unfold antiquarylaw44_ExchangeStocksAsSpecified_l2 at h
  rcases br_inv h with ⟨h1435, h⟩ | ⟨h1435, h⟩
  · obtain ⟨x1436, h1437, h⟩ := bind_inv h
    replace h := Option.some.inj h; subst h
    exact Abs.Good.path_ret hm [.cond true, .reg [(0, { call := some { lend := [], pass := [], res := .v (.p Kd.bool x1436), outs := [], back := [] } })]] [] Tryd.func3 (cs := [_, _]) (by kernel_rfl) ⟨h1435, (antiquarylaw44_sanity_ok k  _ h1437), trivial⟩ (by kernel_rfl)
  · obtain ⟨x1438, h1439, h⟩ := bind_inv h
    obtain ⟨x1440, h1441, h⟩ := bind_inv h
    obtain ⟨x1442, h1443, h⟩ := bind_inv h
    obtain ⟨x1444, h1445, h⟩ := bind_inv h
    obtain ⟨x1446, h1447, h⟩ := bind_inv h
    obtain ⟨x1448, h1449, h⟩ := bind_inv h
    rcases br_inv h with ⟨h1450, h⟩ | ⟨h1450, h⟩
    · exact Abs.Good.path hm [.cond false, .reg [(2, { call := some { lend := [], pass := [], res := .t [.p Kd.str x1438.1, .p Kd.bool x1438.2], outs := [], back := [] } })], .reg [(2, { call := some { lend := [], pass := [], res := .v (.p (Kd.int .i64) x1440), outs := [], back := [] } })], .reg [(2, { call := some { lend := [], pass := [], res := .t [.agg [.p (Kd.sl KI) x1442.1], .p (Kd.int .i64) x1442.2], outs := [], back := [] } })], .reg [(2, { call := some { lend := [], pass := [], res := .v (.agg [.p (Kd.sl KI) x1444.1, .nilsl, .p (Kd.int .i64) x1444.2]), outs := [], back := [] } })], .reg [(2, { call := some { lend := [], pass := [], res := .t [.p (Kd.arr 16 (Kd.int .u8)) x1446.1, .p (Kd.int .i64) x1446.2], outs := [], back := [] } })], .reg [(2, { call := some { lend := [], pass := [], res := .v (.agg [.p (Kd.int .i64) x1448.1, .p (Kd.arr 16 (Kd.int .u8)) x1448.2.1, .p (Kd.int .i64) x1448.2.2.1, .p (Kd.arr 16 (Kd.int .u8)) x1448.2.2.2.1, .p (Kd.int .i64) x1448.2.2.2.2.1, .nilsl, .p Kd.str x1448.2.2.2.2.2]), outs := [], back := [] } })], .reg [(5, { dec := some true }), (6, { dec := some true }), (15, { dec := some true }), (16, { pick := some true }), (18, { dec := some true }), (19, { dec := some true }), (20, { dec := some true }), (23, { dec := some true }), (24, { pick := some true }), (26, { dec := some true }), (27, { dec := some true }), (28, { dec := some true }), (29, { dec := some true }), (30, { pick := some true }), (32, { dec := some true }), (33, { dec := some true }), (34, { dec := some true }), (35, { dec := some true }), (36, { dec := some true }), (37, { pick := some true }), (39, { dec := some true }), (40, { dec := some true }), (41, { dec := some true }), (42, { dec := some true }), (43, { pick := some true }), (45, { dec := some true }), (46, { dec := some true }), (47, { dec := some true }), (48, { dec := some true }), (49, { pick := some true })], .keep [sk 4, sk 6, sk 7, sk 132, ek 502001, ek 502002, ek 502003], .ren [(502001, 503001), (502002, 503002), (502003, 503003)]] (cs := [_, _, _, _, _, _, _, _, _, _, _, _, _, _, _, _, _, _, _, _, _, _, _, _, _, _, _, _, _, _, _, _, _, _, _, _, _]) (by kernel_rfl) ⟨h1435, (exchange_Find_ok k p3 p4 _ h1439), (antiquaryref44_Place_ok k p3 p4 _ h1441), (exchange_Add_ok k p3 p1 _ h1443), (antiquaryref44_Add_ok k p3 p1 _ h1445), (exchange_Sum_ok k p3 p5 p6 _ h1447), (antiquaryref44_Sum_ok k p3 p5 p6 _ h1449), h1450, h1450, h1450, h1450, (rfl : true = true), (rfl : true = true), (rfl : true = true), (rfl : true = true), (rfl : true = true), (rfl : true = true), (rfl : true = true), (rfl : true = true), (rfl : true = true), (rfl : true = true), (rfl : true = true), (rfl : true = true), (rfl : true = true), (rfl : true = true), (rfl : true = true), (rfl : true = true), (rfl : true = true), (rfl : true = true), (rfl : true = true), (rfl : true = true), (rfl : true = true), (rfl : true = true), (rfl : true = true), (rfl : true = true), (rfl : true = true), (rfl : true = true), trivial⟩ (antiquarylaw44_ExchangeStocksAsSpecified_l3_ok k true p3 p4 p5 p6 r h)
    · rcases br_inv h with ⟨h1451, h⟩ | ⟨h1451, h⟩
      · obtain ⟨h1452, h⟩ := gd_inv h
        rcases br_inv h with ⟨h1453, h⟩ | ⟨h1453, h⟩
        · exact Abs.Good.path hm [.cond false, .reg [(2, { call := some { lend := [], pass := [], res := .t [.p Kd.str x1438.1, .p Kd.bool x1438.2], outs := [], back := [] } })], .reg [(2, { call := some { lend := [], pass := [], res := .v (.p (Kd.int .i64) x1440), outs := [], back := [] } })], .reg [(2, { call := some { lend := [], pass := [], res := .t [.agg [.p (Kd.sl KI) x1442.1], .p (Kd.int .i64) x1442.2], outs := [], back := [] } })], .reg [(2, { call := some { lend := [], pass := [], res := .v (.agg [.p (Kd.sl KI) x1444.1, .nilsl, .p (Kd.int .i64) x1444.2]), outs := [], back := [] } })], .reg [(2, { call := some { lend := [], pass := [], res := .t [.p (Kd.arr 16 (Kd.int .u8)) x1446.1, .p (Kd.int .i64) x1446.2], outs := [], back := [] } })], .reg [(2, { call := some { lend := [], pass := [], res := .v (.agg [.p (Kd.int .i64) x1448.1, .p (Kd.arr 16 (Kd.int .u8)) x1448.2.1, .p (Kd.int .i64) x1448.2.2.1, .p (Kd.arr 16 (Kd.int .u8)) x1448.2.2.2.1, .p (Kd.int .i64) x1448.2.2.2.2.1, .nilsl, .p Kd.str x1448.2.2.2.2.2]), outs := [], back := [] } })], .reg [(5, { dec := some false }), (6, { dec := some false }), (7, { dec := some true }), (8, { dec := some true }), (9, { dec := some true }), (10, { dec := some true }), (11, { dec := some true }), (12, { dec := some true }), (13, { dec := some true }), (14, { dec := some true }), (15, { dec := some false, pick := some true }), (16, { pick := some false }), (18, { dec := some true }), (19, { dec := some true }), (20, { dec := some true }), (23, { dec := some true }), (24, { pick := some true }), (26, { dec := some true }), (27, { dec := some true }), (28, { dec := some true }), (29, { dec := some true }), (30, { pick := some true }), (32, { dec := some true }), (33, { dec := some true }), (34, { dec := some true }), (35, { dec := some true }), (36, { dec := some true }), (37, { pick := some true }), (39, { dec := some true }), (40, { dec := some true }), (41, { dec := some true }), (42, { dec := some true }), (43, { pick := some true }), (45, { dec := some true }), (46, { dec := some true }), (47, { dec := some true }), (48, { dec := some true }), (49, { pick := some true })], .keep [sk 4, sk 6, sk 7, sk 132, ek 502001, ek 502002, ek 502003], .ren [(502001, 503001), (502002, 503002), (502003, 503003)]] (cs := [_, _, _, _, _, _, _, _, _, _, _, _, _, _, _, _, _, _, _, _, _, _, _, _, _, _, _, _, _, _, _, _, _, _, _, _, _, _, _, _, _, _, _, _, _, _, _, _]) (by kernel_rfl) ⟨h1435, (exchange_Find_ok k p3 p4 _ h1439), (antiquaryref44_Place_ok k p3 p4 _ h1441), (exchange_Add_ok k p3 p1 _ h1443), (antiquaryref44_Add_ok k p3 p1 _ h1445), (exchange_Sum_ok k p3 p5 p6 _ h1447), (antiquaryref44_Sum_ok k p3 p5 p6 _ h1449), h1450, h1450, h1451, h1451, h1451, h1451, h1451, h1452.1, h1452.2, h1451, h1451, h1451, h1450, h1451, h1450, h1453, h1453, h1453, h1453, h1453, (rfl : true = true), (rfl : true = true), (rfl : true = true), (rfl : true = true), (rfl : true = true), (rfl : true = true), (rfl : true = true), (rfl : true = true), (rfl : true = true), (rfl : true = true), (rfl : true = true), (rfl : true = true), (rfl : true = true), (rfl : true = true), (rfl : true = true), (rfl : true = true), (rfl : true = true), (rfl : true = true), (rfl : true = true), (rfl : true = true), (rfl : true = true), trivial⟩ (antiquarylaw44_ExchangeStocksAsSpecified_l3_ok k true p3 p4 p5 p6 r h)
        · rcases br_inv h with ⟨h1454, h⟩ | ⟨h1454, h⟩
          · rcases br_inv h with ⟨h1455, h⟩ | ⟨h1455, h⟩
            · exact Abs.Good.path hm [.cond false, .reg [(2, { call := some { lend := [], pass := [], res := .t [.p Kd.str x1438.1, .p Kd.bool x1438.2], outs := [], back := [] } })], .reg [(2, { call := some { lend := [], pass := [], res := .v (.p (Kd.int .i64) x1440), outs := [], back := [] } })], .reg [(2, { call := some { lend := [], pass := [], res := .t [.agg [.p (Kd.sl KI) x1442.1], .p (Kd.int .i64) x1442.2], outs := [], back := [] } })], .reg [(2, { call := some { lend := [], pass := [], res := .v (.agg [.p (Kd.sl KI) x1444.1, .nilsl, .p (Kd.int .i64) x1444.2]), outs := [], back := [] } })], .reg [(2, { call := some { lend := [], pass := [], res := .t [.p (Kd.arr 16 (Kd.int .u8)) x1446.1, .p (Kd.int .i64) x1446.2], outs := [], back := [] } })], .reg [(2, { call := some { lend := [], pass := [], res := .v (.agg [.p (Kd.int .i64) x1448.1, .p (Kd.arr 16 (Kd.int .u8)) x1448.2.1, .p (Kd.int .i64) x1448.2.2.1, .p (Kd.arr 16 (Kd.int .u8)) x1448.2.2.2.1, .p (Kd.int .i64) x1448.2.2.2.2.1, .nilsl, .p Kd.str x1448.2.2.2.2.2]), outs := [], back := [] } })], .reg [(5, { dec := some false }), (6, { dec := some false }), (7, { dec := some true }), (8, { dec := some true }), (9, { dec := some true }), (10, { dec := some true }), (11, { dec := some true }), (12, { dec := some true }), (13, { dec := some true }), (14, { dec := some true }), (15, { dec := some false, pick := some true }), (16, { pick := some false }), (18, { dec := some false }), (19, { dec := some false }), (20, { dec := some false }), (21, { dec := some true }), (22, { dec := some true }), (23, { dec := some false, pick := some true }), (24, { pick := some false }), (26, { dec := some true }), (27, { dec := some true }), (28, { dec := some true }), (29, { dec := some true }), (30, { pick := some true }), (32, { dec := some true }), (33, { dec := some true }), (34, { dec := some true }), (35, { dec := some true }), (36, { dec := some true }), (37, { pick := some true }), (39, { dec := some true }), (40, { dec := some true }), (41, { dec := some true }), (42, { dec := some true }), (43, { pick := some true }), (45, { dec := some true }), (46, { dec := some true }), (47, { dec := some true }), (48, { dec := some true }), (49, { pick := some true })], .keep [sk 4, sk 6, sk 7, sk 132, ek 502001, ek 502002, ek 502003], .ren [(502001, 503001), (502002, 503002), (502003, 503003)]] (cs := [_, _, _, _, _, _, _, _, _, _, _, _, _, _, _, _, _, _, _, _, _, _, _, _, _, _, _, _, _, _, _, _, _, _, _, _, _, _, _, _, _, _, _, _, _, _, _, _, _, _, _]) (by kernel_rfl) ⟨h1435, (exchange_Find_ok k p3 p4 _ h1439), (antiquaryref44_Place_ok k p3 p4 _ h1441), (exchange_Add_ok k p3 p1 _ h1443), (antiquaryref44_Add_ok k p3 p1 _ h1445), (exchange_Sum_ok k p3 p5 p6 _ h1447), (antiquaryref44_Sum_ok k p3 p5 p6 _ h1449), h1450, h1450, h1451, h1451, h1451, h1451, h1451, h1452.1, h1452.2, h1451, h1451, h1451, h1450, h1451, h1450, h1453, h1453, h1453, h1454, h1454, h1453, h1454, h1453, h1455, h1455, h1455, h1455, h1455, (rfl : true = true), (rfl : true = true), (rfl : true = true), (rfl : true = true), (rfl : true = true), (rfl : true = true), (rfl : true = true), (rfl : true = true), (rfl : true = true), (rfl : true = true), (rfl : true = true), (rfl : true = true), (rfl : true = true), (rfl : true = true), (rfl : true = true), (rfl : true = true), trivial⟩ (antiquarylaw44_ExchangeStocksAsSpecified_l3_ok k true p3 p4 p5 p6 r h)
            · rcases br_inv h with ⟨h1456, h⟩ | ⟨h1456, h⟩
              · exact Abs.Good.path hm [.cond false, .reg [(2, { call := some { lend := [], pass := [], res := .t [.p Kd.str x1438.1, .p Kd.bool x1438.2], outs := [], back := [] } })], .reg [(2, { call := some { lend := [], pass := [], res := .v (.p (Kd.int .i64) x1440), outs := [], back := [] } })], .reg [(2, { call := some { lend := [], pass := [], res := .t [.agg [.p (Kd.sl KI) x1442.1], .p (Kd.int .i64) x1442.2], outs := [], back := [] } })], .reg [(2, { call := some { lend := [], pass := [], res := .v (.agg [.p (Kd.sl KI) x1444.1, .nilsl, .p (Kd.int .i64) x1444.2]), outs := [], back := [] } })], .reg [(2, { call := some { lend := [], pass := [], res := .t [.p (Kd.arr 16 (Kd.int .u8)) x1446.1, .p (Kd.int .i64) x1446.2], outs := [], back := [] } })], .reg [(2, { call := some { lend := [], pass := [], res := .v (.agg [.p (Kd.int .i64) x1448.1, .p (Kd.arr 16 (Kd.int .u8)) x1448.2.1, .p (Kd.int .i64) x1448.2.2.1, .p (Kd.arr 16 (Kd.int .u8)) x1448.2.2.2.1, .p (Kd.int .i64) x1448.2.2.2.2.1, .nilsl, .p Kd.str x1448.2.2.2.2.2]), outs := [], back := [] } })], .reg [(5, { dec := some false }), (6, { dec := some false }), (7, { dec := some true }), (8, { dec := some true }), (9, { dec := some true }), (10, { dec := some true }), (11, { dec := some true }), (12, { dec := some true }), (13, { dec := some true }), (14, { dec := some true }), (15, { dec := some false, pick := some true }), (16, { pick := some false }), (18, { dec := some false }), (19, { dec := some false }), (20, { dec := some false }), (21, { dec := some true }), (22, { dec := some true }), (23, { dec := some false, pick := some true }), (24, { pick := some false }), (26, { dec := some false }), (27, { dec := some false }), (28, { dec := some false }), (29, { dec := some false }), (30, { pick := some false }), (32, { dec := some true }), (33, { dec := some true }), (34, { dec := some true }), (35, { dec := some true }), (36, { dec := some true }), (37, { pick := some true }), (39, { dec := some true }), (40, { dec := some true }), (41, { dec := some true }), (42, { dec := some true }), (43, { pick := some true }), (45, { dec := some true }), (46, { dec := some true }), (47, { dec := some true }), (48, { dec := some true }), (49, { pick := some true })], .keep [sk 4, sk 6, sk 7, sk 132, ek 502001, ek 502002, ek 502003], .ren [(502001, 503001), (502002, 503002), (502003, 503003)]] (cs := [_, _, _, _, _, _, _, _, _, _, _, _, _, _, _, _, _, _, _, _, _, _, _, _, _, _, _, _, _, _, _, _, _, _, _, _, _, _, _, _, _, _, _, _, _, _, _, _, _, _, _]) (by kernel_rfl) ⟨h1435, (exchange_Find_ok k p3 p4 _ h1439), (antiquaryref44_Place_ok k p3 p4 _ h1441), (exchange_Add_ok k p3 p1 _ h1443), (antiquaryref44_Add_ok k p3 p1 _ h1445), (exchange_Sum_ok k p3 p5 p6 _ h1447), (antiquaryref44_Sum_ok k p3 p5 p6 _ h1449), h1450, h1450, h1451, h1451, h1451, h1451, h1451, h1452.1, h1452.2, h1451, h1451, h1451, h1450, h1451, h1450, h1453, h1453, h1453, h1454, h1454, h1453, h1454, h1453, h1455, h1455, h1455, h1455, h1455, h1456, h1456, h1456, h1456, h1456, h1456, (rfl : true = true), (rfl : true = true), (rfl : true = true), (rfl : true = true), (rfl : true = true), (rfl : true = true), (rfl : true = true), (rfl : true = true), (rfl : true = true), (rfl : true = true), trivial⟩ (antiquarylaw44_ExchangeStocksAsSpecified_l3_ok k true p3 p4 p5 p6 r h)
              · obtain ⟨x1457, h1458, h⟩ := bind_inv h
                rcases br_inv h with ⟨h1459, h⟩ | ⟨h1459, h⟩
                · exact Abs.Good.path hm [.cond false, .reg [(2, { call := some { lend := [], pass := [], res := .t [.p Kd.str x1438.1, .p Kd.bool x1438.2], outs := [], back := [] } })], .reg [(2, { call := some { lend := [], pass := [], res := .v (.p (Kd.int .i64) x1440), outs := [], back := [] } })], .reg [(2, { call := some { lend := [], pass := [], res := .t [.agg [.p (Kd.sl KI) x1442.1], .p (Kd.int .i64) x1442.2], outs := [], back := [] } })], .reg [(2, { call := some { lend := [], pass := [], res := .v (.agg [.p (Kd.sl KI) x1444.1, .nilsl, .p (Kd.int .i64) x1444.2]), outs := [], back := [] } })], .reg [(2, { call := some { lend := [], pass := [], res := .t [.p (Kd.arr 16 (Kd.int .u8)) x1446.1, .p (Kd.int .i64) x1446.2], outs := [], back := [] } })], .reg [(2, { call := some { lend := [], pass := [], res := .v (.agg [.p (Kd.int .i64) x1448.1, .p (Kd.arr 16 (Kd.int .u8)) x1448.2.1, .p (Kd.int .i64) x1448.2.2.1, .p (Kd.arr 16 (Kd.int .u8)) x1448.2.2.2.1, .p (Kd.int .i64) x1448.2.2.2.2.1, .nilsl, .p Kd.str x1448.2.2.2.2.2]), outs := [], back := [] } })], .reg [(5, { dec := some false }), (6, { dec := some false }), (7, { dec := some true }), (8, { dec := some true }), (9, { dec := some true }), (10, { dec := some true }), (11, { dec := some true }), (12, { dec := some true }), (13, { dec := some true }), (14, { dec := some true }), (15, { dec := some false, pick := some true }), (16, { pick := some false }), (18, { dec := some false }), (19, { dec := some false }), (20, { dec := some false }), (21, { dec := some true }), (22, { dec := some true }), (23, { dec := some false, pick := some true }), (24, { pick := some false }), (26, { dec := some false }), (27, { dec := some false }), (28, { dec := some false }), (29, { dec := some false }), (30, { pick := some false }), (32, { dec := some false }), (33, { dec := some false }), (34, { dec := some false }), (35, { dec := some false, call := some { lend := [], pass := [], res := .v (.p Kd.bool x1457), outs := [], back := [] } }), (36, { dec := some false }), (37, { pick := some false }), (39, { dec := some true }), (40, { dec := some true }), (41, { dec := some true }), (42, { dec := some true }), (43, { pick := some true }), (45, { dec := some true }), (46, { dec := some true }), (47, { dec := some true }), (48, { dec := some true }), (49, { pick := some true })], .keep [sk 4, sk 6, sk 7, sk 132, ek 502001, ek 502002, ek 502003], .ren [(502001, 503001), (502002, 503002), (502003, 503003)]] (cs := [_, _, _, _, _, _, _, _, _, _, _, _, _, _, _, _, _, _, _, _, _, _, _, _, _, _, _, _, _, _, _, _, _, _, _, _, _, _, _, _, _, _, _, _, _, _, _, _, _, _, _, _]) (by kernel_rfl) ⟨h1435, (exchange_Find_ok k p3 p4 _ h1439), (antiquaryref44_Place_ok k p3 p4 _ h1441), (exchange_Add_ok k p3 p1 _ h1443), (antiquaryref44_Add_ok k p3 p1 _ h1445), (exchange_Sum_ok k p3 p5 p6 _ h1447), (antiquaryref44_Sum_ok k p3 p5 p6 _ h1449), h1450, h1450, h1451, h1451, h1451, h1451, h1451, h1452.1, h1452.2, h1451, h1451, h1451, h1450, h1451, h1450, h1453, h1453, h1453, h1454, h1454, h1453, h1454, h1453, h1455, h1455, h1455, h1455, h1455, h1456, h1456, h1456, h1456, (antiquaryref44_Same_ok k x1442.1 x1444.1 _ h1458), h1456, h1456, h1459, h1459, h1459, h1459, h1459, (rfl : true = true), (rfl : true = true), (rfl : true = true), (rfl : true = true), (rfl : true = true), trivial⟩ (antiquarylaw44_ExchangeStocksAsSpecified_l3_ok k true p3 p4 p5 p6 r h)
                · rcases br_inv h with ⟨h1460, h⟩ | ⟨h1460, h⟩
                  · exact Abs.Good.path hm [.cond false, .reg [(2, { call := some { lend := [], pass := [], res := .t [.p Kd.str x1438.1, .p Kd.bool x1438.2], outs := [], back := [] } })], .reg [(2, { call := some { lend := [], pass := [], res := .v (.p (Kd.int .i64) x1440), outs := [], back := [] } })], .reg [(2, { call := some { lend := [], pass := [], res := .t [.agg [.p (Kd.sl KI) x1442.1], .p (Kd.int .i64) x1442.2], outs := [], back := [] } })], .reg [(2, { call := some { lend := [], pass := [], res := .v (.agg [.p (Kd.sl KI) x1444.1, .nilsl, .p (Kd.int .i64) x1444.2]), outs := [], back := [] } })], .reg [(2, { call := some { lend := [], pass := [], res := .t [.p (Kd.arr 16 (Kd.int .u8)) x1446.1, .p (Kd.int .i64) x1446.2], outs := [], back := [] } })], .reg [(2, { call := some { lend := [], pass := [], res := .v (.agg [.p (Kd.int .i64) x1448.1, .p (Kd.arr 16 (Kd.int .u8)) x1448.2.1, .p (Kd.int .i64) x1448.2.2.1, .p (Kd.arr 16 (Kd.int .u8)) x1448.2.2.2.1, .p (Kd.int .i64) x1448.2.2.2.2.1, .nilsl, .p Kd.str x1448.2.2.2.2.2]), outs := [], back := [] } })], .reg [(5, { dec := some false }), (6, { dec := some false }), (7, { dec := some true }), (8, { dec := some true }), (9, { dec := some true }), (10, { dec := some true }), (11, { dec := some true }), (12, { dec := some true }), (13, { dec := some true }), (14, { dec := some true }), (15, { dec := some false, pick := some true }), (16, { pick := some false }), (18, { dec := some false }), (19, { dec := some false }), (20, { dec := some false }), (21, { dec := some true }), (22, { dec := some true }), (23, { dec := some false, pick := some true }), (24, { pick := some false }), (26, { dec := some false }), (27, { dec := some false }), (28, { dec := some false }), (29, { dec := some false }), (30, { pick := some false }), (32, { dec := some false }), (33, { dec := some false }), (34, { dec := some false }), (35, { dec := some false, call := some { lend := [], pass := [], res := .v (.p Kd.bool x1457), outs := [], back := [] } }), (36, { dec := some false }), (37, { pick := some false }), (39, { dec := some false }), (40, { dec := some false }), (41, { dec := some false }), (42, { dec := some false }), (43, { pick := some false }), (45, { dec := some true }), (46, { dec := some true }), (47, { dec := some true }), (48, { dec := some true }), (49, { pick := some true })], .keep [sk 4, sk 6, sk 7, sk 132, ek 502001, ek 502002, ek 502003], .ren [(502001, 503001), (502002, 503002), (502003, 503003)]] (cs := [_, _, _, _, _, _, _, _, _, _, _, _, _, _, _, _, _, _, _, _, _, _, _, _, _, _, _, _, _, _, _, _, _, _, _, _, _, _, _, _, _, _, _, _, _, _, _, _, _, _, _, _, _]) (by kernel_rfl) ⟨h1435, (exchange_Find_ok k p3 p4 _ h1439), (antiquaryref44_Place_ok k p3 p4 _ h1441), (exchange_Add_ok k p3 p1 _ h1443), (antiquaryref44_Add_ok k p3 p1 _ h1445), (exchange_Sum_ok k p3 p5 p6 _ h1447), (antiquaryref44_Sum_ok k p3 p5 p6 _ h1449), h1450, h1450, h1451, h1451, h1451, h1451, h1451, h1452.1, h1452.2, h1451, h1451, h1451, h1450, h1451, h1450, h1453, h1453, h1453, h1454, h1454, h1453, h1454, h1453, h1455, h1455, h1455, h1455, h1455, h1456, h1456, h1456, h1456, (antiquaryref44_Same_ok k x1442.1 x1444.1 _ h1458), h1456, h1456, h1459, h1459, h1459, h1459, eq26, h1459, h1460, h1460, h1460, h1460, h1460, trivial⟩ (antiquarylaw44_ExchangeStocksAsSpecified_l3_ok k true p3 p4 p5 p6 r h)
                  · exact Abs.Good.path hm [.cond false, .reg [(2, { call := some { lend := [], pass := [], res := .t [.p Kd.str x1438.1, .p Kd.bool x1438.2], outs := [], back := [] } })], .reg [(2, { call := some { lend := [], pass := [], res := .v (.p (Kd.int .i64) x1440), outs := [], back := [] } })], .reg [(2, { call := some { lend := [], pass := [], res := .t [.agg [.p (Kd.sl KI) x1442.1], .p (Kd.int .i64) x1442.2], outs := [], back := [] } })], .reg [(2, { call := some { lend := [], pass := [], res := .v (.agg [.p (Kd.sl KI) x1444.1, .nilsl, .p (Kd.int .i64) x1444.2]), outs := [], back := [] } })], .reg [(2, { call := some { lend := [], pass := [], res := .t [.p (Kd.arr 16 (Kd.int .u8)) x1446.1, .p (Kd.int .i64) x1446.2], outs := [], back := [] } })], .reg [(2, { call := some { lend := [], pass := [], res := .v (.agg [.p (Kd.int .i64) x1448.1, .p (Kd.arr 16 (Kd.int .u8)) x1448.2.1, .p (Kd.int .i64) x1448.2.2.1, .p (Kd.arr 16 (Kd.int .u8)) x1448.2.2.2.1, .p (Kd.int .i64) x1448.2.2.2.2.1, .nilsl, .p Kd.str x1448.2.2.2.2.2]), outs := [], back := [] } })], .reg [(5, { dec := some false }), (6, { dec := some false }), (7, { dec := some true }), (8, { dec := some true }), (9, { dec := some true }), (10, { dec := some true }), (11, { dec := some true }), (12, { dec := some true }), (13, { dec := some true }), (14, { dec := some true }), (15, { dec := some false, pick := some true }), (16, { pick := some false }), (18, { dec := some false }), (19, { dec := some false }), (20, { dec := some false }), (21, { dec := some true }), (22, { dec := some true }), (23, { dec := some false, pick := some true }), (24, { pick := some false }), (26, { dec := some false }), (27, { dec := some false }), (28, { dec := some false }), (29, { dec := some false }), (30, { pick := some false }), (32, { dec := some false }), (33, { dec := some false }), (34, { dec := some false }), (35, { dec := some false, call := some { lend := [], pass := [], res := .v (.p Kd.bool x1457), outs := [], back := [] } }), (36, { dec := some false }), (37, { pick := some false }), (39, { dec := some false }), (40, { dec := some false }), (41, { dec := some false }), (42, { dec := some false }), (43, { pick := some false }), (45, { dec := some false }), (46, { dec := some false }), (47, { dec := some false }), (48, { dec := some false }), (49, { pick := some false })], .keep [sk 4, sk 6, sk 7, sk 132, ek 502001, ek 502002, ek 502003], .ren [(502001, 503001), (502002, 503002), (502003, 503003)]] (cs := [_, _, _, _, _, _, _, _, _, _, _, _, _, _, _, _, _, _, _, _, _, _, _, _, _, _, _, _, _, _, _, _, _, _, _, _, _, _, _, _, _, _, _, _, _, _, _, _, _, _, _, _, _]) (by kernel_rfl) ⟨h1435, (exchange_Find_ok k p3 p4 _ h1439), (antiquaryref44_Place_ok k p3 p4 _ h1441), (exchange_Add_ok k p3 p1 _ h1443), (antiquaryref44_Add_ok k p3 p1 _ h1445), (exchange_Sum_ok k p3 p5 p6 _ h1447), (antiquaryref44_Sum_ok k p3 p5 p6 _ h1449), h1450, h1450, h1451, h1451, h1451, h1451, h1451, h1452.1, h1452.2, h1451, h1451, h1451, h1450, h1451, h1450, h1453, h1453, h1453, h1454, h1454, h1453, h1454, h1453, h1455, h1455, h1455, h1455, h1455, h1456, h1456, h1456, h1456, (antiquaryref44_Same_ok k x1442.1 x1444.1 _ h1458), h1456, h1456, h1459, h1459, h1459, h1459, eq26, h1459, h1460, h1460, h1460, h1460, h1460, trivial⟩ (antiquarylaw44_ExchangeStocksAsSpecified_l3_ok k (x1446.2 != x1448.2.2.2.2.1) p3 p4 p5 p6 r h)
          · rcases br_inv h with ⟨h1461, h⟩ | ⟨h1461, h⟩
            · exact Abs.Good.path hm [.cond false, .reg [(2, { call := some { lend := [], pass := [], res := .t [.p Kd.str x1438.1, .p Kd.bool x1438.2], outs := [], back := [] } })], .reg [(2, { call := some { lend := [], pass := [], res := .v (.p (Kd.int .i64) x1440), outs := [], back := [] } })], .reg [(2, { call := some { lend := [], pass := [], res := .t [.agg [.p (Kd.sl KI) x1442.1], .p (Kd.int .i64) x1442.2], outs := [], back := [] } })], .reg [(2, { call := some { lend := [], pass := [], res := .v (.agg [.p (Kd.sl KI) x1444.1, .nilsl, .p (Kd.int .i64) x1444.2]), outs := [], back := [] } })], .reg [(2, { call := some { lend := [], pass := [], res := .t [.p (Kd.arr 16 (Kd.int .u8)) x1446.1, .p (Kd.int .i64) x1446.2], outs := [], back := [] } })], .reg [(2, { call := some { lend := [], pass := [], res := .v (.agg [.p (Kd.int .i64) x1448.1, .p (Kd.arr 16 (Kd.int .u8)) x1448.2.1, .p (Kd.int .i64) x1448.2.2.1, .p (Kd.arr 16 (Kd.int .u8)) x1448.2.2.2.1, .p (Kd.int .i64) x1448.2.2.2.2.1, .nilsl, .p Kd.str x1448.2.2.2.2.2]), outs := [], back := [] } })], .reg [(5, { dec := some false }), (6, { dec := some false }), (7, { dec := some true }), (8, { dec := some true }), (9, { dec := some true }), (10, { dec := some true }), (11, { dec := some true }), (12, { dec := some true }), (13, { dec := some true }), (14, { dec := some true }), (15, { dec := some false, pick := some true }), (16, { pick := some false }), (18, { dec := some false }), (19, { dec := some false }), (20, { dec := some false }), (21, { dec := some false }), (22, { dec := some false }), (23, { dec := some false, pick := some false }), (24, { pick := some false }), (26, { dec := some false }), (27, { dec := some false }), (28, { dec := some false }), (29, { dec := some false }), (30, { pick := some false }), (32, { dec := some true }), (33, { dec := some true }), (34, { dec := some true }), (35, { dec := some true }), (36, { dec := some true }), (37, { pick := some true }), (39, { dec := some true }), (40, { dec := some true }), (41, { dec := some true }), (42, { dec := some true }), (43, { pick := some true }), (45, { dec := some true }), (46, { dec := some true }), (47, { dec := some true }), (48, { dec := some true }), (49, { pick := some true })], .keep [sk 4, sk 6, sk 7, sk 132, ek 502001, ek 502002, ek 502003], .ren [(502001, 503001), (502002, 503002), (502003, 503003)]] (cs := [_, _, _, _, _, _, _, _, _, _, _, _, _, _, _, _, _, _, _, _, _, _, _, _, _, _, _, _, _, _, _, _, _, _, _, _, _, _, _, _, _, _, _, _, _, _, _, _, _, _, _]) (by kernel_rfl) ⟨h1435, (exchange_Find_ok k p3 p4 _ h1439), (antiquaryref44_Place_ok k p3 p4 _ h1441), (exchange_Add_ok k p3 p1 _ h1443), (antiquaryref44_Add_ok k p3 p1 _ h1445), (exchange_Sum_ok k p3 p5 p6 _ h1447), (antiquaryref44_Sum_ok k p3 p5 p6 _ h1449), h1450, h1450, h1451, h1451, h1451, h1451, h1451, h1452.1, h1452.2, h1451, h1451, h1451, h1450, h1451, h1450, h1453, h1453, h1453, h1454, h1454, h1453, h1454, h1453, (rfl : false = false), (rfl : false = false), (rfl : false = false), (rfl : false = false), (rfl : false = false), h1461, h1461, h1461, h1461, h1461, h1461, (rfl : true = true), (rfl : true = true), (rfl : true = true), (rfl : true = true), (rfl : true = true), (rfl : true = true), (rfl : true = true), (rfl : true = true), (rfl : true = true), (rfl : true = true), trivial⟩ (antiquarylaw44_ExchangeStocksAsSpecified_l3_ok k true p3 p4 p5 p6 r h)
            · obtain ⟨x1462, h1463, h⟩ := bind_inv h
              rcases br_inv h with ⟨h1464, h⟩ | ⟨h1464, h⟩
              · exact Abs.Good.path hm [.cond false, .reg [(2, { call := some { lend := [], pass := [], res := .t [.p Kd.str x1438.1, .p Kd.bool x1438.2], outs := [], back := [] } })], .reg [(2, { call := some { lend := [], pass := [], res := .v (.p (Kd.int .i64) x1440), outs := [], back := [] } })], .reg [(2, { call := some { lend := [], pass := [], res := .t [.agg [.p (Kd.sl KI) x1442.1], .p (Kd.int .i64) x1442.2], outs := [], back := [] } })], .reg [(2, { call := some { lend := [], pass := [], res := .v (.agg [.p (Kd.sl KI) x1444.1, .nilsl, .p (Kd.int .i64) x1444.2]), outs := [], back := [] } })], .reg [(2, { call := some { lend := [], pass := [], res := .t [.p (Kd.arr 16 (Kd.int .u8)) x1446.1, .p (Kd.int .i64) x1446.2], outs := [], back := [] } })], .reg [(2, { call := some { lend := [], pass := [], res := .v (.agg [.p (Kd.int .i64) x1448.1, .p (Kd.arr 16 (Kd.int .u8)) x1448.2.1, .p (Kd.int .i64) x1448.2.2.1, .p (Kd.arr 16 (Kd.int .u8)) x1448.2.2.2.1, .p (Kd.int .i64) x1448.2.2.2.2.1, .nilsl, .p Kd.str x1448.2.2.2.2.2]), outs := [], back := [] } })], .reg [(5, { dec := some false }), (6, { dec := some false }), (7, { dec := some true }), (8, { dec := some true }), (9, { dec := some true }), (10, { dec := some true }), (11, { dec := some true }), (12, { dec := some true }), (13, { dec := some true }), (14, { dec := some true }), (15, { dec := some false, pick := some true }), (16, { pick := some false }), (18, { dec := some false }), (19, { dec := some false }), (20, { dec := some false }), (21, { dec := some false }), (22, { dec := some false }), (23, { dec := some false, pick := some false }), (24, { pick := some false }), (26, { dec := some false }), (27, { dec := some false }), (28, { dec := some false }), (29, { dec := some false }), (30, { pick := some false }), (32, { dec := some false }), (33, { dec := some false }), (34, { dec := some false }), (35, { dec := some false, call := some { lend := [], pass := [], res := .v (.p Kd.bool x1462), outs := [], back := [] } }), (36, { dec := some false }), (37, { pick := some false }), (39, { dec := some true }), (40, { dec := some true }), (41, { dec := some true }), (42, { dec := some true }), (43, { pick := some true }), (45, { dec := some true }), (46, { dec := some true }), (47, { dec := some true }), (48, { dec := some true }), (49, { pick := some true })], .keep [sk 4, sk 6, sk 7, sk 132, ek 502001, ek 502002, ek 502003], .ren [(502001, 503001), (502002, 503002), (502003, 503003)]] (cs := [_, _, _, _, _, _, _, _, _, _, _, _, _, _, _, _, _, _, _, _, _, _, _, _, _, _, _, _, _, _, _, _, _, _, _, _, _, _, _, _, _, _, _, _, _, _, _, _, _, _, _, _]) (by kernel_rfl) ⟨h1435, (exchange_Find_ok k p3 p4 _ h1439), (antiquaryref44_Place_ok k p3 p4 _ h1441), (exchange_Add_ok k p3 p1 _ h1443), (antiquaryref44_Add_ok k p3 p1 _ h1445), (exchange_Sum_ok k p3 p5 p6 _ h1447), (antiquaryref44_Sum_ok k p3 p5 p6 _ h1449), h1450, h1450, h1451, h1451, h1451, h1451, h1451, h1452.1, h1452.2, h1451, h1451, h1451, h1450, h1451, h1450, h1453, h1453, h1453, h1454, h1454, h1453, h1454, h1453, (rfl : false = false), (rfl : false = false), (rfl : false = false), (rfl : false = false), (rfl : false = false), h1461, h1461, h1461, h1461, (antiquaryref44_Same_ok k x1442.1 x1444.1 _ h1463), h1461, h1461, h1464, h1464, h1464, h1464, h1464, (rfl : true = true), (rfl : true = true), (rfl : true = true), (rfl : true = true), (rfl : true = true), trivial⟩ (antiquarylaw44_ExchangeStocksAsSpecified_l3_ok k true p3 p4 p5 p6 r h)
              · rcases br_inv h with ⟨h1465, h⟩ | ⟨h1465, h⟩
                · exact Abs.Good.path hm [.cond false, .reg [(2, { call := some { lend := [], pass := [], res := .t [.p Kd.str x1438.1, .p Kd.bool x1438.2], outs := [], back := [] } })], .reg [(2, { call := some { lend := [], pass := [], res := .v (.p (Kd.int .i64) x1440), outs := [], back := [] } })], .reg [(2, { call := some { lend := [], pass := [], res := .t [.agg [.p (Kd.sl KI) x1442.1], .p (Kd.int .i64) x1442.2], outs := [], back := [] } })], .reg [(2, { call := some { lend := [], pass := [], res := .v (.agg [.p (Kd.sl KI) x1444.1, .nilsl, .p (Kd.int .i64) x1444.2]), outs := [], back := [] } })], .reg [(2, { call := some { lend := [], pass := [], res := .t [.p (Kd.arr 16 (Kd.int .u8)) x1446.1, .p (Kd.int .i64) x1446.2], outs := [], back := [] } })], .reg [(2, { call := some { lend := [], pass := [], res := .v (.agg [.p (Kd.int .i64) x1448.1, .p (Kd.arr 16 (Kd.int .u8)) x1448.2.1, .p (Kd.int .i64) x1448.2.2.1, .p (Kd.arr 16 (Kd.int .u8)) x1448.2.2.2.1, .p (Kd.int .i64) x1448.2.2.2.2.1, .nilsl, .p Kd.str x1448.2.2.2.2.2]), outs := [], back := [] } })], .reg [(5, { dec := some false }), (6, { dec := some false }), (7, { dec := some true }), (8, { dec := some true }), (9, { dec := some true }), (10, { dec := some true }), (11, { dec := some true }), (12, { dec := some true }), (13, { dec := some true }), (14, { dec := some true }), (15, { dec := some false, pick := some true }), (16, { pick := some false }), (18, { dec := some false }), (19, { dec := some false }), (20, { dec := some false }), (21, { dec := some false }), (22, { dec := some false }), (23, { dec := some false, pick := some false }), (24, { pick := some false }), (26, { dec := some false }), (27, { dec := some false }), (28, { dec := some false }), (29, { dec := some false }), (30, { pick := some false }), (32, { dec := some false }), (33, { dec := some false }), (34, { dec := some false }), (35, { dec := some false, call := some { lend := [], pass := [], res := .v (.p Kd.bool x1462), outs := [], back := [] } }), (36, { dec := some false }), (37, { pick := some false }), (39, { dec := some false }), (40, { dec := some false }), (41, { dec := some false }), (42, { dec := some false }), (43, { pick := some false }), (45, { dec := some true }), (46, { dec := some true }), (47, { dec := some true }), (48, { dec := some true }), (49, { pick := some true })], .keep [sk 4, sk 6, sk 7, sk 132, ek 502001, ek 502002, ek 502003], .ren [(502001, 503001), (502002, 503002), (502003, 503003)]] (cs := [_, _, _, _, _, _, _, _, _, _, _, _, _, _, _, _, _, _, _, _, _, _, _, _, _, _, _, _, _, _, _, _, _, _, _, _, _, _, _, _, _, _, _, _, _, _, _, _, _, _, _, _, _]) (by kernel_rfl) ⟨h1435, (exchange_Find_ok k p3 p4 _ h1439), (antiquaryref44_Place_ok k p3 p4 _ h1441), (exchange_Add_ok k p3 p1 _ h1443), (antiquaryref44_Add_ok k p3 p1 _ h1445), (exchange_Sum_ok k p3 p5 p6 _ h1447), (antiquaryref44_Sum_ok k p3 p5 p6 _ h1449), h1450, h1450, h1451, h1451, h1451, h1451, h1451, h1452.1, h1452.2, h1451, h1451, h1451, h1450, h1451, h1450, h1453, h1453, h1453, h1454, h1454, h1453, h1454, h1453, (rfl : false = false), (rfl : false = false), (rfl : false = false), (rfl : false = false), (rfl : false = false), h1461, h1461, h1461, h1461, (antiquaryref44_Same_ok k x1442.1 x1444.1 _ h1463), h1461, h1461, h1464, h1464, h1464, h1464, eq26, h1464, h1465, h1465, h1465, h1465, h1465, trivial⟩ (antiquarylaw44_ExchangeStocksAsSpecified_l3_ok k true p3 p4 p5 p6 r h)
                · exact Abs.Good.path hm [.cond false, .reg [(2, { call := some { lend := [], pass := [], res := .t [.p Kd.str x1438.1, .p Kd.bool x1438.2], outs := [], back := [] } })], .reg [(2, { call := some { lend := [], pass := [], res := .v (.p (Kd.int .i64) x1440), outs := [], back := [] } })], .reg [(2, { call := some { lend := [], pass := [], res := .t [.agg [.p (Kd.sl KI) x1442.1], .p (Kd.int .i64) x1442.2], outs := [], back := [] } })], .reg [(2, { call := some { lend := [], pass := [], res := .v (.agg [.p (Kd.sl KI) x1444.1, .nilsl, .p (Kd.int .i64) x1444.2]), outs := [], back := [] } })], .reg [(2, { call := some { lend := [], pass := [], res := .t [.p (Kd.arr 16 (Kd.int .u8)) x1446.1, .p (Kd.int .i64) x1446.2], outs := [], back := [] } })], .reg [(2, { call := some { lend := [], pass := [], res := .v (.agg [.p (Kd.int .i64) x1448.1, .p (Kd.arr 16 (Kd.int .u8)) x1448.2.1, .p (Kd.int .i64) x1448.2.2.1, .p (Kd.arr 16 (Kd.int .u8)) x1448.2.2.2.1, .p (Kd.int .i64) x1448.2.2.2.2.1, .nilsl, .p Kd.str x1448.2.2.2.2.2]), outs := [], back := [] } })], .reg [(5, { dec := some false }), (6, { dec := some false }), (7, { dec := some true }), (8, { dec := some true }), (9, { dec := some true }), (10, { dec := some true }), (11, { dec := some true }), (12, { dec := some true }), (13, { dec := some true }), (14, { dec := some true }), (15, { dec := some false, pick := some true }), (16, { pick := some false }), (18, { dec := some false }), (19, { dec := some false }), (20, { dec := some false }), (21, { dec := some false }), (22, { dec := some false }), (23, { dec := some false, pick := some false }), (24, { pick := some false }), (26, { dec := some false }), (27, { dec := some false }), (28, { dec := some false }), (29, { dec := some false }), (30, { pick := some false }), (32, { dec := some false }), (33, { dec := some false }), (34, { dec := some false }), (35, { dec := some false, call := some { lend := [], pass := [], res := .v (.p Kd.bool x1462), outs := [], back := [] } }), (36, { dec := some false }), (37, { pick := some false }), (39, { dec := some false }), (40, { dec := some false }), (41, { dec := some false }), (42, { dec := some false }), (43, { pick := some false }), (45, { dec := some false }), (46, { dec := some false }), (47, { dec := some false }), (48, { dec := some false }), (49, { pick := some false })], .keep [sk 4, sk 6, sk 7, sk 132, ek 502001, ek 502002, ek 502003], .ren [(502001, 503001), (502002, 503002), (502003, 503003)]] (cs := [_, _, _, _, _, _, _, _, _, _, _, _, _, _, _, _, _, _, _, _, _, _, _, _, _, _, _, _, _, _, _, _, _, _, _, _, _, _, _, _, _, _, _, _, _, _, _, _, _, _, _, _, _]) (by kernel_rfl) ⟨h1435, (exchange_Find_ok k p3 p4 _ h1439), (antiquaryref44_Place_ok k p3 p4 _ h1441), (exchange_Add_ok k p3 p1 _ h1443), (antiquaryref44_Add_ok k p3 p1 _ h1445), (exchange_Sum_ok k p3 p5 p6 _ h1447), (antiquaryref44_Sum_ok k p3 p5 p6 _ h1449), h1450, h1450, h1451, h1451, h1451, h1451, h1451, h1452.1, h1452.2, h1451, h1451, h1451, h1450, h1451, h1450, h1453, h1453, h1453, h1454, h1454, h1453, h1454, h1453, (rfl : false = false), (rfl : false = false), (rfl : false = false), (rfl : false = false), (rfl : false = false), h1461, h1461, h1461, h1461, (antiquaryref44_Same_ok k x1442.1 x1444.1 _ h1463), h1461, h1461, h1464, h1464, h1464, h1464, eq26, h1464, h1465, h1465, h1465, h1465, h1465, trivial⟩ (antiquarylaw44_ExchangeStocksAsSpecified_l3_ok k (x1446.2 != x1448.2.2.2.2.1) p3 p4 p5 p6 r h)
      · rcases br_inv h with ⟨h1466, h⟩ | ⟨h1466, h⟩
        · rcases br_inv h with ⟨h1467, h⟩ | ⟨h1467, h⟩
          · exact Abs.Good.path hm [.cond false, .reg [(2, { call := some { lend := [], pass := [], res := .t [.p Kd.str x1438.1, .p Kd.bool x1438.2], outs := [], back := [] } })], .reg [(2, { call := some { lend := [], pass := [], res := .v (.p (Kd.int .i64) x1440), outs := [], back := [] } })], .reg [(2, { call := some { lend := [], pass := [], res := .t [.agg [.p (Kd.sl KI) x1442.1], .p (Kd.int .i64) x1442.2], outs := [], back := [] } })], .reg [(2, { call := some { lend := [], pass := [], res := .v (.agg [.p (Kd.sl KI) x1444.1, .nilsl, .p (Kd.int .i64) x1444.2]), outs := [], back := [] } })], .reg [(2, { call := some { lend := [], pass := [], res := .t [.p (Kd.arr 16 (Kd.int .u8)) x1446.1, .p (Kd.int .i64) x1446.2], outs := [], back := [] } })], .reg [(2, { call := some { lend := [], pass := [], res := .v (.agg [.p (Kd.int .i64) x1448.1, .p (Kd.arr 16 (Kd.int .u8)) x1448.2.1, .p (Kd.int .i64) x1448.2.2.1, .p (Kd.arr 16 (Kd.int .u8)) x1448.2.2.2.1, .p (Kd.int .i64) x1448.2.2.2.2.1, .nilsl, .p Kd.str x1448.2.2.2.2.2]), outs := [], back := [] } })], .reg [(5, { dec := some false }), (6, { dec := some false }), (7, { dec := some false }), (8, { dec := some false }), (9, { dec := some false }), (10, { dec := some false }), (11, { dec := some false }), (12, { dec := some false }), (13, { dec := some false }), (14, { dec := some false }), (15, { dec := some false, pick := some false }), (16, { pick := some false }), (18, { dec := some false }), (19, { dec := some false }), (20, { dec := some false }), (21, { dec := some true }), (22, { dec := some true }), (23, { dec := some false, pick := some true }), (24, { pick := some false }), (26, { dec := some true }), (27, { dec := some true }), (28, { dec := some true }), (29, { dec := some true }), (30, { pick := some true }), (32, { dec := some true }), (33, { dec := some true }), (34, { dec := some true }), (35, { dec := some true }), (36, { dec := some true }), (37, { pick := some true }), (39, { dec := some true }), (40, { dec := some true }), (41, { dec := some true }), (42, { dec := some true }), (43, { pick := some true }), (45, { dec := some true }), (46, { dec := some true }), (47, { dec := some true }), (48, { dec := some true }), (49, { pick := some true })], .keep [sk 4, sk 6, sk 7, sk 132, ek 502001, ek 502002, ek 502003], .ren [(502001, 503001), (502002, 503002), (502003, 503003)]] (cs := [_, _, _, _, _, _, _, _, _, _, _, _, _, _, _, _, _, _, _, _, _, _, _, _, _, _, _, _, _, _, _, _, _, _, _, _, _, _, _, _, _, _, _, _, _, _, _, _, _]) (by kernel_rfl) ⟨h1435, (exchange_Find_ok k p3 p4 _ h1439), (antiquaryref44_Place_ok k p3 p4 _ h1441), (exchange_Add_ok k p3 p1 _ h1443), (antiquaryref44_Add_ok k p3 p1 _ h1445), (exchange_Sum_ok k p3 p5 p6 _ h1447), (antiquaryref44_Sum_ok k p3 p5 p6 _ h1449), h1450, h1450, h1451, h1451, h1451, h1451, h1451, h1451, h1451, h1451, h1450, h1451, h1450, (rfl : false = false), (rfl : false = false), (rfl : false = false), h1466, h1466, (rfl : false = false), h1466, (rfl : false = false), h1467, h1467, h1467, h1467, h1467, (rfl : true = true), (rfl : true = true), (rfl : true = true), (rfl : true = true), (rfl : true = true), (rfl : true = true), (rfl : true = true), (rfl : true = true), (rfl : true = true), (rfl : true = true), (rfl : true = true), (rfl : true = true), (rfl : true = true), (rfl : true = true), (rfl : true = true), (rfl : true = true), trivial⟩ (antiquarylaw44_ExchangeStocksAsSpecified_l3_ok k true p3 p4 p5 p6 r h)
          · rcases br_inv h with ⟨h1468, h⟩ | ⟨h1468, h⟩
            · exact Abs.Good.path hm [.cond false, .reg [(2, { call := some { lend := [], pass := [], res := .t [.p Kd.str x1438.1, .p Kd.bool x1438.2], outs := [], back := [] } })], .reg [(2, { call := some { lend := [], pass := [], res := .v (.p (Kd.int .i64) x1440), outs := [], back := [] } })], .reg [(2, { call := some { lend := [], pass := [], res := .t [.agg [.p (Kd.sl KI) x1442.1], .p (Kd.int .i64) x1442.2], outs := [], back := [] } })], .reg [(2, { call := some { lend := [], pass := [], res := .v (.agg [.p (Kd.sl KI) x1444.1, .nilsl, .p (Kd.int .i64) x1444.2]), outs := [], back := [] } })], .reg [(2, { call := some { lend := [], pass := [], res := .t [.p (Kd.arr 16 (Kd.int .u8)) x1446.1, .p (Kd.int .i64) x1446.2], outs := [], back := [] } })], .reg [(2, { call := some { lend := [], pass := [], res := .v (.agg [.p (Kd.int .i64) x1448.1, .p (Kd.arr 16 (Kd.int .u8)) x1448.2.1, .p (Kd.int .i64) x1448.2.2.1, .p (Kd.arr 16 (Kd.int .u8)) x1448.2.2.2.1, .p (Kd.int .i64) x1448.2.2.2.2.1, .nilsl, .p Kd.str x1448.2.2.2.2.2]), outs := [], back := [] } })], .reg [(5, { dec := some false }), (6, { dec := some false }), (7, { dec := some false }), (8, { dec := some false }), (9, { dec := some false }), (10, { dec := some false }), (11, { dec := some false }), (12, { dec := some false }), (13, { dec := some false }), (14, { dec := some false }), (15, { dec := some false, pick := some false }), (16, { pick := some false }), (18, { dec := some false }), (19, { dec := some false }), (20, { dec := some false }), (21, { dec := some true }), (22, { dec := some true }), (23, { dec := some false, pick := some true }), (24, { pick := some false }), (26, { dec := some false }), (27, { dec := some false }), (28, { dec := some false }), (29, { dec := some false }), (30, { pick := some false }), (32, { dec := some true }), (33, { dec := some true }), (34, { dec := some true }), (35, { dec := some true }), (36, { dec := some true }), (37, { pick := some true }), (39, { dec := some true }), (40, { dec := some true }), (41, { dec := some true }), (42, { dec := some true }), (43, { pick := some true }), (45, { dec := some true }), (46, { dec := some true }), (47, { dec := some true }), (48, { dec := some true }), (49, { pick := some true })], .keep [sk 4, sk 6, sk 7, sk 132, ek 502001, ek 502002, ek 502003], .ren [(502001, 503001), (502002, 503002), (502003, 503003)]] (cs := [_, _, _, _, _, _, _, _, _, _, _, _, _, _, _, _, _, _, _, _, _, _, _, _, _, _, _, _, _, _, _, _, _, _, _, _, _, _, _, _, _, _, _, _, _, _, _, _, _]) (by kernel_rfl) ⟨h1435, (exchange_Find_ok k p3 p4 _ h1439), (antiquaryref44_Place_ok k p3 p4 _ h1441), (exchange_Add_ok k p3 p1 _ h1443), (antiquaryref44_Add_ok k p3 p1 _ h1445), (exchange_Sum_ok k p3 p5 p6 _ h1447), (antiquaryref44_Sum_ok k p3 p5 p6 _ h1449), h1450, h1450, h1451, h1451, h1451, h1451, h1451, h1451, h1451, h1451, h1450, h1451, h1450, (rfl : false = false), (rfl : false = false), (rfl : false = false), h1466, h1466, (rfl : false = false), h1466, (rfl : false = false), h1467, h1467, h1467, h1467, h1467, h1468, h1468, h1468, h1468, h1468, h1468, (rfl : true = true), (rfl : true = true), (rfl : true = true), (rfl : true = true), (rfl : true = true), (rfl : true = true), (rfl : true = true), (rfl : true = true), (rfl : true = true), (rfl : true = true), trivial⟩ (antiquarylaw44_ExchangeStocksAsSpecified_l3_ok k true p3 p4 p5 p6 r h)
            · obtain ⟨x1469, h1470, h⟩ := bind_inv h
              rcases br_inv h with ⟨h1471, h⟩ | ⟨h1471, h⟩
              · exact Abs.Good.path hm [.cond false, .reg [(2, { call := some { lend := [], pass := [], res := .t [.p Kd.str x1438.1, .p Kd.bool x1438.2], outs := [], back := [] } })], .reg [(2, { call := some { lend := [], pass := [], res := .v (.p (Kd.int .i64) x1440), outs := [], back := [] } })], .reg [(2, { call := some { lend := [], pass := [], res := .t [.agg [.p (Kd.sl KI) x1442.1], .p (Kd.int .i64) x1442.2], outs := [], back := [] } })], .reg [(2, { call := some { lend := [], pass := [], res := .v (.agg [.p (Kd.sl KI) x1444.1, .nilsl, .p (Kd.int .i64) x1444.2]), outs := [], back := [] } })], .reg [(2, { call := some { lend := [], pass := [], res := .t [.p (Kd.arr 16 (Kd.int .u8)) x1446.1, .p (Kd.int .i64) x1446.2], outs := [], back := [] } })], .reg [(2, { call := some { lend := [], pass := [], res := .v (.agg [.p (Kd.int .i64) x1448.1, .p (Kd.arr 16 (Kd.int .u8)) x1448.2.1, .p (Kd.int .i64) x1448.2.2.1, .p (Kd.arr 16 (Kd.int .u8)) x1448.2.2.2.1, .p (Kd.int .i64) x1448.2.2.2.2.1, .nilsl, .p Kd.str x1448.2.2.2.2.2]), outs := [], back := [] } })], .reg [(5, { dec := some false }), (6, { dec := some false }), (7, { dec := some false }), (8, { dec := some false }), (9, { dec := some false }), (10, { dec := some false }), (11, { dec := some false }), (12, { dec := some false }), (13, { dec := some false }), (14, { dec := some false }), (15, { dec := some false, pick := some false }), (16, { pick := some false }), (18, { dec := some false }), (19, { dec := some false }), (20, { dec := some false }), (21, { dec := some true }), (22, { dec := some true }), (23, { dec := some false, pick := some true }), (24, { pick := some false }), (26, { dec := some false }), (27, { dec := some false }), (28, { dec := some false }), (29, { dec := some false }), (30, { pick := some false }), (32, { dec := some false }), (33, { dec := some false }), (34, { dec := some false }), (35, { dec := some false, call := some { lend := [], pass := [], res := .v (.p Kd.bool x1469), outs := [], back := [] } }), (36, { dec := some false }), (37, { pick := some false }), (39, { dec := some true }), (40, { dec := some true }), (41, { dec := some true }), (42, { dec := some true }), (43, { pick := some true }), (45, { dec := some true }), (46, { dec := some true }), (47, { dec := some true }), (48, { dec := some true }), (49, { pick := some true })], .keep [sk 4, sk 6, sk 7, sk 132, ek 502001, ek 502002, ek 502003], .ren [(502001, 503001), (502002, 503002), (502003, 503003)]] (cs := [_, _, _, _, _, _, _, _, _, _, _, _, _, _, _, _, _, _, _, _, _, _, _, _, _, _, _, _, _, _, _, _, _, _, _, _, _, _, _, _, _, _, _, _, _, _, _, _, _, _]) (by kernel_rfl) ⟨h1435, (exchange_Find_ok k p3 p4 _ h1439), (antiquaryref44_Place_ok k p3 p4 _ h1441), (exchange_Add_ok k p3 p1 _ h1443), (antiquaryref44_Add_ok k p3 p1 _ h1445), (exchange_Sum_ok k p3 p5 p6 _ h1447), (antiquaryref44_Sum_ok k p3 p5 p6 _ h1449), h1450, h1450, h1451, h1451, h1451, h1451, h1451, h1451, h1451, h1451, h1450, h1451, h1450, (rfl : false = false), (rfl : false = false), (rfl : false = false), h1466, h1466, (rfl : false = false), h1466, (rfl : false = false), h1467, h1467, h1467, h1467, h1467, h1468, h1468, h1468, h1468, (antiquaryref44_Same_ok k x1442.1 x1444.1 _ h1470), h1468, h1468, h1471, h1471, h1471, h1471, h1471, (rfl : true = true), (rfl : true = true), (rfl : true = true), (rfl : true = true), (rfl : true = true), trivial⟩ (antiquarylaw44_ExchangeStocksAsSpecified_l3_ok k true p3 p4 p5 p6 r h)
              · rcases br_inv h with ⟨h1472, h⟩ | ⟨h1472, h⟩
                · exact Abs.Good.path hm [.cond false, .reg [(2, { call := some { lend := [], pass := [], res := .t [.p Kd.str x1438.1, .p Kd.bool x1438.2], outs := [], back := [] } })], .reg [(2, { call := some { lend := [], pass := [], res := .v (.p (Kd.int .i64) x1440), outs := [], back := [] } })], .reg [(2, { call := some { lend := [], pass := [], res := .t [.agg [.p (Kd.sl KI) x1442.1], .p (Kd.int .i64) x1442.2], outs := [], back := [] } })], .reg [(2, { call := some { lend := [], pass := [], res := .v (.agg [.p (Kd.sl KI) x1444.1, .nilsl, .p (Kd.int .i64) x1444.2]), outs := [], back := [] } })], .reg [(2, { call := some { lend := [], pass := [], res := .t [.p (Kd.arr 16 (Kd.int .u8)) x1446.1, .p (Kd.int .i64) x1446.2], outs := [], back := [] } })], .reg [(2, { call := some { lend := [], pass := [], res := .v (.agg [.p (Kd.int .i64) x1448.1, .p (Kd.arr 16 (Kd.int .u8)) x1448.2.1, .p (Kd.int .i64) x1448.2.2.1, .p (Kd.arr 16 (Kd.int .u8)) x1448.2.2.2.1, .p (Kd.int .i64) x1448.2.2.2.2.1, .nilsl, .p Kd.str x1448.2.2.2.2.2]), outs := [], back := [] } })], .reg [(5, { dec := some false }), (6, { dec := some false }), (7, { dec := some false }), (8, { dec := some false }), (9, { dec := some false }), (10, { dec := some false }), (11, { dec := some false }), (12, { dec := some false }), (13, { dec := some false }), (14, { dec := some false }), (15, { dec := some false, pick := some false }), (16, { pick := some false }), (18, { dec := some false }), (19, { dec := some false }), (20, { dec := some false }), (21, { dec := some true }), (22, { dec := some true }), (23, { dec := some false, pick := some true }), (24, { pick := some false }), (26, { dec := some false }), (27, { dec := some false }), (28, { dec := some false }), (29, { dec := some false }), (30, { pick := some false }), (32, { dec := some false }), (33, { dec := some false }), (34, { dec := some false }), (35, { dec := some false, call := some { lend := [], pass := [], res := .v (.p Kd.bool x1469), outs := [], back := [] } }), (36, { dec := some false }), (37, { pick := some false }), (39, { dec := some false }), (40, { dec := some false }), (41, { dec := some false }), (42, { dec := some false }), (43, { pick := some false }), (45, { dec := some true }), (46, { dec := some true }), (47, { dec := some true }), (48, { dec := some true }), (49, { pick := some true })], .keep [sk 4, sk 6, sk 7, sk 132, ek 502001, ek 502002, ek 502003], .ren [(502001, 503001), (502002, 503002), (502003, 503003)]] (cs := [_, _, _, _, _, _, _, _, _, _, _, _, _, _, _, _, _, _, _, _, _, _, _, _, _, _, _, _, _, _, _, _, _, _, _, _, _, _, _, _, _, _, _, _, _, _, _, _, _, _, _]) (by kernel_rfl) ⟨h1435, (exchange_Find_ok k p3 p4 _ h1439), (antiquaryref44_Place_ok k p3 p4 _ h1441), (exchange_Add_ok k p3 p1 _ h1443), (antiquaryref44_Add_ok k p3 p1 _ h1445), (exchange_Sum_ok k p3 p5 p6 _ h1447), (antiquaryref44_Sum_ok k p3 p5 p6 _ h1449), h1450, h1450, h1451, h1451, h1451, h1451, h1451, h1451, h1451, h1451, h1450, h1451, h1450, (rfl : false = false), (rfl : false = false), (rfl : false = false), h1466, h1466, (rfl : false = false), h1466, (rfl : false = false), h1467, h1467, h1467, h1467, h1467, h1468, h1468, h1468, h1468, (antiquaryref44_Same_ok k x1442.1 x1444.1 _ h1470), h1468, h1468, h1471, h1471, h1471, h1471, eq26, h1471, h1472, h1472, h1472, h1472, h1472, trivial⟩ (antiquarylaw44_ExchangeStocksAsSpecified_l3_ok k true p3 p4 p5 p6 r h)
                · exact Abs.Good.path hm [.cond false, .reg [(2, { call := some { lend := [], pass := [], res := .t [.p Kd.str x1438.1, .p Kd.bool x1438.2], outs := [], back := [] } })], .reg [(2, { call := some { lend := [], pass := [], res := .v (.p (Kd.int .i64) x1440), outs := [], back := [] } })], .reg [(2, { call := some { lend := [], pass := [], res := .t [.agg [.p (Kd.sl KI) x1442.1], .p (Kd.int .i64) x1442.2], outs := [], back := [] } })], .reg [(2, { call := some { lend := [], pass := [], res := .v (.agg [.p (Kd.sl KI) x1444.1, .nilsl, .p (Kd.int .i64) x1444.2]), outs := [], back := [] } })], .reg [(2, { call := some { lend := [], pass := [], res := .t [.p (Kd.arr 16 (Kd.int .u8)) x1446.1, .p (Kd.int .i64) x1446.2], outs := [], back := [] } })], .reg [(2, { call := some { lend := [], pass := [], res := .v (.agg [.p (Kd.int .i64) x1448.1, .p (Kd.arr 16 (Kd.int .u8)) x1448.2.1, .p (Kd.int .i64) x1448.2.2.1, .p (Kd.arr 16 (Kd.int .u8)) x1448.2.2.2.1, .p (Kd.int .i64) x1448.2.2.2.2.1, .nilsl, .p Kd.str x1448.2.2.2.2.2]), outs := [], back := [] } })], .reg [(5, { dec := some false }), (6, { dec := some false }), (7, { dec := some false }), (8, { dec := some false }), (9, { dec := some false }), (10, { dec := some false }), (11, { dec := some false }), (12, { dec := some false }), (13, { dec := some false }), (14, { dec := some false }), (15, { dec := some false, pick := some false }), (16, { pick := some false }), (18, { dec := some false }), (19, { dec := some false }), (20, { dec := some false }), (21, { dec := some true }), (22, { dec := some true }), (23, { dec := some false, pick := some true }), (24, { pick := some false }), (26, { dec := some false }), (27, { dec := some false }), (28, { dec := some false }), (29, { dec := some false }), (30, { pick := some false }), (32, { dec := some false }), (33, { dec := some false }), (34, { dec := some false }), (35, { dec := some false, call := some { lend := [], pass := [], res := .v (.p Kd.bool x1469), outs := [], back := [] } }), (36, { dec := some false }), (37, { pick := some false }), (39, { dec := some false }), (40, { dec := some false }), (41, { dec := some false }), (42, { dec := some false }), (43, { pick := some false }), (45, { dec := some false }), (46, { dec := some false }), (47, { dec := some false }), (48, { dec := some false }), (49, { pick := some false })], .keep [sk 4, sk 6, sk 7, sk 132, ek 502001, ek 502002, ek 502003], .ren [(502001, 503001), (502002, 503002), (502003, 503003)]] (cs := [_, _, _, _, _, _, _, _, _, _, _, _, _, _, _, _, _, _, _, _, _, _, _, _, _, _, _, _, _, _, _, _, _, _, _, _, _, _, _, _, _, _, _, _, _, _, _, _, _, _, _]) (by kernel_rfl) ⟨h1435, (exchange_Find_ok k p3 p4 _ h1439), (antiquaryref44_Place_ok k p3 p4 _ h1441), (exchange_Add_ok k p3 p1 _ h1443), (antiquaryref44_Add_ok k p3 p1 _ h1445), (exchange_Sum_ok k p3 p5 p6 _ h1447), (antiquaryref44_Sum_ok k p3 p5 p6 _ h1449), h1450, h1450, h1451, h1451, h1451, h1451, h1451, h1451, h1451, h1451, h1450, h1451, h1450, (rfl : false = false), (rfl : false = false), (rfl : false = false), h1466, h1466, (rfl : false = false), h1466, (rfl : false = false), h1467, h1467, h1467, h1467, h1467, h1468, h1468, h1468, h1468, (antiquaryref44_Same_ok k x1442.1 x1444.1 _ h1470), h1468, h1468, h1471, h1471, h1471, h1471, eq26, h1471, h1472, h1472, h1472, h1472, h1472, trivial⟩ (antiquarylaw44_ExchangeStocksAsSpecified_l3_ok k (x1446.2 != x1448.2.2.2.2.1) p3 p4 p5 p6 r h)
        · rcases br_inv h with ⟨h1473, h⟩ | ⟨h1473, h⟩
          · exact Abs.Good.path hm [.cond false, .reg [(2, { call := some { lend := [], pass := [], res := .t [.p Kd.str x1438.1, .p Kd.bool x1438.2], outs := [], back := [] } })], .reg [(2, { call := some { lend := [], pass := [], res := .v (.p (Kd.int .i64) x1440), outs := [], back := [] } })], .reg [(2, { call := some { lend := [], pass := [], res := .t [.agg [.p (Kd.sl KI) x1442.1], .p (Kd.int .i64) x1442.2], outs := [], back := [] } })], .reg [(2, { call := some { lend := [], pass := [], res := .v (.agg [.p (Kd.sl KI) x1444.1, .nilsl, .p (Kd.int .i64) x1444.2]), outs := [], back := [] } })], .reg [(2, { call := some { lend := [], pass := [], res := .t [.p (Kd.arr 16 (Kd.int .u8)) x1446.1, .p (Kd.int .i64) x1446.2], outs := [], back := [] } })], .reg [(2, { call := some { lend := [], pass := [], res := .v (.agg [.p (Kd.int .i64) x1448.1, .p (Kd.arr 16 (Kd.int .u8)) x1448.2.1, .p (Kd.int .i64) x1448.2.2.1, .p (Kd.arr 16 (Kd.int .u8)) x1448.2.2.2.1, .p (Kd.int .i64) x1448.2.2.2.2.1, .nilsl, .p Kd.str x1448.2.2.2.2.2]), outs := [], back := [] } })], .reg [(5, { dec := some false }), (6, { dec := some false }), (7, { dec := some false }), (8, { dec := some false }), (9, { dec := some false }), (10, { dec := some false }), (11, { dec := some false }), (12, { dec := some false }), (13, { dec := some false }), (14, { dec := some false }), (15, { dec := some false, pick := some false }), (16, { pick := some false }), (18, { dec := some false }), (19, { dec := some false }), (20, { dec := some false }), (21, { dec := some false }), (22, { dec := some false }), (23, { dec := some false, pick := some false }), (24, { pick := some false }), (26, { dec := some false }), (27, { dec := some false }), (28, { dec := some false }), (29, { dec := some false }), (30, { pick := some false }), (32, { dec := some true }), (33, { dec := some true }), (34, { dec := some true }), (35, { dec := some true }), (36, { dec := some true }), (37, { pick := some true }), (39, { dec := some true }), (40, { dec := some true }), (41, { dec := some true }), (42, { dec := some true }), (43, { pick := some true }), (45, { dec := some true }), (46, { dec := some true }), (47, { dec := some true }), (48, { dec := some true }), (49, { pick := some true })], .keep [sk 4, sk 6, sk 7, sk 132, ek 502001, ek 502002, ek 502003], .ren [(502001, 503001), (502002, 503002), (502003, 503003)]] (cs := [_, _, _, _, _, _, _, _, _, _, _, _, _, _, _, _, _, _, _, _, _, _, _, _, _, _, _, _, _, _, _, _, _, _, _, _, _, _, _, _, _, _, _, _, _, _, _, _, _]) (by kernel_rfl) ⟨h1435, (exchange_Find_ok k p3 p4 _ h1439), (antiquaryref44_Place_ok k p3 p4 _ h1441), (exchange_Add_ok k p3 p1 _ h1443), (antiquaryref44_Add_ok k p3 p1 _ h1445), (exchange_Sum_ok k p3 p5 p6 _ h1447), (antiquaryref44_Sum_ok k p3 p5 p6 _ h1449), h1450, h1450, h1451, h1451, h1451, h1451, h1451, h1451, h1451, h1451, h1450, h1451, h1450, (rfl : false = false), (rfl : false = false), (rfl : false = false), h1466, h1466, (rfl : false = false), h1466, (rfl : false = false), (rfl : false = false), (rfl : false = false), (rfl : false = false), (rfl : false = false), (rfl : false = false), h1473, h1473, h1473, h1473, h1473, h1473, (rfl : true = true), (rfl : true = true), (rfl : true = true), (rfl : true = true), (rfl : true = true), (rfl : true = true), (rfl : true = true), (rfl : true = true), (rfl : true = true), (rfl : true = true), trivial⟩ (antiquarylaw44_ExchangeStocksAsSpecified_l3_ok k true p3 p4 p5 p6 r h)
          · obtain ⟨x1474, h1475, h⟩ := bind_inv h
            rcases br_inv h with ⟨h1476, h⟩ | ⟨h1476, h⟩
            · exact Abs.Good.path hm [.cond false, .reg [(2, { call := some { lend := [], pass := [], res := .t [.p Kd.str x1438.1, .p Kd.bool x1438.2], outs := [], back := [] } })], .reg [(2, { call := some { lend := [], pass := [], res := .v (.p (Kd.int .i64) x1440), outs := [], back := [] } })], .reg [(2, { call := some { lend := [], pass := [], res := .t [.agg [.p (Kd.sl KI) x1442.1], .p (Kd.int .i64) x1442.2], outs := [], back := [] } })], .reg [(2, { call := some { lend := [], pass := [], res := .v (.agg [.p (Kd.sl KI) x1444.1, .nilsl, .p (Kd.int .i64) x1444.2]), outs := [], back := [] } })], .reg [(2, { call := some { lend := [], pass := [], res := .t [.p (Kd.arr 16 (Kd.int .u8)) x1446.1, .p (Kd.int .i64) x1446.2], outs := [], back := [] } })], .reg [(2, { call := some { lend := [], pass := [], res := .v (.agg [.p (Kd.int .i64) x1448.1, .p (Kd.arr 16 (Kd.int .u8)) x1448.2.1, .p (Kd.int .i64) x1448.2.2.1, .p (Kd.arr 16 (Kd.int .u8)) x1448.2.2.2.1, .p (Kd.int .i64) x1448.2.2.2.2.1, .nilsl, .p Kd.str x1448.2.2.2.2.2]), outs := [], back := [] } })], .reg [(5, { dec := some false }), (6, { dec := some false }), (7, { dec := some false }), (8, { dec := some false }), (9, { dec := some false }), (10, { dec := some false }), (11, { dec := some false }), (12, { dec := some false }), (13, { dec := some false }), (14, { dec := some false }), (15, { dec := some false, pick := some false }), (16, { pick := some false }), (18, { dec := some false }), (19, { dec := some false }), (20, { dec := some false }), (21, { dec := some false }), (22, { dec := some false }), (23, { dec := some false, pick := some false }), (24, { pick := some false }), (26, { dec := some false }), (27, { dec := some false }), (28, { dec := some false }), (29, { dec := some false }), (30, { pick := some false }), (32, { dec := some false }), (33, { dec := some false }), (34, { dec := some false }), (35, { dec := some false, call := some { lend := [], pass := [], res := .v (.p Kd.bool x1474), outs := [], back := [] } }), (36, { dec := some false }), (37, { pick := some false }), (39, { dec := some true }), (40, { dec := some true }), (41, { dec := some true }), (42, { dec := some true }), (43, { pick := some true }), (45, { dec := some true }), (46, { dec := some true }), (47, { dec := some true }), (48, { dec := some true }), (49, { pick := some true })], .keep [sk 4, sk 6, sk 7, sk 132, ek 502001, ek 502002, ek 502003], .ren [(502001, 503001), (502002, 503002), (502003, 503003)]] (cs := [_, _, _, _, _, _, _, _, _, _, _, _, _, _, _, _, _, _, _, _, _, _, _, _, _, _, _, _, _, _, _, _, _, _, _, _, _, _, _, _, _, _, _, _, _, _, _, _, _, _]) (by kernel_rfl) ⟨h1435, (exchange_Find_ok k p3 p4 _ h1439), (antiquaryref44_Place_ok k p3 p4 _ h1441), (exchange_Add_ok k p3 p1 _ h1443), (antiquaryref44_Add_ok k p3 p1 _ h1445), (exchange_Sum_ok k p3 p5 p6 _ h1447), (antiquaryref44_Sum_ok k p3 p5 p6 _ h1449), h1450, h1450, h1451, h1451, h1451, h1451, h1451, h1451, h1451, h1451, h1450, h1451, h1450, (rfl : false = false), (rfl : false = false), (rfl : false = false), h1466, h1466, (rfl : false = false), h1466, (rfl : false = false), (rfl : false = false), (rfl : false = false), (rfl : false = false), (rfl : false = false), (rfl : false = false), h1473, h1473, h1473, h1473, (antiquaryref44_Same_ok k x1442.1 x1444.1 _ h1475), h1473, h1473, h1476, h1476, h1476, h1476, h1476, (rfl : true = true), (rfl : true = true), (rfl : true = true), (rfl : true = true), (rfl : true = true), trivial⟩ (antiquarylaw44_ExchangeStocksAsSpecified_l3_ok k true p3 p4 p5 p6 r h)
            · rcases br_inv h with ⟨h1477, h⟩ | ⟨h1477, h⟩
              · exact Abs.Good.path hm [.cond false, .reg [(2, { call := some { lend := [], pass := [], res := .t [.p Kd.str x1438.1, .p Kd.bool x1438.2], outs := [], back := [] } })], .reg [(2, { call := some { lend := [], pass := [], res := .v (.p (Kd.int .i64) x1440), outs := [], back := [] } })], .reg [(2, { call := some { lend := [], pass := [], res := .t [.agg [.p (Kd.sl KI) x1442.1], .p (Kd.int .i64) x1442.2], outs := [], back := [] } })], .reg [(2, { call := some { lend := [], pass := [], res := .v (.agg [.p (Kd.sl KI) x1444.1, .nilsl, .p (Kd.int .i64) x1444.2]), outs := [], back := [] } })], .reg [(2, { call := some { lend := [], pass := [], res := .t [.p (Kd.arr 16 (Kd.int .u8)) x1446.1, .p (Kd.int .i64) x1446.2], outs := [], back := [] } })], .reg [(2, { call := some { lend := [], pass := [], res := .v (.agg [.p (Kd.int .i64) x1448.1, .p (Kd.arr 16 (Kd.int .u8)) x1448.2.1, .p (Kd.int .i64) x1448.2.2.1, .p (Kd.arr 16 (Kd.int .u8)) x1448.2.2.2.1, .p (Kd.int .i64) x1448.2.2.2.2.1, .nilsl, .p Kd.str x1448.2.2.2.2.2]), outs := [], back := [] } })], .reg [(5, { dec := some false }), (6, { dec := some false }), (7, { dec := some false }), (8, { dec := some false }), (9, { dec := some false }), (10, { dec := some false }), (11, { dec := some false }), (12, { dec := some false }), (13, { dec := some false }), (14, { dec := some false }), (15, { dec := some false, pick := some false }), (16, { pick := some false }), (18, { dec := some false }), (19, { dec := some false }), (20, { dec := some false }), (21, { dec := some false }), (22, { dec := some false }), (23, { dec := some false, pick := some false }), (24, { pick := some false }), (26, { dec := some false }), (27, { dec := some false }), (28, { dec := some false }), (29, { dec := some false }), (30, { pick := some false }), (32, { dec := some false }), (33, { dec := some false }), (34, { dec := some false }), (35, { dec := some false, call := some { lend := [], pass := [], res := .v (.p Kd.bool x1474), outs := [], back := [] } }), (36, { dec := some false }), (37, { pick := some false }), (39, { dec := some false }), (40, { dec := some false }), (41, { dec := some false }), (42, { dec := some false }), (43, { pick := some false }), (45, { dec := some true }), (46, { dec := some true }), (47, { dec := some true }), (48, { dec := some true }), (49, { pick := some true })], .keep [sk 4, sk 6, sk 7, sk 132, ek 502001, ek 502002, ek 502003], .ren [(502001, 503001), (502002, 503002), (502003, 503003)]] (cs := [_, _, _, _, _, _, _, _, _, _, _, _, _, _, _, _, _, _, _, _, _, _, _, _, _, _, _, _, _, _, _, _, _, _, _, _, _, _, _, _, _, _, _, _, _, _, _, _, _, _, _]) (by kernel_rfl) ⟨h1435, (exchange_Find_ok k p3 p4 _ h1439), (antiquaryref44_Place_ok k p3 p4 _ h1441), (exchange_Add_ok k p3 p1 _ h1443), (antiquaryref44_Add_ok k p3 p1 _ h1445), (exchange_Sum_ok k p3 p5 p6 _ h1447), (antiquaryref44_Sum_ok k p3 p5 p6 _ h1449), h1450, h1450, h1451, h1451, h1451, h1451, h1451, h1451, h1451, h1451, h1450, h1451, h1450, (rfl : false = false), (rfl : false = false), (rfl : false = false), h1466, h1466, (rfl : false = false), h1466, (rfl : false = false), (rfl : false = false), (rfl : false = false), (rfl : false = false), (rfl : false = false), (rfl : false = false), h1473, h1473, h1473, h1473, (antiquaryref44_Same_ok k x1442.1 x1444.1 _ h1475), h1473, h1473, h1476, h1476, h1476, h1476, eq26, h1476, h1477, h1477, h1477, h1477, h1477, trivial⟩ (antiquarylaw44_ExchangeStocksAsSpecified_l3_ok k true p3 p4 p5 p6 r h)
              · exact Abs.Good.path hm [.cond false, .reg [(2, { call := some { lend := [], pass := [], res := .t [.p Kd.str x1438.1, .p Kd.bool x1438.2], outs := [], back := [] } })], .reg [(2, { call := some { lend := [], pass := [], res := .v (.p (Kd.int .i64) x1440), outs := [], back := [] } })], .reg [(2, { call := some { lend := [], pass := [], res := .t [.agg [.p (Kd.sl KI) x1442.1], .p (Kd.int .i64) x1442.2], outs := [], back := [] } })], .reg [(2, { call := some { lend := [], pass := [], res := .v (.agg [.p (Kd.sl KI) x1444.1, .nilsl, .p (Kd.int .i64) x1444.2]), outs := [], back := [] } })], .reg [(2, { call := some { lend := [], pass := [], res := .t [.p (Kd.arr 16 (Kd.int .u8)) x1446.1, .p (Kd.int .i64) x1446.2], outs := [], back := [] } })], .reg [(2, { call := some { lend := [], pass := [], res := .v (.agg [.p (Kd.int .i64) x1448.1, .p (Kd.arr 16 (Kd.int .u8)) x1448.2.1, .p (Kd.int .i64) x1448.2.2.1, .p (Kd.arr 16 (Kd.int .u8)) x1448.2.2.2.1, .p (Kd.int .i64) x1448.2.2.2.2.1, .nilsl, .p Kd.str x1448.2.2.2.2.2]), outs := [], back := [] } })], .reg [(5, { dec := some false }), (6, { dec := some false }), (7, { dec := some false }), (8, { dec := some false }), (9, { dec := some false }), (10, { dec := some false }), (11, { dec := some false }), (12, { dec := some false }), (13, { dec := some false }), (14, { dec := some false }), (15, { dec := some false, pick := some false }), (16, { pick := some false }), (18, { dec := some false }), (19, { dec := some false }), (20, { dec := some false }), (21, { dec := some false }), (22, { dec := some false }), (23, { dec := some false, pick := some false }), (24, { pick := some false }), (26, { dec := some false }), (27, { dec := some false }), (28, { dec := some false }), (29, { dec := some false }), (30, { pick := some false }), (32, { dec := some false }), (33, { dec := some false }), (34, { dec := some false }), (35, { dec := some false, call := some { lend := [], pass := [], res := .v (.p Kd.bool x1474), outs := [], back := [] } }), (36, { dec := some false }), (37, { pick := some false }), (39, { dec := some false }), (40, { dec := some false }), (41, { dec := some false }), (42, { dec := some false }), (43, { pick := some false }), (45, { dec := some false }), (46, { dec := some false }), (47, { dec := some false }), (48, { dec := some false }), (49, { pick := some false })], .keep [sk 4, sk 6, sk 7, sk 132, ek 502001, ek 502002, ek 502003], .ren [(502001, 503001), (502002, 503002), (502003, 503003)]] (cs := [_, _, _, _, _, _, _, _, _, _, _, _, _, _, _, _, _, _, _, _, _, _, _, _, _, _, _, _, _, _, _, _, _, _, _, _, _, _, _, _, _, _, _, _, _, _, _, _, _, _, _]) (by kernel_rfl) ⟨h1435, (exchange_Find_ok k p3 p4 _ h1439), (antiquaryref44_Place_ok k p3 p4 _ h1441), (exchange_Add_ok k p3 p1 _ h1443), (antiquaryref44_Add_ok k p3 p1 _ h1445), (exchange_Sum_ok k p3 p5 p6 _ h1447), (antiquaryref44_Sum_ok k p3 p5 p6 _ h1449), h1450, h1450, h1451, h1451, h1451, h1451, h1451, h1451, h1451, h1451, h1450, h1451, h1450, (rfl : false = false), (rfl : false = false), (rfl : false = false), h1466, h1466, (rfl : false = false), h1466, (rfl : false = false), (rfl : false = false), (rfl : false = false), (rfl : false = false), (rfl : false = false), (rfl : false = false), h1473, h1473, h1473, h1473, (antiquaryref44_Same_ok k x1442.1 x1444.1 _ h1475), h1473, h1473, h1476, h1476, h1476, h1476, eq26, h1476, h1477, h1477, h1477, h1477, h1477, trivial⟩ (antiquarylaw44_ExchangeStocksAsSpecified_l3_ok k (x1446.2 != x1448.2.2.2.2.1) p3 p4 p5 p6 r h)
end Go.Proofs.G44
