/- The walks: each function of the program that the law reaches computes the Lean function that is printed beside it. No condition but that the Lean function has a result. -/
import Derived.Test.YtbcbhhpbgnmpaaaDoorG3
set_option linter.unusedVariables false
namespace Go.Proofs.G44
open Go.Abs
set_option maxRecDepth 10000
open Go.Proofs.K1
theorem exchange_Hear_n_ok (k : Nat) (a1 : List It) (a2 : Int) (a3 : List Int) (a4 : Int) (a5 : List Int) (a6 : Int) (a8 : ByteArray) (r : List It × List Pt × Int) (h : exchange_Hear k a1 a2 a3 a4 a5 a6 [] a8 = some r) :
    SpecOk P ⟨33, [.agg [.p (Kd.sl KI) a1], .agg [.p (Kd.int .i64) a2, .p (Kd.arr 16 (Kd.int .u8)) a3, .p (Kd.int .i64) a4, .p (Kd.arr 16 (Kd.int .u8)) a5, .p (Kd.int .i64) a6, .nilsl, .p Kd.str a8]], [], .t [.agg [.p (Kd.sl KI) r.1], .p (Kd.sl KP) r.2.1, .p (Kd.int .i64) r.2.2], []⟩ :=
  hear_nil (exchange_Hear_ok k a1 a2 a3 a4 a5 a6 [] a8 r h)

def antiquaryref44_Same_l0 : Nat → Int → List It → List It → Option (Bool)
  | 0, _, _, _ => none
  | k + 1, p1, p2, p3 =>
    if (decide (p1 < (List.length p2 : Int))) = true then
      if 0 ≤ p1 ∧ p1 < (List.length p2 : Int) then
        if p1 < (List.length p3 : Int) then
          if (!(Kd.eqb KI ((List.getD p2 (Int.toNat p1) (Kd.dflt KI)).1, (((List.getD p2 (Int.toNat p1) (Kd.dflt KI)).2).1, ())) ((List.getD p3 (Int.toNat p1) (Kd.dflt KI)).1, (((List.getD p3 (Int.toNat p1) (Kd.dflt KI)).2).1, ())))) = true then
            some (false)
          else
            antiquaryref44_Same_l0 k (IntKind.i64.wrap (p1 + (1 : Int))) p2 p3
        else none
      else none
    else
      some (true)
def antiquaryref44_Same (k : Nat) (a1 : List It) (a2 : List It) : Option (Bool) :=
  if ((List.length a1 : Int) != (List.length a2 : Int)) = true then
    some (false)
  else
    antiquaryref44_Same_l0 k (0 : Int) a1 a2
theorem antiquaryref44_Same_l0_ok (k : Nat) : ∀ (p1 : Int) (p2 : List It) (p3 : List It) (r : Bool), antiquaryref44_Same_l0 k p1 p2 p3 = some r →
    Abs.Good P 22 Tryd.f22.ntmps [] [] (.v (.p Kd.bool r)) (pos Tryd.f22 [.r, .r, .c false, .r]) [(sk 2, some (.v (.ptr 500001 0))), (sk 3, some (.v (.ptr 500002 0))), (sk 5, some (.v (.p (Kd.int .i64) p1))), (ek 500001, some (.box [.p (Kd.sl KI) p2])), (ek 500002, some (.box [.p (Kd.sl KI) p3]))] := by
  induction k with
  | zero => intro p1 p2 p3 r h; cases h
  | succ k ih =>
    intro p1 p2 p3 r h
    unfold antiquaryref44_Same_l0 at h
    rcases br_inv h with ⟨h851, h⟩ | ⟨h851, h⟩
    · obtain ⟨h852, h⟩ := gd_inv h
      obtain ⟨h853, h⟩ := gd_inv h
      rcases br_inv h with ⟨h854, h⟩ | ⟨h854, h⟩
      · replace h := Option.some.inj h; subst h
        exact Abs.Good.path_ret hm [.reg [], .cond true, .reg [], .cond true, .reg []] [] Tryd.func22 (cs := [_, _, _, _, _, _, _]) (by kernel_rfl) ⟨h851, h852.1, h852.2, h852.1, h853, eq50, h854, trivial⟩ (by kernel_rfl)
      · exact Abs.Good.path hm [.reg [], .cond true, .reg [], .cond false, .reg [], .keep [sk 2, sk 3, sk 5, ek 500001, ek 500002]] (cs := [_, _, _, _, _, _, _]) (by kernel_rfl) ⟨h851, h852.1, h852.2, h852.1, h853, eq50, h854, trivial⟩ (ih (IntKind.i64.wrap (p1 + (1 : Int))) p2 p3 r h)
    · replace h := Option.some.inj h; subst h
      exact Abs.Good.path_ret hm [.reg [], .cond false, .reg []] [] Tryd.func22 (cs := [_]) (by kernel_rfl) ⟨h851, trivial⟩ (by kernel_rfl)
theorem antiquaryref44_Same_ok (k : Nat) (a1 : List It) (a2 : List It) (r : Bool) (h : antiquaryref44_Same k a1 a2 = some r) : SpecOk P ⟨22, [.agg [.p (Kd.sl KI) a1], .agg [.p (Kd.sl KI) a2]], [], .v (.p Kd.bool r), []⟩ := by
  refine spec_at Tryd.func22 (by kernel_rfl) (Nat.le_of_ble_eq_true (by kernel_rfl)) ?_
  unfold antiquaryref44_Same at h
  rcases br_inv h with ⟨h850, h⟩ | ⟨h850, h⟩
  · replace h := Option.some.inj h; subst h
    exact Abs.Good.path_ret hm [.reg [], .reg [], .cond true, .reg []] [] Tryd.func22 (cs := [_]) (by kernel_rfl) ⟨h850, trivial⟩ (by kernel_rfl)
  · exact Abs.Good.path hm [.reg [], .reg [], .cond false, .reg [], .keep [sk 2, sk 3, sk 5, ek 2, ek 3], .ren [(2, 500001), (3, 500002)]] (cs := [_]) (by kernel_rfl) ⟨h850, trivial⟩ (antiquaryref44_Same_l0_ok k (0 : Int) a1 a2 r h)

def antiquarylaw44_sanity_l3 (k : Nat) (p1 : List Pt) (p2 : Bool) (p3 : List It) (p4 : List It) : Option (Bool) :=
  if p2 = true then
    some (false)
  else
    if (0 : Int) < (List.length p1 : Int) then
      Option.bind (exchange_Hear k p3 ((List.getD p1 (0) (Kd.dflt KP)).1) ((((List.getD p1 (0) (Kd.dflt KP)).2).1).1) (((((List.getD p1 (0) (Kd.dflt KP)).2).1).2).1) ((((List.getD p1 (0) (Kd.dflt KP)).2).2).1) (((((List.getD p1 (0) (Kd.dflt KP)).2).2).2).1) ((((((List.getD p1 (0) (Kd.dflt KP)).2).2).2).2).1) (((((((List.getD p1 (0) (Kd.dflt KP)).2).2).2).2).2).1)) fun x838 =>
      Option.bind (exchange_Open k x838.1) fun x840 =>
      Option.bind (exchange_Hear k p4 x840.1 x840.2.1 x840.2.2.1 x840.2.2.2.1 x840.2.2.2.2.1 ([] : List (List Int)) x840.2.2.2.2.2) fun x842 =>
      if (x838.2.2 == (0 : Int)) = true then
        if (x842.2.2 == (0 : Int)) = true then
          if ((List.length x842.2.1 : Int) == (0 : Int)) = true then
            if ((List.length x838.1 : Int) == (3 : Int)) = true then
              Option.bind (antiquaryref44_Same k x838.1 p4) fun x855 =>
              some (x855)
            else
              some (false)
          else
            some (false)
        else
          some (false)
      else
        some (false)
    else none
def antiquarylaw44_sanity_l2 (k : Nat) (p1 : List Pt) (p2 : Bool) (p3 : List It) (p4 : List It) : Option (Bool) :=
  if p2 = true then
    some (false)
  else
    if (0 : Int) < (List.length p1 : Int) then
      Option.bind (exchange_Hear k p4 ((List.getD p1 (0) (Kd.dflt KP)).1) ((((List.getD p1 (0) (Kd.dflt KP)).2).1).1) (((((List.getD p1 (0) (Kd.dflt KP)).2).1).2).1) ((((List.getD p1 (0) (Kd.dflt KP)).2).2).1) (((((List.getD p1 (0) (Kd.dflt KP)).2).2).2).1) ((((((List.getD p1 (0) (Kd.dflt KP)).2).2).2).2).1) (((((((List.getD p1 (0) (Kd.dflt KP)).2).2).2).2).2).1)) fun x827 =>
      if (1 : Int) < (List.length p1 : Int) then
        Option.bind (exchange_Hear k x827.1 ((List.getD p1 (1) (Kd.dflt KP)).1) ((((List.getD p1 (1) (Kd.dflt KP)).2).1).1) (((((List.getD p1 (1) (Kd.dflt KP)).2).1).2).1) ((((List.getD p1 (1) (Kd.dflt KP)).2).2).1) (((((List.getD p1 (1) (Kd.dflt KP)).2).2).2).1) ((((((List.getD p1 (1) (Kd.dflt KP)).2).2).2).2).1) (((((((List.getD p1 (1) (Kd.dflt KP)).2).2).2).2).2).1)) fun x830 =>
        if (x827.2.2 != (0 : Int)) = true then
          antiquarylaw44_sanity_l3 k x827.2.1 true p3 x830.1
        else
          if (x830.2.2 != (0 : Int)) = true then
            antiquarylaw44_sanity_l3 k x827.2.1 true p3 x830.1
          else
            if ((List.length x827.2.1 : Int) != (1 : Int)) = true then
              antiquarylaw44_sanity_l3 k x827.2.1 true p3 x830.1
            else
              if (0 : Int) < (List.length x827.2.1 : Int) then
                antiquarylaw44_sanity_l3 k x827.2.1 (!(ByteArray.toList (((((((List.getD x827.2.1 (0) (Kd.dflt KP)).2).2).2).2).2).1) == ByteArray.toList (⟨#[122]⟩ : ByteArray))) p3 x830.1
              else none
      else none
    else none
def antiquarylaw44_sanity_l1 (k : Nat) (p1 : List Pt) (p2 : Bool) (p3 : List It) (p4 : List It) : Option (Bool) :=
  if p2 = true then
    some (false)
  else
    if (0 : Int) < (List.length p1 : Int) then
      Option.bind (exchange_Hear k p3 ((List.getD p1 (0) (Kd.dflt KP)).1) ((((List.getD p1 (0) (Kd.dflt KP)).2).1).1) (((((List.getD p1 (0) (Kd.dflt KP)).2).1).2).1) ((((List.getD p1 (0) (Kd.dflt KP)).2).2).1) (((((List.getD p1 (0) (Kd.dflt KP)).2).2).2).1) ((((((List.getD p1 (0) (Kd.dflt KP)).2).2).2).2).1) (((((((List.getD p1 (0) (Kd.dflt KP)).2).2).2).2).2).1)) fun x817 =>
      if (x817.2.2 != (0 : Int)) = true then
        antiquarylaw44_sanity_l2 k x817.2.1 true x817.1 p4
      else
        if ((List.length x817.2.1 : Int) != (2 : Int)) = true then
          antiquarylaw44_sanity_l2 k x817.2.1 true x817.1 p4
        else
          if (0 : Int) < (List.length x817.2.1 : Int) then
            if ((List.getD x817.2.1 (0) (Kd.dflt KP)).1 != (3 : Int)) = true then
              antiquarylaw44_sanity_l2 k x817.2.1 true x817.1 p4
            else
              if ((List.length ((((((List.getD x817.2.1 (0) (Kd.dflt KP)).2).2).2).2).1) : Int) != (1 : Int)) = true then
                antiquarylaw44_sanity_l2 k x817.2.1 true x817.1 p4
              else
                if (1 : Int) < (List.length x817.2.1 : Int) then
                  antiquarylaw44_sanity_l2 k x817.2.1 (!(ByteArray.toList (((((((List.getD x817.2.1 (1) (Kd.dflt KP)).2).2).2).2).2).1) == ByteArray.toList (⟨#[120]⟩ : ByteArray))) x817.1 p4
                else none
          else none
    else none
def antiquarylaw44_sanity_l0 (k : Nat) (p1 : Bool) (p2 : List It) (p3 : List It) : Option (Bool) :=
  if p1 = true then
    some (false)
  else
    Option.bind (exchange_Open k p2) fun x807 =>
    Option.bind (exchange_Hear k p3 x807.1 x807.2.1 x807.2.2.1 x807.2.2.2.1 x807.2.2.2.2.1 ([] : List (List Int)) x807.2.2.2.2.2) fun x809 =>
    if (x809.2.2 != (0 : Int)) = true then
      antiquarylaw44_sanity_l1 k x809.2.1 true p2 x809.1
    else
      if ((List.length x809.2.1 : Int) != (1 : Int)) = true then
        antiquarylaw44_sanity_l1 k x809.2.1 true p2 x809.1
      else
        if (0 : Int) < (List.length x809.2.1 : Int) then
          if ((List.getD x809.2.1 (0) (Kd.dflt KP)).1 != (2 : Int)) = true then
            antiquarylaw44_sanity_l1 k x809.2.1 true p2 x809.1
          else
            antiquarylaw44_sanity_l1 k x809.2.1 ((List.length ((((((List.getD x809.2.1 (0) (Kd.dflt KP)).2).2).2).2).1) : Int) != (2 : Int)) p2 x809.1
        else none
def antiquarylaw44_sanity (k : Nat) : Option (Bool) :=
  Option.bind (antiquarylaw44_of k ([(⟨#[120]⟩ : ByteArray), (⟨#[121]⟩ : ByteArray)] : List ByteArray)) fun x797 =>
  Option.bind (antiquarylaw44_of k ([(⟨#[121]⟩ : ByteArray), (⟨#[122]⟩ : ByteArray)] : List ByteArray)) fun x799 =>
  if (!x797.2) = true then
    antiquarylaw44_sanity_l0 k true x797.1 x799.1
  else
    if (!x799.2) = true then
      antiquarylaw44_sanity_l0 k true x797.1 x799.1
    else
      if ((List.length x797.1 : Int) != (2 : Int)) = true then
        antiquarylaw44_sanity_l0 k true x797.1 x799.1
      else
        Option.bind (exchange_Valid k x797.1) fun x804 =>
        antiquarylaw44_sanity_l0 k (!x804) x797.1 x799.1
theorem antiquarylaw44_sanity_l3_ok (k : Nat) (p1 : List Pt) (p2 : Bool) (p3 : List It) (p4 : List It) (r : Bool) (h : antiquarylaw44_sanity_l3 k p1 p2 p3 p4 = some r) :
    Abs.Good P 10 Tryd.f10.ntmps [] [] (.v (.p Kd.bool r)) (pos Tryd.f10 [.r, .r, .r, .r, .c false, .r, .r, .c false, .r, .r, .c false, .r, .r, .r]) [(sk 1, some (.v (.ptr 503001 0))), (sk 3, some (.v (.ptr 503002 0))), (sk 9, some (.v (.p (Kd.sl KP) p1))), (sk 148, some (.v (.p Kd.bool p2))), (ek 503001, some (.box [.p (Kd.sl KI) p3])), (ek 503002, some (.box [.p (Kd.sl KI) p4]))] := by
  unfold antiquarylaw44_sanity_l3 at h
  rcases br_inv h with ⟨h836, h⟩ | ⟨h836, h⟩
  · replace h := Option.some.inj h; subst h
    exact Abs.Good.path_ret hm [.cond true, .reg []] [] Tryd.func10 (cs := [_]) (by kernel_rfl) ⟨h836, trivial⟩ (by kernel_rfl)
  · obtain ⟨h837, h⟩ := gd_inv h
    obtain ⟨x838, h839, h⟩ := bind_inv h
    obtain ⟨x840, h841, h⟩ := bind_inv h
    obtain ⟨x842, h843, h⟩ := bind_inv h
    rcases br_inv h with ⟨h844, h⟩ | ⟨h844, h⟩
    · rcases br_inv h with ⟨h845, h⟩ | ⟨h845, h⟩
      · rcases br_inv h with ⟨h846, h⟩ | ⟨h846, h⟩
        · rcases br_inv h with ⟨h847, h⟩ | ⟨h847, h⟩
          · obtain ⟨x855, h856, h⟩ := bind_inv h
            replace h := Option.some.inj h; subst h
            exact Abs.Good.path_ret hm [.cond false, .reg [(4, { call := some { lend := [], pass := [], res := .t [.agg [.p (Kd.sl KI) x838.1], .p (Kd.sl KP) x838.2.1, .p (Kd.int .i64) x838.2.2], outs := [], back := [] } })], .reg [(2, { call := some { lend := [], pass := [], res := .v (.agg [.p (Kd.int .i64) x840.1, .p (Kd.arr 16 (Kd.int .u8)) x840.2.1, .p (Kd.int .i64) x840.2.2.1, .p (Kd.arr 16 (Kd.int .u8)) x840.2.2.2.1, .p (Kd.int .i64) x840.2.2.2.2.1, .nilsl, .p Kd.str x840.2.2.2.2.2]), outs := [], back := [] } }), (3, { call := some { lend := [], pass := [], res := .t [.agg [.p (Kd.sl KI) x842.1], .p (Kd.sl KP) x842.2.1, .p (Kd.int .i64) x842.2.2], outs := [], back := [] } })], .reg [(3, { dec := some true }), (4, { dec := some true }), (5, { pick := some true }), (7, { dec := some true }), (8, { dec := some true }), (9, { dec := some true }), (10, { pick := some true }), (12, { dec := some true }), (13, { dec := some true }), (14, { dec := some true }), (15, { dec := some true }), (16, { pick := some true }), (18, { dec := some true }), (19, { dec := some true }), (20, { dec := some true, call := some { lend := [], pass := [], res := .v (.p Kd.bool x855), outs := [], back := [] } }), (21, { pick := some true })]] [] Tryd.func10 (cs := [_, _, _, _, _, _, _, _, _, _, _, _, _, _, _, _, _, _, _, _, _, _, _]) (by kernel_rfl) ⟨h836, (by decide : 0 ≤ (0 : Int)), h837, (exchange_Hear_ok k p3 ((List.getD p1 (0) (Kd.dflt KP)).1) ((((List.getD p1 (0) (Kd.dflt KP)).2).1).1) (((((List.getD p1 (0) (Kd.dflt KP)).2).1).2).1) ((((List.getD p1 (0) (Kd.dflt KP)).2).2).1) (((((List.getD p1 (0) (Kd.dflt KP)).2).2).2).1) ((((((List.getD p1 (0) (Kd.dflt KP)).2).2).2).2).1) (((((((List.getD p1 (0) (Kd.dflt KP)).2).2).2).2).2).1) _ h839), (exchange_Open_ok k x838.1 _ h841), (exchange_Hear_n_ok k p4 x840.1 x840.2.1 x840.2.2.1 x840.2.2.2.1 x840.2.2.2.2.1 x840.2.2.2.2.2 _ h843), h844, h844, h844, h845, h845, h845, h845, h846, h846, h846, h846, h846, h847, h847, h847, (antiquaryref44_Same_ok k x838.1 p4 _ h856), h847, trivial⟩ (by kernel_rfl)
          · replace h := Option.some.inj h; subst h
            exact Abs.Good.path_ret hm [.cond false, .reg [(4, { call := some { lend := [], pass := [], res := .t [.agg [.p (Kd.sl KI) x838.1], .p (Kd.sl KP) x838.2.1, .p (Kd.int .i64) x838.2.2], outs := [], back := [] } })], .reg [(2, { call := some { lend := [], pass := [], res := .v (.agg [.p (Kd.int .i64) x840.1, .p (Kd.arr 16 (Kd.int .u8)) x840.2.1, .p (Kd.int .i64) x840.2.2.1, .p (Kd.arr 16 (Kd.int .u8)) x840.2.2.2.1, .p (Kd.int .i64) x840.2.2.2.2.1, .nilsl, .p Kd.str x840.2.2.2.2.2]), outs := [], back := [] } }), (3, { call := some { lend := [], pass := [], res := .t [.agg [.p (Kd.sl KI) x842.1], .p (Kd.sl KP) x842.2.1, .p (Kd.int .i64) x842.2.2], outs := [], back := [] } })], .reg [(3, { dec := some true }), (4, { dec := some true }), (5, { pick := some true }), (7, { dec := some true }), (8, { dec := some true }), (9, { dec := some true }), (10, { pick := some true }), (12, { dec := some true }), (13, { dec := some true }), (14, { dec := some true }), (15, { dec := some true }), (16, { pick := some true }), (18, { dec := some false }), (19, { dec := some false }), (20, { dec := some false }), (21, { pick := some false })]] [] Tryd.func10 (cs := [_, _, _, _, _, _, _, _, _, _, _, _, _, _, _, _, _, _, _, _, _, _]) (by kernel_rfl) ⟨h836, (by decide : 0 ≤ (0 : Int)), h837, (exchange_Hear_ok k p3 ((List.getD p1 (0) (Kd.dflt KP)).1) ((((List.getD p1 (0) (Kd.dflt KP)).2).1).1) (((((List.getD p1 (0) (Kd.dflt KP)).2).1).2).1) ((((List.getD p1 (0) (Kd.dflt KP)).2).2).1) (((((List.getD p1 (0) (Kd.dflt KP)).2).2).2).1) ((((((List.getD p1 (0) (Kd.dflt KP)).2).2).2).2).1) (((((((List.getD p1 (0) (Kd.dflt KP)).2).2).2).2).2).1) _ h839), (exchange_Open_ok k x838.1 _ h841), (exchange_Hear_n_ok k p4 x840.1 x840.2.1 x840.2.2.1 x840.2.2.2.1 x840.2.2.2.2.1 x840.2.2.2.2.2 _ h843), h844, h844, h844, h845, h845, h845, h845, h846, h846, h846, h846, h846, h847, h847, h847, h847, trivial⟩ (by kernel_rfl)
        · replace h := Option.some.inj h; subst h
          exact Abs.Good.path_ret hm [.cond false, .reg [(4, { call := some { lend := [], pass := [], res := .t [.agg [.p (Kd.sl KI) x838.1], .p (Kd.sl KP) x838.2.1, .p (Kd.int .i64) x838.2.2], outs := [], back := [] } })], .reg [(2, { call := some { lend := [], pass := [], res := .v (.agg [.p (Kd.int .i64) x840.1, .p (Kd.arr 16 (Kd.int .u8)) x840.2.1, .p (Kd.int .i64) x840.2.2.1, .p (Kd.arr 16 (Kd.int .u8)) x840.2.2.2.1, .p (Kd.int .i64) x840.2.2.2.2.1, .nilsl, .p Kd.str x840.2.2.2.2.2]), outs := [], back := [] } }), (3, { call := some { lend := [], pass := [], res := .t [.agg [.p (Kd.sl KI) x842.1], .p (Kd.sl KP) x842.2.1, .p (Kd.int .i64) x842.2.2], outs := [], back := [] } })], .reg [(3, { dec := some true }), (4, { dec := some true }), (5, { pick := some true }), (7, { dec := some true }), (8, { dec := some true }), (9, { dec := some true }), (10, { pick := some true }), (12, { dec := some false }), (13, { dec := some false }), (14, { dec := some false }), (15, { dec := some false }), (16, { pick := some false }), (18, { dec := some false }), (19, { dec := some false }), (20, { dec := some false }), (21, { pick := some false })]] [] Tryd.func10 (cs := [_, _, _, _, _, _, _, _, _, _, _, _, _, _, _, _, _, _, _, _, _, _]) (by kernel_rfl) ⟨h836, (by decide : 0 ≤ (0 : Int)), h837, (exchange_Hear_ok k p3 ((List.getD p1 (0) (Kd.dflt KP)).1) ((((List.getD p1 (0) (Kd.dflt KP)).2).1).1) (((((List.getD p1 (0) (Kd.dflt KP)).2).1).2).1) ((((List.getD p1 (0) (Kd.dflt KP)).2).2).1) (((((List.getD p1 (0) (Kd.dflt KP)).2).2).2).1) ((((((List.getD p1 (0) (Kd.dflt KP)).2).2).2).2).1) (((((((List.getD p1 (0) (Kd.dflt KP)).2).2).2).2).2).1) _ h839), (exchange_Open_ok k x838.1 _ h841), (exchange_Hear_n_ok k p4 x840.1 x840.2.1 x840.2.2.1 x840.2.2.2.1 x840.2.2.2.2.1 x840.2.2.2.2.2 _ h843), h844, h844, h844, h845, h845, h845, h845, h846, h846, h846, h846, h846, (rfl : false = false), (rfl : false = false), (rfl : false = false), (rfl : false = false), trivial⟩ (by kernel_rfl)
      · replace h := Option.some.inj h; subst h
        exact Abs.Good.path_ret hm [.cond false, .reg [(4, { call := some { lend := [], pass := [], res := .t [.agg [.p (Kd.sl KI) x838.1], .p (Kd.sl KP) x838.2.1, .p (Kd.int .i64) x838.2.2], outs := [], back := [] } })], .reg [(2, { call := some { lend := [], pass := [], res := .v (.agg [.p (Kd.int .i64) x840.1, .p (Kd.arr 16 (Kd.int .u8)) x840.2.1, .p (Kd.int .i64) x840.2.2.1, .p (Kd.arr 16 (Kd.int .u8)) x840.2.2.2.1, .p (Kd.int .i64) x840.2.2.2.2.1, .nilsl, .p Kd.str x840.2.2.2.2.2]), outs := [], back := [] } }), (3, { call := some { lend := [], pass := [], res := .t [.agg [.p (Kd.sl KI) x842.1], .p (Kd.sl KP) x842.2.1, .p (Kd.int .i64) x842.2.2], outs := [], back := [] } })], .reg [(3, { dec := some true }), (4, { dec := some true }), (5, { pick := some true }), (7, { dec := some false }), (8, { dec := some false }), (9, { dec := some false }), (10, { pick := some false }), (12, { dec := some false }), (13, { dec := some false }), (14, { dec := some false }), (15, { dec := some false }), (16, { pick := some false }), (18, { dec := some false }), (19, { dec := some false }), (20, { dec := some false }), (21, { pick := some false })]] [] Tryd.func10 (cs := [_, _, _, _, _, _, _, _, _, _, _, _, _, _, _, _, _, _, _, _, _, _]) (by kernel_rfl) ⟨h836, (by decide : 0 ≤ (0 : Int)), h837, (exchange_Hear_ok k p3 ((List.getD p1 (0) (Kd.dflt KP)).1) ((((List.getD p1 (0) (Kd.dflt KP)).2).1).1) (((((List.getD p1 (0) (Kd.dflt KP)).2).1).2).1) ((((List.getD p1 (0) (Kd.dflt KP)).2).2).1) (((((List.getD p1 (0) (Kd.dflt KP)).2).2).2).1) ((((((List.getD p1 (0) (Kd.dflt KP)).2).2).2).2).1) (((((((List.getD p1 (0) (Kd.dflt KP)).2).2).2).2).2).1) _ h839), (exchange_Open_ok k x838.1 _ h841), (exchange_Hear_n_ok k p4 x840.1 x840.2.1 x840.2.2.1 x840.2.2.2.1 x840.2.2.2.2.1 x840.2.2.2.2.2 _ h843), h844, h844, h844, h845, h845, h845, h845, (rfl : false = false), (rfl : false = false), (rfl : false = false), (rfl : false = false), (rfl : false = false), (rfl : false = false), (rfl : false = false), (rfl : false = false), (rfl : false = false), trivial⟩ (by kernel_rfl)
    · replace h := Option.some.inj h; subst h
      exact Abs.Good.path_ret hm [.cond false, .reg [(4, { call := some { lend := [], pass := [], res := .t [.agg [.p (Kd.sl KI) x838.1], .p (Kd.sl KP) x838.2.1, .p (Kd.int .i64) x838.2.2], outs := [], back := [] } })], .reg [(2, { call := some { lend := [], pass := [], res := .v (.agg [.p (Kd.int .i64) x840.1, .p (Kd.arr 16 (Kd.int .u8)) x840.2.1, .p (Kd.int .i64) x840.2.2.1, .p (Kd.arr 16 (Kd.int .u8)) x840.2.2.2.1, .p (Kd.int .i64) x840.2.2.2.2.1, .nilsl, .p Kd.str x840.2.2.2.2.2]), outs := [], back := [] } }), (3, { call := some { lend := [], pass := [], res := .t [.agg [.p (Kd.sl KI) x842.1], .p (Kd.sl KP) x842.2.1, .p (Kd.int .i64) x842.2.2], outs := [], back := [] } })], .reg [(3, { dec := some false }), (4, { dec := some false }), (5, { pick := some false }), (7, { dec := some false }), (8, { dec := some false }), (9, { dec := some false }), (10, { pick := some false }), (12, { dec := some false }), (13, { dec := some false }), (14, { dec := some false }), (15, { dec := some false }), (16, { pick := some false }), (18, { dec := some false }), (19, { dec := some false }), (20, { dec := some false }), (21, { pick := some false })]] [] Tryd.func10 (cs := [_, _, _, _, _, _, _, _, _, _, _, _, _, _, _, _, _, _, _, _, _, _]) (by kernel_rfl) ⟨h836, (by decide : 0 ≤ (0 : Int)), h837, (exchange_Hear_ok k p3 ((List.getD p1 (0) (Kd.dflt KP)).1) ((((List.getD p1 (0) (Kd.dflt KP)).2).1).1) (((((List.getD p1 (0) (Kd.dflt KP)).2).1).2).1) ((((List.getD p1 (0) (Kd.dflt KP)).2).2).1) (((((List.getD p1 (0) (Kd.dflt KP)).2).2).2).1) ((((((List.getD p1 (0) (Kd.dflt KP)).2).2).2).2).1) (((((((List.getD p1 (0) (Kd.dflt KP)).2).2).2).2).2).1) _ h839), (exchange_Open_ok k x838.1 _ h841), (exchange_Hear_n_ok k p4 x840.1 x840.2.1 x840.2.2.1 x840.2.2.2.1 x840.2.2.2.2.1 x840.2.2.2.2.2 _ h843), h844, h844, h844, (rfl : false = false), (rfl : false = false), (rfl : false = false), (rfl : false = false), (rfl : false = false), (rfl : false = false), (rfl : false = false), (rfl : false = false), (rfl : false = false), (rfl : false = false), (rfl : false = false), (rfl : false = false), (rfl : false = false), trivial⟩ (by kernel_rfl)
theorem antiquarylaw44_sanity_l2_ok (k : Nat) (p1 : List Pt) (p2 : Bool) (p3 : List It) (p4 : List It) (r : Bool) (h : antiquarylaw44_sanity_l2 k p1 p2 p3 p4 = some r) :
    Abs.Good P 10 Tryd.f10.ntmps [] [] (.v (.p Kd.bool r)) (pos Tryd.f10 [.r, .r, .r, .r, .c false, .r, .r, .c false, .r, .r]) [(sk 1, some (.v (.ptr 502001 0))), (sk 3, some (.v (.ptr 502002 0))), (sk 7, some (.v (.p (Kd.sl KP) p1))), (sk 112, some (.v (.p Kd.bool p2))), (ek 502001, some (.box [.p (Kd.sl KI) p3])), (ek 502002, some (.box [.p (Kd.sl KI) p4]))] := by
  unfold antiquarylaw44_sanity_l2 at h
  rcases br_inv h with ⟨h825, h⟩ | ⟨h825, h⟩
  · replace h := Option.some.inj h; subst h
    exact Abs.Good.path_ret hm [.cond true, .reg []] [] Tryd.func10 (cs := [_]) (by kernel_rfl) ⟨h825, trivial⟩ (by kernel_rfl)
  · obtain ⟨h826, h⟩ := gd_inv h
    obtain ⟨x827, h828, h⟩ := bind_inv h
    obtain ⟨h829, h⟩ := gd_inv h
    obtain ⟨x830, h831, h⟩ := bind_inv h
    rcases br_inv h with ⟨h832, h⟩ | ⟨h832, h⟩
    · exact Abs.Good.path hm [.cond false, .reg [(4, { call := some { lend := [], pass := [], res := .t [.agg [.p (Kd.sl KI) x827.1], .p (Kd.sl KP) x827.2.1, .p (Kd.int .i64) x827.2.2], outs := [], back := [] } })], .reg [(4, { call := some { lend := [], pass := [], res := .t [.agg [.p (Kd.sl KI) x830.1], .p (Kd.sl KP) x830.2.1, .p (Kd.int .i64) x830.2.2], outs := [], back := [] } })], .reg [(3, { dec := some true }), (4, { dec := some true }), (5, { pick := some true }), (7, { dec := some true }), (8, { dec := some true }), (9, { dec := some true }), (10, { pick := some true }), (12, { dec := some true }), (13, { dec := some true }), (14, { dec := some true }), (15, { dec := some true }), (16, { dec := some true }), (17, { pick := some true })], .keep [sk 1, sk 3, sk 9, sk 148, ek 502001, ek 502002], .ren [(502001, 503001), (502002, 503002)]] (cs := [_, _, _, _, _, _, _, _, _, _, _, _, _, _, _, _, _, _, _, _]) (by kernel_rfl) ⟨h825, (by decide : 0 ≤ (0 : Int)), h826, (exchange_Hear_ok k p4 ((List.getD p1 (0) (Kd.dflt KP)).1) ((((List.getD p1 (0) (Kd.dflt KP)).2).1).1) (((((List.getD p1 (0) (Kd.dflt KP)).2).1).2).1) ((((List.getD p1 (0) (Kd.dflt KP)).2).2).1) (((((List.getD p1 (0) (Kd.dflt KP)).2).2).2).1) ((((((List.getD p1 (0) (Kd.dflt KP)).2).2).2).2).1) (((((((List.getD p1 (0) (Kd.dflt KP)).2).2).2).2).2).1) _ h828), (by decide : 0 ≤ (1 : Int)), h829, (exchange_Hear_ok k x827.1 ((List.getD p1 (1) (Kd.dflt KP)).1) ((((List.getD p1 (1) (Kd.dflt KP)).2).1).1) (((((List.getD p1 (1) (Kd.dflt KP)).2).1).2).1) ((((List.getD p1 (1) (Kd.dflt KP)).2).2).1) (((((List.getD p1 (1) (Kd.dflt KP)).2).2).2).1) ((((((List.getD p1 (1) (Kd.dflt KP)).2).2).2).2).1) (((((((List.getD p1 (1) (Kd.dflt KP)).2).2).2).2).2).1) _ h831), h832, h832, h832, (rfl : true = true), (rfl : true = true), (rfl : true = true), (rfl : true = true), (rfl : true = true), (rfl : true = true), (rfl : true = true), (rfl : true = true), (rfl : true = true), (rfl : true = true), trivial⟩ (antiquarylaw44_sanity_l3_ok k x827.2.1 true p3 x830.1 r h)
    · rcases br_inv h with ⟨h833, h⟩ | ⟨h833, h⟩
      · exact Abs.Good.path hm [.cond false, .reg [(4, { call := some { lend := [], pass := [], res := .t [.agg [.p (Kd.sl KI) x827.1], .p (Kd.sl KP) x827.2.1, .p (Kd.int .i64) x827.2.2], outs := [], back := [] } })], .reg [(4, { call := some { lend := [], pass := [], res := .t [.agg [.p (Kd.sl KI) x830.1], .p (Kd.sl KP) x830.2.1, .p (Kd.int .i64) x830.2.2], outs := [], back := [] } })], .reg [(3, { dec := some false }), (4, { dec := some false }), (5, { pick := some false }), (7, { dec := some true }), (8, { dec := some true }), (9, { dec := some true }), (10, { pick := some true }), (12, { dec := some true }), (13, { dec := some true }), (14, { dec := some true }), (15, { dec := some true }), (16, { dec := some true }), (17, { pick := some true })], .keep [sk 1, sk 3, sk 9, sk 148, ek 502001, ek 502002], .ren [(502001, 503001), (502002, 503002)]] (cs := [_, _, _, _, _, _, _, _, _, _, _, _, _, _, _, _, _, _, _, _]) (by kernel_rfl) ⟨h825, (by decide : 0 ≤ (0 : Int)), h826, (exchange_Hear_ok k p4 ((List.getD p1 (0) (Kd.dflt KP)).1) ((((List.getD p1 (0) (Kd.dflt KP)).2).1).1) (((((List.getD p1 (0) (Kd.dflt KP)).2).1).2).1) ((((List.getD p1 (0) (Kd.dflt KP)).2).2).1) (((((List.getD p1 (0) (Kd.dflt KP)).2).2).2).1) ((((((List.getD p1 (0) (Kd.dflt KP)).2).2).2).2).1) (((((((List.getD p1 (0) (Kd.dflt KP)).2).2).2).2).2).1) _ h828), (by decide : 0 ≤ (1 : Int)), h829, (exchange_Hear_ok k x827.1 ((List.getD p1 (1) (Kd.dflt KP)).1) ((((List.getD p1 (1) (Kd.dflt KP)).2).1).1) (((((List.getD p1 (1) (Kd.dflt KP)).2).1).2).1) ((((List.getD p1 (1) (Kd.dflt KP)).2).2).1) (((((List.getD p1 (1) (Kd.dflt KP)).2).2).2).1) ((((((List.getD p1 (1) (Kd.dflt KP)).2).2).2).2).1) (((((((List.getD p1 (1) (Kd.dflt KP)).2).2).2).2).2).1) _ h831), h832, h832, h832, h833, h833, h833, h833, (rfl : true = true), (rfl : true = true), (rfl : true = true), (rfl : true = true), (rfl : true = true), (rfl : true = true), trivial⟩ (antiquarylaw44_sanity_l3_ok k x827.2.1 true p3 x830.1 r h)
      · rcases br_inv h with ⟨h834, h⟩ | ⟨h834, h⟩
        · exact Abs.Good.path hm [.cond false, .reg [(4, { call := some { lend := [], pass := [], res := .t [.agg [.p (Kd.sl KI) x827.1], .p (Kd.sl KP) x827.2.1, .p (Kd.int .i64) x827.2.2], outs := [], back := [] } })], .reg [(4, { call := some { lend := [], pass := [], res := .t [.agg [.p (Kd.sl KI) x830.1], .p (Kd.sl KP) x830.2.1, .p (Kd.int .i64) x830.2.2], outs := [], back := [] } })], .reg [(3, { dec := some false }), (4, { dec := some false }), (5, { pick := some false }), (7, { dec := some false }), (8, { dec := some false }), (9, { dec := some false }), (10, { pick := some false }), (12, { dec := some true }), (13, { dec := some true }), (14, { dec := some true }), (15, { dec := some true }), (16, { dec := some true }), (17, { pick := some true })], .keep [sk 1, sk 3, sk 9, sk 148, ek 502001, ek 502002], .ren [(502001, 503001), (502002, 503002)]] (cs := [_, _, _, _, _, _, _, _, _, _, _, _, _, _, _, _, _, _, _, _]) (by kernel_rfl) ⟨h825, (by decide : 0 ≤ (0 : Int)), h826, (exchange_Hear_ok k p4 ((List.getD p1 (0) (Kd.dflt KP)).1) ((((List.getD p1 (0) (Kd.dflt KP)).2).1).1) (((((List.getD p1 (0) (Kd.dflt KP)).2).1).2).1) ((((List.getD p1 (0) (Kd.dflt KP)).2).2).1) (((((List.getD p1 (0) (Kd.dflt KP)).2).2).2).1) ((((((List.getD p1 (0) (Kd.dflt KP)).2).2).2).2).1) (((((((List.getD p1 (0) (Kd.dflt KP)).2).2).2).2).2).1) _ h828), (by decide : 0 ≤ (1 : Int)), h829, (exchange_Hear_ok k x827.1 ((List.getD p1 (1) (Kd.dflt KP)).1) ((((List.getD p1 (1) (Kd.dflt KP)).2).1).1) (((((List.getD p1 (1) (Kd.dflt KP)).2).1).2).1) ((((List.getD p1 (1) (Kd.dflt KP)).2).2).1) (((((List.getD p1 (1) (Kd.dflt KP)).2).2).2).1) ((((((List.getD p1 (1) (Kd.dflt KP)).2).2).2).2).1) (((((((List.getD p1 (1) (Kd.dflt KP)).2).2).2).2).2).1) _ h831), h832, h832, h832, h833, h833, h833, h833, h834, h834, h834, h834, h834, h834, trivial⟩ (antiquarylaw44_sanity_l3_ok k x827.2.1 true p3 x830.1 r h)
        · obtain ⟨h835, h⟩ := gd_inv h
          exact Abs.Good.path hm [.cond false, .reg [(4, { call := some { lend := [], pass := [], res := .t [.agg [.p (Kd.sl KI) x827.1], .p (Kd.sl KP) x827.2.1, .p (Kd.int .i64) x827.2.2], outs := [], back := [] } })], .reg [(4, { call := some { lend := [], pass := [], res := .t [.agg [.p (Kd.sl KI) x830.1], .p (Kd.sl KP) x830.2.1, .p (Kd.int .i64) x830.2.2], outs := [], back := [] } })], .reg [(3, { dec := some false }), (4, { dec := some false }), (5, { pick := some false }), (7, { dec := some false }), (8, { dec := some false }), (9, { dec := some false }), (10, { pick := some false }), (12, { dec := some false }), (13, { dec := some false }), (14, { dec := some false }), (15, { dec := some false }), (16, { dec := some false }), (17, { pick := some false })], .keep [sk 1, sk 3, sk 9, sk 148, ek 502001, ek 502002], .ren [(502001, 503001), (502002, 503002)]] (cs := [_, _, _, _, _, _, _, _, _, _, _, _, _, _, _, _, _, _, _, _, _, _]) (by kernel_rfl) ⟨h825, (by decide : 0 ≤ (0 : Int)), h826, (exchange_Hear_ok k p4 ((List.getD p1 (0) (Kd.dflt KP)).1) ((((List.getD p1 (0) (Kd.dflt KP)).2).1).1) (((((List.getD p1 (0) (Kd.dflt KP)).2).1).2).1) ((((List.getD p1 (0) (Kd.dflt KP)).2).2).1) (((((List.getD p1 (0) (Kd.dflt KP)).2).2).2).1) ((((((List.getD p1 (0) (Kd.dflt KP)).2).2).2).2).1) (((((((List.getD p1 (0) (Kd.dflt KP)).2).2).2).2).2).1) _ h828), (by decide : 0 ≤ (1 : Int)), h829, (exchange_Hear_ok k x827.1 ((List.getD p1 (1) (Kd.dflt KP)).1) ((((List.getD p1 (1) (Kd.dflt KP)).2).1).1) (((((List.getD p1 (1) (Kd.dflt KP)).2).1).2).1) ((((List.getD p1 (1) (Kd.dflt KP)).2).2).1) (((((List.getD p1 (1) (Kd.dflt KP)).2).2).2).1) ((((((List.getD p1 (1) (Kd.dflt KP)).2).2).2).2).1) (((((((List.getD p1 (1) (Kd.dflt KP)).2).2).2).2).2).1) _ h831), h832, h832, h832, h833, h833, h833, h833, h834, h834, (by decide : 0 ≤ (0 : Int)), h835, h834, h834, h834, h834, trivial⟩ (antiquarylaw44_sanity_l3_ok k x827.2.1 (!(ByteArray.toList (((((((List.getD x827.2.1 (0) (Kd.dflt KP)).2).2).2).2).2).1) == ByteArray.toList (⟨#[122]⟩ : ByteArray))) p3 x830.1 r h)
theorem antiquarylaw44_sanity_l1_ok (k : Nat) (p1 : List Pt) (p2 : Bool) (p3 : List It) (p4 : List It) (r : Bool) (h : antiquarylaw44_sanity_l1 k p1 p2 p3 p4 = some r) :
    Abs.Good P 10 Tryd.f10.ntmps [] [] (.v (.p Kd.bool r)) (pos Tryd.f10 [.r, .r, .r, .r, .c false, .r, .r]) [(sk 1, some (.v (.ptr 501001 0))), (sk 3, some (.v (.ptr 501002 0))), (sk 5, some (.v (.p (Kd.sl KP) p1))), (sk 74, some (.v (.p Kd.bool p2))), (ek 501001, some (.box [.p (Kd.sl KI) p3])), (ek 501002, some (.box [.p (Kd.sl KI) p4]))] := by
  unfold antiquarylaw44_sanity_l1 at h
  rcases br_inv h with ⟨h815, h⟩ | ⟨h815, h⟩
  · replace h := Option.some.inj h; subst h
    exact Abs.Good.path_ret hm [.cond true, .reg []] [] Tryd.func10 (cs := [_]) (by kernel_rfl) ⟨h815, trivial⟩ (by kernel_rfl)
  · obtain ⟨h816, h⟩ := gd_inv h
    obtain ⟨x817, h818, h⟩ := bind_inv h
    rcases br_inv h with ⟨h819, h⟩ | ⟨h819, h⟩
    · exact Abs.Good.path hm [.cond false, .reg [(4, { call := some { lend := [], pass := [], res := .t [.agg [.p (Kd.sl KI) x817.1], .p (Kd.sl KP) x817.2.1, .p (Kd.int .i64) x817.2.2], outs := [], back := [] } })], .reg [(3, { dec := some true }), (4, { dec := some true }), (5, { dec := some true }), (6, { pick := some true }), (8, { dec := some true }), (9, { dec := some true }), (10, { dec := some true }), (11, { dec := some true }), (12, { dec := some true }), (13, { pick := some true }), (15, { dec := some true }), (16, { dec := some true }), (17, { dec := some true }), (18, { dec := some true }), (19, { dec := some true }), (20, { dec := some true }), (21, { pick := some true }), (23, { dec := some true }), (24, { dec := some true }), (25, { dec := some true }), (26, { dec := some true }), (27, { dec := some true }), (28, { pick := some true })], .keep [sk 1, sk 3, sk 7, sk 112, ek 501001, ek 501002], .ren [(501001, 502001), (501002, 502002)]] (cs := [_, _, _, _, _, _, _, _, _, _, _, _, _, _, _, _, _, _, _, _, _, _, _, _, _, _, _]) (by kernel_rfl) ⟨h815, (by decide : 0 ≤ (0 : Int)), h816, (exchange_Hear_ok k p3 ((List.getD p1 (0) (Kd.dflt KP)).1) ((((List.getD p1 (0) (Kd.dflt KP)).2).1).1) (((((List.getD p1 (0) (Kd.dflt KP)).2).1).2).1) ((((List.getD p1 (0) (Kd.dflt KP)).2).2).1) (((((List.getD p1 (0) (Kd.dflt KP)).2).2).2).1) ((((((List.getD p1 (0) (Kd.dflt KP)).2).2).2).2).1) (((((((List.getD p1 (0) (Kd.dflt KP)).2).2).2).2).2).1) _ h818), h819, h819, h819, h819, (rfl : true = true), (rfl : true = true), (rfl : true = true), (rfl : true = true), (rfl : true = true), (rfl : true = true), (rfl : true = true), (rfl : true = true), (rfl : true = true), (rfl : true = true), (rfl : true = true), (rfl : true = true), (rfl : true = true), (rfl : true = true), (rfl : true = true), (rfl : true = true), (rfl : true = true), (rfl : true = true), (rfl : true = true), trivial⟩ (antiquarylaw44_sanity_l2_ok k x817.2.1 true x817.1 p4 r h)
    · rcases br_inv h with ⟨h820, h⟩ | ⟨h820, h⟩
      · exact Abs.Good.path hm [.cond false, .reg [(4, { call := some { lend := [], pass := [], res := .t [.agg [.p (Kd.sl KI) x817.1], .p (Kd.sl KP) x817.2.1, .p (Kd.int .i64) x817.2.2], outs := [], back := [] } })], .reg [(3, { dec := some false }), (4, { dec := some false }), (5, { dec := some false }), (6, { pick := some false }), (8, { dec := some true }), (9, { dec := some true }), (10, { dec := some true }), (11, { dec := some true }), (12, { dec := some true }), (13, { pick := some true }), (15, { dec := some true }), (16, { dec := some true }), (17, { dec := some true }), (18, { dec := some true }), (19, { dec := some true }), (20, { dec := some true }), (21, { pick := some true }), (23, { dec := some true }), (24, { dec := some true }), (25, { dec := some true }), (26, { dec := some true }), (27, { dec := some true }), (28, { pick := some true })], .keep [sk 1, sk 3, sk 7, sk 112, ek 501001, ek 501002], .ren [(501001, 502001), (501002, 502002)]] (cs := [_, _, _, _, _, _, _, _, _, _, _, _, _, _, _, _, _, _, _, _, _, _, _, _, _, _, _]) (by kernel_rfl) ⟨h815, (by decide : 0 ≤ (0 : Int)), h816, (exchange_Hear_ok k p3 ((List.getD p1 (0) (Kd.dflt KP)).1) ((((List.getD p1 (0) (Kd.dflt KP)).2).1).1) (((((List.getD p1 (0) (Kd.dflt KP)).2).1).2).1) ((((List.getD p1 (0) (Kd.dflt KP)).2).2).1) (((((List.getD p1 (0) (Kd.dflt KP)).2).2).2).1) ((((((List.getD p1 (0) (Kd.dflt KP)).2).2).2).2).1) (((((((List.getD p1 (0) (Kd.dflt KP)).2).2).2).2).2).1) _ h818), h819, h819, h819, h819, h820, h820, h820, h820, h820, h820, (rfl : true = true), (rfl : true = true), (rfl : true = true), (rfl : true = true), (rfl : true = true), (rfl : true = true), (rfl : true = true), (rfl : true = true), (rfl : true = true), (rfl : true = true), (rfl : true = true), (rfl : true = true), (rfl : true = true), trivial⟩ (antiquarylaw44_sanity_l2_ok k x817.2.1 true x817.1 p4 r h)
      · obtain ⟨h821, h⟩ := gd_inv h
        rcases br_inv h with ⟨h822, h⟩ | ⟨h822, h⟩
        · exact Abs.Good.path hm [.cond false, .reg [(4, { call := some { lend := [], pass := [], res := .t [.agg [.p (Kd.sl KI) x817.1], .p (Kd.sl KP) x817.2.1, .p (Kd.int .i64) x817.2.2], outs := [], back := [] } })], .reg [(3, { dec := some false }), (4, { dec := some false }), (5, { dec := some false }), (6, { pick := some false }), (8, { dec := some false }), (9, { dec := some false }), (10, { dec := some false }), (11, { dec := some false }), (12, { dec := some false }), (13, { pick := some false }), (15, { dec := some true }), (16, { dec := some true }), (17, { dec := some true }), (18, { dec := some true }), (19, { dec := some true }), (20, { dec := some true }), (21, { pick := some true }), (23, { dec := some true }), (24, { dec := some true }), (25, { dec := some true }), (26, { dec := some true }), (27, { dec := some true }), (28, { pick := some true })], .keep [sk 1, sk 3, sk 7, sk 112, ek 501001, ek 501002], .ren [(501001, 502001), (501002, 502002)]] (cs := [_, _, _, _, _, _, _, _, _, _, _, _, _, _, _, _, _, _, _, _, _, _, _, _, _, _, _, _, _]) (by kernel_rfl) ⟨h815, (by decide : 0 ≤ (0 : Int)), h816, (exchange_Hear_ok k p3 ((List.getD p1 (0) (Kd.dflt KP)).1) ((((List.getD p1 (0) (Kd.dflt KP)).2).1).1) (((((List.getD p1 (0) (Kd.dflt KP)).2).1).2).1) ((((List.getD p1 (0) (Kd.dflt KP)).2).2).1) (((((List.getD p1 (0) (Kd.dflt KP)).2).2).2).1) ((((((List.getD p1 (0) (Kd.dflt KP)).2).2).2).2).1) (((((((List.getD p1 (0) (Kd.dflt KP)).2).2).2).2).2).1) _ h818), h819, h819, h819, h819, h820, h820, (by decide : 0 ≤ (0 : Int)), h821, h820, h820, h820, h820, h822, h822, h822, h822, h822, h822, h822, (rfl : true = true), (rfl : true = true), (rfl : true = true), (rfl : true = true), (rfl : true = true), (rfl : true = true), trivial⟩ (antiquarylaw44_sanity_l2_ok k x817.2.1 true x817.1 p4 r h)
        · rcases br_inv h with ⟨h823, h⟩ | ⟨h823, h⟩
          · exact Abs.Good.path hm [.cond false, .reg [(4, { call := some { lend := [], pass := [], res := .t [.agg [.p (Kd.sl KI) x817.1], .p (Kd.sl KP) x817.2.1, .p (Kd.int .i64) x817.2.2], outs := [], back := [] } })], .reg [(3, { dec := some false }), (4, { dec := some false }), (5, { dec := some false }), (6, { pick := some false }), (8, { dec := some false }), (9, { dec := some false }), (10, { dec := some false }), (11, { dec := some false }), (12, { dec := some false }), (13, { pick := some false }), (15, { dec := some false }), (16, { dec := some false }), (17, { dec := some false }), (18, { dec := some false }), (19, { dec := some false }), (20, { dec := some false }), (21, { pick := some false }), (23, { dec := some true }), (24, { dec := some true }), (25, { dec := some true }), (26, { dec := some true }), (27, { dec := some true }), (28, { pick := some true })], .keep [sk 1, sk 3, sk 7, sk 112, ek 501001, ek 501002], .ren [(501001, 502001), (501002, 502002)]] (cs := [_, _, _, _, _, _, _, _, _, _, _, _, _, _, _, _, _, _, _, _, _, _, _, _, _, _, _, _, _, _, _]) (by kernel_rfl) ⟨h815, (by decide : 0 ≤ (0 : Int)), h816, (exchange_Hear_ok k p3 ((List.getD p1 (0) (Kd.dflt KP)).1) ((((List.getD p1 (0) (Kd.dflt KP)).2).1).1) (((((List.getD p1 (0) (Kd.dflt KP)).2).1).2).1) ((((List.getD p1 (0) (Kd.dflt KP)).2).2).1) (((((List.getD p1 (0) (Kd.dflt KP)).2).2).2).1) ((((((List.getD p1 (0) (Kd.dflt KP)).2).2).2).2).1) (((((((List.getD p1 (0) (Kd.dflt KP)).2).2).2).2).2).1) _ h818), h819, h819, h819, h819, h820, h820, (by decide : 0 ≤ (0 : Int)), h821, h820, h820, h820, h820, h822, h822, (by decide : 0 ≤ (0 : Int)), h821, h822, h822, h822, h822, h822, h823, h823, h823, h823, h823, h823, trivial⟩ (antiquarylaw44_sanity_l2_ok k x817.2.1 true x817.1 p4 r h)
          · obtain ⟨h824, h⟩ := gd_inv h
            exact Abs.Good.path hm [.cond false, .reg [(4, { call := some { lend := [], pass := [], res := .t [.agg [.p (Kd.sl KI) x817.1], .p (Kd.sl KP) x817.2.1, .p (Kd.int .i64) x817.2.2], outs := [], back := [] } })], .reg [(3, { dec := some false }), (4, { dec := some false }), (5, { dec := some false }), (6, { pick := some false }), (8, { dec := some false }), (9, { dec := some false }), (10, { dec := some false }), (11, { dec := some false }), (12, { dec := some false }), (13, { pick := some false }), (15, { dec := some false }), (16, { dec := some false }), (17, { dec := some false }), (18, { dec := some false }), (19, { dec := some false }), (20, { dec := some false }), (21, { pick := some false }), (23, { dec := some false }), (24, { dec := some false }), (25, { dec := some false }), (26, { dec := some false }), (27, { dec := some false }), (28, { pick := some false })], .keep [sk 1, sk 3, sk 7, sk 112, ek 501001, ek 501002], .ren [(501001, 502001), (501002, 502002)]] (cs := [_, _, _, _, _, _, _, _, _, _, _, _, _, _, _, _, _, _, _, _, _, _, _, _, _, _, _, _, _, _, _, _, _]) (by kernel_rfl) ⟨h815, (by decide : 0 ≤ (0 : Int)), h816, (exchange_Hear_ok k p3 ((List.getD p1 (0) (Kd.dflt KP)).1) ((((List.getD p1 (0) (Kd.dflt KP)).2).1).1) (((((List.getD p1 (0) (Kd.dflt KP)).2).1).2).1) ((((List.getD p1 (0) (Kd.dflt KP)).2).2).1) (((((List.getD p1 (0) (Kd.dflt KP)).2).2).2).1) ((((((List.getD p1 (0) (Kd.dflt KP)).2).2).2).2).1) (((((((List.getD p1 (0) (Kd.dflt KP)).2).2).2).2).2).1) _ h818), h819, h819, h819, h819, h820, h820, (by decide : 0 ≤ (0 : Int)), h821, h820, h820, h820, h820, h822, h822, (by decide : 0 ≤ (0 : Int)), h821, h822, h822, h822, h822, h822, h823, h823, (by decide : 0 ≤ (1 : Int)), h824, h823, h823, h823, h823, trivial⟩ (antiquarylaw44_sanity_l2_ok k x817.2.1 (!(ByteArray.toList (((((((List.getD x817.2.1 (1) (Kd.dflt KP)).2).2).2).2).2).1) == ByteArray.toList (⟨#[120]⟩ : ByteArray))) x817.1 p4 r h)
theorem antiquarylaw44_sanity_l0_ok (k : Nat) (p1 : Bool) (p2 : List It) (p3 : List It) (r : Bool) (h : antiquarylaw44_sanity_l0 k p1 p2 p3 = some r) :
    Abs.Good P 10 Tryd.f10.ntmps [] [] (.v (.p Kd.bool r)) (pos Tryd.f10 [.r, .r, .r, .r]) [(sk 1, some (.v (.ptr 500001 0))), (sk 3, some (.v (.ptr 500002 0))), (sk 44, some (.v (.p Kd.bool p1))), (ek 500001, some (.box [.p (Kd.sl KI) p2])), (ek 500002, some (.box [.p (Kd.sl KI) p3]))] := by
  unfold antiquarylaw44_sanity_l0 at h
  rcases br_inv h with ⟨h806, h⟩ | ⟨h806, h⟩
  · replace h := Option.some.inj h; subst h
    exact Abs.Good.path_ret hm [.cond true, .reg []] [] Tryd.func10 (cs := [_]) (by kernel_rfl) ⟨h806, trivial⟩ (by kernel_rfl)
  · obtain ⟨x807, h808, h⟩ := bind_inv h
    obtain ⟨x809, h810, h⟩ := bind_inv h
    rcases br_inv h with ⟨h811, h⟩ | ⟨h811, h⟩
    · exact Abs.Good.path hm [.cond false, .reg [(2, { call := some { lend := [], pass := [], res := .v (.agg [.p (Kd.int .i64) x807.1, .p (Kd.arr 16 (Kd.int .u8)) x807.2.1, .p (Kd.int .i64) x807.2.2.1, .p (Kd.arr 16 (Kd.int .u8)) x807.2.2.2.1, .p (Kd.int .i64) x807.2.2.2.2.1, .nilsl, .p Kd.str x807.2.2.2.2.2]), outs := [], back := [] } }), (3, { call := some { lend := [], pass := [], res := .t [.agg [.p (Kd.sl KI) x809.1], .p (Kd.sl KP) x809.2.1, .p (Kd.int .i64) x809.2.2], outs := [], back := [] } })], .reg [(3, { dec := some true }), (4, { dec := some true }), (5, { dec := some true }), (6, { pick := some true }), (8, { dec := some true }), (9, { dec := some true }), (10, { dec := some true }), (11, { dec := some true }), (12, { dec := some true }), (13, { pick := some true }), (15, { dec := some true }), (16, { dec := some true }), (17, { dec := some true }), (18, { dec := some true }), (19, { dec := some true }), (20, { dec := some true }), (21, { pick := some true })], .keep [sk 1, sk 3, sk 5, sk 74, ek 500001, ek 500002], .ren [(500001, 501001), (500002, 501002)]] (cs := [_, _, _, _, _, _, _, _, _, _, _, _, _, _, _, _, _, _, _, _]) (by kernel_rfl) ⟨h806, (exchange_Open_ok k p2 _ h808), (exchange_Hear_n_ok k p3 x807.1 x807.2.1 x807.2.2.1 x807.2.2.2.1 x807.2.2.2.2.1 x807.2.2.2.2.2 _ h810), h811, h811, h811, h811, (rfl : true = true), (rfl : true = true), (rfl : true = true), (rfl : true = true), (rfl : true = true), (rfl : true = true), (rfl : true = true), (rfl : true = true), (rfl : true = true), (rfl : true = true), (rfl : true = true), (rfl : true = true), (rfl : true = true), trivial⟩ (antiquarylaw44_sanity_l1_ok k x809.2.1 true p2 x809.1 r h)
    · rcases br_inv h with ⟨h812, h⟩ | ⟨h812, h⟩
      · exact Abs.Good.path hm [.cond false, .reg [(2, { call := some { lend := [], pass := [], res := .v (.agg [.p (Kd.int .i64) x807.1, .p (Kd.arr 16 (Kd.int .u8)) x807.2.1, .p (Kd.int .i64) x807.2.2.1, .p (Kd.arr 16 (Kd.int .u8)) x807.2.2.2.1, .p (Kd.int .i64) x807.2.2.2.2.1, .nilsl, .p Kd.str x807.2.2.2.2.2]), outs := [], back := [] } }), (3, { call := some { lend := [], pass := [], res := .t [.agg [.p (Kd.sl KI) x809.1], .p (Kd.sl KP) x809.2.1, .p (Kd.int .i64) x809.2.2], outs := [], back := [] } })], .reg [(3, { dec := some false }), (4, { dec := some false }), (5, { dec := some false }), (6, { pick := some false }), (8, { dec := some true }), (9, { dec := some true }), (10, { dec := some true }), (11, { dec := some true }), (12, { dec := some true }), (13, { pick := some true }), (15, { dec := some true }), (16, { dec := some true }), (17, { dec := some true }), (18, { dec := some true }), (19, { dec := some true }), (20, { dec := some true }), (21, { pick := some true })], .keep [sk 1, sk 3, sk 5, sk 74, ek 500001, ek 500002], .ren [(500001, 501001), (500002, 501002)]] (cs := [_, _, _, _, _, _, _, _, _, _, _, _, _, _, _, _, _, _, _, _]) (by kernel_rfl) ⟨h806, (exchange_Open_ok k p2 _ h808), (exchange_Hear_n_ok k p3 x807.1 x807.2.1 x807.2.2.1 x807.2.2.2.1 x807.2.2.2.2.1 x807.2.2.2.2.2 _ h810), h811, h811, h811, h811, h812, h812, h812, h812, h812, h812, (rfl : true = true), (rfl : true = true), (rfl : true = true), (rfl : true = true), (rfl : true = true), (rfl : true = true), (rfl : true = true), trivial⟩ (antiquarylaw44_sanity_l1_ok k x809.2.1 true p2 x809.1 r h)
      · obtain ⟨h813, h⟩ := gd_inv h
        rcases br_inv h with ⟨h814, h⟩ | ⟨h814, h⟩
        · exact Abs.Good.path hm [.cond false, .reg [(2, { call := some { lend := [], pass := [], res := .v (.agg [.p (Kd.int .i64) x807.1, .p (Kd.arr 16 (Kd.int .u8)) x807.2.1, .p (Kd.int .i64) x807.2.2.1, .p (Kd.arr 16 (Kd.int .u8)) x807.2.2.2.1, .p (Kd.int .i64) x807.2.2.2.2.1, .nilsl, .p Kd.str x807.2.2.2.2.2]), outs := [], back := [] } }), (3, { call := some { lend := [], pass := [], res := .t [.agg [.p (Kd.sl KI) x809.1], .p (Kd.sl KP) x809.2.1, .p (Kd.int .i64) x809.2.2], outs := [], back := [] } })], .reg [(3, { dec := some false }), (4, { dec := some false }), (5, { dec := some false }), (6, { pick := some false }), (8, { dec := some false }), (9, { dec := some false }), (10, { dec := some false }), (11, { dec := some false }), (12, { dec := some false }), (13, { pick := some false }), (15, { dec := some true }), (16, { dec := some true }), (17, { dec := some true }), (18, { dec := some true }), (19, { dec := some true }), (20, { dec := some true }), (21, { pick := some true })], .keep [sk 1, sk 3, sk 5, sk 74, ek 500001, ek 500002], .ren [(500001, 501001), (500002, 501002)]] (cs := [_, _, _, _, _, _, _, _, _, _, _, _, _, _, _, _, _, _, _, _, _, _]) (by kernel_rfl) ⟨h806, (exchange_Open_ok k p2 _ h808), (exchange_Hear_n_ok k p3 x807.1 x807.2.1 x807.2.2.1 x807.2.2.2.1 x807.2.2.2.2.1 x807.2.2.2.2.2 _ h810), h811, h811, h811, h811, h812, h812, (by decide : 0 ≤ (0 : Int)), h813, h812, h812, h812, h812, h814, h814, h814, h814, h814, h814, h814, trivial⟩ (antiquarylaw44_sanity_l1_ok k x809.2.1 true p2 x809.1 r h)
        · exact Abs.Good.path hm [.cond false, .reg [(2, { call := some { lend := [], pass := [], res := .v (.agg [.p (Kd.int .i64) x807.1, .p (Kd.arr 16 (Kd.int .u8)) x807.2.1, .p (Kd.int .i64) x807.2.2.1, .p (Kd.arr 16 (Kd.int .u8)) x807.2.2.2.1, .p (Kd.int .i64) x807.2.2.2.2.1, .nilsl, .p Kd.str x807.2.2.2.2.2]), outs := [], back := [] } }), (3, { call := some { lend := [], pass := [], res := .t [.agg [.p (Kd.sl KI) x809.1], .p (Kd.sl KP) x809.2.1, .p (Kd.int .i64) x809.2.2], outs := [], back := [] } })], .reg [(3, { dec := some false }), (4, { dec := some false }), (5, { dec := some false }), (6, { pick := some false }), (8, { dec := some false }), (9, { dec := some false }), (10, { dec := some false }), (11, { dec := some false }), (12, { dec := some false }), (13, { pick := some false }), (15, { dec := some false }), (16, { dec := some false }), (17, { dec := some false }), (18, { dec := some false }), (19, { dec := some false }), (20, { dec := some false }), (21, { pick := some false })], .keep [sk 1, sk 3, sk 5, sk 74, ek 500001, ek 500002], .ren [(500001, 501001), (500002, 501002)]] (cs := [_, _, _, _, _, _, _, _, _, _, _, _, _, _, _, _, _, _, _, _, _, _, _, _]) (by kernel_rfl) ⟨h806, (exchange_Open_ok k p2 _ h808), (exchange_Hear_n_ok k p3 x807.1 x807.2.1 x807.2.2.1 x807.2.2.2.1 x807.2.2.2.2.1 x807.2.2.2.2.2 _ h810), h811, h811, h811, h811, h812, h812, (by decide : 0 ≤ (0 : Int)), h813, h812, h812, h812, h812, h814, h814, (by decide : 0 ≤ (0 : Int)), h813, h814, h814, h814, h814, h814, trivial⟩ (antiquarylaw44_sanity_l1_ok k x809.2.1 ((List.length ((((((List.getD x809.2.1 (0) (Kd.dflt KP)).2).2).2).2).1) : Int) != (2 : Int)) p2 x809.1 r h)
theorem antiquarylaw44_sanity_ok (k : Nat) (r : Bool) (h : antiquarylaw44_sanity k = some r) : SpecOk P ⟨10, [], [], .v (.p Kd.bool r), []⟩ := by
  refine spec_at Tryd.func10 (by kernel_rfl) (Nat.le_of_ble_eq_true (by kernel_rfl)) ?_
  unfold antiquarylaw44_sanity at h
  obtain ⟨x797, h798, h⟩ := bind_inv h
  obtain ⟨x799, h800, h⟩ := bind_inv h
  rcases br_inv h with ⟨h801, h⟩ | ⟨h801, h⟩
  · exact Abs.Good.path hm [.reg [], .reg [(1, { call := some { lend := [(19, true)], pass := [], res := .t [.agg [.p (Kd.sl KI) x797.1], .p Kd.bool x797.2], outs := [], back := [] } })], .reg [(1, { call := some { lend := [(24, true)], pass := [], res := .t [.agg [.p (Kd.sl KI) x799.1], .p Kd.bool x799.2], outs := [], back := [] } })], .reg [(3, { dec := some true }), (4, { dec := some true }), (5, { pick := some true }), (7, { dec := some true }), (8, { dec := some true }), (9, { dec := some true }), (10, { dec := some true }), (11, { pick := some true }), (13, { dec := some true }), (14, { dec := some true }), (15, { dec := some true }), (16, { pick := some true })], .keep [sk 1, sk 3, sk 44, ek 1, ek 3], .ren [(1, 500001), (3, 500002)]] (cs := [_, _, _, _, _, _, _, _, _, _, _, _, _, _, _, _]) (by kernel_rfl) ⟨(antiquarylaw44_of_ok k ([(⟨#[120]⟩ : ByteArray), (⟨#[121]⟩ : ByteArray)] : List ByteArray) _ h798), (rfl : 2 = List.length ([(⟨#[120]⟩ : ByteArray), (⟨#[121]⟩ : ByteArray)] : List ByteArray)), (antiquarylaw44_of_ok k ([(⟨#[121]⟩ : ByteArray), (⟨#[122]⟩ : ByteArray)] : List ByteArray) _ h800), (rfl : 2 = List.length ([(⟨#[121]⟩ : ByteArray), (⟨#[122]⟩ : ByteArray)] : List ByteArray)), h801, h801, h801, (rfl : true = true), (rfl : true = true), (rfl : true = true), (rfl : true = true), (rfl : true = true), (rfl : true = true), (rfl : true = true), (rfl : true = true), (rfl : true = true), trivial⟩ (antiquarylaw44_sanity_l0_ok k true x797.1 x799.1 r h)
  · rcases br_inv h with ⟨h802, h⟩ | ⟨h802, h⟩
    · exact Abs.Good.path hm [.reg [], .reg [(1, { call := some { lend := [(19, true)], pass := [], res := .t [.agg [.p (Kd.sl KI) x797.1], .p Kd.bool x797.2], outs := [], back := [] } })], .reg [(1, { call := some { lend := [(24, true)], pass := [], res := .t [.agg [.p (Kd.sl KI) x799.1], .p Kd.bool x799.2], outs := [], back := [] } })], .reg [(3, { dec := some false }), (4, { dec := some false }), (5, { pick := some false }), (7, { dec := some true }), (8, { dec := some true }), (9, { dec := some true }), (10, { dec := some true }), (11, { pick := some true }), (13, { dec := some true }), (14, { dec := some true }), (15, { dec := some true }), (16, { pick := some true })], .keep [sk 1, sk 3, sk 44, ek 1, ek 3], .ren [(1, 500001), (3, 500002)]] (cs := [_, _, _, _, _, _, _, _, _, _, _, _, _, _, _, _]) (by kernel_rfl) ⟨(antiquarylaw44_of_ok k ([(⟨#[120]⟩ : ByteArray), (⟨#[121]⟩ : ByteArray)] : List ByteArray) _ h798), (rfl : 2 = List.length ([(⟨#[120]⟩ : ByteArray), (⟨#[121]⟩ : ByteArray)] : List ByteArray)), (antiquarylaw44_of_ok k ([(⟨#[121]⟩ : ByteArray), (⟨#[122]⟩ : ByteArray)] : List ByteArray) _ h800), (rfl : 2 = List.length ([(⟨#[121]⟩ : ByteArray), (⟨#[122]⟩ : ByteArray)] : List ByteArray)), h801, h801, h801, h802, h802, h802, h802, h802, (rfl : true = true), (rfl : true = true), (rfl : true = true), (rfl : true = true), trivial⟩ (antiquarylaw44_sanity_l0_ok k true x797.1 x799.1 r h)
    · rcases br_inv h with ⟨h803, h⟩ | ⟨h803, h⟩
      · exact Abs.Good.path hm [.reg [], .reg [(1, { call := some { lend := [(19, true)], pass := [], res := .t [.agg [.p (Kd.sl KI) x797.1], .p Kd.bool x797.2], outs := [], back := [] } })], .reg [(1, { call := some { lend := [(24, true)], pass := [], res := .t [.agg [.p (Kd.sl KI) x799.1], .p Kd.bool x799.2], outs := [], back := [] } })], .reg [(3, { dec := some false }), (4, { dec := some false }), (5, { pick := some false }), (7, { dec := some false }), (8, { dec := some false }), (9, { dec := some false }), (10, { dec := some false }), (11, { pick := some false }), (13, { dec := some true }), (14, { dec := some true }), (15, { dec := some true }), (16, { pick := some true })], .keep [sk 1, sk 3, sk 44, ek 1, ek 3], .ren [(1, 500001), (3, 500002)]] (cs := [_, _, _, _, _, _, _, _, _, _, _, _, _, _, _, _]) (by kernel_rfl) ⟨(antiquarylaw44_of_ok k ([(⟨#[120]⟩ : ByteArray), (⟨#[121]⟩ : ByteArray)] : List ByteArray) _ h798), (rfl : 2 = List.length ([(⟨#[120]⟩ : ByteArray), (⟨#[121]⟩ : ByteArray)] : List ByteArray)), (antiquarylaw44_of_ok k ([(⟨#[121]⟩ : ByteArray), (⟨#[122]⟩ : ByteArray)] : List ByteArray) _ h800), (rfl : 2 = List.length ([(⟨#[121]⟩ : ByteArray), (⟨#[122]⟩ : ByteArray)] : List ByteArray)), h801, h801, h801, h802, h802, h802, h802, h802, h803, h803, h803, h803, trivial⟩ (antiquarylaw44_sanity_l0_ok k true x797.1 x799.1 r h)
      · obtain ⟨x804, h805, h⟩ := bind_inv h
        exact Abs.Good.path hm [.reg [], .reg [(1, { call := some { lend := [(19, true)], pass := [], res := .t [.agg [.p (Kd.sl KI) x797.1], .p Kd.bool x797.2], outs := [], back := [] } })], .reg [(1, { call := some { lend := [(24, true)], pass := [], res := .t [.agg [.p (Kd.sl KI) x799.1], .p Kd.bool x799.2], outs := [], back := [] } })], .reg [(3, { dec := some false }), (4, { dec := some false }), (5, { pick := some false }), (7, { dec := some false }), (8, { dec := some false }), (9, { dec := some false }), (10, { dec := some false }), (11, { pick := some false }), (13, { dec := some false }), (14, { dec := some false, call := some { lend := [], pass := [], res := .v (.p Kd.bool x804), outs := [], back := [] } }), (15, { dec := some false }), (16, { pick := some false })], .keep [sk 1, sk 3, sk 44, ek 1, ek 3], .ren [(1, 500001), (3, 500002)]] (cs := [_, _, _, _, _, _, _, _, _, _, _, _, _, _, _, _, _]) (by kernel_rfl) ⟨(antiquarylaw44_of_ok k ([(⟨#[120]⟩ : ByteArray), (⟨#[121]⟩ : ByteArray)] : List ByteArray) _ h798), (rfl : 2 = List.length ([(⟨#[120]⟩ : ByteArray), (⟨#[121]⟩ : ByteArray)] : List ByteArray)), (antiquarylaw44_of_ok k ([(⟨#[121]⟩ : ByteArray), (⟨#[122]⟩ : ByteArray)] : List ByteArray) _ h800), (rfl : 2 = List.length ([(⟨#[121]⟩ : ByteArray), (⟨#[122]⟩ : ByteArray)] : List ByteArray)), h801, h801, h801, h802, h802, h802, h802, h802, h803, h803, (exchange_Valid_ok k x797.1 _ h805), h803, h803, trivial⟩ (antiquarylaw44_sanity_l0_ok k (!x804) x797.1 x799.1 r h)

def antiquarylaw44_run_l9 (s0 : Bool → Int → (List (List It × Unit)) → (List (List It × Unit)) → List Se → List Se → Option (List (List It × Unit) × List Se × Bool × Bool)) (s6 : Bool → Int → Int → Int → (List (List It × Unit)) → (List (List It × Unit)) → List Se → List Se → Int → Int → List Int → Int → List Int → Int → List (List Int) → ByteArray → Option (List (List It × Unit) × List Se × Bool × Bool)) (s8 : Bool → Int → Int → Int → List Pt → Int → (List (List It × Unit)) → (List (List It × Unit)) → List Se → List Se → Int → Int → List Int → Int → List Int → Int → List (List Int) → ByteArray → Option (List (List It × Unit) × List Se × Bool × Bool)) (k : Nat) (p1 : Bool) (p2 : Int) (p3 : Int) (p4 : Int) (p5 : List Pt) (p6 : Int) (p7 : List (List It × Unit)) (p8 : List (List It × Unit)) (p9 : List Se) (p10 : List Se) (p11 : Int) (p12 : Int) (p13 : List Int) (p14 : Int) (p15 : List Int) (p16 : Int) (p17 : List (List Int)) (p18 : ByteArray) : Option (List (List It × Unit) × List Se × Bool × Bool) :=
  s8 p1 p2 p3 p4 p5 (IntKind.i64.wrap (p6 + (1 : Int))) p7 p8 p9 p10 p11 p12 p13 p14 p15 p16 p17 p18
def antiquarylaw44_run_l8 (s0 : Bool → Int → (List (List It × Unit)) → (List (List It × Unit)) → List Se → List Se → Option (List (List It × Unit) × List Se × Bool × Bool)) (s6 : Bool → Int → Int → Int → (List (List It × Unit)) → (List (List It × Unit)) → List Se → List Se → Int → Int → List Int → Int → List Int → Int → List (List Int) → ByteArray → Option (List (List It × Unit) × List Se × Bool × Bool)) : Nat → Bool → Int → Int → Int → List Pt → Int → (List (List It × Unit)) → (List (List It × Unit)) → List Se → List Se → Int → Int → List Int → Int → List Int → Int → List (List Int) → ByteArray → Option (List (List It × Unit) × List Se × Bool × Bool)
  | 0, _, _, _, _, _, _, _, _, _, _, _, _, _, _, _, _, _, _ => none
  | k + 1, p1, p2, p3, p4, p5, p6, p7, p8, p9, p10, p11, p12, p13, p14, p15, p16, p17, p18 =>
    if (decide (p6 < (List.length p5 : Int))) = true then
      if 0 ≤ p6 ∧ p6 < (List.length p5 : Int) then
        if List.length p9 + List.length ([((IntKind.i64.wrap ((1 : Int) - p11)), (((List.getD p5 (Int.toNat p6) (Kd.dflt KP)).1, (((((List.getD p5 (Int.toNat p6) (Kd.dflt KP)).2).1).1, (((((List.getD p5 (Int.toNat p6) (Kd.dflt KP)).2).1).2).1, ())), ((((List.getD p5 (Int.toNat p6) (Kd.dflt KP)).2).2).1, (((((List.getD p5 (Int.toNat p6) (Kd.dflt KP)).2).2).2).1, ((((((List.getD p5 (Int.toNat p6) (Kd.dflt KP)).2).2).2).2).1, (((((((List.getD p5 (Int.toNat p6) (Kd.dflt KP)).2).2).2).2).2).1, ())))))), ()))] : List Se) ≤ 1353245080339 then
          if ((List.getD p5 (Int.toNat p6) (Kd.dflt KP)).1 == (4 : Int)) = true then
            if List.length p10 + List.length ([((IntKind.i64.wrap ((1 : Int) - p11)), (((List.getD p5 (Int.toNat p6) (Kd.dflt KP)).1, (((((List.getD p5 (Int.toNat p6) (Kd.dflt KP)).2).1).1, (((((List.getD p5 (Int.toNat p6) (Kd.dflt KP)).2).1).2).1, ())), ((((List.getD p5 (Int.toNat p6) (Kd.dflt KP)).2).2).1, (((((List.getD p5 (Int.toNat p6) (Kd.dflt KP)).2).2).2).1, ((((((List.getD p5 (Int.toNat p6) (Kd.dflt KP)).2).2).2).2).1, (((((((List.getD p5 (Int.toNat p6) (Kd.dflt KP)).2).2).2).2).2).1, ())))))), ()))] : List Se) ≤ 1353245080339 then
              antiquarylaw44_run_l9 s0 s6 (antiquarylaw44_run_l8 s0 s6 k) k p1 p2 p3 p4 p5 p6 p7 p8 (p9 ++ ([((IntKind.i64.wrap ((1 : Int) - p11)), (((List.getD p5 (Int.toNat p6) (Kd.dflt KP)).1, (((((List.getD p5 (Int.toNat p6) (Kd.dflt KP)).2).1).1, (((((List.getD p5 (Int.toNat p6) (Kd.dflt KP)).2).1).2).1, ())), ((((List.getD p5 (Int.toNat p6) (Kd.dflt KP)).2).2).1, (((((List.getD p5 (Int.toNat p6) (Kd.dflt KP)).2).2).2).1, ((((((List.getD p5 (Int.toNat p6) (Kd.dflt KP)).2).2).2).2).1, (((((((List.getD p5 (Int.toNat p6) (Kd.dflt KP)).2).2).2).2).2).1, ())))))), ()))] : List Se)) (p10 ++ ([((IntKind.i64.wrap ((1 : Int) - p11)), (((List.getD p5 (Int.toNat p6) (Kd.dflt KP)).1, (((((List.getD p5 (Int.toNat p6) (Kd.dflt KP)).2).1).1, (((((List.getD p5 (Int.toNat p6) (Kd.dflt KP)).2).1).2).1, ())), ((((List.getD p5 (Int.toNat p6) (Kd.dflt KP)).2).2).1, (((((List.getD p5 (Int.toNat p6) (Kd.dflt KP)).2).2).2).1, ((((((List.getD p5 (Int.toNat p6) (Kd.dflt KP)).2).2).2).2).1, (((((((List.getD p5 (Int.toNat p6) (Kd.dflt KP)).2).2).2).2).2).1, ())))))), ()))] : List Se)) p11 p12 p13 p14 p15 p16 p17 p18
            else none
          else
            antiquarylaw44_run_l9 s0 s6 (antiquarylaw44_run_l8 s0 s6 k) k p1 p2 p3 p4 p5 p6 p7 p8 (p9 ++ ([((IntKind.i64.wrap ((1 : Int) - p11)), (((List.getD p5 (Int.toNat p6) (Kd.dflt KP)).1, (((((List.getD p5 (Int.toNat p6) (Kd.dflt KP)).2).1).1, (((((List.getD p5 (Int.toNat p6) (Kd.dflt KP)).2).1).2).1, ())), ((((List.getD p5 (Int.toNat p6) (Kd.dflt KP)).2).2).1, (((((List.getD p5 (Int.toNat p6) (Kd.dflt KP)).2).2).2).1, ((((((List.getD p5 (Int.toNat p6) (Kd.dflt KP)).2).2).2).2).1, (((((((List.getD p5 (Int.toNat p6) (Kd.dflt KP)).2).2).2).2).2).1, ())))))), ()))] : List Se)) p10 p11 p12 p13 p14 p15 p16 p17 p18
        else none
      else none
    else
      s6 p1 p2 p3 (IntKind.i64.wrap (p4 + (1 : Int))) p7 p8 p9 p10 p11 p12 p13 p14 p15 p16 p17 p18
def antiquarylaw44_run_l7 (s0 : Bool → Int → (List (List It × Unit)) → (List (List It × Unit)) → List Se → List Se → Option (List (List It × Unit) × List Se × Bool × Bool)) (s6 : Bool → Int → Int → Int → (List (List It × Unit)) → (List (List It × Unit)) → List Se → List Se → Int → Int → List Int → Int → List Int → Int → List (List Int) → ByteArray → Option (List (List It × Unit) × List Se × Bool × Bool)) (k : Nat) (p1 : Bool) (p2 : Int) (p3 : Int) (p4 : Int) (p5 : List Pt) (p6 : Bool) (p7 : List (List It × Unit)) (p8 : List (List It × Unit)) (p9 : List Se) (p10 : List Se) (p11 : Int) (p12 : Int) (p13 : List Int) (p14 : Int) (p15 : List Int) (p16 : Int) (p17 : List (List Int)) (p18 : ByteArray) (p19 : List It) : Option (List (List It × Unit) × List Se × Bool × Bool) :=
  if p6 = true then
    some (p8, p10, false, true)
  else
    if 0 ≤ p11 ∧ p11 < (2 : Int) then
      antiquarylaw44_run_l8 s0 s6 k p1 p2 p3 p4 p5 (0 : Int) p7 (List.set p8 (Int.toNat p11) (p19, ())) p9 p10 p11 p12 p13 p14 p15 p16 p17 p18
    else none
def antiquarylaw44_run_l6 (s0 : Bool → Int → (List (List It × Unit)) → (List (List It × Unit)) → List Se → List Se → Option (List (List It × Unit) × List Se × Bool × Bool)) : Nat → Bool → Int → Int → Int → (List (List It × Unit)) → (List (List It × Unit)) → List Se → List Se → Int → Int → List Int → Int → List Int → Int → List (List Int) → ByteArray → Option (List (List It × Unit) × List Se × Bool × Bool)
  | 0, _, _, _, _, _, _, _, _, _, _, _, _, _, _, _, _ => none
  | k + 1, p1, p2, p3, p4, p5, p6, p7, p8, p9, p10, p11, p12, p13, p14, p15, p16 =>
    if (decide (p4 < p3)) = true then
      if 0 ≤ p9 ∧ p9 < (2 : Int) then
        Option.bind (exchange_Hear k ((List.getD p6 (Int.toNat p9) (Kd.dflt (Kd.pair (Kd.sl KI) Kd.unit))).1) p10 p11 p12 p13 p14 p15 p16) fun x1174 =>
        if (x1174.2.2 != (0 : Int)) = true then
          antiquarylaw44_run_l7 s0 (antiquarylaw44_run_l6 s0 k) k p1 p2 p3 p4 x1174.2.1 (x1174.2.2 != (6 : Int)) p5 p6 p7 p8 p9 p10 p11 p12 p13 p14 p15 p16 x1174.1
        else
          antiquarylaw44_run_l7 s0 (antiquarylaw44_run_l6 s0 k) k p1 p2 p3 p4 x1174.2.1 false p5 p6 p7 p8 p9 p10 p11 p12 p13 p14 p15 p16 x1174.1
      else none
    else
      s0 p1 p2 p5 p6 p7 p8
def antiquarylaw44_run_l5 (s0 : Bool → Int → (List (List It × Unit)) → (List (List It × Unit)) → List Se → List Se → Option (List (List It × Unit) × List Se × Bool × Bool)) (k : Nat) (p1 : Bool) (p2 : Int) (p3 : Int) (p4 : List (List It × Unit)) (p5 : List (List It × Unit)) (p6 : List Se) (p7 : List Se) (p8 : Int) (p9 : Int) (p10 : List Int) (p11 : Int) (p12 : List Int) (p13 : Int) (p14 : List (List Int)) (p15 : ByteArray) : Option (List (List It × Unit) × List Se × Bool × Bool) :=
  antiquarylaw44_run_l6 s0 k p1 p2 p3 (0 : Int) p4 p5 p6 p7 p8 p9 p10 p11 p12 p13 p14 p15
def antiquarylaw44_run_l4 (s0 : Bool → Int → (List (List It × Unit)) → (List (List It × Unit)) → List Se → List Se → Option (List (List It × Unit) × List Se × Bool × Bool)) (k : Nat) (p1 : Bool) (p2 : Int) (p3 : Int) (p4 : Bool) (p5 : List (List It × Unit)) (p6 : List (List It × Unit)) (p7 : List Se) (p8 : List Se) (p9 : Int) (p10 : Int) (p11 : List Int) (p12 : Int) (p13 : List Int) (p14 : Int) (p15 : List (List Int)) (p16 : ByteArray) : Option (List (List It × Unit) × List Se × Bool × Bool) :=
  if p4 = true then
    antiquarylaw44_run_l5 s0 k p1 p2 (2 : Int) p5 p6 p7 p8 p9 p10 p11 p12 p13 p14 p15 p16
  else
    antiquarylaw44_run_l5 s0 k p1 p2 p3 p5 p6 p7 p8 p9 p10 p11 p12 p13 p14 p15 p16
def antiquarylaw44_run_l3 (s0 : Bool → Int → (List (List It × Unit)) → (List (List It × Unit)) → List Se → List Se → Option (List (List It × Unit) × List Se × Bool × Bool)) (k : Nat) (p1 : Bool) (p2 : Int) (p3 : Int) (p4 : Bool) (p5 : List (List It × Unit)) (p6 : List (List It × Unit)) (p7 : List Se) (p8 : List Se) (p9 : Int) (p10 : Int) (p11 : List Int) (p12 : Int) (p13 : List Int) (p14 : Int) (p15 : List (List Int)) (p16 : ByteArray) : Option (List (List It × Unit) × List Se × Bool × Bool) :=
  if p4 = true then
    s0 p1 p2 p5 p6 p7 p8
  else
    antiquarylaw44_run_l4 s0 k p1 p2 (1 : Int) false p5 p6 p7 p8 p9 p10 p11 p12 p13 p14 p15 p16
def antiquarylaw44_run_l2 (s0 : Bool → Int → (List (List It × Unit)) → (List (List It × Unit)) → List Se → List Se → Option (List (List It × Unit) × List Se × Bool × Bool)) (k : Nat) (p1 : Bool) (p2 : Int) (p3 : Int) (p4 : List (List It × Unit)) (p5 : List (List It × Unit)) (p6 : List Se) (p7 : List Se) : Option (List (List It × Unit) × List Se × Bool × Bool) :=
  if ((List.length p6) : Int) ≠ 0 then
    if 0 ≤ (Int.tmod p3 ((List.length p6) : Int)) ∧ (Int.tmod p3 ((List.length p6) : Int)) < ((List.length p6) : Int) ∧ (List.length p6) ≤ List.length p6 then
      if Int.toNat (Int.tmod p3 ((List.length p6) : Int)) < List.length p6 then
        if (Int.tmod p3 ((List.length p6) : Int)) ≤ ((List.length p6) : Int) then
          if List.length ([] : List Se) + List.length (List.take (Int.toNat (Int.tmod p3 ((List.length p6) : Int))) p6) ≤ 1353245080339 ∧ (Int.toNat (Int.tmod p3 ((List.length p6) : Int))) ≤ List.length p6 then
            if 0 ≤ (IntKind.i64.wrap ((Int.tmod p3 ((List.length p6) : Int)) + (1 : Int))) ∧ (IntKind.i64.wrap ((Int.tmod p3 ((List.length p6) : Int)) + (1 : Int))) ≤ ((List.length p6) : Int) then
              if List.length (([] : List Se) ++ (List.take (Int.toNat (Int.tmod p3 ((List.length p6) : Int))) p6)) + List.length (List.take ((List.length p6) - Int.toNat (IntKind.i64.wrap ((Int.tmod p3 ((List.length p6) : Int)) + (1 : Int)))) (List.drop (Int.toNat (IntKind.i64.wrap ((Int.tmod p3 ((List.length p6) : Int)) + (1 : Int)))) p6)) ≤ 1353245080339 ∧ Int.toNat (IntKind.i64.wrap ((Int.tmod p3 ((List.length p6) : Int)) + (1 : Int))) + ((List.length p6) - Int.toNat (IntKind.i64.wrap ((Int.tmod p3 ((List.length p6) : Int)) + (1 : Int)))) ≤ List.length p6 then
                if p1 = true then
                  antiquarylaw44_run_l3 s0 k p1 (IntKind.i64.wrap (p2 + (1 : Int))) p3 ((Int.tmod (IntKind.i64.wrap (p2 + (1 : Int))) (7 : Int)) == (0 : Int)) p4 p5 ((([] : List Se) ++ (List.take (Int.toNat (Int.tmod p3 ((List.length p6) : Int))) p6)) ++ (List.take ((List.length p6) - Int.toNat (IntKind.i64.wrap ((Int.tmod p3 ((List.length p6) : Int)) + (1 : Int)))) (List.drop (Int.toNat (IntKind.i64.wrap ((Int.tmod p3 ((List.length p6) : Int)) + (1 : Int)))) p6))) p7 ((List.getD p6 (Int.toNat (Int.tmod p3 ((List.length p6) : Int))) (Kd.dflt KSe)).1) ((((List.getD p6 (Int.toNat (Int.tmod p3 ((List.length p6) : Int))) (Kd.dflt KSe)).2).1).1) ((((((List.getD p6 (Int.toNat (Int.tmod p3 ((List.length p6) : Int))) (Kd.dflt KSe)).2).1).2).1).1) (((((((List.getD p6 (Int.toNat (Int.tmod p3 ((List.length p6) : Int))) (Kd.dflt KSe)).2).1).2).1).2).1) ((((((List.getD p6 (Int.toNat (Int.tmod p3 ((List.length p6) : Int))) (Kd.dflt KSe)).2).1).2).2).1) (((((((List.getD p6 (Int.toNat (Int.tmod p3 ((List.length p6) : Int))) (Kd.dflt KSe)).2).1).2).2).2).1) ((((((((List.getD p6 (Int.toNat (Int.tmod p3 ((List.length p6) : Int))) (Kd.dflt KSe)).2).1).2).2).2).2).1) (((((((((List.getD p6 (Int.toNat (Int.tmod p3 ((List.length p6) : Int))) (Kd.dflt KSe)).2).1).2).2).2).2).2).1)
                else
                  antiquarylaw44_run_l3 s0 k p1 (IntKind.i64.wrap (p2 + (1 : Int))) p3 false p4 p5 ((([] : List Se) ++ (List.take (Int.toNat (Int.tmod p3 ((List.length p6) : Int))) p6)) ++ (List.take ((List.length p6) - Int.toNat (IntKind.i64.wrap ((Int.tmod p3 ((List.length p6) : Int)) + (1 : Int)))) (List.drop (Int.toNat (IntKind.i64.wrap ((Int.tmod p3 ((List.length p6) : Int)) + (1 : Int)))) p6))) p7 ((List.getD p6 (Int.toNat (Int.tmod p3 ((List.length p6) : Int))) (Kd.dflt KSe)).1) ((((List.getD p6 (Int.toNat (Int.tmod p3 ((List.length p6) : Int))) (Kd.dflt KSe)).2).1).1) ((((((List.getD p6 (Int.toNat (Int.tmod p3 ((List.length p6) : Int))) (Kd.dflt KSe)).2).1).2).1).1) (((((((List.getD p6 (Int.toNat (Int.tmod p3 ((List.length p6) : Int))) (Kd.dflt KSe)).2).1).2).1).2).1) ((((((List.getD p6 (Int.toNat (Int.tmod p3 ((List.length p6) : Int))) (Kd.dflt KSe)).2).1).2).2).1) (((((((List.getD p6 (Int.toNat (Int.tmod p3 ((List.length p6) : Int))) (Kd.dflt KSe)).2).1).2).2).2).1) ((((((((List.getD p6 (Int.toNat (Int.tmod p3 ((List.length p6) : Int))) (Kd.dflt KSe)).2).1).2).2).2).2).1) (((((((((List.getD p6 (Int.toNat (Int.tmod p3 ((List.length p6) : Int))) (Kd.dflt KSe)).2).1).2).2).2).2).2).1)
              else none
            else none
          else none
        else none
      else none
    else none
  else none
def antiquarylaw44_run_l1 (s0 : Bool → Int → (List (List It × Unit)) → (List (List It × Unit)) → List Se → List Se → Option (List (List It × Unit) × List Se × Bool × Bool)) (k : Nat) (p1 : Bool) (p2 : Int) (p3 : Bool) (p4 : List (List It × Unit)) (p5 : List (List It × Unit)) (p6 : List Se) (p7 : List Se) : Option (List (List It × Unit) × List Se × Bool × Bool) :=
  if p3 = true then
    antiquarylaw44_run_l2 s0 k p1 p2 (0 : Int) p4 p5 p6 p7
  else
    some (p5, p7, true, (((List.length p6) : Int) == (0 : Int)))
def antiquarylaw44_run_l0 : Nat → Bool → Int → (List (List It × Unit)) → (List (List It × Unit)) → List Se → List Se → Option (List (List It × Unit) × List Se × Bool × Bool)
  | 0, _, _, _, _, _, _ => none
  | k + 1, p1, p2, p3, p4, p5, p6 =>
    if (decide (((List.length p5) : Int) > (0 : Int))) = true then
      antiquarylaw44_run_l1 (antiquarylaw44_run_l0 k) k p1 p2 (decide (p2 < (20000 : Int))) p3 p4 p5 p6
    else
      antiquarylaw44_run_l1 (antiquarylaw44_run_l0 k) k p1 p2 false p3 p4 p5 p6
def antiquarylaw44_run (k : Nat) (a1 : List It) (a2 : List It) (a3 : Bool) : Option (List (List It × Unit) × List Se × Bool × Bool) :=
  Option.bind (exchange_Open k a1) fun x1158 =>
  antiquarylaw44_run_l0 k a3 (0 : Int) (Kd.dflt (Kd.arr 2 (Kd.pair (Kd.sl KI) Kd.unit))) ([(a1, ()), (a2, ())] : List (List It × Unit)) ([((1 : Int), ((x1158.1, ((x1158.2.1, (x1158.2.2.1, ())), (x1158.2.2.2.1, (x1158.2.2.2.2.1, (([] : List (List Int)), (x1158.2.2.2.2.2, ())))))), ()))] : List Se) ([] : List Se)
theorem antiquarylaw44_run_l9_ok (s0 : Bool → Int → (List (List It × Unit)) → (List (List It × Unit)) → List Se → List Se → Option (List (List It × Unit) × List Se × Bool × Bool)) (hs0 : ∀ (p1 : Bool) (p2 : Int) (p3 : List (List It × Unit)) (p4 : List (List It × Unit)) (p5 : List Se) (p6 : List Se) (r : List (List It × Unit) × List Se × Bool × Bool), s0 p1 p2 p3 p4 p5 p6 = some r → Abs.Good P 39 Tryd.f39.ntmps [] [] (.t [.p (Kd.arr 2 (Kd.pair (Kd.sl KI) Kd.unit)) r.1, .p (Kd.sl KSe) r.2.1, .p Kd.bool r.2.2.1, .p Kd.bool r.2.2.2]) (pos Tryd.f39 [.r, .r, .r, .r, .r]) [(sk 2, some (.v (.nilsl))), (sk 3, some (.v (.p Kd.bool p1))), (sk 8, some (.v (.ptr 500001 0))), (sk 12, some (.v (.ptr 500002 0))), (sk 13, some (.v (.row 500003 (List.length p5)))), (sk 14, some (.v (.row 500004 (List.length p6)))), (sk 15, some (.v (.p (Kd.int .i64) p2))), (ek 500001, some (.box [.p (Kd.arr 2 (Kd.pair (Kd.sl KI) Kd.unit)) p3])), (ek 500002, some (.box [.p (Kd.arr 2 (Kd.pair (Kd.sl KI) Kd.unit)) p4])), (ek 500003, some (.row KSe 78 p5)), (ek 500004, some (.row KSe 78 p6))]) (s6 : Bool → Int → Int → Int → (List (List It × Unit)) → (List (List It × Unit)) → List Se → List Se → Int → Int → List Int → Int → List Int → Int → List (List Int) → ByteArray → Option (List (List It × Unit) × List Se × Bool × Bool)) (hs6 : ∀ (p1 : Bool) (p2 : Int) (p3 : Int) (p4 : Int) (p5 : List (List It × Unit)) (p6 : List (List It × Unit)) (p7 : List Se) (p8 : List Se) (p9 : Int) (p10 : Int) (p11 : List Int) (p12 : Int) (p13 : List Int) (p14 : Int) (p15 : List (List Int)) (p16 : ByteArray) (r : List (List It × Unit) × List Se × Bool × Bool), s6 p1 p2 p3 p4 p5 p6 p7 p8 p9 p10 p11 p12 p13 p14 p15 p16 = some r → Abs.Good P 39 Tryd.f39.ntmps [] [] (.t [.p (Kd.arr 2 (Kd.pair (Kd.sl KI) Kd.unit)) r.1, .p (Kd.sl KSe) r.2.1, .p Kd.bool r.2.2.1, .p Kd.bool r.2.2.2]) (pos Tryd.f39 [.r, .r, .r, .r, .r, .r, .c true, .r, .r, .c false, .r, .r, .r, .r, .r, .c false, .r, .r, .c false, .r]) [(sk 2, some (.v (.nilsl))), (sk 3, some (.v (.p Kd.bool p1))), (sk 8, some (.v (.ptr 506001 0))), (sk 12, some (.v (.ptr 506002 0))), (sk 13, some (.v (.row 506003 (List.length p7)))), (sk 14, some (.v (.row 506005 (List.length p8)))), (sk 15, some (.v (.p (Kd.int .i64) p2))), (sk 18, some (.v (.ptr 506004 0))), (sk 19, some (.v (.p (Kd.int .i64) p3))), (sk 20, some (.v (.p (Kd.int .i64) p4))), (ek 506001, some (.box [.p (Kd.arr 2 (Kd.pair (Kd.sl KI) Kd.unit)) p5])), (ek 506002, some (.box [.p (Kd.arr 2 (Kd.pair (Kd.sl KI) Kd.unit)) p6])), (ek 506003, some (.row KSe 78 p7)), (ek 506005, some (.row KSe 78 p8)), (ek 506004, some (.box [.p (Kd.int .i64) p9, .p (Kd.int .i64) p10, .p (Kd.arr 16 (Kd.int .u8)) p11, .p (Kd.int .i64) p12, .p (Kd.arr 16 (Kd.int .u8)) p13, .p (Kd.int .i64) p14, .p (Kd.sl (Kd.arr 16 (Kd.int .u8))) p15, .p Kd.str p16]))]) (s8 : Bool → Int → Int → Int → List Pt → Int → (List (List It × Unit)) → (List (List It × Unit)) → List Se → List Se → Int → Int → List Int → Int → List Int → Int → List (List Int) → ByteArray → Option (List (List It × Unit) × List Se × Bool × Bool)) (hs8 : ∀ (p1 : Bool) (p2 : Int) (p3 : Int) (p4 : Int) (p5 : List Pt) (p6 : Int) (p7 : List (List It × Unit)) (p8 : List (List It × Unit)) (p9 : List Se) (p10 : List Se) (p11 : Int) (p12 : Int) (p13 : List Int) (p14 : Int) (p15 : List Int) (p16 : Int) (p17 : List (List Int)) (p18 : ByteArray) (r : List (List It × Unit) × List Se × Bool × Bool), s8 p1 p2 p3 p4 p5 p6 p7 p8 p9 p10 p11 p12 p13 p14 p15 p16 p17 p18 = some r → Abs.Good P 39 Tryd.f39.ntmps [] [] (.t [.p (Kd.arr 2 (Kd.pair (Kd.sl KI) Kd.unit)) r.1, .p (Kd.sl KSe) r.2.1, .p Kd.bool r.2.2.1, .p Kd.bool r.2.2.2]) (pos Tryd.f39 [.r, .r, .r, .r, .r, .r, .c true, .r, .r, .c false, .r, .r, .r, .r, .r, .c false, .r, .r, .c false, .r, .r, .c true, .r, .r, .c false, .r, .r]) [(sk 2, some (.v (.nilsl))), (sk 3, some (.v (.p Kd.bool p1))), (sk 8, some (.v (.ptr 508001 0))), (sk 12, some (.v (.ptr 508002 0))), (sk 13, some (.v (.row 508003 (List.length p9)))), (sk 14, some (.v (.row 508005 (List.length p10)))), (sk 15, some (.v (.p (Kd.int .i64) p2))), (sk 18, some (.v (.ptr 508004 0))), (sk 19, some (.v (.p (Kd.int .i64) p3))), (sk 20, some (.v (.p (Kd.int .i64) p4))), (sk 22, some (.v (.p (Kd.sl KP) p5))), (sk 24, some (.v (.p (Kd.int .i64) p6))), (ek 508001, some (.box [.p (Kd.arr 2 (Kd.pair (Kd.sl KI) Kd.unit)) p7])), (ek 508002, some (.box [.p (Kd.arr 2 (Kd.pair (Kd.sl KI) Kd.unit)) p8])), (ek 508003, some (.row KSe 78 p9)), (ek 508005, some (.row KSe 78 p10)), (ek 508004, some (.box [.p (Kd.int .i64) p11, .p (Kd.int .i64) p12, .p (Kd.arr 16 (Kd.int .u8)) p13, .p (Kd.int .i64) p14, .p (Kd.arr 16 (Kd.int .u8)) p15, .p (Kd.int .i64) p16, .p (Kd.sl (Kd.arr 16 (Kd.int .u8))) p17, .p Kd.str p18]))]) (k : Nat) (p1 : Bool) (p2 : Int) (p3 : Int) (p4 : Int) (p5 : List Pt) (p6 : Int) (p7 : List (List It × Unit)) (p8 : List (List It × Unit)) (p9 : List Se) (p10 : List Se) (p11 : Int) (p12 : Int) (p13 : List Int) (p14 : Int) (p15 : List Int) (p16 : Int) (p17 : List (List Int)) (p18 : ByteArray) (r : List (List It × Unit) × List Se × Bool × Bool) (h : antiquarylaw44_run_l9 s0 s6 s8 k p1 p2 p3 p4 p5 p6 p7 p8 p9 p10 p11 p12 p13 p14 p15 p16 p17 p18 = some r) :
    Abs.Good P 39 Tryd.f39.ntmps [] [] (.t [.p (Kd.arr 2 (Kd.pair (Kd.sl KI) Kd.unit)) r.1, .p (Kd.sl KSe) r.2.1, .p Kd.bool r.2.2.1, .p Kd.bool r.2.2.2]) (pos Tryd.f39 [.r, .r, .r, .r, .r, .r, .c true, .r, .r, .c false, .r, .r, .r, .r, .r, .c false, .r, .r, .c false, .r, .r, .c true, .r, .r, .c false, .r, .r, .r, .c true, .r, .r, .c false]) [(sk 2, some (.v (.nilsl))), (sk 3, some (.v (.p Kd.bool p1))), (sk 8, some (.v (.ptr 509001 0))), (sk 12, some (.v (.ptr 509002 0))), (sk 13, some (.v (.row 509003 (List.length p9)))), (sk 14, some (.v (.row 509004 (List.length p10)))), (sk 15, some (.v (.p (Kd.int .i64) p2))), (sk 18, some (.v (.ptr 509005 0))), (sk 19, some (.v (.p (Kd.int .i64) p3))), (sk 20, some (.v (.p (Kd.int .i64) p4))), (sk 22, some (.v (.p (Kd.sl KP) p5))), (sk 24, some (.v (.p (Kd.int .i64) p6))), (ek 509001, some (.box [.p (Kd.arr 2 (Kd.pair (Kd.sl KI) Kd.unit)) p7])), (ek 509002, some (.box [.p (Kd.arr 2 (Kd.pair (Kd.sl KI) Kd.unit)) p8])), (ek 509003, some (.row KSe 78 p9)), (ek 509004, some (.row KSe 78 p10)), (ek 509005, some (.box [.p (Kd.int .i64) p11, .p (Kd.int .i64) p12, .p (Kd.arr 16 (Kd.int .u8)) p13, .p (Kd.int .i64) p14, .p (Kd.arr 16 (Kd.int .u8)) p15, .p (Kd.int .i64) p16, .p (Kd.sl (Kd.arr 16 (Kd.int .u8))) p17, .p Kd.str p18]))] := by
  unfold antiquarylaw44_run_l9 at h
  exact Abs.Good.path hm [.reg [], .keep [sk 2, sk 3, sk 8, sk 12, sk 13, sk 14, sk 15, sk 18, sk 19, sk 20, sk 22, sk 24, ek 509001, ek 509002, ek 509003, ek 509004, ek 509005], .ren [(509001, 508001), (509002, 508002), (509003, 508003), (509004, 508005), (509005, 508004)]] (cs := []) (by kernel_rfl) trivial (hs8 p1 p2 p3 p4 p5 (IntKind.i64.wrap (p6 + (1 : Int))) p7 p8 p9 p10 p11 p12 p13 p14 p15 p16 p17 p18 r h)
theorem antiquarylaw44_run_l8_ok (s0 : Bool → Int → (List (List It × Unit)) → (List (List It × Unit)) → List Se → List Se → Option (List (List It × Unit) × List Se × Bool × Bool)) (hs0 : ∀ (p1 : Bool) (p2 : Int) (p3 : List (List It × Unit)) (p4 : List (List It × Unit)) (p5 : List Se) (p6 : List Se) (r : List (List It × Unit) × List Se × Bool × Bool), s0 p1 p2 p3 p4 p5 p6 = some r → Abs.Good P 39 Tryd.f39.ntmps [] [] (.t [.p (Kd.arr 2 (Kd.pair (Kd.sl KI) Kd.unit)) r.1, .p (Kd.sl KSe) r.2.1, .p Kd.bool r.2.2.1, .p Kd.bool r.2.2.2]) (pos Tryd.f39 [.r, .r, .r, .r, .r]) [(sk 2, some (.v (.nilsl))), (sk 3, some (.v (.p Kd.bool p1))), (sk 8, some (.v (.ptr 500001 0))), (sk 12, some (.v (.ptr 500002 0))), (sk 13, some (.v (.row 500003 (List.length p5)))), (sk 14, some (.v (.row 500004 (List.length p6)))), (sk 15, some (.v (.p (Kd.int .i64) p2))), (ek 500001, some (.box [.p (Kd.arr 2 (Kd.pair (Kd.sl KI) Kd.unit)) p3])), (ek 500002, some (.box [.p (Kd.arr 2 (Kd.pair (Kd.sl KI) Kd.unit)) p4])), (ek 500003, some (.row KSe 78 p5)), (ek 500004, some (.row KSe 78 p6))]) (s6 : Bool → Int → Int → Int → (List (List It × Unit)) → (List (List It × Unit)) → List Se → List Se → Int → Int → List Int → Int → List Int → Int → List (List Int) → ByteArray → Option (List (List It × Unit) × List Se × Bool × Bool)) (hs6 : ∀ (p1 : Bool) (p2 : Int) (p3 : Int) (p4 : Int) (p5 : List (List It × Unit)) (p6 : List (List It × Unit)) (p7 : List Se) (p8 : List Se) (p9 : Int) (p10 : Int) (p11 : List Int) (p12 : Int) (p13 : List Int) (p14 : Int) (p15 : List (List Int)) (p16 : ByteArray) (r : List (List It × Unit) × List Se × Bool × Bool), s6 p1 p2 p3 p4 p5 p6 p7 p8 p9 p10 p11 p12 p13 p14 p15 p16 = some r → Abs.Good P 39 Tryd.f39.ntmps [] [] (.t [.p (Kd.arr 2 (Kd.pair (Kd.sl KI) Kd.unit)) r.1, .p (Kd.sl KSe) r.2.1, .p Kd.bool r.2.2.1, .p Kd.bool r.2.2.2]) (pos Tryd.f39 [.r, .r, .r, .r, .r, .r, .c true, .r, .r, .c false, .r, .r, .r, .r, .r, .c false, .r, .r, .c false, .r]) [(sk 2, some (.v (.nilsl))), (sk 3, some (.v (.p Kd.bool p1))), (sk 8, some (.v (.ptr 506001 0))), (sk 12, some (.v (.ptr 506002 0))), (sk 13, some (.v (.row 506003 (List.length p7)))), (sk 14, some (.v (.row 506005 (List.length p8)))), (sk 15, some (.v (.p (Kd.int .i64) p2))), (sk 18, some (.v (.ptr 506004 0))), (sk 19, some (.v (.p (Kd.int .i64) p3))), (sk 20, some (.v (.p (Kd.int .i64) p4))), (ek 506001, some (.box [.p (Kd.arr 2 (Kd.pair (Kd.sl KI) Kd.unit)) p5])), (ek 506002, some (.box [.p (Kd.arr 2 (Kd.pair (Kd.sl KI) Kd.unit)) p6])), (ek 506003, some (.row KSe 78 p7)), (ek 506005, some (.row KSe 78 p8)), (ek 506004, some (.box [.p (Kd.int .i64) p9, .p (Kd.int .i64) p10, .p (Kd.arr 16 (Kd.int .u8)) p11, .p (Kd.int .i64) p12, .p (Kd.arr 16 (Kd.int .u8)) p13, .p (Kd.int .i64) p14, .p (Kd.sl (Kd.arr 16 (Kd.int .u8))) p15, .p Kd.str p16]))]) (k : Nat) : ∀ (p1 : Bool) (p2 : Int) (p3 : Int) (p4 : Int) (p5 : List Pt) (p6 : Int) (p7 : List (List It × Unit)) (p8 : List (List It × Unit)) (p9 : List Se) (p10 : List Se) (p11 : Int) (p12 : Int) (p13 : List Int) (p14 : Int) (p15 : List Int) (p16 : Int) (p17 : List (List Int)) (p18 : ByteArray) (r : List (List It × Unit) × List Se × Bool × Bool), antiquarylaw44_run_l8 s0 s6 k p1 p2 p3 p4 p5 p6 p7 p8 p9 p10 p11 p12 p13 p14 p15 p16 p17 p18 = some r →
    Abs.Good P 39 Tryd.f39.ntmps [] [] (.t [.p (Kd.arr 2 (Kd.pair (Kd.sl KI) Kd.unit)) r.1, .p (Kd.sl KSe) r.2.1, .p Kd.bool r.2.2.1, .p Kd.bool r.2.2.2]) (pos Tryd.f39 [.r, .r, .r, .r, .r, .r, .c true, .r, .r, .c false, .r, .r, .r, .r, .r, .c false, .r, .r, .c false, .r, .r, .c true, .r, .r, .c false, .r, .r]) [(sk 2, some (.v (.nilsl))), (sk 3, some (.v (.p Kd.bool p1))), (sk 8, some (.v (.ptr 508001 0))), (sk 12, some (.v (.ptr 508002 0))), (sk 13, some (.v (.row 508003 (List.length p9)))), (sk 14, some (.v (.row 508005 (List.length p10)))), (sk 15, some (.v (.p (Kd.int .i64) p2))), (sk 18, some (.v (.ptr 508004 0))), (sk 19, some (.v (.p (Kd.int .i64) p3))), (sk 20, some (.v (.p (Kd.int .i64) p4))), (sk 22, some (.v (.p (Kd.sl KP) p5))), (sk 24, some (.v (.p (Kd.int .i64) p6))), (ek 508001, some (.box [.p (Kd.arr 2 (Kd.pair (Kd.sl KI) Kd.unit)) p7])), (ek 508002, some (.box [.p (Kd.arr 2 (Kd.pair (Kd.sl KI) Kd.unit)) p8])), (ek 508003, some (.row KSe 78 p9)), (ek 508005, some (.row KSe 78 p10)), (ek 508004, some (.box [.p (Kd.int .i64) p11, .p (Kd.int .i64) p12, .p (Kd.arr 16 (Kd.int .u8)) p13, .p (Kd.int .i64) p14, .p (Kd.arr 16 (Kd.int .u8)) p15, .p (Kd.int .i64) p16, .p (Kd.sl (Kd.arr 16 (Kd.int .u8))) p17, .p Kd.str p18]))] := by
  induction k with
  | zero => intro p1 p2 p3 p4 p5 p6 p7 p8 p9 p10 p11 p12 p13 p14 p15 p16 p17 p18 r h; cases h
  | succ k ih =>
    intro p1 p2 p3 p4 p5 p6 p7 p8 p9 p10 p11 p12 p13 p14 p15 p16 p17 p18 r h
    unfold antiquarylaw44_run_l8 at h
    rcases br_inv h with ⟨h1179, h⟩ | ⟨h1179, h⟩
    · obtain ⟨h1180, h⟩ := gd_inv h
      obtain ⟨h1181, h⟩ := gd_inv h
      rcases br_inv h with ⟨h1182, h⟩ | ⟨h1182, h⟩
      · obtain ⟨h1183, h⟩ := gd_inv h
        exact Abs.Good.path hm [.reg [], .cond true, .reg [], .reg [], .cond true, .reg [], .keep [sk 2, sk 3, sk 8, sk 12, sk 13, sk 14, sk 15, sk 18, sk 19, sk 20, sk 22, sk 24, ek 508001, ek 508002, ek 132, ek 149, ek 508004], .ren [(508001, 509001), (508002, 509002), (132, 509003), (149, 509004), (508004, 509005)]] (cs := [_, _, _, _, _, _, _, _, _, _, _, _, _, _]) (by kernel_rfl) ⟨h1179, h1180.1, h1180.2, (rfl : (List.length p9) = List.length p9), (appBound (P := P) (et := 78) (b := 104) (by kernel_rfl) (by decide) h1181), (rfl : 1 = List.length ([((IntKind.i64.wrap ((1 : Int) - p11)), (((List.getD p5 (Int.toNat p6) (Kd.dflt KP)).1, (((((List.getD p5 (Int.toNat p6) (Kd.dflt KP)).2).1).1, (((((List.getD p5 (Int.toNat p6) (Kd.dflt KP)).2).1).2).1, ())), ((((List.getD p5 (Int.toNat p6) (Kd.dflt KP)).2).2).1, (((((List.getD p5 (Int.toNat p6) (Kd.dflt KP)).2).2).2).1, ((((((List.getD p5 (Int.toNat p6) (Kd.dflt KP)).2).2).2).2).1, (((((((List.getD p5 (Int.toNat p6) (Kd.dflt KP)).2).2).2).2).2).1, ())))))), ()))] : List Se)), h1180.1, h1180.2, h1182, h1180.1, h1180.2, (rfl : (List.length p10) = List.length p10), (appBound (P := P) (et := 78) (b := 104) (by kernel_rfl) (by decide) h1183), (rfl : 1 = List.length ([((IntKind.i64.wrap ((1 : Int) - p11)), (((List.getD p5 (Int.toNat p6) (Kd.dflt KP)).1, (((((List.getD p5 (Int.toNat p6) (Kd.dflt KP)).2).1).1, (((((List.getD p5 (Int.toNat p6) (Kd.dflt KP)).2).1).2).1, ())), ((((List.getD p5 (Int.toNat p6) (Kd.dflt KP)).2).2).1, (((((List.getD p5 (Int.toNat p6) (Kd.dflt KP)).2).2).2).1, ((((((List.getD p5 (Int.toNat p6) (Kd.dflt KP)).2).2).2).2).1, (((((((List.getD p5 (Int.toNat p6) (Kd.dflt KP)).2).2).2).2).2).1, ())))))), ()))] : List Se)), trivial⟩ (antiquarylaw44_run_l9_ok s0 hs0 s6 hs6 (antiquarylaw44_run_l8 s0 s6 k) ih k p1 p2 p3 p4 p5 p6 p7 p8 (p9 ++ ([((IntKind.i64.wrap ((1 : Int) - p11)), (((List.getD p5 (Int.toNat p6) (Kd.dflt KP)).1, (((((List.getD p5 (Int.toNat p6) (Kd.dflt KP)).2).1).1, (((((List.getD p5 (Int.toNat p6) (Kd.dflt KP)).2).1).2).1, ())), ((((List.getD p5 (Int.toNat p6) (Kd.dflt KP)).2).2).1, (((((List.getD p5 (Int.toNat p6) (Kd.dflt KP)).2).2).2).1, ((((((List.getD p5 (Int.toNat p6) (Kd.dflt KP)).2).2).2).2).1, (((((((List.getD p5 (Int.toNat p6) (Kd.dflt KP)).2).2).2).2).2).1, ())))))), ()))] : List Se)) (p10 ++ ([((IntKind.i64.wrap ((1 : Int) - p11)), (((List.getD p5 (Int.toNat p6) (Kd.dflt KP)).1, (((((List.getD p5 (Int.toNat p6) (Kd.dflt KP)).2).1).1, (((((List.getD p5 (Int.toNat p6) (Kd.dflt KP)).2).1).2).1, ())), ((((List.getD p5 (Int.toNat p6) (Kd.dflt KP)).2).2).1, (((((List.getD p5 (Int.toNat p6) (Kd.dflt KP)).2).2).2).1, ((((((List.getD p5 (Int.toNat p6) (Kd.dflt KP)).2).2).2).2).1, (((((((List.getD p5 (Int.toNat p6) (Kd.dflt KP)).2).2).2).2).2).1, ())))))), ()))] : List Se)) p11 p12 p13 p14 p15 p16 p17 p18 r h)
      · exact Abs.Good.path hm [.reg [], .cond true, .reg [], .reg [], .cond false, .keep [sk 2, sk 3, sk 8, sk 12, sk 13, sk 14, sk 15, sk 18, sk 19, sk 20, sk 22, sk 24, ek 508001, ek 508002, ek 132, ek 508005, ek 508004], .ren [(508001, 509001), (508002, 509002), (132, 509003), (508005, 509004), (508004, 509005)]] (cs := [_, _, _, _, _, _, _, _, _]) (by kernel_rfl) ⟨h1179, h1180.1, h1180.2, (rfl : (List.length p9) = List.length p9), (appBound (P := P) (et := 78) (b := 104) (by kernel_rfl) (by decide) h1181), (rfl : 1 = List.length ([((IntKind.i64.wrap ((1 : Int) - p11)), (((List.getD p5 (Int.toNat p6) (Kd.dflt KP)).1, (((((List.getD p5 (Int.toNat p6) (Kd.dflt KP)).2).1).1, (((((List.getD p5 (Int.toNat p6) (Kd.dflt KP)).2).1).2).1, ())), ((((List.getD p5 (Int.toNat p6) (Kd.dflt KP)).2).2).1, (((((List.getD p5 (Int.toNat p6) (Kd.dflt KP)).2).2).2).1, ((((((List.getD p5 (Int.toNat p6) (Kd.dflt KP)).2).2).2).2).1, (((((((List.getD p5 (Int.toNat p6) (Kd.dflt KP)).2).2).2).2).2).1, ())))))), ()))] : List Se)), h1180.1, h1180.2, h1182, trivial⟩ (antiquarylaw44_run_l9_ok s0 hs0 s6 hs6 (antiquarylaw44_run_l8 s0 s6 k) ih k p1 p2 p3 p4 p5 p6 p7 p8 (p9 ++ ([((IntKind.i64.wrap ((1 : Int) - p11)), (((List.getD p5 (Int.toNat p6) (Kd.dflt KP)).1, (((((List.getD p5 (Int.toNat p6) (Kd.dflt KP)).2).1).1, (((((List.getD p5 (Int.toNat p6) (Kd.dflt KP)).2).1).2).1, ())), ((((List.getD p5 (Int.toNat p6) (Kd.dflt KP)).2).2).1, (((((List.getD p5 (Int.toNat p6) (Kd.dflt KP)).2).2).2).1, ((((((List.getD p5 (Int.toNat p6) (Kd.dflt KP)).2).2).2).2).1, (((((((List.getD p5 (Int.toNat p6) (Kd.dflt KP)).2).2).2).2).2).1, ())))))), ()))] : List Se)) p10 p11 p12 p13 p14 p15 p16 p17 p18 r h)
    · exact Abs.Good.path hm [.reg [], .cond false, .reg [], .keep [sk 2, sk 3, sk 8, sk 12, sk 13, sk 14, sk 15, sk 18, sk 19, sk 20, ek 508001, ek 508002, ek 508003, ek 508005, ek 508004], .ren [(508001, 506001), (508002, 506002), (508003, 506003), (508005, 506005), (508004, 506004)]] (cs := [_]) (by kernel_rfl) ⟨h1179, trivial⟩ (hs6 p1 p2 p3 (IntKind.i64.wrap (p4 + (1 : Int))) p7 p8 p9 p10 p11 p12 p13 p14 p15 p16 p17 p18 r h)
theorem antiquarylaw44_run_l7_ok (s0 : Bool → Int → (List (List It × Unit)) → (List (List It × Unit)) → List Se → List Se → Option (List (List It × Unit) × List Se × Bool × Bool)) (hs0 : ∀ (p1 : Bool) (p2 : Int) (p3 : List (List It × Unit)) (p4 : List (List It × Unit)) (p5 : List Se) (p6 : List Se) (r : List (List It × Unit) × List Se × Bool × Bool), s0 p1 p2 p3 p4 p5 p6 = some r → Abs.Good P 39 Tryd.f39.ntmps [] [] (.t [.p (Kd.arr 2 (Kd.pair (Kd.sl KI) Kd.unit)) r.1, .p (Kd.sl KSe) r.2.1, .p Kd.bool r.2.2.1, .p Kd.bool r.2.2.2]) (pos Tryd.f39 [.r, .r, .r, .r, .r]) [(sk 2, some (.v (.nilsl))), (sk 3, some (.v (.p Kd.bool p1))), (sk 8, some (.v (.ptr 500001 0))), (sk 12, some (.v (.ptr 500002 0))), (sk 13, some (.v (.row 500003 (List.length p5)))), (sk 14, some (.v (.row 500004 (List.length p6)))), (sk 15, some (.v (.p (Kd.int .i64) p2))), (ek 500001, some (.box [.p (Kd.arr 2 (Kd.pair (Kd.sl KI) Kd.unit)) p3])), (ek 500002, some (.box [.p (Kd.arr 2 (Kd.pair (Kd.sl KI) Kd.unit)) p4])), (ek 500003, some (.row KSe 78 p5)), (ek 500004, some (.row KSe 78 p6))]) (s6 : Bool → Int → Int → Int → (List (List It × Unit)) → (List (List It × Unit)) → List Se → List Se → Int → Int → List Int → Int → List Int → Int → List (List Int) → ByteArray → Option (List (List It × Unit) × List Se × Bool × Bool)) (hs6 : ∀ (p1 : Bool) (p2 : Int) (p3 : Int) (p4 : Int) (p5 : List (List It × Unit)) (p6 : List (List It × Unit)) (p7 : List Se) (p8 : List Se) (p9 : Int) (p10 : Int) (p11 : List Int) (p12 : Int) (p13 : List Int) (p14 : Int) (p15 : List (List Int)) (p16 : ByteArray) (r : List (List It × Unit) × List Se × Bool × Bool), s6 p1 p2 p3 p4 p5 p6 p7 p8 p9 p10 p11 p12 p13 p14 p15 p16 = some r → Abs.Good P 39 Tryd.f39.ntmps [] [] (.t [.p (Kd.arr 2 (Kd.pair (Kd.sl KI) Kd.unit)) r.1, .p (Kd.sl KSe) r.2.1, .p Kd.bool r.2.2.1, .p Kd.bool r.2.2.2]) (pos Tryd.f39 [.r, .r, .r, .r, .r, .r, .c true, .r, .r, .c false, .r, .r, .r, .r, .r, .c false, .r, .r, .c false, .r]) [(sk 2, some (.v (.nilsl))), (sk 3, some (.v (.p Kd.bool p1))), (sk 8, some (.v (.ptr 506001 0))), (sk 12, some (.v (.ptr 506002 0))), (sk 13, some (.v (.row 506003 (List.length p7)))), (sk 14, some (.v (.row 506005 (List.length p8)))), (sk 15, some (.v (.p (Kd.int .i64) p2))), (sk 18, some (.v (.ptr 506004 0))), (sk 19, some (.v (.p (Kd.int .i64) p3))), (sk 20, some (.v (.p (Kd.int .i64) p4))), (ek 506001, some (.box [.p (Kd.arr 2 (Kd.pair (Kd.sl KI) Kd.unit)) p5])), (ek 506002, some (.box [.p (Kd.arr 2 (Kd.pair (Kd.sl KI) Kd.unit)) p6])), (ek 506003, some (.row KSe 78 p7)), (ek 506005, some (.row KSe 78 p8)), (ek 506004, some (.box [.p (Kd.int .i64) p9, .p (Kd.int .i64) p10, .p (Kd.arr 16 (Kd.int .u8)) p11, .p (Kd.int .i64) p12, .p (Kd.arr 16 (Kd.int .u8)) p13, .p (Kd.int .i64) p14, .p (Kd.sl (Kd.arr 16 (Kd.int .u8))) p15, .p Kd.str p16]))]) (k : Nat) (p1 : Bool) (p2 : Int) (p3 : Int) (p4 : Int) (p5 : List Pt) (p6 : Bool) (p7 : List (List It × Unit)) (p8 : List (List It × Unit)) (p9 : List Se) (p10 : List Se) (p11 : Int) (p12 : Int) (p13 : List Int) (p14 : Int) (p15 : List Int) (p16 : Int) (p17 : List (List Int)) (p18 : ByteArray) (p19 : List It) (r : List (List It × Unit) × List Se × Bool × Bool) (h : antiquarylaw44_run_l7 s0 s6 k p1 p2 p3 p4 p5 p6 p7 p8 p9 p10 p11 p12 p13 p14 p15 p16 p17 p18 p19 = some r) :
    Abs.Good P 39 Tryd.f39.ntmps [] [] (.t [.p (Kd.arr 2 (Kd.pair (Kd.sl KI) Kd.unit)) r.1, .p (Kd.sl KSe) r.2.1, .p Kd.bool r.2.2.1, .p Kd.bool r.2.2.2]) (pos Tryd.f39 [.r, .r, .r, .r, .r, .r, .c true, .r, .r, .c false, .r, .r, .r, .r, .r, .c false, .r, .r, .c false, .r, .r, .c true, .r, .r]) [(sk 2, some (.v (.nilsl))), (sk 3, some (.v (.p Kd.bool p1))), (sk 8, some (.v (.ptr 507001 0))), (sk 12, some (.v (.ptr 507002 0))), (sk 13, some (.v (.row 507003 (List.length p9)))), (sk 14, some (.v (.row 507006 (List.length p10)))), (sk 15, some (.v (.p (Kd.int .i64) p2))), (sk 18, some (.v (.ptr 507004 0))), (sk 19, some (.v (.p (Kd.int .i64) p3))), (sk 20, some (.v (.p (Kd.int .i64) p4))), (sk 21, some (.v (.ptr 507005 0))), (sk 22, some (.v (.p (Kd.sl KP) p5))), (sk 109, some (.v (.p Kd.bool p6))), (ek 507001, some (.box [.p (Kd.arr 2 (Kd.pair (Kd.sl KI) Kd.unit)) p7])), (ek 507002, some (.box [.p (Kd.arr 2 (Kd.pair (Kd.sl KI) Kd.unit)) p8])), (ek 507003, some (.row KSe 78 p9)), (ek 507006, some (.row KSe 78 p10)), (ek 507004, some (.box [.p (Kd.int .i64) p11, .p (Kd.int .i64) p12, .p (Kd.arr 16 (Kd.int .u8)) p13, .p (Kd.int .i64) p14, .p (Kd.arr 16 (Kd.int .u8)) p15, .p (Kd.int .i64) p16, .p (Kd.sl (Kd.arr 16 (Kd.int .u8))) p17, .p Kd.str p18])), (ek 507005, some (.box [.p (Kd.sl KI) p19]))] := by
  unfold antiquarylaw44_run_l7 at h
  rcases br_inv h with ⟨h1177, h⟩ | ⟨h1177, h⟩
  · replace h := Option.some.inj h; subst h
    exact Abs.Good.path_ret hm [.cond true, .reg []] [507006] Tryd.func39 (cs := [_, _]) (by kernel_rfl) ⟨h1177, (rfl : (List.length p10) = List.length p10), trivial⟩ (by kernel_rfl)
  · obtain ⟨h1178, h⟩ := gd_inv h
    exact Abs.Good.path hm [.cond false, .reg [], .reg [], .keep [sk 2, sk 3, sk 8, sk 12, sk 13, sk 14, sk 15, sk 18, sk 19, sk 20, sk 22, sk 24, ek 507001, ek 507002, ek 507003, ek 507006, ek 507004], .ren [(507001, 508001), (507002, 508002), (507003, 508003), (507006, 508005), (507004, 508004)]] (cs := [_, _, _]) (by kernel_rfl) ⟨h1177, h1178.1, h1178.2, trivial⟩ (antiquarylaw44_run_l8_ok s0 hs0 s6 hs6 k p1 p2 p3 p4 p5 (0 : Int) p7 (List.set p8 (Int.toNat p11) (p19, ())) p9 p10 p11 p12 p13 p14 p15 p16 p17 p18 r h)
theorem antiquarylaw44_run_l6_ok (s0 : Bool → Int → (List (List It × Unit)) → (List (List It × Unit)) → List Se → List Se → Option (List (List It × Unit) × List Se × Bool × Bool)) (hs0 : ∀ (p1 : Bool) (p2 : Int) (p3 : List (List It × Unit)) (p4 : List (List It × Unit)) (p5 : List Se) (p6 : List Se) (r : List (List It × Unit) × List Se × Bool × Bool), s0 p1 p2 p3 p4 p5 p6 = some r → Abs.Good P 39 Tryd.f39.ntmps [] [] (.t [.p (Kd.arr 2 (Kd.pair (Kd.sl KI) Kd.unit)) r.1, .p (Kd.sl KSe) r.2.1, .p Kd.bool r.2.2.1, .p Kd.bool r.2.2.2]) (pos Tryd.f39 [.r, .r, .r, .r, .r]) [(sk 2, some (.v (.nilsl))), (sk 3, some (.v (.p Kd.bool p1))), (sk 8, some (.v (.ptr 500001 0))), (sk 12, some (.v (.ptr 500002 0))), (sk 13, some (.v (.row 500003 (List.length p5)))), (sk 14, some (.v (.row 500004 (List.length p6)))), (sk 15, some (.v (.p (Kd.int .i64) p2))), (ek 500001, some (.box [.p (Kd.arr 2 (Kd.pair (Kd.sl KI) Kd.unit)) p3])), (ek 500002, some (.box [.p (Kd.arr 2 (Kd.pair (Kd.sl KI) Kd.unit)) p4])), (ek 500003, some (.row KSe 78 p5)), (ek 500004, some (.row KSe 78 p6))]) (k : Nat) : ∀ (p1 : Bool) (p2 : Int) (p3 : Int) (p4 : Int) (p5 : List (List It × Unit)) (p6 : List (List It × Unit)) (p7 : List Se) (p8 : List Se) (p9 : Int) (p10 : Int) (p11 : List Int) (p12 : Int) (p13 : List Int) (p14 : Int) (p15 : List (List Int)) (p16 : ByteArray) (r : List (List It × Unit) × List Se × Bool × Bool), antiquarylaw44_run_l6 s0 k p1 p2 p3 p4 p5 p6 p7 p8 p9 p10 p11 p12 p13 p14 p15 p16 = some r →
    Abs.Good P 39 Tryd.f39.ntmps [] [] (.t [.p (Kd.arr 2 (Kd.pair (Kd.sl KI) Kd.unit)) r.1, .p (Kd.sl KSe) r.2.1, .p Kd.bool r.2.2.1, .p Kd.bool r.2.2.2]) (pos Tryd.f39 [.r, .r, .r, .r, .r, .r, .c true, .r, .r, .c false, .r, .r, .r, .r, .r, .c false, .r, .r, .c false, .r]) [(sk 2, some (.v (.nilsl))), (sk 3, some (.v (.p Kd.bool p1))), (sk 8, some (.v (.ptr 506001 0))), (sk 12, some (.v (.ptr 506002 0))), (sk 13, some (.v (.row 506003 (List.length p7)))), (sk 14, some (.v (.row 506005 (List.length p8)))), (sk 15, some (.v (.p (Kd.int .i64) p2))), (sk 18, some (.v (.ptr 506004 0))), (sk 19, some (.v (.p (Kd.int .i64) p3))), (sk 20, some (.v (.p (Kd.int .i64) p4))), (ek 506001, some (.box [.p (Kd.arr 2 (Kd.pair (Kd.sl KI) Kd.unit)) p5])), (ek 506002, some (.box [.p (Kd.arr 2 (Kd.pair (Kd.sl KI) Kd.unit)) p6])), (ek 506003, some (.row KSe 78 p7)), (ek 506005, some (.row KSe 78 p8)), (ek 506004, some (.box [.p (Kd.int .i64) p9, .p (Kd.int .i64) p10, .p (Kd.arr 16 (Kd.int .u8)) p11, .p (Kd.int .i64) p12, .p (Kd.arr 16 (Kd.int .u8)) p13, .p (Kd.int .i64) p14, .p (Kd.sl (Kd.arr 16 (Kd.int .u8))) p15, .p Kd.str p16]))] := by
  induction k with
  | zero => intro p1 p2 p3 p4 p5 p6 p7 p8 p9 p10 p11 p12 p13 p14 p15 p16 r h; cases h
  | succ k ih =>
    intro p1 p2 p3 p4 p5 p6 p7 p8 p9 p10 p11 p12 p13 p14 p15 p16 r h
    unfold antiquarylaw44_run_l6 at h
    rcases br_inv h with ⟨h1172, h⟩ | ⟨h1172, h⟩
    · obtain ⟨h1173, h⟩ := gd_inv h
      obtain ⟨x1174, h1175, h⟩ := bind_inv h
      rcases br_inv h with ⟨h1176, h⟩ | ⟨h1176, h⟩
      · exact Abs.Good.path hm [.reg [], .cond true, .reg [(6, { call := some { lend := [], pass := [], res := .t [.agg [.p (Kd.sl KI) x1174.1], .p (Kd.sl KP) x1174.2.1, .p (Kd.int .i64) x1174.2.2], outs := [], back := [] } })], .reg [(3, { dec := some true }), (4, { dec := some true }), (5, { pick := some true })], .keep [sk 2, sk 3, sk 8, sk 12, sk 13, sk 14, sk 15, sk 18, sk 19, sk 20, sk 21, sk 22, sk 109, ek 506001, ek 506002, ek 506003, ek 506005, ek 506004, ek 21], .ren [(506001, 507001), (506002, 507002), (506003, 507003), (506005, 507006), (506004, 507004), (21, 507005)]] (cs := [_, _, _, _, _, _, _]) (by kernel_rfl) ⟨h1172, h1173.1, h1173.2, (exchange_Hear_ok k ((List.getD p6 (Int.toNat p9) (Kd.dflt (Kd.pair (Kd.sl KI) Kd.unit))).1) p10 p11 p12 p13 p14 p15 p16 _ h1175), h1176, h1176, h1176, trivial⟩ (antiquarylaw44_run_l7_ok s0 hs0 (antiquarylaw44_run_l6 s0 k) ih k p1 p2 p3 p4 x1174.2.1 (x1174.2.2 != (6 : Int)) p5 p6 p7 p8 p9 p10 p11 p12 p13 p14 p15 p16 x1174.1 r h)
      · exact Abs.Good.path hm [.reg [], .cond true, .reg [(6, { call := some { lend := [], pass := [], res := .t [.agg [.p (Kd.sl KI) x1174.1], .p (Kd.sl KP) x1174.2.1, .p (Kd.int .i64) x1174.2.2], outs := [], back := [] } })], .reg [(3, { dec := some false }), (4, { dec := some false }), (5, { pick := some false })], .keep [sk 2, sk 3, sk 8, sk 12, sk 13, sk 14, sk 15, sk 18, sk 19, sk 20, sk 21, sk 22, sk 109, ek 506001, ek 506002, ek 506003, ek 506005, ek 506004, ek 21], .ren [(506001, 507001), (506002, 507002), (506003, 507003), (506005, 507006), (506004, 507004), (21, 507005)]] (cs := [_, _, _, _, _, _, _]) (by kernel_rfl) ⟨h1172, h1173.1, h1173.2, (exchange_Hear_ok k ((List.getD p6 (Int.toNat p9) (Kd.dflt (Kd.pair (Kd.sl KI) Kd.unit))).1) p10 p11 p12 p13 p14 p15 p16 _ h1175), h1176, h1176, h1176, trivial⟩ (antiquarylaw44_run_l7_ok s0 hs0 (antiquarylaw44_run_l6 s0 k) ih k p1 p2 p3 p4 x1174.2.1 false p5 p6 p7 p8 p9 p10 p11 p12 p13 p14 p15 p16 x1174.1 r h)
    · exact Abs.Good.path hm [.reg [], .cond false, .keep [sk 2, sk 3, sk 8, sk 12, sk 13, sk 14, sk 15, ek 506001, ek 506002, ek 506003, ek 506005], .ren [(506001, 500001), (506002, 500002), (506003, 500003), (506005, 500004)]] (cs := [_]) (by kernel_rfl) ⟨h1172, trivial⟩ (hs0 p1 p2 p5 p6 p7 p8 r h)
theorem antiquarylaw44_run_l5_ok (s0 : Bool → Int → (List (List It × Unit)) → (List (List It × Unit)) → List Se → List Se → Option (List (List It × Unit) × List Se × Bool × Bool)) (hs0 : ∀ (p1 : Bool) (p2 : Int) (p3 : List (List It × Unit)) (p4 : List (List It × Unit)) (p5 : List Se) (p6 : List Se) (r : List (List It × Unit) × List Se × Bool × Bool), s0 p1 p2 p3 p4 p5 p6 = some r → Abs.Good P 39 Tryd.f39.ntmps [] [] (.t [.p (Kd.arr 2 (Kd.pair (Kd.sl KI) Kd.unit)) r.1, .p (Kd.sl KSe) r.2.1, .p Kd.bool r.2.2.1, .p Kd.bool r.2.2.2]) (pos Tryd.f39 [.r, .r, .r, .r, .r]) [(sk 2, some (.v (.nilsl))), (sk 3, some (.v (.p Kd.bool p1))), (sk 8, some (.v (.ptr 500001 0))), (sk 12, some (.v (.ptr 500002 0))), (sk 13, some (.v (.row 500003 (List.length p5)))), (sk 14, some (.v (.row 500004 (List.length p6)))), (sk 15, some (.v (.p (Kd.int .i64) p2))), (ek 500001, some (.box [.p (Kd.arr 2 (Kd.pair (Kd.sl KI) Kd.unit)) p3])), (ek 500002, some (.box [.p (Kd.arr 2 (Kd.pair (Kd.sl KI) Kd.unit)) p4])), (ek 500003, some (.row KSe 78 p5)), (ek 500004, some (.row KSe 78 p6))]) (k : Nat) (p1 : Bool) (p2 : Int) (p3 : Int) (p4 : List (List It × Unit)) (p5 : List (List It × Unit)) (p6 : List Se) (p7 : List Se) (p8 : Int) (p9 : Int) (p10 : List Int) (p11 : Int) (p12 : List Int) (p13 : Int) (p14 : List (List Int)) (p15 : ByteArray) (r : List (List It × Unit) × List Se × Bool × Bool) (h : antiquarylaw44_run_l5 s0 k p1 p2 p3 p4 p5 p6 p7 p8 p9 p10 p11 p12 p13 p14 p15 = some r) :
    Abs.Good P 39 Tryd.f39.ntmps [] [] (.t [.p (Kd.arr 2 (Kd.pair (Kd.sl KI) Kd.unit)) r.1, .p (Kd.sl KSe) r.2.1, .p Kd.bool r.2.2.1, .p Kd.bool r.2.2.2]) (pos Tryd.f39 [.r, .r, .r, .r, .r, .r, .c true, .r, .r, .c false, .r, .r, .r, .r, .r, .c false, .r, .r, .c false]) [(sk 2, some (.v (.nilsl))), (sk 3, some (.v (.p Kd.bool p1))), (sk 8, some (.v (.ptr 505001 0))), (sk 12, some (.v (.ptr 505002 0))), (sk 13, some (.v (.row 505003 (List.length p6)))), (sk 14, some (.v (.row 505005 (List.length p7)))), (sk 15, some (.v (.p (Kd.int .i64) p2))), (sk 18, some (.v (.ptr 505004 0))), (sk 19, some (.v (.p (Kd.int .i64) p3))), (ek 505001, some (.box [.p (Kd.arr 2 (Kd.pair (Kd.sl KI) Kd.unit)) p4])), (ek 505002, some (.box [.p (Kd.arr 2 (Kd.pair (Kd.sl KI) Kd.unit)) p5])), (ek 505003, some (.row KSe 78 p6)), (ek 505005, some (.row KSe 78 p7)), (ek 505004, some (.box [.p (Kd.int .i64) p8, .p (Kd.int .i64) p9, .p (Kd.arr 16 (Kd.int .u8)) p10, .p (Kd.int .i64) p11, .p (Kd.arr 16 (Kd.int .u8)) p12, .p (Kd.int .i64) p13, .p (Kd.sl (Kd.arr 16 (Kd.int .u8))) p14, .p Kd.str p15]))] := by
  unfold antiquarylaw44_run_l5 at h
  exact Abs.Good.path hm [.reg [], .keep [sk 2, sk 3, sk 8, sk 12, sk 13, sk 14, sk 15, sk 18, sk 19, sk 20, ek 505001, ek 505002, ek 505003, ek 505005, ek 505004], .ren [(505001, 506001), (505002, 506002), (505003, 506003), (505005, 506005), (505004, 506004)]] (cs := []) (by kernel_rfl) trivial (antiquarylaw44_run_l6_ok s0 hs0 k p1 p2 p3 (0 : Int) p4 p5 p6 p7 p8 p9 p10 p11 p12 p13 p14 p15 r h)
theorem antiquarylaw44_run_l4_ok (s0 : Bool → Int → (List (List It × Unit)) → (List (List It × Unit)) → List Se → List Se → Option (List (List It × Unit) × List Se × Bool × Bool)) (hs0 : ∀ (p1 : Bool) (p2 : Int) (p3 : List (List It × Unit)) (p4 : List (List It × Unit)) (p5 : List Se) (p6 : List Se) (r : List (List It × Unit) × List Se × Bool × Bool), s0 p1 p2 p3 p4 p5 p6 = some r → Abs.Good P 39 Tryd.f39.ntmps [] [] (.t [.p (Kd.arr 2 (Kd.pair (Kd.sl KI) Kd.unit)) r.1, .p (Kd.sl KSe) r.2.1, .p Kd.bool r.2.2.1, .p Kd.bool r.2.2.2]) (pos Tryd.f39 [.r, .r, .r, .r, .r]) [(sk 2, some (.v (.nilsl))), (sk 3, some (.v (.p Kd.bool p1))), (sk 8, some (.v (.ptr 500001 0))), (sk 12, some (.v (.ptr 500002 0))), (sk 13, some (.v (.row 500003 (List.length p5)))), (sk 14, some (.v (.row 500004 (List.length p6)))), (sk 15, some (.v (.p (Kd.int .i64) p2))), (ek 500001, some (.box [.p (Kd.arr 2 (Kd.pair (Kd.sl KI) Kd.unit)) p3])), (ek 500002, some (.box [.p (Kd.arr 2 (Kd.pair (Kd.sl KI) Kd.unit)) p4])), (ek 500003, some (.row KSe 78 p5)), (ek 500004, some (.row KSe 78 p6))]) (k : Nat) (p1 : Bool) (p2 : Int) (p3 : Int) (p4 : Bool) (p5 : List (List It × Unit)) (p6 : List (List It × Unit)) (p7 : List Se) (p8 : List Se) (p9 : Int) (p10 : Int) (p11 : List Int) (p12 : Int) (p13 : List Int) (p14 : Int) (p15 : List (List Int)) (p16 : ByteArray) (r : List (List It × Unit) × List Se × Bool × Bool) (h : antiquarylaw44_run_l4 s0 k p1 p2 p3 p4 p5 p6 p7 p8 p9 p10 p11 p12 p13 p14 p15 p16 = some r) :
    Abs.Good P 39 Tryd.f39.ntmps [] [] (.t [.p (Kd.arr 2 (Kd.pair (Kd.sl KI) Kd.unit)) r.1, .p (Kd.sl KSe) r.2.1, .p Kd.bool r.2.2.1, .p Kd.bool r.2.2.2]) (pos Tryd.f39 [.r, .r, .r, .r, .r, .r, .c true, .r, .r, .c false, .r, .r, .r, .r, .r, .c false, .r, .r]) [(sk 2, some (.v (.nilsl))), (sk 3, some (.v (.p Kd.bool p1))), (sk 8, some (.v (.ptr 504001 0))), (sk 12, some (.v (.ptr 504002 0))), (sk 13, some (.v (.row 504003 (List.length p7)))), (sk 14, some (.v (.row 504005 (List.length p8)))), (sk 15, some (.v (.p (Kd.int .i64) p2))), (sk 18, some (.v (.ptr 504004 0))), (sk 19, some (.v (.p (Kd.int .i64) p3))), (sk 87, some (.v (.p Kd.bool p4))), (ek 504001, some (.box [.p (Kd.arr 2 (Kd.pair (Kd.sl KI) Kd.unit)) p5])), (ek 504002, some (.box [.p (Kd.arr 2 (Kd.pair (Kd.sl KI) Kd.unit)) p6])), (ek 504003, some (.row KSe 78 p7)), (ek 504005, some (.row KSe 78 p8)), (ek 504004, some (.box [.p (Kd.int .i64) p9, .p (Kd.int .i64) p10, .p (Kd.arr 16 (Kd.int .u8)) p11, .p (Kd.int .i64) p12, .p (Kd.arr 16 (Kd.int .u8)) p13, .p (Kd.int .i64) p14, .p (Kd.sl (Kd.arr 16 (Kd.int .u8))) p15, .p Kd.str p16]))] := by
  unfold antiquarylaw44_run_l4 at h
  rcases br_inv h with ⟨h1171, h⟩ | ⟨h1171, h⟩
  · exact Abs.Good.path hm [.cond true, .reg [], .keep [sk 2, sk 3, sk 8, sk 12, sk 13, sk 14, sk 15, sk 18, sk 19, ek 504001, ek 504002, ek 504003, ek 504005, ek 504004], .ren [(504001, 505001), (504002, 505002), (504003, 505003), (504005, 505005), (504004, 505004)]] (cs := [_]) (by kernel_rfl) ⟨h1171, trivial⟩ (antiquarylaw44_run_l5_ok s0 hs0 k p1 p2 (2 : Int) p5 p6 p7 p8 p9 p10 p11 p12 p13 p14 p15 p16 r h)
  · exact Abs.Good.path hm [.cond false, .keep [sk 2, sk 3, sk 8, sk 12, sk 13, sk 14, sk 15, sk 18, sk 19, ek 504001, ek 504002, ek 504003, ek 504005, ek 504004], .ren [(504001, 505001), (504002, 505002), (504003, 505003), (504005, 505005), (504004, 505004)]] (cs := [_]) (by kernel_rfl) ⟨h1171, trivial⟩ (antiquarylaw44_run_l5_ok s0 hs0 k p1 p2 p3 p5 p6 p7 p8 p9 p10 p11 p12 p13 p14 p15 p16 r h)
theorem antiquarylaw44_run_l3_ok (s0 : Bool → Int → (List (List It × Unit)) → (List (List It × Unit)) → List Se → List Se → Option (List (List It × Unit) × List Se × Bool × Bool)) (hs0 : ∀ (p1 : Bool) (p2 : Int) (p3 : List (List It × Unit)) (p4 : List (List It × Unit)) (p5 : List Se) (p6 : List Se) (r : List (List It × Unit) × List Se × Bool × Bool), s0 p1 p2 p3 p4 p5 p6 = some r → Abs.Good P 39 Tryd.f39.ntmps [] [] (.t [.p (Kd.arr 2 (Kd.pair (Kd.sl KI) Kd.unit)) r.1, .p (Kd.sl KSe) r.2.1, .p Kd.bool r.2.2.1, .p Kd.bool r.2.2.2]) (pos Tryd.f39 [.r, .r, .r, .r, .r]) [(sk 2, some (.v (.nilsl))), (sk 3, some (.v (.p Kd.bool p1))), (sk 8, some (.v (.ptr 500001 0))), (sk 12, some (.v (.ptr 500002 0))), (sk 13, some (.v (.row 500003 (List.length p5)))), (sk 14, some (.v (.row 500004 (List.length p6)))), (sk 15, some (.v (.p (Kd.int .i64) p2))), (ek 500001, some (.box [.p (Kd.arr 2 (Kd.pair (Kd.sl KI) Kd.unit)) p3])), (ek 500002, some (.box [.p (Kd.arr 2 (Kd.pair (Kd.sl KI) Kd.unit)) p4])), (ek 500003, some (.row KSe 78 p5)), (ek 500004, some (.row KSe 78 p6))]) (k : Nat) (p1 : Bool) (p2 : Int) (p3 : Int) (p4 : Bool) (p5 : List (List It × Unit)) (p6 : List (List It × Unit)) (p7 : List Se) (p8 : List Se) (p9 : Int) (p10 : Int) (p11 : List Int) (p12 : Int) (p13 : List Int) (p14 : Int) (p15 : List (List Int)) (p16 : ByteArray) (r : List (List It × Unit) × List Se × Bool × Bool) (h : antiquarylaw44_run_l3 s0 k p1 p2 p3 p4 p5 p6 p7 p8 p9 p10 p11 p12 p13 p14 p15 p16 = some r) :
    Abs.Good P 39 Tryd.f39.ntmps [] [] (.t [.p (Kd.arr 2 (Kd.pair (Kd.sl KI) Kd.unit)) r.1, .p (Kd.sl KSe) r.2.1, .p Kd.bool r.2.2.1, .p Kd.bool r.2.2.2]) (pos Tryd.f39 [.r, .r, .r, .r, .r, .r, .c true, .r, .r, .c false, .r, .r, .r, .r, .r]) [(sk 2, some (.v (.nilsl))), (sk 3, some (.v (.p Kd.bool p1))), (sk 8, some (.v (.ptr 503001 0))), (sk 12, some (.v (.ptr 503002 0))), (sk 13, some (.v (.row 503003 (List.length p7)))), (sk 14, some (.v (.row 503005 (List.length p8)))), (sk 15, some (.v (.p (Kd.int .i64) p2))), (sk 16, some (.v (.p (Kd.int .i64) p3))), (sk 18, some (.v (.ptr 503004 0))), (sk 75, some (.v (.p Kd.bool p4))), (ek 503001, some (.box [.p (Kd.arr 2 (Kd.pair (Kd.sl KI) Kd.unit)) p5])), (ek 503002, some (.box [.p (Kd.arr 2 (Kd.pair (Kd.sl KI) Kd.unit)) p6])), (ek 503003, some (.row KSe 78 p7)), (ek 503005, some (.row KSe 78 p8)), (ek 503004, some (.box [.p (Kd.int .i64) p9, .p (Kd.int .i64) p10, .p (Kd.arr 16 (Kd.int .u8)) p11, .p (Kd.int .i64) p12, .p (Kd.arr 16 (Kd.int .u8)) p13, .p (Kd.int .i64) p14, .p (Kd.sl (Kd.arr 16 (Kd.int .u8))) p15, .p Kd.str p16]))] := by
  unfold antiquarylaw44_run_l3 at h
  rcases br_inv h with ⟨h1170, h⟩ | ⟨h1170, h⟩
  · exact Abs.Good.path hm [.cond true, .keep [sk 2, sk 3, sk 8, sk 12, sk 13, sk 14, sk 15, ek 503001, ek 503002, ek 503003, ek 503005], .ren [(503001, 500001), (503002, 500002), (503003, 500003), (503005, 500004)]] (cs := [_]) (by kernel_rfl) ⟨h1170, trivial⟩ (hs0 p1 p2 p5 p6 p7 p8 r h)
  · exact Abs.Good.path hm [.cond false, .reg [], .reg [(4, { dec := some false }), (5, { dec := some false }), (6, { dec := some false }), (7, { pick := some false }), (9, { dec := some false }), (10, { dec := some false }), (11, { pick := some false })], .keep [sk 2, sk 3, sk 8, sk 12, sk 13, sk 14, sk 15, sk 18, sk 19, sk 87, ek 503001, ek 503002, ek 503003, ek 503005, ek 503004], .ren [(503001, 504001), (503002, 504002), (503003, 504003), (503005, 504005), (503004, 504004)]] (cs := [_, _, _, _, _, _, _, _]) (by kernel_rfl) ⟨h1170, (rfl : false = false), (rfl : false = false), (rfl : false = false), (rfl : false = false), (rfl : false = false), (rfl : false = false), (rfl : false = false), trivial⟩ (antiquarylaw44_run_l4_ok s0 hs0 k p1 p2 (1 : Int) false p5 p6 p7 p8 p9 p10 p11 p12 p13 p14 p15 p16 r h)
theorem antiquarylaw44_run_l2_ok (s0 : Bool → Int → (List (List It × Unit)) → (List (List It × Unit)) → List Se → List Se → Option (List (List It × Unit) × List Se × Bool × Bool)) (hs0 : ∀ (p1 : Bool) (p2 : Int) (p3 : List (List It × Unit)) (p4 : List (List It × Unit)) (p5 : List Se) (p6 : List Se) (r : List (List It × Unit) × List Se × Bool × Bool), s0 p1 p2 p3 p4 p5 p6 = some r → Abs.Good P 39 Tryd.f39.ntmps [] [] (.t [.p (Kd.arr 2 (Kd.pair (Kd.sl KI) Kd.unit)) r.1, .p (Kd.sl KSe) r.2.1, .p Kd.bool r.2.2.1, .p Kd.bool r.2.2.2]) (pos Tryd.f39 [.r, .r, .r, .r, .r]) [(sk 2, some (.v (.nilsl))), (sk 3, some (.v (.p Kd.bool p1))), (sk 8, some (.v (.ptr 500001 0))), (sk 12, some (.v (.ptr 500002 0))), (sk 13, some (.v (.row 500003 (List.length p5)))), (sk 14, some (.v (.row 500004 (List.length p6)))), (sk 15, some (.v (.p (Kd.int .i64) p2))), (ek 500001, some (.box [.p (Kd.arr 2 (Kd.pair (Kd.sl KI) Kd.unit)) p3])), (ek 500002, some (.box [.p (Kd.arr 2 (Kd.pair (Kd.sl KI) Kd.unit)) p4])), (ek 500003, some (.row KSe 78 p5)), (ek 500004, some (.row KSe 78 p6))]) (k : Nat) (p1 : Bool) (p2 : Int) (p3 : Int) (p4 : List (List It × Unit)) (p5 : List (List It × Unit)) (p6 : List Se) (p7 : List Se) (r : List (List It × Unit) × List Se × Bool × Bool) (h : antiquarylaw44_run_l2 s0 k p1 p2 p3 p4 p5 p6 p7 = some r) :
    Abs.Good P 39 Tryd.f39.ntmps [] [] (.t [.p (Kd.arr 2 (Kd.pair (Kd.sl KI) Kd.unit)) r.1, .p (Kd.sl KSe) r.2.1, .p Kd.bool r.2.2.1, .p Kd.bool r.2.2.2]) (pos Tryd.f39 [.r, .r, .r, .r, .r, .r, .c true, .r, .r, .c false]) [(sk 2, some (.v (.nilsl))), (sk 3, some (.v (.p Kd.bool p1))), (sk 8, some (.v (.ptr 502001 0))), (sk 12, some (.v (.ptr 502002 0))), (sk 13, some (.v (.row 502003 (List.length p6)))), (sk 14, some (.v (.row 502004 (List.length p7)))), (sk 15, some (.v (.p (Kd.int .i64) p2))), (sk 16, some (.v (.p (Kd.int .i64) p3))), (ek 502001, some (.box [.p (Kd.arr 2 (Kd.pair (Kd.sl KI) Kd.unit)) p4])), (ek 502002, some (.box [.p (Kd.arr 2 (Kd.pair (Kd.sl KI) Kd.unit)) p5])), (ek 502003, some (.row KSe 78 p6)), (ek 502004, some (.row KSe 78 p7))] := by
  unfold antiquarylaw44_run_l2 at h
  obtain ⟨h1162, h⟩ := gd_inv h
  obtain ⟨h1163, h⟩ := gd_inv h
  obtain ⟨h1164, h⟩ := gd_inv h
  obtain ⟨h1165, h⟩ := gd_inv h
  obtain ⟨h1166, h⟩ := gd_inv h
  obtain ⟨h1167, h⟩ := gd_inv h
  obtain ⟨h1168, h⟩ := gd_inv h
  rcases br_inv h with ⟨h1169, h⟩ | ⟨h1169, h⟩
  · exact Abs.Good.path hm [.reg [], .reg [], .reg [(4, { pick := some true })], .reg [], .reg [(2, { dec := some true }), (3, { dec := some true }), (4, { dec := some true }), (5, { pick := some true })], .keep [sk 2, sk 3, sk 8, sk 12, sk 13, sk 14, sk 15, sk 16, sk 18, sk 75, ek 502001, ek 502002, ek 67, ek 502004, ek 18], .ren [(502001, 503001), (502002, 503002), (67, 503003), (502004, 503005), (18, 503004)]] (cs := [_, _, _, _, _, _, _, _, _, _, _, _, _, _, _, _, _, _, _, _]) (by kernel_rfl) ⟨h1162, h1163.1, h1163.2.1, h1163.2.2, h1164, h1163.1, h1165, (rfl : 0 = List.length ([] : List Se)), (appBound (P := P) (et := 78) (b := 104) (by kernel_rfl) (by decide) h1166.1), h1166.2, h1167.1, h1167.2, (rfl : (List.length (([] : List Se) ++ (List.take (Int.toNat (Int.tmod p3 ((List.length p6) : Int))) p6))) = List.length (([] : List Se) ++ (List.take (Int.toNat (Int.tmod p3 ((List.length p6) : Int))) p6))), (appBound (P := P) (et := 78) (b := 104) (by kernel_rfl) (by decide) h1168.1), h1168.2, h1169, h1169, (by decide : (7 : Int) ≠ 0), h1169, h1169, trivial⟩ (antiquarylaw44_run_l3_ok s0 hs0 k p1 (IntKind.i64.wrap (p2 + (1 : Int))) p3 ((Int.tmod (IntKind.i64.wrap (p2 + (1 : Int))) (7 : Int)) == (0 : Int)) p4 p5 ((([] : List Se) ++ (List.take (Int.toNat (Int.tmod p3 ((List.length p6) : Int))) p6)) ++ (List.take ((List.length p6) - Int.toNat (IntKind.i64.wrap ((Int.tmod p3 ((List.length p6) : Int)) + (1 : Int)))) (List.drop (Int.toNat (IntKind.i64.wrap ((Int.tmod p3 ((List.length p6) : Int)) + (1 : Int)))) p6))) p7 ((List.getD p6 (Int.toNat (Int.tmod p3 ((List.length p6) : Int))) (Kd.dflt KSe)).1) ((((List.getD p6 (Int.toNat (Int.tmod p3 ((List.length p6) : Int))) (Kd.dflt KSe)).2).1).1) ((((((List.getD p6 (Int.toNat (Int.tmod p3 ((List.length p6) : Int))) (Kd.dflt KSe)).2).1).2).1).1) (((((((List.getD p6 (Int.toNat (Int.tmod p3 ((List.length p6) : Int))) (Kd.dflt KSe)).2).1).2).1).2).1) ((((((List.getD p6 (Int.toNat (Int.tmod p3 ((List.length p6) : Int))) (Kd.dflt KSe)).2).1).2).2).1) (((((((List.getD p6 (Int.toNat (Int.tmod p3 ((List.length p6) : Int))) (Kd.dflt KSe)).2).1).2).2).2).1) ((((((((List.getD p6 (Int.toNat (Int.tmod p3 ((List.length p6) : Int))) (Kd.dflt KSe)).2).1).2).2).2).2).1) (((((((((List.getD p6 (Int.toNat (Int.tmod p3 ((List.length p6) : Int))) (Kd.dflt KSe)).2).1).2).2).2).2).2).1) r h)
  · exact Abs.Good.path hm [.reg [], .reg [], .reg [(4, { pick := some true })], .reg [], .reg [(2, { dec := some false }), (3, { dec := some false }), (4, { dec := some false }), (5, { pick := some false })], .keep [sk 2, sk 3, sk 8, sk 12, sk 13, sk 14, sk 15, sk 16, sk 18, sk 75, ek 502001, ek 502002, ek 67, ek 502004, ek 18], .ren [(502001, 503001), (502002, 503002), (67, 503003), (502004, 503005), (18, 503004)]] (cs := [_, _, _, _, _, _, _, _, _, _, _, _, _, _, _, _, _, _, _]) (by kernel_rfl) ⟨h1162, h1163.1, h1163.2.1, h1163.2.2, h1164, h1163.1, h1165, (rfl : 0 = List.length ([] : List Se)), (appBound (P := P) (et := 78) (b := 104) (by kernel_rfl) (by decide) h1166.1), h1166.2, h1167.1, h1167.2, (rfl : (List.length (([] : List Se) ++ (List.take (Int.toNat (Int.tmod p3 ((List.length p6) : Int))) p6))) = List.length (([] : List Se) ++ (List.take (Int.toNat (Int.tmod p3 ((List.length p6) : Int))) p6))), (appBound (P := P) (et := 78) (b := 104) (by kernel_rfl) (by decide) h1168.1), h1168.2, h1169, h1169, h1169, h1169, trivial⟩ (antiquarylaw44_run_l3_ok s0 hs0 k p1 (IntKind.i64.wrap (p2 + (1 : Int))) p3 false p4 p5 ((([] : List Se) ++ (List.take (Int.toNat (Int.tmod p3 ((List.length p6) : Int))) p6)) ++ (List.take ((List.length p6) - Int.toNat (IntKind.i64.wrap ((Int.tmod p3 ((List.length p6) : Int)) + (1 : Int)))) (List.drop (Int.toNat (IntKind.i64.wrap ((Int.tmod p3 ((List.length p6) : Int)) + (1 : Int)))) p6))) p7 ((List.getD p6 (Int.toNat (Int.tmod p3 ((List.length p6) : Int))) (Kd.dflt KSe)).1) ((((List.getD p6 (Int.toNat (Int.tmod p3 ((List.length p6) : Int))) (Kd.dflt KSe)).2).1).1) ((((((List.getD p6 (Int.toNat (Int.tmod p3 ((List.length p6) : Int))) (Kd.dflt KSe)).2).1).2).1).1) (((((((List.getD p6 (Int.toNat (Int.tmod p3 ((List.length p6) : Int))) (Kd.dflt KSe)).2).1).2).1).2).1) ((((((List.getD p6 (Int.toNat (Int.tmod p3 ((List.length p6) : Int))) (Kd.dflt KSe)).2).1).2).2).1) (((((((List.getD p6 (Int.toNat (Int.tmod p3 ((List.length p6) : Int))) (Kd.dflt KSe)).2).1).2).2).2).1) ((((((((List.getD p6 (Int.toNat (Int.tmod p3 ((List.length p6) : Int))) (Kd.dflt KSe)).2).1).2).2).2).2).1) (((((((((List.getD p6 (Int.toNat (Int.tmod p3 ((List.length p6) : Int))) (Kd.dflt KSe)).2).1).2).2).2).2).2).1) r h)
theorem antiquarylaw44_run_l1_ok (s0 : Bool → Int → (List (List It × Unit)) → (List (List It × Unit)) → List Se → List Se → Option (List (List It × Unit) × List Se × Bool × Bool)) (hs0 : ∀ (p1 : Bool) (p2 : Int) (p3 : List (List It × Unit)) (p4 : List (List It × Unit)) (p5 : List Se) (p6 : List Se) (r : List (List It × Unit) × List Se × Bool × Bool), s0 p1 p2 p3 p4 p5 p6 = some r → Abs.Good P 39 Tryd.f39.ntmps [] [] (.t [.p (Kd.arr 2 (Kd.pair (Kd.sl KI) Kd.unit)) r.1, .p (Kd.sl KSe) r.2.1, .p Kd.bool r.2.2.1, .p Kd.bool r.2.2.2]) (pos Tryd.f39 [.r, .r, .r, .r, .r]) [(sk 2, some (.v (.nilsl))), (sk 3, some (.v (.p Kd.bool p1))), (sk 8, some (.v (.ptr 500001 0))), (sk 12, some (.v (.ptr 500002 0))), (sk 13, some (.v (.row 500003 (List.length p5)))), (sk 14, some (.v (.row 500004 (List.length p6)))), (sk 15, some (.v (.p (Kd.int .i64) p2))), (ek 500001, some (.box [.p (Kd.arr 2 (Kd.pair (Kd.sl KI) Kd.unit)) p3])), (ek 500002, some (.box [.p (Kd.arr 2 (Kd.pair (Kd.sl KI) Kd.unit)) p4])), (ek 500003, some (.row KSe 78 p5)), (ek 500004, some (.row KSe 78 p6))]) (k : Nat) (p1 : Bool) (p2 : Int) (p3 : Bool) (p4 : List (List It × Unit)) (p5 : List (List It × Unit)) (p6 : List Se) (p7 : List Se) (r : List (List It × Unit) × List Se × Bool × Bool) (h : antiquarylaw44_run_l1 s0 k p1 p2 p3 p4 p5 p6 p7 = some r) :
    Abs.Good P 39 Tryd.f39.ntmps [] [] (.t [.p (Kd.arr 2 (Kd.pair (Kd.sl KI) Kd.unit)) r.1, .p (Kd.sl KSe) r.2.1, .p Kd.bool r.2.2.1, .p Kd.bool r.2.2.2]) (pos Tryd.f39 [.r, .r, .r, .r, .r, .r]) [(sk 2, some (.v (.nilsl))), (sk 3, some (.v (.p Kd.bool p1))), (sk 8, some (.v (.ptr 501001 0))), (sk 12, some (.v (.ptr 501002 0))), (sk 13, some (.v (.row 501003 (List.length p6)))), (sk 14, some (.v (.row 501004 (List.length p7)))), (sk 15, some (.v (.p (Kd.int .i64) p2))), (sk 38, some (.v (.p Kd.bool p3))), (ek 501001, some (.box [.p (Kd.arr 2 (Kd.pair (Kd.sl KI) Kd.unit)) p4])), (ek 501002, some (.box [.p (Kd.arr 2 (Kd.pair (Kd.sl KI) Kd.unit)) p5])), (ek 501003, some (.row KSe 78 p6)), (ek 501004, some (.row KSe 78 p7))] := by
  unfold antiquarylaw44_run_l1 at h
  rcases br_inv h with ⟨h1161, h⟩ | ⟨h1161, h⟩
  · exact Abs.Good.path hm [.cond true, .reg [], .reg [], .cond false, .keep [sk 2, sk 3, sk 8, sk 12, sk 13, sk 14, sk 15, sk 16, ek 501001, ek 501002, ek 501003, ek 501004], .ren [(501001, 502001), (501002, 502002), (501003, 502003), (501004, 502004)]] (cs := [_, _]) (by kernel_rfl) ⟨h1161, (rfl : false = false), trivial⟩ (antiquarylaw44_run_l2_ok s0 hs0 k p1 p2 (0 : Int) p4 p5 p6 p7 r h)
  · replace h := Option.some.inj h; subst h
    exact Abs.Good.path_ret hm [.cond false, .reg []] [501004] Tryd.func39 (cs := [_, _]) (by kernel_rfl) ⟨h1161, (rfl : (List.length p7) = List.length p7), trivial⟩ (by kernel_rfl)
theorem antiquarylaw44_run_l0_ok (k : Nat) : ∀ (p1 : Bool) (p2 : Int) (p3 : List (List It × Unit)) (p4 : List (List It × Unit)) (p5 : List Se) (p6 : List Se) (r : List (List It × Unit) × List Se × Bool × Bool), antiquarylaw44_run_l0 k p1 p2 p3 p4 p5 p6 = some r →
    Abs.Good P 39 Tryd.f39.ntmps [] [] (.t [.p (Kd.arr 2 (Kd.pair (Kd.sl KI) Kd.unit)) r.1, .p (Kd.sl KSe) r.2.1, .p Kd.bool r.2.2.1, .p Kd.bool r.2.2.2]) (pos Tryd.f39 [.r, .r, .r, .r, .r]) [(sk 2, some (.v (.nilsl))), (sk 3, some (.v (.p Kd.bool p1))), (sk 8, some (.v (.ptr 500001 0))), (sk 12, some (.v (.ptr 500002 0))), (sk 13, some (.v (.row 500003 (List.length p5)))), (sk 14, some (.v (.row 500004 (List.length p6)))), (sk 15, some (.v (.p (Kd.int .i64) p2))), (ek 500001, some (.box [.p (Kd.arr 2 (Kd.pair (Kd.sl KI) Kd.unit)) p3])), (ek 500002, some (.box [.p (Kd.arr 2 (Kd.pair (Kd.sl KI) Kd.unit)) p4])), (ek 500003, some (.row KSe 78 p5)), (ek 500004, some (.row KSe 78 p6))] := by
  induction k with
  | zero => intro p1 p2 p3 p4 p5 p6 r h; cases h
  | succ k ih =>
    intro p1 p2 p3 p4 p5 p6 r h
    unfold antiquarylaw44_run_l0 at h
    rcases br_inv h with ⟨h1160, h⟩ | ⟨h1160, h⟩
    · exact Abs.Good.path hm [.reg [(4, { dec := some true }), (5, { dec := some true }), (6, { pick := some true })], .keep [sk 2, sk 3, sk 8, sk 12, sk 13, sk 14, sk 15, sk 38, ek 500001, ek 500002, ek 500003, ek 500004], .ren [(500001, 501001), (500002, 501002), (500003, 501003), (500004, 501004)]] (cs := [_, _, _]) (by kernel_rfl) ⟨h1160, h1160, h1160, trivial⟩ (antiquarylaw44_run_l1_ok (antiquarylaw44_run_l0 k) ih k p1 p2 (decide (p2 < (20000 : Int))) p3 p4 p5 p6 r h)
    · exact Abs.Good.path hm [.reg [(4, { dec := some false }), (5, { dec := some false }), (6, { pick := some false })], .keep [sk 2, sk 3, sk 8, sk 12, sk 13, sk 14, sk 15, sk 38, ek 500001, ek 500002, ek 500003, ek 500004], .ren [(500001, 501001), (500002, 501002), (500003, 501003), (500004, 501004)]] (cs := [_, _, _]) (by kernel_rfl) ⟨h1160, h1160, h1160, trivial⟩ (antiquarylaw44_run_l1_ok (antiquarylaw44_run_l0 k) ih k p1 p2 false p3 p4 p5 p6 r h)
theorem antiquarylaw44_run_ok (k : Nat) (a1 : List It) (a2 : List It) (a3 : Bool) (r : List (List It × Unit) × List Se × Bool × Bool) (h : antiquarylaw44_run k a1 a2 a3 = some r) : SpecOk P ⟨39, [.agg [.p (Kd.sl KI) a1], .agg [.p (Kd.sl KI) a2], .nilsl, .p Kd.bool a3], [], .t [.p (Kd.arr 2 (Kd.pair (Kd.sl KI) Kd.unit)) r.1, .p (Kd.sl KSe) r.2.1, .p Kd.bool r.2.2.1, .p Kd.bool r.2.2.2], []⟩ := by
  refine spec_at Tryd.func39 (by kernel_rfl) (Nat.le_of_ble_eq_true (by kernel_rfl)) ?_
  unfold antiquarylaw44_run at h
  obtain ⟨x1158, h1159, h⟩ := bind_inv h
  exact Abs.Good.path hm [.reg [], .reg [], .reg [(1, { call := some { lend := [], pass := [], res := .v (.agg [.p (Kd.int .i64) x1158.1, .p (Kd.arr 16 (Kd.int .u8)) x1158.2.1, .p (Kd.int .i64) x1158.2.2.1, .p (Kd.arr 16 (Kd.int .u8)) x1158.2.2.2.1, .p (Kd.int .i64) x1158.2.2.2.2.1, .nilsl, .p Kd.str x1158.2.2.2.2.2]), outs := [], back := [] } })], .reg [], .reg [], .co (sk 14) 0 (.mk 900001 KSe 78), .keep [sk 2, sk 3, sk 8, sk 12, sk 13, sk 14, sk 15, ek 8, ek 12, ek 31, ek 900001], .ren [(8, 500001), (12, 500002), (31, 500003), (900001, 500004)]] (cs := [_]) (by kernel_rfl) ⟨(exchange_Open_ok k a1 _ h1159), trivial⟩ (antiquarylaw44_run_l0_ok k a3 (0 : Int) (Kd.dflt (Kd.arr 2 (Kd.pair (Kd.sl KI) Kd.unit))) ([(a1, ()), (a2, ())] : List (List It × Unit)) ([((1 : Int), ((x1158.1, ((x1158.2.1, (x1158.2.2.1, ())), (x1158.2.2.2.1, (x1158.2.2.2.2.1, (([] : List (List Int)), (x1158.2.2.2.2.2, ())))))), ()))] : List Se) ([] : List Se) r h)

def antiquaryref01_Int_l1 : Nat → Int → List Int → Option (List Int)
  | 0, _, _ => none
  | k + 1, p1, p2 =>
    if (decide (p1 ≥ (128 : Int))) = true then
      if List.length p2 + List.length ([(IntKind.u8.wrap ((IntKind.u8.wrap (Int.tmod p1 (128 : Int))) + (128 : Int)))] : List Int) ≤ 140737488355328 then
        antiquaryref01_Int_l1 k (IntKind.u64.wrap (Int.tdiv p1 (128 : Int))) (p2 ++ ([(IntKind.u8.wrap ((IntKind.u8.wrap (Int.tmod p1 (128 : Int))) + (128 : Int)))] : List Int))
      else none
    else
      if List.length p2 + List.length ([(IntKind.u8.wrap p1)] : List Int) ≤ 140737488355328 then
        some ((p2 ++ ([(IntKind.u8.wrap p1)] : List Int)))
      else none
def antiquaryref01_Int_l0 (k : Nat) (p1 : Int) : Option (List Int) :=
  antiquaryref01_Int_l1 k p1 ([] : List Int)
def antiquaryref01_Int (k : Nat) (a1 : Int) : Option (List Int) :=
  if (decide (a1 < (0 : Int))) = true then
    antiquaryref01_Int_l0 k (IntKind.u64.wrap ((IntKind.u64.wrap ((IntKind.u64.wrap (IntKind.i64.wrap ((-1 : Int) - a1))) * (2 : Int))) + (1 : Int)))
  else
    antiquaryref01_Int_l0 k (IntKind.u64.wrap ((IntKind.u64.wrap a1) * (2 : Int)))
theorem antiquaryref01_Int_l1_ok (k : Nat) : ∀ (p1 : Int) (p2 : List Int) (r : List Int), antiquaryref01_Int_l1 k p1 p2 = some r →
    Abs.Good P 87 Tryd.f87.ntmps [] [(700001, .row (Kd.int .u8) 5 r)] (.v (.row 700001 (List.length r))) (pos Tryd.f87 [.r, .r, .r, .c false, .r]) [(sk 3, some (.v (.p (Kd.int .u64) p1))), (sk 4, some (.v (.row 501001 (List.length p2)))), (ek 501001, some (.row (Kd.int .u8) 5 p2))] := by
  induction k with
  | zero => intro p1 p2 r h; cases h
  | succ k ih =>
    intro p1 p2 r h
    unfold antiquaryref01_Int_l1 at h
    rcases br_inv h with ⟨h1226, h⟩ | ⟨h1226, h⟩
    · obtain ⟨h1227, h⟩ := gd_inv h
      exact Abs.Good.path hm [.reg [], .cond true, .reg [], .reg [], .keep [sk 3, sk 4, ek 23], .ren [(23, 501001)]] (cs := [_, _, _, _, _, _]) (by kernel_rfl) ⟨h1226, (by decide : (128 : Int) ≠ 0), (rfl : (List.length p2) = List.length p2), (appBound (P := P) (et := 5) (b := 1) (by kernel_rfl) (by decide) h1227), (rfl : 1 = List.length ([(IntKind.u8.wrap ((IntKind.u8.wrap (Int.tmod p1 (128 : Int))) + (128 : Int)))] : List Int)), (by decide : (128 : Int) ≠ 0), trivial⟩ (ih (IntKind.u64.wrap (Int.tdiv p1 (128 : Int))) (p2 ++ ([(IntKind.u8.wrap ((IntKind.u8.wrap (Int.tmod p1 (128 : Int))) + (128 : Int)))] : List Int)) r h)
    · obtain ⟨h1228, h⟩ := gd_inv h
      replace h := Option.some.inj h; subst h
      exact Abs.Good.path_ret hm [.reg [], .cond false, .reg [], .keep [sk 2, ek 30], .ren [(30, 700001)]] [] Tryd.func87 (cs := [_, _, _, _]) (by kernel_rfl) ⟨h1226, (rfl : (List.length p2) = List.length p2), (appBound (P := P) (et := 5) (b := 1) (by kernel_rfl) (by decide) h1228), (rfl : 1 = List.length ([(IntKind.u8.wrap p1)] : List Int)), trivial⟩ (by kernel_rfl)
theorem antiquaryref01_Int_l0_ok (k : Nat) (p1 : Int) (r : List Int) (h : antiquaryref01_Int_l0 k p1 = some r) :
    Abs.Good P 87 Tryd.f87.ntmps [] [(700001, .row (Kd.int .u8) 5 r)] (.v (.row 700001 (List.length r))) (pos Tryd.f87 [.r, .r, .r, .c false]) [(sk 3, some (.v (.p (Kd.int .u64) p1)))] := by
  unfold antiquaryref01_Int_l0 at h
  exact Abs.Good.path hm [.reg [], .co (sk 4) 0 (.mk 900001 (Kd.int .u8) 5), .keep [sk 3, sk 4, ek 900001], .ren [(900001, 501001)]] (cs := []) (by kernel_rfl) trivial (antiquaryref01_Int_l1_ok k p1 ([] : List Int) r h)
theorem antiquaryref01_Int_ok (k : Nat) (a1 : Int) (r : List Int) (h : antiquaryref01_Int k a1 = some r) : SpecOk P ⟨87, [.p (Kd.int .i64) a1], [], .v (.row 700001 (List.length r)), [(700001, .row (Kd.int .u8) 5 r)]⟩ := by
  refine spec_at Tryd.func87 (by kernel_rfl) (Nat.le_of_ble_eq_true (by kernel_rfl)) ?_
  unfold antiquaryref01_Int at h
  rcases br_inv h with ⟨h1225, h⟩ | ⟨h1225, h⟩
  · exact Abs.Good.path hm [.reg [], .reg [], .reg [], .cond true, .reg [], .keep [sk 3]] (cs := [_]) (by kernel_rfl) ⟨h1225, trivial⟩ (antiquaryref01_Int_l0_ok k (IntKind.u64.wrap ((IntKind.u64.wrap ((IntKind.u64.wrap (IntKind.i64.wrap ((-1 : Int) - a1))) * (2 : Int))) + (1 : Int))) r h)
  · exact Abs.Good.path hm [.reg [], .reg [], .reg [], .cond false, .keep [sk 3]] (cs := [_]) (by kernel_rfl) ⟨h1225, trivial⟩ (antiquaryref01_Int_l0_ok k (IntKind.u64.wrap ((IntKind.u64.wrap a1) * (2 : Int))) r h)

def antiquaryref01_Bytes (k : Nat) (a1 : ByteArray) : Option (List Int) :=
  Option.bind (antiquaryref01_Int k (ByteArray.size a1 : Int)) fun x1232 =>
  if List.length x1232 + List.length (bytesOf a1) ≤ 140737488355328 then
    some ((x1232 ++ (bytesOf a1)))
  else none
theorem antiquaryref01_Bytes_ok (k : Nat) (a1 : ByteArray) (r : List Int) (h : antiquaryref01_Bytes k a1 = some r) : SpecOk P ⟨80, [.p Kd.str a1], [], .v (.p (Kd.sl (Kd.int .u8)) r), []⟩ := by
  refine spec_at Tryd.func80 (by kernel_rfl) (Nat.le_of_ble_eq_true (by kernel_rfl)) ?_
  unfold antiquaryref01_Bytes at h
  obtain ⟨x1232, h1233, h⟩ := bind_inv h
  obtain ⟨h1234, h⟩ := gd_inv h
  replace h := Option.some.inj h; subst h
  exact Abs.Good.path_ret hm [.reg [], .reg [(2, { call := some { lend := [], pass := [], res := .v (.row 700001 (List.length x1232)), outs := [(700001, .row (Kd.int .u8) 5 x1232)], back := [(700001, 2000040)] } })]] [7] Tryd.func80 (cs := [_, _, _, _]) (by kernel_rfl) ⟨(antiquaryref01_Int_ok k (ByteArray.size a1 : Int) _ h1233), (rfl : (List.length x1232) = List.length x1232), (appBound (P := P) (et := 5) (b := 1) (by kernel_rfl) (by decide) h1234), (rfl : (List.length (x1232 ++ (bytesOf a1))) = List.length (x1232 ++ (bytesOf a1))), trivial⟩ (by kernel_rfl)

def antiquaryref02_Input_l0 : Nat → List ByteArray → Int → List Int → Option (List Int)
  | 0, _, _, _ => none
  | k + 1, p1, p2, p3 =>
    if (decide (p2 < (List.length p1 : Int))) = true then
      if 0 ≤ p2 ∧ p2 < (List.length p1 : Int) then
        Option.bind (antiquaryref01_Bytes k (List.getD p1 (Int.toNat p2) (Kd.dflt Kd.str))) fun x1240 =>
        if List.length p3 + List.length x1240 ≤ 140737488355328 then
          antiquaryref02_Input_l0 k p1 (IntKind.i64.wrap (p2 + (1 : Int))) (p3 ++ x1240)
        else none
      else none
    else
      some (p3)
def antiquaryref02_Input (k : Nat) (a1 : Int) (a2 : List ByteArray) : Option (List Int) :=
  antiquaryref02_Input_l0 k a2 (0 : Int) ([(IntKind.u8.wrap a1)] : List Int)
theorem antiquaryref02_Input_l0_ok (k : Nat) : ∀ (p1 : List ByteArray) (p2 : Int) (p3 : List Int) (r : List Int), antiquaryref02_Input_l0 k p1 p2 p3 = some r →
    Abs.Good P 66 Tryd.f66.ntmps [] [] (.v (.p (Kd.sl (Kd.int .u8)) r)) (pos Tryd.f66 [.r, .r, .r]) [(sk 1, some (.v (.p (Kd.sl Kd.str) p1))), (sk 5, some (.v (.row 500001 (List.length p3)))), (sk 6, some (.v (.p (Kd.int .i64) p2))), (ek 500001, some (.row (Kd.int .u8) 5 p3))] := by
  induction k with
  | zero => intro p1 p2 p3 r h; cases h
  | succ k ih =>
    intro p1 p2 p3 r h
    unfold antiquaryref02_Input_l0 at h
    rcases br_inv h with ⟨h1238, h⟩ | ⟨h1238, h⟩
    · obtain ⟨h1239, h⟩ := gd_inv h
      obtain ⟨x1240, h1241, h⟩ := bind_inv h
      obtain ⟨h1242, h⟩ := gd_inv h
      exact Abs.Good.path hm [.reg [], .cond true, .reg [(5, { call := some { lend := [], pass := [], res := .v (.p (Kd.sl (Kd.int .u8)) x1240), outs := [], back := [] } })], .reg [], .keep [sk 1, sk 5, sk 6, ek 22], .ren [(22, 500001)]] (cs := [_, _, _, _, _, _]) (by kernel_rfl) ⟨h1238, h1239.1, h1239.2, (antiquaryref01_Bytes_ok k (List.getD p1 (Int.toNat p2) (Kd.dflt Kd.str)) _ h1241), (rfl : (List.length p3) = List.length p3), (appBound (P := P) (et := 5) (b := 1) (by kernel_rfl) (by decide) h1242), trivial⟩ (ih p1 (IntKind.i64.wrap (p2 + (1 : Int))) (p3 ++ x1240) r h)
    · replace h := Option.some.inj h; subst h
      exact Abs.Good.path_ret hm [.reg [], .cond false, .reg []] [500001] Tryd.func66 (cs := [_, _]) (by kernel_rfl) ⟨h1238, (rfl : (List.length p3) = List.length p3), trivial⟩ (by kernel_rfl)
theorem antiquaryref02_Input_ok (k : Nat) (a1 : Int) (a2 : List ByteArray) (r : List Int) (h : antiquaryref02_Input k a1 a2 = some r) : SpecOk P ⟨66, [.p (Kd.int .i64) a1, .p (Kd.sl Kd.str) a2], [], .v (.p (Kd.sl (Kd.int .u8)) r), []⟩ := by
  refine spec_at Tryd.func66 (by kernel_rfl) (Nat.le_of_ble_eq_true (by kernel_rfl)) ?_
  unfold antiquaryref02_Input at h
  exact Abs.Good.path hm [.reg [], .reg [], .reg [], .keep [sk 1, sk 5, sk 6, ek 9], .ren [(9, 500001)]] (cs := []) (by kernel_rfl) trivial (antiquaryref02_Input_l0_ok k a2 (0 : Int) ([(IntKind.u8.wrap a1)] : List Int) r h)

def antiquaryref02_padded_l1 : Nat → Int → Int → List Int → Option (List Int)
  | 0, _, _, _ => none
  | k + 1, p1, p2, p3 =>
    if (decide (p2 < (8 : Int))) = true then
      if 0 ≤ (IntKind.i64.wrap ((56 : Int) - (IntKind.i64.wrap ((8 : Int) * p2)))) then
        if List.length p3 + List.length ([(IntKind.u8.wrap (Int.fdiv p1 (2 ^ (min (Int.toNat (IntKind.i64.wrap ((56 : Int) - (IntKind.i64.wrap ((8 : Int) * p2))))) (IntKind.bits .u64)))))] : List Int) ≤ 140737488355328 then
          antiquaryref02_padded_l1 k p1 (IntKind.i64.wrap (p2 + (1 : Int))) (p3 ++ ([(IntKind.u8.wrap (Int.fdiv p1 (2 ^ (min (Int.toNat (IntKind.i64.wrap ((56 : Int) - (IntKind.i64.wrap ((8 : Int) * p2))))) (IntKind.bits .u64)))))] : List Int))
        else none
      else none
    else
      some (p3)
def antiquaryref02_padded_l0 : Nat → List Int → List Int → Option (List Int)
  | 0, _, _ => none
  | k + 1, p1, p2 =>
    if ((Int.tmod ((List.length p2) : Int) (64 : Int)) != (56 : Int)) = true then
      if List.length p2 + List.length ([(0 : Int)] : List Int) ≤ 140737488355328 then
        antiquaryref02_padded_l0 k p1 (p2 ++ ([(0 : Int)] : List Int))
      else none
    else
      antiquaryref02_padded_l1 k (IntKind.u64.wrap ((8 : Int) * (IntKind.u64.wrap (List.length p1 : Int)))) (0 : Int) p2
def antiquaryref02_padded (k : Nat) (a1 : List Int) : Option (List Int) :=
  if List.length ([] : List Int) + List.length a1 ≤ 140737488355328 then
    if List.length (([] : List Int) ++ a1) + List.length ([(128 : Int)] : List Int) ≤ 140737488355328 then
      antiquaryref02_padded_l0 k a1 ((([] : List Int) ++ a1) ++ ([(128 : Int)] : List Int))
    else none
  else none
theorem antiquaryref02_padded_l1_ok (k : Nat) : ∀ (p1 : Int) (p2 : Int) (p3 : List Int) (r : List Int), antiquaryref02_padded_l1 k p1 p2 p3 = some r →
    Abs.Good P 84 Tryd.f84.ntmps [] [] (.v (.p (Kd.sl (Kd.int .u8)) r)) (pos Tryd.f84 [.r, .r, .r, .r, .c false, .r, .r]) [(sk 3, some (.v (.row 501001 (List.length p3)))), (sk 4, some (.v (.p (Kd.int .u64) p1))), (sk 5, some (.v (.p (Kd.int .i64) p2))), (ek 501001, some (.row (Kd.int .u8) 5 p3))] := by
  induction k with
  | zero => intro p1 p2 p3 r h; cases h
  | succ k ih =>
    intro p1 p2 p3 r h
    unfold antiquaryref02_padded_l1 at h
    rcases br_inv h with ⟨h1262, h⟩ | ⟨h1262, h⟩
    · obtain ⟨h1263, h⟩ := gd_inv h
      obtain ⟨h1264, h⟩ := gd_inv h
      exact Abs.Good.path hm [.reg [], .cond true, .reg [], .reg [], .keep [sk 3, sk 4, sk 5, ek 35], .ren [(35, 501001)]] (cs := [_, _, _, _, _]) (by kernel_rfl) ⟨h1262, h1263, (rfl : (List.length p3) = List.length p3), (appBound (P := P) (et := 5) (b := 1) (by kernel_rfl) (by decide) h1264), (rfl : 1 = List.length ([(IntKind.u8.wrap (Int.fdiv p1 (2 ^ (min (Int.toNat (IntKind.i64.wrap ((56 : Int) - (IntKind.i64.wrap ((8 : Int) * p2))))) (IntKind.bits .u64)))))] : List Int)), trivial⟩ (ih p1 (IntKind.i64.wrap (p2 + (1 : Int))) (p3 ++ ([(IntKind.u8.wrap (Int.fdiv p1 (2 ^ (min (Int.toNat (IntKind.i64.wrap ((56 : Int) - (IntKind.i64.wrap ((8 : Int) * p2))))) (IntKind.bits .u64)))))] : List Int)) r h)
    · replace h := Option.some.inj h; subst h
      exact Abs.Good.path_ret hm [.reg [], .cond false, .reg []] [501001] Tryd.func84 (cs := [_, _]) (by kernel_rfl) ⟨h1262, (rfl : (List.length p3) = List.length p3), trivial⟩ (by kernel_rfl)
theorem antiquaryref02_padded_l0_ok (k : Nat) : ∀ (p1 : List Int) (p2 : List Int) (r : List Int), antiquaryref02_padded_l0 k p1 p2 = some r →
    Abs.Good P 84 Tryd.f84.ntmps [] [] (.v (.p (Kd.sl (Kd.int .u8)) r)) (pos Tryd.f84 [.r, .r, .r]) [(sk 0, some (.v (.p (Kd.sl (Kd.int .u8)) p1))), (sk 3, some (.v (.row 500001 (List.length p2)))), (ek 500001, some (.row (Kd.int .u8) 5 p2))] := by
  induction k with
  | zero => intro p1 p2 r h; cases h
  | succ k ih =>
    intro p1 p2 r h
    unfold antiquaryref02_padded_l0 at h
    rcases br_inv h with ⟨h1260, h⟩ | ⟨h1260, h⟩
    · obtain ⟨h1261, h⟩ := gd_inv h
      exact Abs.Good.path hm [.reg [], .cond true, .reg [], .keep [sk 0, sk 3, ek 18], .ren [(18, 500001)]] (cs := [_, _, _, _, _]) (by kernel_rfl) ⟨(by decide : (64 : Int) ≠ 0), h1260, (rfl : (List.length p2) = List.length p2), (appBound (P := P) (et := 5) (b := 1) (by kernel_rfl) (by decide) h1261), (rfl : 1 = List.length ([(0 : Int)] : List Int)), trivial⟩ (ih p1 (p2 ++ ([(0 : Int)] : List Int)) r h)
    · exact Abs.Good.path hm [.reg [], .cond false, .reg [], .reg [], .keep [sk 3, sk 4, sk 5, ek 500001], .ren [(500001, 501001)]] (cs := [_, _]) (by kernel_rfl) ⟨(by decide : (64 : Int) ≠ 0), h1260, trivial⟩ (antiquaryref02_padded_l1_ok k (IntKind.u64.wrap ((8 : Int) * (IntKind.u64.wrap (List.length p1 : Int)))) (0 : Int) p2 r h)
theorem antiquaryref02_padded_ok (k : Nat) (a1 : List Int) (r : List Int) (h : antiquaryref02_padded k a1 = some r) : SpecOk P ⟨84, [.p (Kd.sl (Kd.int .u8)) a1], [], .v (.p (Kd.sl (Kd.int .u8)) r), []⟩ := by
  refine spec_at Tryd.func84 (by kernel_rfl) (Nat.le_of_ble_eq_true (by kernel_rfl)) ?_
  unfold antiquaryref02_padded at h
  obtain ⟨h1258, h⟩ := gd_inv h
  obtain ⟨h1259, h⟩ := gd_inv h
  exact Abs.Good.path hm [.reg [], .reg [], .reg [], .keep [sk 0, sk 3, ek 11], .ren [(11, 500001)]] (cs := [_, _, _, _, _]) (by kernel_rfl) ⟨(rfl : 0 = List.length ([] : List Int)), (appBound (P := P) (et := 5) (b := 1) (by kernel_rfl) (by decide) h1258), (rfl : (List.length (([] : List Int) ++ a1)) = List.length (([] : List Int) ++ a1)), (appBound (P := P) (et := 5) (b := 1) (by kernel_rfl) (by decide) h1259), (rfl : 1 = List.length ([(128 : Int)] : List Int)), trivial⟩ (antiquaryref02_padded_l0_ok k a1 ((([] : List Int) ++ a1) ++ ([(128 : Int)] : List Int)) r h)

def antiquaryref02_rotr (k : Nat) (a1 : Int) (a2 : Int) : Option (Int) :=
  if 0 ≤ a2 then
    if 0 ≤ (IntKind.i64.wrap ((32 : Int) - a2)) then
      some ((IntKind.u32.wrap (((BitVec.ofInt (IntKind.bits .u32) (Int.fdiv a1 (2 ^ (min (Int.toNat a2) (IntKind.bits .u32))))) ||| (BitVec.ofInt (IntKind.bits .u32) (IntKind.u32.wrap (a1 * 2 ^ (min (Int.toNat (IntKind.i64.wrap ((32 : Int) - a2))) (IntKind.bits .u32)))))).toNat : Int)))
    else none
  else none
theorem antiquaryref02_rotr_ok (k : Nat) (a1 : Int) (a2 : Int) (r : Int) (h : antiquaryref02_rotr k a1 a2 = some r) : SpecOk P ⟨86, [.p (Kd.int .u32) a1, .p (Kd.int .i64) a2], [], .v (.p (Kd.int .u32) r), []⟩ := by
  refine spec_at Tryd.func86 (by kernel_rfl) (Nat.le_of_ble_eq_true (by kernel_rfl)) ?_
  unfold antiquaryref02_rotr at h
  obtain ⟨h1287, h⟩ := gd_inv h
  obtain ⟨h1288, h⟩ := gd_inv h
  replace h := Option.some.inj h; subst h
  exact Abs.Good.path_ret hm [.reg [], .reg []] [] Tryd.func86 (cs := [_, _]) (by kernel_rfl) ⟨h1287, h1288, trivial⟩ (by kernel_rfl)

def antiquaryref02_words_l1 : Nat → Int → List Int → List Int → Option (List Int)
  | 0, _, _, _ => none
  | k + 1, p1, p2, p3 =>
    if (decide (p1 < (64 : Int))) = true then
      if 0 ≤ (IntKind.i64.wrap (p1 - (15 : Int))) ∧ (IntKind.i64.wrap (p1 - (15 : Int))) < (64 : Int) then
        Option.bind (antiquaryref02_rotr k (List.getD p3 (Int.toNat (IntKind.i64.wrap (p1 - (15 : Int)))) (Kd.dflt (Kd.int .u32))) (7 : Int)) fun x1309 =>
        Option.bind (antiquaryref02_rotr k (List.getD p3 (Int.toNat (IntKind.i64.wrap (p1 - (15 : Int)))) (Kd.dflt (Kd.int .u32))) (18 : Int)) fun x1311 =>
        if 0 ≤ (IntKind.i64.wrap (p1 - (2 : Int))) ∧ (IntKind.i64.wrap (p1 - (2 : Int))) < (64 : Int) then
          Option.bind (antiquaryref02_rotr k (List.getD p3 (Int.toNat (IntKind.i64.wrap (p1 - (2 : Int)))) (Kd.dflt (Kd.int .u32))) (17 : Int)) fun x1314 =>
          Option.bind (antiquaryref02_rotr k (List.getD p3 (Int.toNat (IntKind.i64.wrap (p1 - (2 : Int)))) (Kd.dflt (Kd.int .u32))) (19 : Int)) fun x1316 =>
          if 0 ≤ (IntKind.i64.wrap (p1 - (16 : Int))) ∧ (IntKind.i64.wrap (p1 - (16 : Int))) < (64 : Int) then
            if 0 ≤ (IntKind.i64.wrap (p1 - (7 : Int))) ∧ (IntKind.i64.wrap (p1 - (7 : Int))) < (64 : Int) then
              if 0 ≤ p1 ∧ p1 < (64 : Int) then
                antiquaryref02_words_l1 k (IntKind.i64.wrap (p1 + (1 : Int))) p2 (List.set p3 (Int.toNat p1) (IntKind.u32.wrap ((IntKind.u32.wrap ((IntKind.u32.wrap ((List.getD p3 (Int.toNat (IntKind.i64.wrap (p1 - (16 : Int)))) (Kd.dflt (Kd.int .u32))) + (IntKind.u32.wrap (((BitVec.ofInt (IntKind.bits .u32) (IntKind.u32.wrap (((BitVec.ofInt (IntKind.bits .u32) x1309) ^^^ (BitVec.ofInt (IntKind.bits .u32) x1311)).toNat : Int))) ^^^ (BitVec.ofInt (IntKind.bits .u32) (Int.fdiv (List.getD p3 (Int.toNat (IntKind.i64.wrap (p1 - (15 : Int)))) (Kd.dflt (Kd.int .u32))) (2 ^ (min (Int.toNat (3 : Int)) (IntKind.bits .u32)))))).toNat : Int)))) + (List.getD p3 (Int.toNat (IntKind.i64.wrap (p1 - (7 : Int)))) (Kd.dflt (Kd.int .u32))))) + (IntKind.u32.wrap (((BitVec.ofInt (IntKind.bits .u32) (IntKind.u32.wrap (((BitVec.ofInt (IntKind.bits .u32) x1314) ^^^ (BitVec.ofInt (IntKind.bits .u32) x1316)).toNat : Int))) ^^^ (BitVec.ofInt (IntKind.bits .u32) (Int.fdiv (List.getD p3 (Int.toNat (IntKind.i64.wrap (p1 - (2 : Int)))) (Kd.dflt (Kd.int .u32))) (2 ^ (min (Int.toNat (10 : Int)) (IntKind.bits .u32)))))).toNat : Int)))))
              else none
            else none
          else none
        else none
      else none
    else
      some (p3)
def antiquaryref02_words_l0 : Nat → List Int → Int → List Int → List Int → Option (List Int)
  | 0, _, _, _, _ => none
  | k + 1, p1, p2, p3, p4 =>
    if (decide (p2 < (16 : Int))) = true then
      if 0 ≤ (IntKind.i64.wrap ((4 : Int) * p2)) ∧ (IntKind.i64.wrap ((4 : Int) * p2)) < (List.length p1 : Int) then
        if 0 ≤ (IntKind.i64.wrap ((IntKind.i64.wrap ((4 : Int) * p2)) + (1 : Int))) ∧ (IntKind.i64.wrap ((IntKind.i64.wrap ((4 : Int) * p2)) + (1 : Int))) < (List.length p1 : Int) then
          if 0 ≤ (IntKind.i64.wrap ((IntKind.i64.wrap ((4 : Int) * p2)) + (2 : Int))) ∧ (IntKind.i64.wrap ((IntKind.i64.wrap ((4 : Int) * p2)) + (2 : Int))) < (List.length p1 : Int) then
            if 0 ≤ (IntKind.i64.wrap ((IntKind.i64.wrap ((4 : Int) * p2)) + (3 : Int))) ∧ (IntKind.i64.wrap ((IntKind.i64.wrap ((4 : Int) * p2)) + (3 : Int))) < (List.length p1 : Int) then
              if 0 ≤ p2 ∧ p2 < (64 : Int) then
                antiquaryref02_words_l0 k p1 (IntKind.i64.wrap (p2 + (1 : Int))) p3 (List.set p4 (Int.toNat p2) (IntKind.u32.wrap (((BitVec.ofInt (IntKind.bits .u32) (IntKind.u32.wrap (((BitVec.ofInt (IntKind.bits .u32) (IntKind.u32.wrap (((BitVec.ofInt (IntKind.bits .u32) (IntKind.u32.wrap ((IntKind.u32.wrap (List.getD p1 (Int.toNat (IntKind.i64.wrap ((4 : Int) * p2))) (Kd.dflt (Kd.int .u8)))) * 2 ^ (min (Int.toNat (24 : Int)) (IntKind.bits .u32))))) ||| (BitVec.ofInt (IntKind.bits .u32) (IntKind.u32.wrap ((IntKind.u32.wrap (List.getD p1 (Int.toNat (IntKind.i64.wrap ((IntKind.i64.wrap ((4 : Int) * p2)) + (1 : Int)))) (Kd.dflt (Kd.int .u8)))) * 2 ^ (min (Int.toNat (16 : Int)) (IntKind.bits .u32)))))).toNat : Int))) ||| (BitVec.ofInt (IntKind.bits .u32) (IntKind.u32.wrap ((IntKind.u32.wrap (List.getD p1 (Int.toNat (IntKind.i64.wrap ((IntKind.i64.wrap ((4 : Int) * p2)) + (2 : Int)))) (Kd.dflt (Kd.int .u8)))) * 2 ^ (min (Int.toNat (8 : Int)) (IntKind.bits .u32)))))).toNat : Int))) ||| (BitVec.ofInt (IntKind.bits .u32) (IntKind.u32.wrap (List.getD p1 (Int.toNat (IntKind.i64.wrap ((IntKind.i64.wrap ((4 : Int) * p2)) + (3 : Int)))) (Kd.dflt (Kd.int .u8)))))).toNat : Int)))
              else none
            else none
          else none
        else none
      else none
    else
      antiquaryref02_words_l1 k (16 : Int) p3 p4
def antiquaryref02_words (k : Nat) (a1 : List Int) : Option (List Int) :=
  antiquaryref02_words_l0 k a1 (0 : Int) (Kd.dflt (Kd.arr 64 (Kd.int .u32))) (Kd.dflt (Kd.arr 64 (Kd.int .u32)))
theorem antiquaryref02_words_l1_ok (k : Nat) : ∀ (p1 : Int) (p2 : List Int) (p3 : List Int) (r : List Int), antiquaryref02_words_l1 k p1 p2 p3 = some r →
    Abs.Good P 85 Tryd.f85.ntmps [] [] (.v (.p (Kd.arr 64 (Kd.int .u32)) r)) (pos Tryd.f85 [.r, .r, .r, .r, .c false, .r]) [(sk 2, some (.v (.ptr 501001 0))), (sk 3, some (.v (.ptr 501002 0))), (sk 5, some (.v (.p (Kd.int .i64) p1))), (ek 501001, some (.box [.p (Kd.arr 64 (Kd.int .u32)) p2])), (ek 501002, some (.box [.p (Kd.arr 64 (Kd.int .u32)) p3]))] := by
  induction k with
  | zero => intro p1 p2 p3 r h; cases h
  | succ k ih =>
    intro p1 p2 p3 r h
    unfold antiquaryref02_words_l1 at h
    rcases br_inv h with ⟨h1307, h⟩ | ⟨h1307, h⟩
    · obtain ⟨h1308, h⟩ := gd_inv h
      obtain ⟨x1309, h1310, h⟩ := bind_inv h
      obtain ⟨x1311, h1312, h⟩ := bind_inv h
      obtain ⟨h1313, h⟩ := gd_inv h
      obtain ⟨x1314, h1315, h⟩ := bind_inv h
      obtain ⟨x1316, h1317, h⟩ := bind_inv h
      obtain ⟨h1318, h⟩ := gd_inv h
      obtain ⟨h1319, h⟩ := gd_inv h
      obtain ⟨h1320, h⟩ := gd_inv h
      exact Abs.Good.path hm [.reg [], .cond true, .reg [(4, { call := some { lend := [], pass := [], res := .v (.p (Kd.int .u32) x1309), outs := [], back := [] } }), (9, { call := some { lend := [], pass := [], res := .v (.p (Kd.int .u32) x1311), outs := [], back := [] } })], .reg [(4, { call := some { lend := [], pass := [], res := .v (.p (Kd.int .u32) x1314), outs := [], back := [] } }), (9, { call := some { lend := [], pass := [], res := .v (.p (Kd.int .u32) x1316), outs := [], back := [] } })], .reg [], .reg [], .keep [sk 2, sk 3, sk 5, ek 501001, ek 501002]] (cs := [_, _, _, _, _, _, _, _, _, _, _, _, _, _, _, _, _, _, _, _, _, _, _, _, _]) (by kernel_rfl) ⟨h1307, h1308.1, h1308.2, (antiquaryref02_rotr_ok k (List.getD p3 (Int.toNat (IntKind.i64.wrap (p1 - (15 : Int)))) (Kd.dflt (Kd.int .u32))) (7 : Int) _ h1310), h1308.1, h1308.2, (antiquaryref02_rotr_ok k (List.getD p3 (Int.toNat (IntKind.i64.wrap (p1 - (15 : Int)))) (Kd.dflt (Kd.int .u32))) (18 : Int) _ h1312), h1308.1, h1308.2, (by decide : 0 ≤ (3 : Int)), h1313.1, h1313.2, (antiquaryref02_rotr_ok k (List.getD p3 (Int.toNat (IntKind.i64.wrap (p1 - (2 : Int)))) (Kd.dflt (Kd.int .u32))) (17 : Int) _ h1315), h1313.1, h1313.2, (antiquaryref02_rotr_ok k (List.getD p3 (Int.toNat (IntKind.i64.wrap (p1 - (2 : Int)))) (Kd.dflt (Kd.int .u32))) (19 : Int) _ h1317), h1313.1, h1313.2, (by decide : 0 ≤ (10 : Int)), h1318.1, h1318.2, h1319.1, h1319.2, h1320.1, h1320.2, trivial⟩ (ih (IntKind.i64.wrap (p1 + (1 : Int))) p2 (List.set p3 (Int.toNat p1) (IntKind.u32.wrap ((IntKind.u32.wrap ((IntKind.u32.wrap ((List.getD p3 (Int.toNat (IntKind.i64.wrap (p1 - (16 : Int)))) (Kd.dflt (Kd.int .u32))) + (IntKind.u32.wrap (((BitVec.ofInt (IntKind.bits .u32) (IntKind.u32.wrap (((BitVec.ofInt (IntKind.bits .u32) x1309) ^^^ (BitVec.ofInt (IntKind.bits .u32) x1311)).toNat : Int))) ^^^ (BitVec.ofInt (IntKind.bits .u32) (Int.fdiv (List.getD p3 (Int.toNat (IntKind.i64.wrap (p1 - (15 : Int)))) (Kd.dflt (Kd.int .u32))) (2 ^ (min (Int.toNat (3 : Int)) (IntKind.bits .u32)))))).toNat : Int)))) + (List.getD p3 (Int.toNat (IntKind.i64.wrap (p1 - (7 : Int)))) (Kd.dflt (Kd.int .u32))))) + (IntKind.u32.wrap (((BitVec.ofInt (IntKind.bits .u32) (IntKind.u32.wrap (((BitVec.ofInt (IntKind.bits .u32) x1314) ^^^ (BitVec.ofInt (IntKind.bits .u32) x1316)).toNat : Int))) ^^^ (BitVec.ofInt (IntKind.bits .u32) (Int.fdiv (List.getD p3 (Int.toNat (IntKind.i64.wrap (p1 - (2 : Int)))) (Kd.dflt (Kd.int .u32))) (2 ^ (min (Int.toNat (10 : Int)) (IntKind.bits .u32)))))).toNat : Int))))) r h)
    · replace h := Option.some.inj h; subst h
      exact Abs.Good.path_ret hm [.reg [], .cond false, .reg []] [] Tryd.func85 (cs := [_]) (by kernel_rfl) ⟨h1307, trivial⟩ (by kernel_rfl)
theorem antiquaryref02_words_l0_ok (k : Nat) : ∀ (p1 : List Int) (p2 : Int) (p3 : List Int) (p4 : List Int) (r : List Int), antiquaryref02_words_l0 k p1 p2 p3 p4 = some r →
    Abs.Good P 85 Tryd.f85.ntmps [] [] (.v (.p (Kd.arr 64 (Kd.int .u32)) r)) (pos Tryd.f85 [.r, .r, .r]) [(sk 0, some (.v (.p (Kd.sl (Kd.int .u8)) p1))), (sk 2, some (.v (.ptr 500001 0))), (sk 3, some (.v (.ptr 500002 0))), (sk 4, some (.v (.p (Kd.int .i64) p2))), (ek 500001, some (.box [.p (Kd.arr 64 (Kd.int .u32)) p3])), (ek 500002, some (.box [.p (Kd.arr 64 (Kd.int .u32)) p4]))] := by
  induction k with
  | zero => intro p1 p2 p3 p4 r h; cases h
  | succ k ih =>
    intro p1 p2 p3 p4 r h
    unfold antiquaryref02_words_l0 at h
    rcases br_inv h with ⟨h1301, h⟩ | ⟨h1301, h⟩
    · obtain ⟨h1302, h⟩ := gd_inv h
      obtain ⟨h1303, h⟩ := gd_inv h
      obtain ⟨h1304, h⟩ := gd_inv h
      obtain ⟨h1305, h⟩ := gd_inv h
      obtain ⟨h1306, h⟩ := gd_inv h
      exact Abs.Good.path hm [.reg [], .cond true, .reg [], .reg [], .keep [sk 0, sk 2, sk 3, sk 4, ek 500001, ek 500002]] (cs := [_, _, _, _, _, _, _, _, _, _, _, _, _, _]) (by kernel_rfl) ⟨h1301, h1302.1, h1302.2, (by decide : 0 ≤ (24 : Int)), h1303.1, h1303.2, (by decide : 0 ≤ (16 : Int)), h1304.1, h1304.2, (by decide : 0 ≤ (8 : Int)), h1305.1, h1305.2, h1306.1, h1306.2, trivial⟩ (ih p1 (IntKind.i64.wrap (p2 + (1 : Int))) p3 (List.set p4 (Int.toNat p2) (IntKind.u32.wrap (((BitVec.ofInt (IntKind.bits .u32) (IntKind.u32.wrap (((BitVec.ofInt (IntKind.bits .u32) (IntKind.u32.wrap (((BitVec.ofInt (IntKind.bits .u32) (IntKind.u32.wrap ((IntKind.u32.wrap (List.getD p1 (Int.toNat (IntKind.i64.wrap ((4 : Int) * p2))) (Kd.dflt (Kd.int .u8)))) * 2 ^ (min (Int.toNat (24 : Int)) (IntKind.bits .u32))))) ||| (BitVec.ofInt (IntKind.bits .u32) (IntKind.u32.wrap ((IntKind.u32.wrap (List.getD p1 (Int.toNat (IntKind.i64.wrap ((IntKind.i64.wrap ((4 : Int) * p2)) + (1 : Int)))) (Kd.dflt (Kd.int .u8)))) * 2 ^ (min (Int.toNat (16 : Int)) (IntKind.bits .u32)))))).toNat : Int))) ||| (BitVec.ofInt (IntKind.bits .u32) (IntKind.u32.wrap ((IntKind.u32.wrap (List.getD p1 (Int.toNat (IntKind.i64.wrap ((IntKind.i64.wrap ((4 : Int) * p2)) + (2 : Int)))) (Kd.dflt (Kd.int .u8)))) * 2 ^ (min (Int.toNat (8 : Int)) (IntKind.bits .u32)))))).toNat : Int))) ||| (BitVec.ofInt (IntKind.bits .u32) (IntKind.u32.wrap (List.getD p1 (Int.toNat (IntKind.i64.wrap ((IntKind.i64.wrap ((4 : Int) * p2)) + (3 : Int)))) (Kd.dflt (Kd.int .u8)))))).toNat : Int))) r h)
    · exact Abs.Good.path hm [.reg [], .cond false, .reg [], .keep [sk 2, sk 3, sk 5, ek 500001, ek 500002], .ren [(500001, 501001), (500002, 501002)]] (cs := [_]) (by kernel_rfl) ⟨h1301, trivial⟩ (antiquaryref02_words_l1_ok k (16 : Int) p3 p4 r h)
theorem antiquaryref02_words_ok (k : Nat) (a1 : List Int) (r : List Int) (h : antiquaryref02_words k a1 = some r) : SpecOk P ⟨85, [.p (Kd.sl (Kd.int .u8)) a1], [], .v (.p (Kd.arr 64 (Kd.int .u32)) r), []⟩ := by
  refine spec_at Tryd.func85 (by kernel_rfl) (Nat.le_of_ble_eq_true (by kernel_rfl)) ?_
  unfold antiquaryref02_words at h
  exact Abs.Good.path hm [.reg [], .reg [], .reg [], .keep [sk 0, sk 2, sk 3, sk 4, ek 2, ek 3], .ren [(2, 500001), (3, 500002)]] (cs := []) (by kernel_rfl) trivial (antiquaryref02_words_l0_ok k a1 (0 : Int) (Kd.dflt (Kd.arr 64 (Kd.int .u32))) (Kd.dflt (Kd.arr 64 (Kd.int .u32))) r h)

def antiquaryref02_Sum_l2 : Nat → Int → List Int → List Int → List Int → Option (List Int)
  | 0, _, _, _, _ => none
  | k + 1, p1, p2, p3, p4 =>
    if (decide (p1 < (32 : Int))) = true then
      if 0 ≤ (IntKind.i64.wrap (Int.tdiv p1 (4 : Int))) ∧ (IntKind.i64.wrap (Int.tdiv p1 (4 : Int))) < (8 : Int) then
        if 0 ≤ (IntKind.i64.wrap ((24 : Int) - (IntKind.i64.wrap ((8 : Int) * (Int.tmod p1 (4 : Int)))))) then
          if 0 ≤ p1 ∧ p1 < (32 : Int) then
            antiquaryref02_Sum_l2 k (IntKind.i64.wrap (p1 + (1 : Int))) p2 p3 (List.set p4 (Int.toNat p1) (IntKind.u8.wrap (Int.fdiv (List.getD p3 (Int.toNat (IntKind.i64.wrap (Int.tdiv p1 (4 : Int)))) (Kd.dflt (Kd.int .u32))) (2 ^ (min (Int.toNat (IntKind.i64.wrap ((24 : Int) - (IntKind.i64.wrap ((8 : Int) * (Int.tmod p1 (4 : Int))))))) (IntKind.bits .u32))))))
          else none
        else none
      else none
    else
      some (p4)
def antiquaryref02_Sum_l3 (s0 : List Int → Int → List Int → List Int → Option (List Int)) : Nat → List Int → Int → Int → List Int → List Int → List Int → Option (List Int)
  | 0, _, _, _, _, _, _ => none
  | k + 1, p1, p2, p3, p4, p5, p6 =>
    if (decide (p3 < (8 : Int))) = true then
      if 0 ≤ p3 ∧ p3 < (8 : Int) then
        antiquaryref02_Sum_l3 s0 k p1 p2 (IntKind.i64.wrap (p3 + (1 : Int))) p4 (List.set p5 (Int.toNat p3) (IntKind.u32.wrap ((List.getD p5 (Int.toNat p3) (Kd.dflt (Kd.int .u32))) + (List.getD p6 (Int.toNat p3) (Kd.dflt (Kd.int .u32)))))) p6
      else none
    else
      s0 p1 (IntKind.i64.wrap (p2 + (64 : Int))) p4 p5
def antiquaryref02_Sum_l1 (s0 : List Int → Int → List Int → List Int → Option (List Int)) : Nat → List Int → Int → Int → List Int → List Int → List Int → List Int → Option (List Int)
  | 0, _, _, _, _, _, _, _ => none
  | k + 1, p1, p2, p3, p4, p5, p6, p7 =>
    if (decide (p3 < (64 : Int))) = true then
      Option.bind (antiquaryref02_rotr k (List.getD p7 (4) (Kd.dflt (Kd.int .u32))) (6 : Int)) fun x1380 =>
      Option.bind (antiquaryref02_rotr k (List.getD p7 (4) (Kd.dflt (Kd.int .u32))) (11 : Int)) fun x1382 =>
      Option.bind (antiquaryref02_rotr k (List.getD p7 (4) (Kd.dflt (Kd.int .u32))) (25 : Int)) fun x1384 =>
      if 0 ≤ p3 ∧ p3 < (64 : Int) then
        Option.bind (antiquaryref02_rotr k (List.getD p7 (0) (Kd.dflt (Kd.int .u32))) (2 : Int)) fun x1387 =>
        Option.bind (antiquaryref02_rotr k (List.getD p7 (0) (Kd.dflt (Kd.int .u32))) (13 : Int)) fun x1389 =>
        Option.bind (antiquaryref02_rotr k (List.getD p7 (0) (Kd.dflt (Kd.int .u32))) (22 : Int)) fun x1391 =>
        antiquaryref02_Sum_l1 s0 k p1 p2 (IntKind.i64.wrap (p3 + (1 : Int))) p4 p5 p6 ([(IntKind.u32.wrap ((IntKind.u32.wrap ((IntKind.u32.wrap ((IntKind.u32.wrap ((IntKind.u32.wrap ((List.getD p7 (7) (Kd.dflt (Kd.int .u32))) + (IntKind.u32.wrap (((BitVec.ofInt (IntKind.bits .u32) (IntKind.u32.wrap (((BitVec.ofInt (IntKind.bits .u32) x1380) ^^^ (BitVec.ofInt (IntKind.bits .u32) x1382)).toNat : Int))) ^^^ (BitVec.ofInt (IntKind.bits .u32) x1384)).toNat : Int)))) + (IntKind.u32.wrap (((BitVec.ofInt (IntKind.bits .u32) (IntKind.u32.wrap (((BitVec.ofInt (IntKind.bits .u32) (List.getD p7 (4) (Kd.dflt (Kd.int .u32)))) &&& (BitVec.ofInt (IntKind.bits .u32) (List.getD p7 (5) (Kd.dflt (Kd.int .u32))))).toNat : Int))) ^^^ (BitVec.ofInt (IntKind.bits .u32) (IntKind.u32.wrap (((BitVec.ofInt (IntKind.bits .u32) (IntKind.u32.wrap (((BitVec.ofInt (IntKind.bits .u32) (List.getD p7 (4) (Kd.dflt (Kd.int .u32)))) ^^^ (BitVec.ofInt (IntKind.bits .u32) (4294967295 : Int))).toNat : Int))) &&& (BitVec.ofInt (IntKind.bits .u32) (List.getD p7 (6) (Kd.dflt (Kd.int .u32))))).toNat : Int)))).toNat : Int)))) + (List.getD gK2 (Int.toNat p3) (Kd.dflt (Kd.int .u32))))) + (List.getD p6 (Int.toNat p3) (Kd.dflt (Kd.int .u32))))) + (IntKind.u32.wrap ((IntKind.u32.wrap (((BitVec.ofInt (IntKind.bits .u32) (IntKind.u32.wrap (((BitVec.ofInt (IntKind.bits .u32) x1387) ^^^ (BitVec.ofInt (IntKind.bits .u32) x1389)).toNat : Int))) ^^^ (BitVec.ofInt (IntKind.bits .u32) x1391)).toNat : Int)) + (IntKind.u32.wrap (((BitVec.ofInt (IntKind.bits .u32) (IntKind.u32.wrap (((BitVec.ofInt (IntKind.bits .u32) (IntKind.u32.wrap (((BitVec.ofInt (IntKind.bits .u32) (List.getD p7 (0) (Kd.dflt (Kd.int .u32)))) &&& (BitVec.ofInt (IntKind.bits .u32) (List.getD p7 (1) (Kd.dflt (Kd.int .u32))))).toNat : Int))) ^^^ (BitVec.ofInt (IntKind.bits .u32) (IntKind.u32.wrap (((BitVec.ofInt (IntKind.bits .u32) (List.getD p7 (0) (Kd.dflt (Kd.int .u32)))) &&& (BitVec.ofInt (IntKind.bits .u32) (List.getD p7 (2) (Kd.dflt (Kd.int .u32))))).toNat : Int)))).toNat : Int))) ^^^ (BitVec.ofInt (IntKind.bits .u32) (IntKind.u32.wrap (((BitVec.ofInt (IntKind.bits .u32) (List.getD p7 (1) (Kd.dflt (Kd.int .u32)))) &&& (BitVec.ofInt (IntKind.bits .u32) (List.getD p7 (2) (Kd.dflt (Kd.int .u32))))).toNat : Int)))).toNat : Int)))))), (List.getD p7 (0) (Kd.dflt (Kd.int .u32))), (List.getD p7 (1) (Kd.dflt (Kd.int .u32))), (List.getD p7 (2) (Kd.dflt (Kd.int .u32))), (IntKind.u32.wrap ((List.getD p7 (3) (Kd.dflt (Kd.int .u32))) + (IntKind.u32.wrap ((IntKind.u32.wrap ((IntKind.u32.wrap ((IntKind.u32.wrap ((List.getD p7 (7) (Kd.dflt (Kd.int .u32))) + (IntKind.u32.wrap (((BitVec.ofInt (IntKind.bits .u32) (IntKind.u32.wrap (((BitVec.ofInt (IntKind.bits .u32) x1380) ^^^ (BitVec.ofInt (IntKind.bits .u32) x1382)).toNat : Int))) ^^^ (BitVec.ofInt (IntKind.bits .u32) x1384)).toNat : Int)))) + (IntKind.u32.wrap (((BitVec.ofInt (IntKind.bits .u32) (IntKind.u32.wrap (((BitVec.ofInt (IntKind.bits .u32) (List.getD p7 (4) (Kd.dflt (Kd.int .u32)))) &&& (BitVec.ofInt (IntKind.bits .u32) (List.getD p7 (5) (Kd.dflt (Kd.int .u32))))).toNat : Int))) ^^^ (BitVec.ofInt (IntKind.bits .u32) (IntKind.u32.wrap (((BitVec.ofInt (IntKind.bits .u32) (IntKind.u32.wrap (((BitVec.ofInt (IntKind.bits .u32) (List.getD p7 (4) (Kd.dflt (Kd.int .u32)))) ^^^ (BitVec.ofInt (IntKind.bits .u32) (4294967295 : Int))).toNat : Int))) &&& (BitVec.ofInt (IntKind.bits .u32) (List.getD p7 (6) (Kd.dflt (Kd.int .u32))))).toNat : Int)))).toNat : Int)))) + (List.getD gK2 (Int.toNat p3) (Kd.dflt (Kd.int .u32))))) + (List.getD p6 (Int.toNat p3) (Kd.dflt (Kd.int .u32))))))), (List.getD p7 (4) (Kd.dflt (Kd.int .u32))), (List.getD p7 (5) (Kd.dflt (Kd.int .u32))), (List.getD p7 (6) (Kd.dflt (Kd.int .u32)))] : List Int)
      else none
    else
      antiquaryref02_Sum_l3 s0 k p1 p2 (0 : Int) p4 p5 p7
def antiquaryref02_Sum_l0 : Nat → List Int → Int → List Int → List Int → Option (List Int)
  | 0, _, _, _, _ => none
  | k + 1, p1, p2, p3, p4 =>
    if (decide (p2 < (List.length p1 : Int))) = true then
      if 0 ≤ (IntKind.i64.wrap (p2 + (64 : Int))) ∧ (IntKind.i64.wrap (p2 + (64 : Int))) ≤ (List.length p1 : Int) ∧ 0 ≤ p2 ∧ p2 ≤ (IntKind.i64.wrap (p2 + (64 : Int))) then
        Option.bind (antiquaryref02_words k (List.drop (Int.toNat p2) (List.take (Int.toNat (IntKind.i64.wrap (p2 + (64 : Int)))) p1))) fun x1377 =>
        antiquaryref02_Sum_l1 (antiquaryref02_Sum_l0 k) k p1 p2 (0 : Int) p3 p4 x1377 p4
      else none
    else
      antiquaryref02_Sum_l2 k (0 : Int) p3 p4 (Kd.dflt (Kd.arr 32 (Kd.int .u8)))
def antiquaryref02_Sum (k : Nat) (a1 : List Int) : Option (List Int) :=
  Option.bind (antiquaryref02_padded k a1) fun x1373 =>
  antiquaryref02_Sum_l0 k x1373 (0 : Int) (Kd.dflt (Kd.arr 32 (Kd.int .u8))) ([(1779033703 : Int), (3144134277 : Int), (1013904242 : Int), (2773480762 : Int), (1359893119 : Int), (2600822924 : Int), (528734635 : Int), (1541459225 : Int)] : List Int)
theorem antiquaryref02_Sum_l2_ok (k : Nat) : ∀ (p1 : Int) (p2 : List Int) (p3 : List Int) (p4 : List Int) (r : List Int), antiquaryref02_Sum_l2 k p1 p2 p3 p4 = some r →
    Abs.Good P 79 Tryd.f79.ntmps [] [] (.v (.p (Kd.arr 32 (Kd.int .u8)) r)) (pos Tryd.f79 [.r, .r, .r, .r, .r, .c false, .r, .r]) [(sk 2, some (.v (.ptr 502001 0))), (sk 3, some (.v (.ptr 502002 0))), (sk 12, some (.v (.ptr 502003 0))), (sk 13, some (.v (.p (Kd.int .i64) p1))), (ek 502001, some (.box [.p (Kd.arr 32 (Kd.int .u8)) p2])), (ek 502002, some (.box [.p (Kd.arr 8 (Kd.int .u32)) p3])), (ek 502003, some (.box [.p (Kd.arr 32 (Kd.int .u8)) p4]))] := by
  induction k with
  | zero => intro p1 p2 p3 p4 r h; cases h
  | succ k ih =>
    intro p1 p2 p3 p4 r h
    unfold antiquaryref02_Sum_l2 at h
    rcases br_inv h with ⟨h1393, h⟩ | ⟨h1393, h⟩
    · obtain ⟨h1394, h⟩ := gd_inv h
      obtain ⟨h1395, h⟩ := gd_inv h
      obtain ⟨h1396, h⟩ := gd_inv h
      exact Abs.Good.path hm [.reg [], .cond true, .reg [], .reg [], .keep [sk 2, sk 3, sk 12, sk 13, ek 502001, ek 502002, ek 502003]] (cs := [_, _, _, _, _, _, _, _]) (by kernel_rfl) ⟨h1393, (by decide : (4 : Int) ≠ 0), h1394.1, h1394.2, (by decide : (4 : Int) ≠ 0), h1395, h1396.1, h1396.2, trivial⟩ (ih (IntKind.i64.wrap (p1 + (1 : Int))) p2 p3 (List.set p4 (Int.toNat p1) (IntKind.u8.wrap (Int.fdiv (List.getD p3 (Int.toNat (IntKind.i64.wrap (Int.tdiv p1 (4 : Int)))) (Kd.dflt (Kd.int .u32))) (2 ^ (min (Int.toNat (IntKind.i64.wrap ((24 : Int) - (IntKind.i64.wrap ((8 : Int) * (Int.tmod p1 (4 : Int))))))) (IntKind.bits .u32)))))) r h)
    · replace h := Option.some.inj h; subst h
      exact Abs.Good.path_ret hm [.reg [], .cond false, .reg []] [] Tryd.func79 (cs := [_]) (by kernel_rfl) ⟨h1393, trivial⟩ (by kernel_rfl)
theorem antiquaryref02_Sum_l3_ok (s0 : List Int → Int → List Int → List Int → Option (List Int)) (hs0 : ∀ (p1 : List Int) (p2 : Int) (p3 : List Int) (p4 : List Int) (r : List Int), s0 p1 p2 p3 p4 = some r → Abs.Good P 79 Tryd.f79.ntmps [] [] (.v (.p (Kd.arr 32 (Kd.int .u8)) r)) (pos Tryd.f79 [.r, .r, .r, .r]) [(sk 2, some (.v (.ptr 500001 0))), (sk 3, some (.v (.ptr 500002 0))), (sk 4, some (.v (.p (Kd.sl (Kd.int .u8)) p1))), (sk 5, some (.v (.p (Kd.int .i64) p2))), (ek 500001, some (.box [.p (Kd.arr 32 (Kd.int .u8)) p3])), (ek 500002, some (.box [.p (Kd.arr 8 (Kd.int .u32)) p4]))]) (k : Nat) : ∀ (p1 : List Int) (p2 : Int) (p3 : Int) (p4 : List Int) (p5 : List Int) (p6 : List Int) (r : List Int), antiquaryref02_Sum_l3 s0 k p1 p2 p3 p4 p5 p6 = some r →
    Abs.Good P 79 Tryd.f79.ntmps [] [] (.v (.p (Kd.arr 32 (Kd.int .u8)) r)) (pos Tryd.f79 [.r, .r, .r, .r, .r, .c true, .r, .r, .r, .r, .c false, .r]) [(sk 2, some (.v (.ptr 503001 0))), (sk 3, some (.v (.ptr 503002 0))), (sk 4, some (.v (.p (Kd.sl (Kd.int .u8)) p1))), (sk 5, some (.v (.p (Kd.int .i64) p2))), (sk 7, some (.v (.ptr 503003 0))), (sk 11, some (.v (.p (Kd.int .i64) p3))), (ek 503001, some (.box [.p (Kd.arr 32 (Kd.int .u8)) p4])), (ek 503002, some (.box [.p (Kd.arr 8 (Kd.int .u32)) p5])), (ek 503003, some (.box [.p (Kd.arr 8 (Kd.int .u32)) p6]))] := by
  induction k with
  | zero => intro p1 p2 p3 p4 p5 p6 r h; cases h
  | succ k ih =>
    intro p1 p2 p3 p4 p5 p6 r h
    unfold antiquaryref02_Sum_l3 at h
    rcases br_inv h with ⟨h1397, h⟩ | ⟨h1397, h⟩
    · obtain ⟨h1398, h⟩ := gd_inv h
      exact Abs.Good.path hm [.reg [], .cond true, .reg [], .reg [], .keep [sk 2, sk 3, sk 4, sk 5, sk 7, sk 11, ek 503001, ek 503002, ek 503003]] (cs := [_, _, _, _, _, _, _]) (by kernel_rfl) ⟨h1397, h1398.1, h1398.2, h1398.1, h1398.2, h1398.1, h1398.2, trivial⟩ (ih p1 p2 (IntKind.i64.wrap (p3 + (1 : Int))) p4 (List.set p5 (Int.toNat p3) (IntKind.u32.wrap ((List.getD p5 (Int.toNat p3) (Kd.dflt (Kd.int .u32))) + (List.getD p6 (Int.toNat p3) (Kd.dflt (Kd.int .u32)))))) p6 r h)
    · exact Abs.Good.path hm [.reg [], .cond false, .reg [], .keep [sk 2, sk 3, sk 4, sk 5, ek 503001, ek 503002], .ren [(503001, 500001), (503002, 500002)]] (cs := [_]) (by kernel_rfl) ⟨h1397, trivial⟩ (hs0 p1 (IntKind.i64.wrap (p2 + (64 : Int))) p4 p5 r h)
theorem antiquaryref02_Sum_l1_ok (s0 : List Int → Int → List Int → List Int → Option (List Int)) (hs0 : ∀ (p1 : List Int) (p2 : Int) (p3 : List Int) (p4 : List Int) (r : List Int), s0 p1 p2 p3 p4 = some r → Abs.Good P 79 Tryd.f79.ntmps [] [] (.v (.p (Kd.arr 32 (Kd.int .u8)) r)) (pos Tryd.f79 [.r, .r, .r, .r]) [(sk 2, some (.v (.ptr 500001 0))), (sk 3, some (.v (.ptr 500002 0))), (sk 4, some (.v (.p (Kd.sl (Kd.int .u8)) p1))), (sk 5, some (.v (.p (Kd.int .i64) p2))), (ek 500001, some (.box [.p (Kd.arr 32 (Kd.int .u8)) p3])), (ek 500002, some (.box [.p (Kd.arr 8 (Kd.int .u32)) p4]))]) (k : Nat) : ∀ (p1 : List Int) (p2 : Int) (p3 : Int) (p4 : List Int) (p5 : List Int) (p6 : List Int) (p7 : List Int) (r : List Int), antiquaryref02_Sum_l1 s0 k p1 p2 p3 p4 p5 p6 p7 = some r →
    Abs.Good P 79 Tryd.f79.ntmps [] [] (.v (.p (Kd.arr 32 (Kd.int .u8)) r)) (pos Tryd.f79 [.r, .r, .r, .r, .r, .c true, .r, .r, .r]) [(sk 2, some (.v (.ptr 501001 0))), (sk 3, some (.v (.ptr 501002 0))), (sk 4, some (.v (.p (Kd.sl (Kd.int .u8)) p1))), (sk 5, some (.v (.p (Kd.int .i64) p2))), (sk 6, some (.v (.ptr 501003 0))), (sk 7, some (.v (.ptr 501004 0))), (sk 8, some (.v (.p (Kd.int .i64) p3))), (ek 501001, some (.box [.p (Kd.arr 32 (Kd.int .u8)) p4])), (ek 501002, some (.box [.p (Kd.arr 8 (Kd.int .u32)) p5])), (ek 501003, some (.box [.p (Kd.arr 64 (Kd.int .u32)) p6])), (ek 501004, some (.box [.p (Kd.arr 8 (Kd.int .u32)) p7]))] := by
  induction k with
  | zero => intro p1 p2 p3 p4 p5 p6 p7 r h; cases h
  | succ k ih =>
    intro p1 p2 p3 p4 p5 p6 p7 r h
    unfold antiquaryref02_Sum_l1 at h
    rcases br_inv h with ⟨h1379, h⟩ | ⟨h1379, h⟩
    · obtain ⟨x1380, h1381, h⟩ := bind_inv h
      obtain ⟨x1382, h1383, h⟩ := bind_inv h
      obtain ⟨x1384, h1385, h⟩ := bind_inv h
      obtain ⟨h1386, h⟩ := gd_inv h
      obtain ⟨x1387, h1388, h⟩ := bind_inv h
      obtain ⟨x1389, h1390, h⟩ := bind_inv h
      obtain ⟨x1391, h1392, h⟩ := bind_inv h
      exact Abs.Good.path hm [.reg [], .cond true, .reg [(4, { call := some { lend := [], pass := [], res := .v (.p (Kd.int .u32) x1380), outs := [], back := [] } }), (7, { call := some { lend := [], pass := [], res := .v (.p (Kd.int .u32) x1382), outs := [], back := [] } }), (11, { call := some { lend := [], pass := [], res := .v (.p (Kd.int .u32) x1384), outs := [], back := [] } })], .reg [(2, { call := some { lend := [], pass := [], res := .v (.p (Kd.int .u32) x1387), outs := [], back := [] } }), (5, { call := some { lend := [], pass := [], res := .v (.p (Kd.int .u32) x1389), outs := [], back := [] } }), (9, { call := some { lend := [], pass := [], res := .v (.p (Kd.int .u32) x1391), outs := [], back := [] } })], .reg [], .reg [], .keep [sk 2, sk 3, sk 4, sk 5, sk 6, sk 7, sk 8, ek 501001, ek 501002, ek 501003, ek 501004]] (cs := [_, _, _, _, _, _, _, _, _, _, _, _, _, _, _, _, _, _, _, _, _, _, _, _, _, _, _, _, _, _, _, _, _, _, _, _, _, _, _, _, _, _, _, _, _, _, _, _, _, _, _, _, _, _, _, _, _, _, _]) (by kernel_rfl) ⟨h1379, (by decide : 0 ≤ (7 : Int)), (by decide : (7 : Int) < (8 : Int)), (by decide : 0 ≤ (4 : Int)), (by decide : (4 : Int) < (8 : Int)), (antiquaryref02_rotr_ok k (List.getD p7 (4) (Kd.dflt (Kd.int .u32))) (6 : Int) _ h1381), (by decide : 0 ≤ (4 : Int)), (by decide : (4 : Int) < (8 : Int)), (antiquaryref02_rotr_ok k (List.getD p7 (4) (Kd.dflt (Kd.int .u32))) (11 : Int) _ h1383), (by decide : 0 ≤ (4 : Int)), (by decide : (4 : Int) < (8 : Int)), (antiquaryref02_rotr_ok k (List.getD p7 (4) (Kd.dflt (Kd.int .u32))) (25 : Int) _ h1385), (by decide : 0 ≤ (4 : Int)), (by decide : (4 : Int) < (8 : Int)), (by decide : 0 ≤ (5 : Int)), (by decide : (5 : Int) < (8 : Int)), (by decide : 0 ≤ (4 : Int)), (by decide : (4 : Int) < (8 : Int)), (by decide : 0 ≤ (6 : Int)), (by decide : (6 : Int) < (8 : Int)), h1386.1, h1386.2, h1386.1, h1386.2, (by decide : 0 ≤ (0 : Int)), (by decide : (0 : Int) < (8 : Int)), (antiquaryref02_rotr_ok k (List.getD p7 (0) (Kd.dflt (Kd.int .u32))) (2 : Int) _ h1388), (by decide : 0 ≤ (0 : Int)), (by decide : (0 : Int) < (8 : Int)), (antiquaryref02_rotr_ok k (List.getD p7 (0) (Kd.dflt (Kd.int .u32))) (13 : Int) _ h1390), (by decide : 0 ≤ (0 : Int)), (by decide : (0 : Int) < (8 : Int)), (antiquaryref02_rotr_ok k (List.getD p7 (0) (Kd.dflt (Kd.int .u32))) (22 : Int) _ h1392), (by decide : 0 ≤ (0 : Int)), (by decide : (0 : Int) < (8 : Int)), (by decide : 0 ≤ (1 : Int)), (by decide : (1 : Int) < (8 : Int)), (by decide : 0 ≤ (0 : Int)), (by decide : (0 : Int) < (8 : Int)), (by decide : 0 ≤ (2 : Int)), (by decide : (2 : Int) < (8 : Int)), (by decide : 0 ≤ (1 : Int)), (by decide : (1 : Int) < (8 : Int)), (by decide : 0 ≤ (2 : Int)), (by decide : (2 : Int) < (8 : Int)), (by decide : 0 ≤ (0 : Int)), (by decide : (0 : Int) < (8 : Int)), (by decide : 0 ≤ (1 : Int)), (by decide : (1 : Int) < (8 : Int)), (by decide : 0 ≤ (2 : Int)), (by decide : (2 : Int) < (8 : Int)), (by decide : 0 ≤ (3 : Int)), (by decide : (3 : Int) < (8 : Int)), (by decide : 0 ≤ (4 : Int)), (by decide : (4 : Int) < (8 : Int)), (by decide : 0 ≤ (5 : Int)), (by decide : (5 : Int) < (8 : Int)), (by decide : 0 ≤ (6 : Int)), (by decide : (6 : Int) < (8 : Int)), trivial⟩ (ih p1 p2 (IntKind.i64.wrap (p3 + (1 : Int))) p4 p5 p6 ([(IntKind.u32.wrap ((IntKind.u32.wrap ((IntKind.u32.wrap ((IntKind.u32.wrap ((IntKind.u32.wrap ((List.getD p7 (7) (Kd.dflt (Kd.int .u32))) + (IntKind.u32.wrap (((BitVec.ofInt (IntKind.bits .u32) (IntKind.u32.wrap (((BitVec.ofInt (IntKind.bits .u32) x1380) ^^^ (BitVec.ofInt (IntKind.bits .u32) x1382)).toNat : Int))) ^^^ (BitVec.ofInt (IntKind.bits .u32) x1384)).toNat : Int)))) + (IntKind.u32.wrap (((BitVec.ofInt (IntKind.bits .u32) (IntKind.u32.wrap (((BitVec.ofInt (IntKind.bits .u32) (List.getD p7 (4) (Kd.dflt (Kd.int .u32)))) &&& (BitVec.ofInt (IntKind.bits .u32) (List.getD p7 (5) (Kd.dflt (Kd.int .u32))))).toNat : Int))) ^^^ (BitVec.ofInt (IntKind.bits .u32) (IntKind.u32.wrap (((BitVec.ofInt (IntKind.bits .u32) (IntKind.u32.wrap (((BitVec.ofInt (IntKind.bits .u32) (List.getD p7 (4) (Kd.dflt (Kd.int .u32)))) ^^^ (BitVec.ofInt (IntKind.bits .u32) (4294967295 : Int))).toNat : Int))) &&& (BitVec.ofInt (IntKind.bits .u32) (List.getD p7 (6) (Kd.dflt (Kd.int .u32))))).toNat : Int)))).toNat : Int)))) + (List.getD gK2 (Int.toNat p3) (Kd.dflt (Kd.int .u32))))) + (List.getD p6 (Int.toNat p3) (Kd.dflt (Kd.int .u32))))) + (IntKind.u32.wrap ((IntKind.u32.wrap (((BitVec.ofInt (IntKind.bits .u32) (IntKind.u32.wrap (((BitVec.ofInt (IntKind.bits .u32) x1387) ^^^ (BitVec.ofInt (IntKind.bits .u32) x1389)).toNat : Int))) ^^^ (BitVec.ofInt (IntKind.bits .u32) x1391)).toNat : Int)) + (IntKind.u32.wrap (((BitVec.ofInt (IntKind.bits .u32) (IntKind.u32.wrap (((BitVec.ofInt (IntKind.bits .u32) (IntKind.u32.wrap (((BitVec.ofInt (IntKind.bits .u32) (List.getD p7 (0) (Kd.dflt (Kd.int .u32)))) &&& (BitVec.ofInt (IntKind.bits .u32) (List.getD p7 (1) (Kd.dflt (Kd.int .u32))))).toNat : Int))) ^^^ (BitVec.ofInt (IntKind.bits .u32) (IntKind.u32.wrap (((BitVec.ofInt (IntKind.bits .u32) (List.getD p7 (0) (Kd.dflt (Kd.int .u32)))) &&& (BitVec.ofInt (IntKind.bits .u32) (List.getD p7 (2) (Kd.dflt (Kd.int .u32))))).toNat : Int)))).toNat : Int))) ^^^ (BitVec.ofInt (IntKind.bits .u32) (IntKind.u32.wrap (((BitVec.ofInt (IntKind.bits .u32) (List.getD p7 (1) (Kd.dflt (Kd.int .u32)))) &&& (BitVec.ofInt (IntKind.bits .u32) (List.getD p7 (2) (Kd.dflt (Kd.int .u32))))).toNat : Int)))).toNat : Int)))))), (List.getD p7 (0) (Kd.dflt (Kd.int .u32))), (List.getD p7 (1) (Kd.dflt (Kd.int .u32))), (List.getD p7 (2) (Kd.dflt (Kd.int .u32))), (IntKind.u32.wrap ((List.getD p7 (3) (Kd.dflt (Kd.int .u32))) + (IntKind.u32.wrap ((IntKind.u32.wrap ((IntKind.u32.wrap ((IntKind.u32.wrap ((List.getD p7 (7) (Kd.dflt (Kd.int .u32))) + (IntKind.u32.wrap (((BitVec.ofInt (IntKind.bits .u32) (IntKind.u32.wrap (((BitVec.ofInt (IntKind.bits .u32) x1380) ^^^ (BitVec.ofInt (IntKind.bits .u32) x1382)).toNat : Int))) ^^^ (BitVec.ofInt (IntKind.bits .u32) x1384)).toNat : Int)))) + (IntKind.u32.wrap (((BitVec.ofInt (IntKind.bits .u32) (IntKind.u32.wrap (((BitVec.ofInt (IntKind.bits .u32) (List.getD p7 (4) (Kd.dflt (Kd.int .u32)))) &&& (BitVec.ofInt (IntKind.bits .u32) (List.getD p7 (5) (Kd.dflt (Kd.int .u32))))).toNat : Int))) ^^^ (BitVec.ofInt (IntKind.bits .u32) (IntKind.u32.wrap (((BitVec.ofInt (IntKind.bits .u32) (IntKind.u32.wrap (((BitVec.ofInt (IntKind.bits .u32) (List.getD p7 (4) (Kd.dflt (Kd.int .u32)))) ^^^ (BitVec.ofInt (IntKind.bits .u32) (4294967295 : Int))).toNat : Int))) &&& (BitVec.ofInt (IntKind.bits .u32) (List.getD p7 (6) (Kd.dflt (Kd.int .u32))))).toNat : Int)))).toNat : Int)))) + (List.getD gK2 (Int.toNat p3) (Kd.dflt (Kd.int .u32))))) + (List.getD p6 (Int.toNat p3) (Kd.dflt (Kd.int .u32))))))), (List.getD p7 (4) (Kd.dflt (Kd.int .u32))), (List.getD p7 (5) (Kd.dflt (Kd.int .u32))), (List.getD p7 (6) (Kd.dflt (Kd.int .u32)))] : List Int) r h)
    · exact Abs.Good.path hm [.reg [], .cond false, .reg [], .keep [sk 2, sk 3, sk 4, sk 5, sk 7, sk 11, ek 501001, ek 501002, ek 501004], .ren [(501001, 503001), (501002, 503002), (501004, 503003)]] (cs := [_]) (by kernel_rfl) ⟨h1379, trivial⟩ (antiquaryref02_Sum_l3_ok s0 hs0 k p1 p2 (0 : Int) p4 p5 p7 r h)
theorem antiquaryref02_Sum_l0_ok (k : Nat) : ∀ (p1 : List Int) (p2 : Int) (p3 : List Int) (p4 : List Int) (r : List Int), antiquaryref02_Sum_l0 k p1 p2 p3 p4 = some r →
    Abs.Good P 79 Tryd.f79.ntmps [] [] (.v (.p (Kd.arr 32 (Kd.int .u8)) r)) (pos Tryd.f79 [.r, .r, .r, .r]) [(sk 2, some (.v (.ptr 500001 0))), (sk 3, some (.v (.ptr 500002 0))), (sk 4, some (.v (.p (Kd.sl (Kd.int .u8)) p1))), (sk 5, some (.v (.p (Kd.int .i64) p2))), (ek 500001, some (.box [.p (Kd.arr 32 (Kd.int .u8)) p3])), (ek 500002, some (.box [.p (Kd.arr 8 (Kd.int .u32)) p4]))] := by
  induction k with
  | zero => intro p1 p2 p3 p4 r h; cases h
  | succ k ih =>
    intro p1 p2 p3 p4 r h
    unfold antiquaryref02_Sum_l0 at h
    rcases br_inv h with ⟨h1375, h⟩ | ⟨h1375, h⟩
    · obtain ⟨h1376, h⟩ := gd_inv h
      obtain ⟨x1377, h1378, h⟩ := bind_inv h
      exact Abs.Good.path hm [.reg [], .cond true, .reg [(5, { call := some { lend := [], pass := [], res := .v (.p (Kd.arr 64 (Kd.int .u32)) x1377), outs := [], back := [] } })], .reg [], .reg [], .keep [sk 2, sk 3, sk 4, sk 5, sk 6, sk 7, sk 8, ek 500001, ek 500002, ek 6, ek 7], .ren [(500001, 501001), (500002, 501002), (6, 501003), (7, 501004)]] (cs := [_, _, _, _, _, _]) (by kernel_rfl) ⟨h1375, h1376.1, h1376.2.1, h1376.2.2.1, h1376.2.2.2, (antiquaryref02_words_ok k (List.drop (Int.toNat p2) (List.take (Int.toNat (IntKind.i64.wrap (p2 + (64 : Int)))) p1)) _ h1378), trivial⟩ (antiquaryref02_Sum_l1_ok (antiquaryref02_Sum_l0 k) ih k p1 p2 (0 : Int) p3 p4 x1377 p4 r h)
    · exact Abs.Good.path hm [.reg [], .cond false, .reg [], .reg [], .keep [sk 2, sk 3, sk 12, sk 13, ek 500001, ek 500002, ek 12], .ren [(500001, 502001), (500002, 502002), (12, 502003)]] (cs := [_]) (by kernel_rfl) ⟨h1375, trivial⟩ (antiquaryref02_Sum_l2_ok k (0 : Int) p3 p4 (Kd.dflt (Kd.arr 32 (Kd.int .u8))) r h)
theorem antiquaryref02_Sum_ok (k : Nat) (a1 : List Int) (r : List Int) (h : antiquaryref02_Sum k a1 = some r) : SpecOk P ⟨79, [.p (Kd.sl (Kd.int .u8)) a1], [], .v (.p (Kd.arr 32 (Kd.int .u8)) r), []⟩ := by
  refine spec_at Tryd.func79 (by kernel_rfl) (Nat.le_of_ble_eq_true (by kernel_rfl)) ?_
  unfold antiquaryref02_Sum at h
  obtain ⟨x1373, h1374, h⟩ := bind_inv h
  exact Abs.Good.path hm [.reg [], .reg [], .reg [(1, { call := some { lend := [], pass := [], res := .v (.p (Kd.sl (Kd.int .u8)) x1373), outs := [], back := [] } })], .reg [], .keep [sk 2, sk 3, sk 4, sk 5, ek 2, ek 3], .ren [(2, 500001), (3, 500002)]] (cs := [_]) (by kernel_rfl) ⟨(antiquaryref02_padded_ok k a1 _ h1374), trivial⟩ (antiquaryref02_Sum_l0_ok k x1373 (0 : Int) (Kd.dflt (Kd.arr 32 (Kd.int .u8))) ([(1779033703 : Int), (3144134277 : Int), (1013904242 : Int), (2773480762 : Int), (1359893119 : Int), (2600822924 : Int), (528734635 : Int), (1541459225 : Int)] : List Int) r h)

def antiquaryref02_Short_l0 : Nat → Int → List Int → List Int → List Int → Option (List Int)
  | 0, _, _, _, _ => none
  | k + 1, p1, p2, p3, p4 =>
    if (decide (p1 < (16 : Int))) = true then
      if 0 ≤ p1 ∧ p1 < (32 : Int) then
        if p1 < (16 : Int) then
          antiquaryref02_Short_l0 k (IntKind.i64.wrap (p1 + (1 : Int))) p2 p3 (List.set p4 (Int.toNat p1) (List.getD p3 (Int.toNat p1) (Kd.dflt (Kd.int .u8))))
        else none
      else none
    else
      some (p4)
def antiquaryref02_Short (k : Nat) (a1 : List Int) : Option (List Int) :=
  Option.bind (antiquaryref02_Sum k a1) fun x1406 =>
  antiquaryref02_Short_l0 k (0 : Int) (Kd.dflt (Kd.arr 16 (Kd.int .u8))) x1406 ([(Kd.dflt (Kd.int .u8)), (Kd.dflt (Kd.int .u8)), (Kd.dflt (Kd.int .u8)), (Kd.dflt (Kd.int .u8)), (Kd.dflt (Kd.int .u8)), (Kd.dflt (Kd.int .u8)), (Kd.dflt (Kd.int .u8)), (Kd.dflt (Kd.int .u8)), (Kd.dflt (Kd.int .u8)), (Kd.dflt (Kd.int .u8)), (Kd.dflt (Kd.int .u8)), (Kd.dflt (Kd.int .u8)), (Kd.dflt (Kd.int .u8)), (Kd.dflt (Kd.int .u8)), (Kd.dflt (Kd.int .u8)), (Kd.dflt (Kd.int .u8))] : List Int)
theorem antiquaryref02_Short_l0_ok (k : Nat) : ∀ (p1 : Int) (p2 : List Int) (p3 : List Int) (p4 : List Int) (r : List Int), antiquaryref02_Short_l0 k p1 p2 p3 p4 = some r →
    Abs.Good P 65 Tryd.f65.ntmps [] [] (.v (.p (Kd.arr 16 (Kd.int .u8)) r)) (pos Tryd.f65 [.r, .r, .r, .r]) [(sk 2, some (.v (.ptr 500001 0))), (sk 3, some (.v (.ptr 500002 0))), (sk 4, some (.v (.ptr 500003 0))), (sk 5, some (.v (.p (Kd.int .i64) p1))), (ek 500001, some (.box [.p (Kd.arr 16 (Kd.int .u8)) p2])), (ek 500002, some (.box [.p (Kd.arr 32 (Kd.int .u8)) p3])), (ek 500003, some (.box [.p (Kd.arr 16 (Kd.int .u8)) p4]))] := by
  induction k with
  | zero => intro p1 p2 p3 p4 r h; cases h
  | succ k ih =>
    intro p1 p2 p3 p4 r h
    unfold antiquaryref02_Short_l0 at h
    rcases br_inv h with ⟨h1408, h⟩ | ⟨h1408, h⟩
    · obtain ⟨h1409, h⟩ := gd_inv h
      obtain ⟨h1410, h⟩ := gd_inv h
      exact Abs.Good.path hm [.reg [], .cond true, .reg [], .reg [], .keep [sk 2, sk 3, sk 4, sk 5, ek 500001, ek 500002, ek 500003]] (cs := [_, _, _, _, _]) (by kernel_rfl) ⟨h1408, h1409.1, h1409.2, h1409.1, h1410, trivial⟩ (ih (IntKind.i64.wrap (p1 + (1 : Int))) p2 p3 (List.set p4 (Int.toNat p1) (List.getD p3 (Int.toNat p1) (Kd.dflt (Kd.int .u8)))) r h)
    · replace h := Option.some.inj h; subst h
      exact Abs.Good.path_ret hm [.reg [], .cond false, .reg []] [] Tryd.func65 (cs := [_]) (by kernel_rfl) ⟨h1408, trivial⟩ (by kernel_rfl)
theorem antiquaryref02_Short_ok (k : Nat) (a1 : List Int) (r : List Int) (h : antiquaryref02_Short k a1 = some r) : SpecOk P ⟨65, [.p (Kd.sl (Kd.int .u8)) a1], [], .v (.p (Kd.arr 16 (Kd.int .u8)) r), []⟩ := by
  refine spec_at Tryd.func65 (by kernel_rfl) (Nat.le_of_ble_eq_true (by kernel_rfl)) ?_
  unfold antiquaryref02_Short at h
  obtain ⟨x1406, h1407, h⟩ := bind_inv h
  exact Abs.Good.path hm [.reg [], .reg [(1, { call := some { lend := [], pass := [], res := .v (.p (Kd.arr 32 (Kd.int .u8)) x1406), outs := [], back := [] } })], .reg [], .reg [], .keep [sk 2, sk 3, sk 4, sk 5, ek 2, ek 3, ek 4], .ren [(2, 500001), (3, 500002), (4, 500003)]] (cs := [_]) (by kernel_rfl) ⟨(antiquaryref02_Sum_ok k a1 _ h1407), trivial⟩ (antiquaryref02_Short_l0_ok k (0 : Int) (Kd.dflt (Kd.arr 16 (Kd.int .u8))) x1406 ([(Kd.dflt (Kd.int .u8)), (Kd.dflt (Kd.int .u8)), (Kd.dflt (Kd.int .u8)), (Kd.dflt (Kd.int .u8)), (Kd.dflt (Kd.int .u8)), (Kd.dflt (Kd.int .u8)), (Kd.dflt (Kd.int .u8)), (Kd.dflt (Kd.int .u8)), (Kd.dflt (Kd.int .u8)), (Kd.dflt (Kd.int .u8)), (Kd.dflt (Kd.int .u8)), (Kd.dflt (Kd.int .u8)), (Kd.dflt (Kd.int .u8)), (Kd.dflt (Kd.int .u8)), (Kd.dflt (Kd.int .u8)), (Kd.dflt (Kd.int .u8))] : List Int) r h)

def antiquaryref02_Of (k : Nat) (a1 : Int) (a2 : List ByteArray) : Option (List Int) :=
  Option.bind (antiquaryref02_Input k a1 a2) fun x1413 =>
  Option.bind (antiquaryref02_Short k x1413) fun x1415 =>
  some (x1415)
theorem antiquaryref02_Of_ok (k : Nat) (a1 : Int) (a2 : List ByteArray) (r : List Int) (h : antiquaryref02_Of k a1 a2 = some r) : SpecOk P ⟨44, [.p (Kd.int .i64) a1, .p (Kd.sl Kd.str) a2], [], .v (.p (Kd.arr 16 (Kd.int .u8)) r), []⟩ := by
  refine spec_at Tryd.func44 (by kernel_rfl) (Nat.le_of_ble_eq_true (by kernel_rfl)) ?_
  unfold antiquaryref02_Of at h
  obtain ⟨x1413, h1414, h⟩ := bind_inv h
  obtain ⟨x1415, h1416, h⟩ := bind_inv h
  replace h := Option.some.inj h; subst h
  exact Abs.Good.path_ret hm [.reg [], .reg [(2, { call := some { lend := [], pass := [], res := .v (.p (Kd.sl (Kd.int .u8)) x1413), outs := [], back := [] } }), (3, { call := some { lend := [], pass := [], res := .v (.p (Kd.arr 16 (Kd.int .u8)) x1415), outs := [], back := [] } })]] [] Tryd.func44 (cs := [_, _]) (by kernel_rfl) ⟨(antiquaryref02_Input_ok k a1 a2 _ h1414), (antiquaryref02_Short_ok k x1413 _ h1416), trivial⟩ (by kernel_rfl)

def antiquaryref44_Name (k : Nat) (a1 : ByteArray) : Option (List Int) :=
  Option.bind (antiquaryref02_Of k (44 : Int) ([a1] : List ByteArray)) fun x1419 =>
  some (x1419)
theorem antiquaryref44_Name_ok (k : Nat) (a1 : ByteArray) (r : List Int) (h : antiquaryref44_Name k a1 = some r) : SpecOk P ⟨14, [.p Kd.str a1], [], .v (.p (Kd.arr 16 (Kd.int .u8)) r), []⟩ := by
  refine spec_at Tryd.func14 (by kernel_rfl) (Nat.le_of_ble_eq_true (by kernel_rfl)) ?_
  unfold antiquaryref44_Name at h
  obtain ⟨x1419, h1420, h⟩ := bind_inv h
  replace h := Option.some.inj h; subst h
  exact Abs.Good.path_ret hm [.reg [], .reg [(2, { call := some { lend := [(4, false)], pass := [], res := .v (.p (Kd.arr 16 (Kd.int .u8)) x1419), outs := [], back := [] } })]] [] Tryd.func14 (cs := [_, _]) (by kernel_rfl) ⟨(antiquaryref02_Of_ok k (44 : Int) ([a1] : List ByteArray) _ h1420), (rfl : 1 = List.length ([a1] : List ByteArray)), trivial⟩ (by kernel_rfl)

def antiquaryref44_Place_l0 : Nat → Int → List It → List Int → Option (Int)
  | 0, _, _, _ => none
  | k + 1, p1, p2, p3 =>
    if (decide (p1 < (List.length p2 : Int))) = true then
      if 0 ≤ p1 ∧ p1 < (List.length p2 : Int) then
        if (Kd.eqb (Kd.arr 16 (Kd.int .u8)) ((List.getD p2 (Int.toNat p1) (Kd.dflt KI)).1) p3) = true then
          some (p1)
        else
          antiquaryref44_Place_l0 k (IntKind.i64.wrap (p1 + (1 : Int))) p2 p3
      else none
    else
      some ((-1 : Int))
def antiquaryref44_Place (k : Nat) (a1 : List It) (a2 : List Int) : Option (Int) :=
  antiquaryref44_Place_l0 k (0 : Int) a1 a2
theorem antiquaryref44_Place_l0_ok (k : Nat) : ∀ (p1 : Int) (p2 : List It) (p3 : List Int) (r : Int), antiquaryref44_Place_l0 k p1 p2 p3 = some r →
    Abs.Good P 17 Tryd.f17.ntmps [] [] (.v (.p (Kd.int .i64) r)) (pos Tryd.f17 [.r, .r]) [(sk 2, some (.v (.ptr 500001 0))), (sk 3, some (.v (.ptr 500002 0))), (sk 5, some (.v (.p (Kd.int .i64) p1))), (ek 500001, some (.box [.p (Kd.sl KI) p2])), (ek 500002, some (.box [.p (Kd.arr 16 (Kd.int .u8)) p3]))] := by
  induction k with
  | zero => intro p1 p2 p3 r h; cases h
  | succ k ih =>
    intro p1 p2 p3 r h
    unfold antiquaryref44_Place_l0 at h
    rcases br_inv h with ⟨h1426, h⟩ | ⟨h1426, h⟩
    · obtain ⟨h1427, h⟩ := gd_inv h
      rcases br_inv h with ⟨h1428, h⟩ | ⟨h1428, h⟩
      · replace h := Option.some.inj h; subst h
        exact Abs.Good.path_ret hm [.reg [], .cond true, .reg [], .cond true, .reg []] [] Tryd.func17 (cs := [_, _, _, _, _]) (by kernel_rfl) ⟨h1426, h1427.1, h1427.2, eq26, h1428, trivial⟩ (by kernel_rfl)
      · exact Abs.Good.path hm [.reg [], .cond true, .reg [], .cond false, .reg [], .keep [sk 2, sk 3, sk 5, ek 500001, ek 500002]] (cs := [_, _, _, _, _]) (by kernel_rfl) ⟨h1426, h1427.1, h1427.2, eq26, h1428, trivial⟩ (ih (IntKind.i64.wrap (p1 + (1 : Int))) p2 p3 r h)
    · replace h := Option.some.inj h; subst h
      exact Abs.Good.path_ret hm [.reg [], .cond false, .reg []] [] Tryd.func17 (cs := [_]) (by kernel_rfl) ⟨h1426, trivial⟩ (by kernel_rfl)
theorem antiquaryref44_Place_ok (k : Nat) (a1 : List It) (a2 : List Int) (r : Int) (h : antiquaryref44_Place k a1 a2 = some r) : SpecOk P ⟨17, [.agg [.p (Kd.sl KI) a1], .p (Kd.arr 16 (Kd.int .u8)) a2], [], .v (.p (Kd.int .i64) r), []⟩ := by
  refine spec_at Tryd.func17 (by kernel_rfl) (Nat.le_of_ble_eq_true (by kernel_rfl)) ?_
  unfold antiquaryref44_Place at h
  exact Abs.Good.path hm [.reg [], .reg [], .keep [sk 2, sk 3, sk 5, ek 2, ek 3], .ren [(2, 500001), (3, 500002)]] (cs := []) (by kernel_rfl) trivial (antiquaryref44_Place_l0_ok k (0 : Int) a1 a2 r h)

def antiquarylaw44_ExchangeSendsOnlyWhatIsNeeded_l4 (s2 : List Se → Int → List It → List It → (List (List It × Unit)) → Option (Bool)) (s3 : List Se → Int → Int → List It → List It → (List (List It × Unit)) → Option (Bool)) (k : Nat) (p1 : List Se) (p2 : Int) (p3 : Int) (p4 : Bool) (p5 : List It) (p6 : List It) (p7 : List (List It × Unit)) : Option (Bool) :=
  if p4 = true then
    some (false)
  else
    s3 p1 p2 (IntKind.i64.wrap (p3 + (1 : Int))) p5 p6 p7
def antiquarylaw44_ExchangeSendsOnlyWhatIsNeeded_l3 (s2 : List Se → Int → List It → List It → (List (List It × Unit)) → Option (Bool)) : Nat → List Se → Int → Int → List It → List It → (List (List It × Unit)) → Option (Bool)
  | 0, _, _, _, _, _, _ => none
  | k + 1, p1, p2, p3, p4, p5, p6 =>
    if (decide (p3 < p2)) = true then
      if 0 ≤ p3 ∧ p3 < (List.length p1 : Int) then
        if 0 ≤ p2 ∧ p2 < (List.length p1 : Int) then
          if ((List.getD p1 (Int.toNat p3) (Kd.dflt KSe)).1 == (List.getD p1 (Int.toNat p2) (Kd.dflt KSe)).1) = true then
            antiquarylaw44_ExchangeSendsOnlyWhatIsNeeded_l4 s2 (antiquarylaw44_ExchangeSendsOnlyWhatIsNeeded_l3 s2 k) k p1 p2 p3 (ByteArray.toList (((((((((List.getD p1 (Int.toNat p3) (Kd.dflt KSe)).2).1).2).2).2).2).2).1) == ByteArray.toList (((((((((List.getD p1 (Int.toNat p2) (Kd.dflt KSe)).2).1).2).2).2).2).2).1)) p4 p5 p6
          else
            antiquarylaw44_ExchangeSendsOnlyWhatIsNeeded_l4 s2 (antiquarylaw44_ExchangeSendsOnlyWhatIsNeeded_l3 s2 k) k p1 p2 p3 false p4 p5 p6
        else none
      else none
    else
      s2 p1 (IntKind.i64.wrap (p2 + (1 : Int))) p4 p5 p6
def antiquarylaw44_ExchangeSendsOnlyWhatIsNeeded_l2 : Nat → List Se → Int → List It → List It → (List (List It × Unit)) → Option (Bool)
  | 0, _, _, _, _, _ => none
  | k + 1, p1, p2, p3, p4, p5 =>
    if (decide (p2 < (List.length p1 : Int))) = true then
      if 0 ≤ p2 ∧ p2 < (List.length p1 : Int) then
        if 0 ≤ (List.getD p1 (Int.toNat p2) (Kd.dflt KSe)).1 ∧ (List.getD p1 (Int.toNat p2) (Kd.dflt KSe)).1 < (2 : Int) ∧ 2 ≤ List.length ([(p3, ()), (p4, ())] : List (List It × Unit)) then
          if Int.toNat ((List.getD p1 (Int.toNat p2) (Kd.dflt KSe)).1) < List.length ([(p3, ()), (p4, ())] : List (List It × Unit)) then
            Option.bind (antiquaryref44_Name k (((((((((List.getD p1 (Int.toNat p2) (Kd.dflt KSe)).2).1).2).2).2).2).2).1)) fun x1497 =>
            Option.bind (antiquaryref44_Place k ((List.getD ([(p3, ()), (p4, ())] : List (List It × Unit)) (Int.toNat ((List.getD p1 (Int.toNat p2) (Kd.dflt KSe)).1)) (Kd.dflt (Kd.pair (Kd.sl KI) Kd.unit))).1) x1497) fun x1499 =>
            if (decide (x1499 ≥ (0 : Int))) = true then
              some (false)
            else
              antiquarylaw44_ExchangeSendsOnlyWhatIsNeeded_l3 (antiquarylaw44_ExchangeSendsOnlyWhatIsNeeded_l2 k) k p1 p2 (0 : Int) p3 p4 p5
          else none
        else none
      else none
    else
      Option.bind (exchange_Open k ((List.getD p5 (0) (Kd.dflt (Kd.pair (Kd.sl KI) Kd.unit))).1)) fun x1502 =>
      Option.bind (exchange_Hear k ((List.getD p5 (0) (Kd.dflt (Kd.pair (Kd.sl KI) Kd.unit))).1) x1502.1 x1502.2.1 x1502.2.2.1 x1502.2.2.2.1 x1502.2.2.2.2.1 ([] : List (List Int)) x1502.2.2.2.2.2) fun x1504 =>
      Option.bind (antiquarylaw44_sanity k) fun x1506 =>
      if x1506 = true then
        if (x1504.2.2 == (0 : Int)) = true then
          some (((List.length x1504.2.1 : Int) == (0 : Int)))
        else
          some (false)
      else
        some (false)
def antiquarylaw44_ExchangeSendsOnlyWhatIsNeeded_l1 (k : Nat) (p1 : Bool) (p2 : List It) (p3 : List It) : Option (Bool) :=
  if p1 = true then
    some (false)
  else
    Option.bind (antiquarylaw44_run k p2 p3 false) fun x1487 =>
    if (!x1487.2.2.2) = true then
      Option.bind (antiquarylaw44_sanity k) fun x1490 =>
      some (x1490)
    else
      if (!x1487.2.2.1) = true then
        some (false)
      else
        antiquarylaw44_ExchangeSendsOnlyWhatIsNeeded_l2 k x1487.2.1 (0 : Int) p2 p3 x1487.1
def antiquarylaw44_ExchangeSendsOnlyWhatIsNeeded_l0 (k : Nat) (p1 : List ByteArray) (p2 : List ByteArray) (p3 : Bool) : Option (Bool) :=
  if p3 = true then
    Option.bind (antiquarylaw44_sanity k) fun x1479 =>
    some (x1479)
  else
    Option.bind (antiquarylaw44_of k p1) fun x1481 =>
    Option.bind (antiquarylaw44_of k p2) fun x1483 =>
    if (!x1481.2) = true then
      antiquarylaw44_ExchangeSendsOnlyWhatIsNeeded_l1 k true x1481.1 x1483.1
    else
      antiquarylaw44_ExchangeSendsOnlyWhatIsNeeded_l1 k (!x1483.2) x1481.1 x1483.1
def antiquarylaw44_ExchangeSendsOnlyWhatIsNeeded (k : Nat) (a1 : List ByteArray) (a2 : List ByteArray) : Option (Bool) :=
  Option.bind (antiquaryref44_Few k a1 (40 : Int)) fun x1473 =>
  Option.bind (antiquaryref44_Few k a2 (40 : Int)) fun x1475 =>
  if (!x1473) = true then
    antiquarylaw44_ExchangeSendsOnlyWhatIsNeeded_l0 k a1 a2 true
  else
    antiquarylaw44_ExchangeSendsOnlyWhatIsNeeded_l0 k a1 a2 (!x1475)
theorem antiquarylaw44_ExchangeSendsOnlyWhatIsNeeded_l4_ok (s2 : List Se → Int → List It → List It → (List (List It × Unit)) → Option (Bool)) (hs2 : ∀ (p1 : List Se) (p2 : Int) (p3 : List It) (p4 : List It) (p5 : List (List It × Unit)) (r : Bool), s2 p1 p2 p3 p4 p5 = some r → Abs.Good P 7 Tryd.f7.ntmps [] [] (.v (.p Kd.bool r)) (pos Tryd.f7 [.r, .r, .r, .r, .c false, .r, .r, .r, .c false, .r, .r, .c false, .r, .c false, .r]) [(sk 7, some (.v (.ptr 502001 0))), (sk 9, some (.v (.ptr 502002 0))), (sk 11, some (.v (.ptr 502003 0))), (sk 12, some (.v (.p (Kd.sl KSe) p1))), (sk 15, some (.v (.p (Kd.int .i64) p2))), (ek 502001, some (.box [.p (Kd.sl KI) p3])), (ek 502002, some (.box [.p (Kd.sl KI) p4])), (ek 502003, some (.box [.p (Kd.arr 2 (Kd.pair (Kd.sl KI) Kd.unit)) p5]))]) (s3 : List Se → Int → Int → List It → List It → (List (List It × Unit)) → Option (Bool)) (hs3 : ∀ (p1 : List Se) (p2 : Int) (p3 : Int) (p4 : List It) (p5 : List It) (p6 : List (List It × Unit)) (r : Bool), s3 p1 p2 p3 p4 p5 p6 = some r → Abs.Good P 7 Tryd.f7.ntmps [] [] (.v (.p Kd.bool r)) (pos Tryd.f7 [.r, .r, .r, .r, .c false, .r, .r, .r, .c false, .r, .r, .c false, .r, .c false, .r, .r, .c true, .r, .r, .c false, .r]) [(sk 7, some (.v (.ptr 503001 0))), (sk 9, some (.v (.ptr 503002 0))), (sk 11, some (.v (.ptr 503003 0))), (sk 12, some (.v (.p (Kd.sl KSe) p1))), (sk 15, some (.v (.p (Kd.int .i64) p2))), (sk 17, some (.v (.p (Kd.int .i64) p3))), (ek 503001, some (.box [.p (Kd.sl KI) p4])), (ek 503002, some (.box [.p (Kd.sl KI) p5])), (ek 503003, some (.box [.p (Kd.arr 2 (Kd.pair (Kd.sl KI) Kd.unit)) p6]))]) (k : Nat) (p1 : List Se) (p2 : Int) (p3 : Int) (p4 : Bool) (p5 : List It) (p6 : List It) (p7 : List (List It × Unit)) (r : Bool) (h : antiquarylaw44_ExchangeSendsOnlyWhatIsNeeded_l4 s2 s3 k p1 p2 p3 p4 p5 p6 p7 = some r) :
    Abs.Good P 7 Tryd.f7.ntmps [] [] (.v (.p Kd.bool r)) (pos Tryd.f7 [.r, .r, .r, .r, .c false, .r, .r, .r, .c false, .r, .r, .c false, .r, .c false, .r, .r, .c true, .r, .r, .c false, .r, .r, .c true, .r]) [(sk 7, some (.v (.ptr 504001 0))), (sk 9, some (.v (.ptr 504002 0))), (sk 11, some (.v (.ptr 504003 0))), (sk 12, some (.v (.p (Kd.sl KSe) p1))), (sk 15, some (.v (.p (Kd.int .i64) p2))), (sk 17, some (.v (.p (Kd.int .i64) p3))), (sk 117, some (.v (.p Kd.bool p4))), (ek 504001, some (.box [.p (Kd.sl KI) p5])), (ek 504002, some (.box [.p (Kd.sl KI) p6])), (ek 504003, some (.box [.p (Kd.arr 2 (Kd.pair (Kd.sl KI) Kd.unit)) p7]))] := by
  unfold antiquarylaw44_ExchangeSendsOnlyWhatIsNeeded_l4 at h
  rcases br_inv h with ⟨h1514, h⟩ | ⟨h1514, h⟩
  · replace h := Option.some.inj h; subst h
    exact Abs.Good.path_ret hm [.cond true, .reg []] [] Tryd.func7 (cs := [_]) (by kernel_rfl) ⟨h1514, trivial⟩ (by kernel_rfl)
  · exact Abs.Good.path hm [.cond false, .reg [], .keep [sk 7, sk 9, sk 11, sk 12, sk 15, sk 17, ek 504001, ek 504002, ek 504003], .ren [(504001, 503001), (504002, 503002), (504003, 503003)]] (cs := [_]) (by kernel_rfl) ⟨h1514, trivial⟩ (hs3 p1 p2 (IntKind.i64.wrap (p3 + (1 : Int))) p5 p6 p7 r h)
theorem antiquarylaw44_ExchangeSendsOnlyWhatIsNeeded_l3_ok (s2 : List Se → Int → List It → List It → (List (List It × Unit)) → Option (Bool)) (hs2 : ∀ (p1 : List Se) (p2 : Int) (p3 : List It) (p4 : List It) (p5 : List (List It × Unit)) (r : Bool), s2 p1 p2 p3 p4 p5 = some r → Abs.Good P 7 Tryd.f7.ntmps [] [] (.v (.p Kd.bool r)) (pos Tryd.f7 [.r, .r, .r, .r, .c false, .r, .r, .r, .c false, .r, .r, .c false, .r, .c false, .r]) [(sk 7, some (.v (.ptr 502001 0))), (sk 9, some (.v (.ptr 502002 0))), (sk 11, some (.v (.ptr 502003 0))), (sk 12, some (.v (.p (Kd.sl KSe) p1))), (sk 15, some (.v (.p (Kd.int .i64) p2))), (ek 502001, some (.box [.p (Kd.sl KI) p3])), (ek 502002, some (.box [.p (Kd.sl KI) p4])), (ek 502003, some (.box [.p (Kd.arr 2 (Kd.pair (Kd.sl KI) Kd.unit)) p5]))]) (k : Nat) : ∀ (p1 : List Se) (p2 : Int) (p3 : Int) (p4 : List It) (p5 : List It) (p6 : List (List It × Unit)) (r : Bool), antiquarylaw44_ExchangeSendsOnlyWhatIsNeeded_l3 s2 k p1 p2 p3 p4 p5 p6 = some r →
    Abs.Good P 7 Tryd.f7.ntmps [] [] (.v (.p Kd.bool r)) (pos Tryd.f7 [.r, .r, .r, .r, .c false, .r, .r, .r, .c false, .r, .r, .c false, .r, .c false, .r, .r, .c true, .r, .r, .c false, .r]) [(sk 7, some (.v (.ptr 503001 0))), (sk 9, some (.v (.ptr 503002 0))), (sk 11, some (.v (.ptr 503003 0))), (sk 12, some (.v (.p (Kd.sl KSe) p1))), (sk 15, some (.v (.p (Kd.int .i64) p2))), (sk 17, some (.v (.p (Kd.int .i64) p3))), (ek 503001, some (.box [.p (Kd.sl KI) p4])), (ek 503002, some (.box [.p (Kd.sl KI) p5])), (ek 503003, some (.box [.p (Kd.arr 2 (Kd.pair (Kd.sl KI) Kd.unit)) p6]))] := by
  induction k with
  | zero => intro p1 p2 p3 p4 p5 p6 r h; cases h
  | succ k ih =>
    intro p1 p2 p3 p4 p5 p6 r h
    unfold antiquarylaw44_ExchangeSendsOnlyWhatIsNeeded_l3 at h
    rcases br_inv h with ⟨h1510, h⟩ | ⟨h1510, h⟩
    · obtain ⟨h1511, h⟩ := gd_inv h
      obtain ⟨h1512, h⟩ := gd_inv h
      rcases br_inv h with ⟨h1513, h⟩ | ⟨h1513, h⟩
      · exact Abs.Good.path hm [.reg [], .cond true, .reg [(12, { dec := some true }), (13, { dec := some true }), (14, { dec := some true }), (15, { dec := some true }), (16, { dec := some true }), (17, { dec := some true }), (18, { dec := some true }), (19, { dec := some true }), (20, { dec := some true }), (21, { dec := some true }), (22, { dec := some true }), (23, { dec := some true }), (24, { dec := some true }), (25, { pick := some true })], .keep [sk 7, sk 9, sk 11, sk 12, sk 15, sk 17, sk 117, ek 503001, ek 503002, ek 503003], .ren [(503001, 504001), (503002, 504002), (503003, 504003)]] (cs := [_, _, _, _, _, _, _, _, _, _, _, _, _, _, _, _, _, _, _, _, _, _, _]) (by kernel_rfl) ⟨h1510, h1511.1, h1511.2, h1512.1, h1512.2, h1513, h1513, h1513, h1511.1, h1511.2, h1513, h1513, h1513, h1513, h1513, h1513, h1512.1, h1512.2, h1513, h1513, h1513, h1513, h1513, trivial⟩ (antiquarylaw44_ExchangeSendsOnlyWhatIsNeeded_l4_ok s2 hs2 (antiquarylaw44_ExchangeSendsOnlyWhatIsNeeded_l3 s2 k) ih k p1 p2 p3 (ByteArray.toList (((((((((List.getD p1 (Int.toNat p3) (Kd.dflt KSe)).2).1).2).2).2).2).2).1) == ByteArray.toList (((((((((List.getD p1 (Int.toNat p2) (Kd.dflt KSe)).2).1).2).2).2).2).2).1)) p4 p5 p6 r h)
      · exact Abs.Good.path hm [.reg [], .cond true, .reg [(12, { dec := some false }), (13, { dec := some false }), (14, { dec := some false }), (15, { dec := some false }), (16, { dec := some false }), (17, { dec := some false }), (18, { dec := some false }), (19, { dec := some false }), (20, { dec := some false }), (21, { dec := some false }), (22, { dec := some false }), (23, { dec := some false }), (24, { dec := some false }), (25, { pick := some false })], .keep [sk 7, sk 9, sk 11, sk 12, sk 15, sk 17, sk 117, ek 503001, ek 503002, ek 503003], .ren [(503001, 504001), (503002, 504002), (503003, 504003)]] (cs := [_, _, _, _, _, _, _, _, _, _, _, _, _, _, _, _, _, _, _]) (by kernel_rfl) ⟨h1510, h1511.1, h1511.2, h1512.1, h1512.2, h1513, h1513, h1513, h1513, h1513, h1513, h1513, h1513, h1513, h1513, h1513, h1513, h1513, h1513, trivial⟩ (antiquarylaw44_ExchangeSendsOnlyWhatIsNeeded_l4_ok s2 hs2 (antiquarylaw44_ExchangeSendsOnlyWhatIsNeeded_l3 s2 k) ih k p1 p2 p3 false p4 p5 p6 r h)
    · exact Abs.Good.path hm [.reg [], .cond false, .reg [], .keep [sk 7, sk 9, sk 11, sk 12, sk 15, ek 503001, ek 503002, ek 503003], .ren [(503001, 502001), (503002, 502002), (503003, 502003)]] (cs := [_]) (by kernel_rfl) ⟨h1510, trivial⟩ (hs2 p1 (IntKind.i64.wrap (p2 + (1 : Int))) p4 p5 p6 r h)
theorem antiquarylaw44_ExchangeSendsOnlyWhatIsNeeded_l2_ok (k : Nat) : ∀ (p1 : List Se) (p2 : Int) (p3 : List It) (p4 : List It) (p5 : List (List It × Unit)) (r : Bool), antiquarylaw44_ExchangeSendsOnlyWhatIsNeeded_l2 k p1 p2 p3 p4 p5 = some r →
    Abs.Good P 7 Tryd.f7.ntmps [] [] (.v (.p Kd.bool r)) (pos Tryd.f7 [.r, .r, .r, .r, .c false, .r, .r, .r, .c false, .r, .r, .c false, .r, .c false, .r]) [(sk 7, some (.v (.ptr 502001 0))), (sk 9, some (.v (.ptr 502002 0))), (sk 11, some (.v (.ptr 502003 0))), (sk 12, some (.v (.p (Kd.sl KSe) p1))), (sk 15, some (.v (.p (Kd.int .i64) p2))), (ek 502001, some (.box [.p (Kd.sl KI) p3])), (ek 502002, some (.box [.p (Kd.sl KI) p4])), (ek 502003, some (.box [.p (Kd.arr 2 (Kd.pair (Kd.sl KI) Kd.unit)) p5]))] := by
  induction k with
  | zero => intro p1 p2 p3 p4 p5 r h; cases h
  | succ k ih =>
    intro p1 p2 p3 p4 p5 r h
    unfold antiquarylaw44_ExchangeSendsOnlyWhatIsNeeded_l2 at h
    rcases br_inv h with ⟨h1493, h⟩ | ⟨h1493, h⟩
    · obtain ⟨h1494, h⟩ := gd_inv h
      obtain ⟨h1495, h⟩ := gd_inv h
      obtain ⟨h1496, h⟩ := gd_inv h
      obtain ⟨x1497, h1498, h⟩ := bind_inv h
      obtain ⟨x1499, h1500, h⟩ := bind_inv h
      rcases br_inv h with ⟨h1501, h⟩ | ⟨h1501, h⟩
      · replace h := Option.some.inj h; subst h
        exact Abs.Good.path_ret hm [.reg [], .cond true, .reg [], .reg [(7, { call := some { lend := [], pass := [], res := .v (.p (Kd.arr 16 (Kd.int .u8)) x1497), outs := [], back := [] } }), (8, { call := some { lend := [], pass := [], res := .v (.p (Kd.int .i64) x1499), outs := [], back := [] } })], .cond true, .reg []] [] Tryd.func7 (cs := [_, _, _, _, _, _, _, _, _, _, _, _]) (by kernel_rfl) ⟨h1493, h1494.1, h1494.2, h1495.1, h1495.2.1, h1495.2.2, h1496, h1494.1, h1494.2, (antiquaryref44_Name_ok k (((((((((List.getD p1 (Int.toNat p2) (Kd.dflt KSe)).2).1).2).2).2).2).2).1) _ h1498), (antiquaryref44_Place_ok k ((List.getD ([(p3, ()), (p4, ())] : List (List It × Unit)) (Int.toNat ((List.getD p1 (Int.toNat p2) (Kd.dflt KSe)).1)) (Kd.dflt (Kd.pair (Kd.sl KI) Kd.unit))).1) x1497 _ h1500), h1501, trivial⟩ (by kernel_rfl)
      · exact Abs.Good.path hm [.reg [], .cond true, .reg [], .reg [(7, { call := some { lend := [], pass := [], res := .v (.p (Kd.arr 16 (Kd.int .u8)) x1497), outs := [], back := [] } }), (8, { call := some { lend := [], pass := [], res := .v (.p (Kd.int .i64) x1499), outs := [], back := [] } })], .cond false, .reg [], .keep [sk 7, sk 9, sk 11, sk 12, sk 15, sk 17, ek 502001, ek 502002, ek 502003], .ren [(502001, 503001), (502002, 503002), (502003, 503003)]] (cs := [_, _, _, _, _, _, _, _, _, _, _, _]) (by kernel_rfl) ⟨h1493, h1494.1, h1494.2, h1495.1, h1495.2.1, h1495.2.2, h1496, h1494.1, h1494.2, (antiquaryref44_Name_ok k (((((((((List.getD p1 (Int.toNat p2) (Kd.dflt KSe)).2).1).2).2).2).2).2).1) _ h1498), (antiquaryref44_Place_ok k ((List.getD ([(p3, ()), (p4, ())] : List (List It × Unit)) (Int.toNat ((List.getD p1 (Int.toNat p2) (Kd.dflt KSe)).1)) (Kd.dflt (Kd.pair (Kd.sl KI) Kd.unit))).1) x1497 _ h1500), h1501, trivial⟩ (antiquarylaw44_ExchangeSendsOnlyWhatIsNeeded_l3_ok (antiquarylaw44_ExchangeSendsOnlyWhatIsNeeded_l2 k) ih k p1 p2 (0 : Int) p3 p4 p5 r h)
    · obtain ⟨x1502, h1503, h⟩ := bind_inv h
      obtain ⟨x1504, h1505, h⟩ := bind_inv h
      obtain ⟨x1506, h1507, h⟩ := bind_inv h
      rcases br_inv h with ⟨h1508, h⟩ | ⟨h1508, h⟩
      · rcases br_inv h with ⟨h1509, h⟩ | ⟨h1509, h⟩
        · replace h := Option.some.inj h; subst h
          exact Abs.Good.path_ret hm [.reg [], .cond false, .reg [(4, { call := some { lend := [], pass := [], res := .v (.agg [.p (Kd.int .i64) x1502.1, .p (Kd.arr 16 (Kd.int .u8)) x1502.2.1, .p (Kd.int .i64) x1502.2.2.1, .p (Kd.arr 16 (Kd.int .u8)) x1502.2.2.2.1, .p (Kd.int .i64) x1502.2.2.2.2.1, .nilsl, .p Kd.str x1502.2.2.2.2.2]), outs := [], back := [] } }), (5, { call := some { lend := [], pass := [], res := .t [.agg [.p (Kd.sl KI) x1504.1], .p (Kd.sl KP) x1504.2.1, .p (Kd.int .i64) x1504.2.2], outs := [], back := [] } })], .reg [(0, { call := some { lend := [], pass := [], res := .v (.p Kd.bool x1506), outs := [], back := [] } }), (2, { dec := some true }), (3, { dec := some true }), (4, { pick := some true }), (6, { dec := some true }), (7, { dec := some true }), (8, { dec := some true }), (9, { pick := some true })]] [] Tryd.func7 (cs := [_, _, _, _, _, _, _, _, _, _, _, _, _, _, _]) (by kernel_rfl) ⟨h1493, (by decide : 0 ≤ (0 : Int)), (by decide : (0 : Int) < (2 : Int)), (by decide : 0 ≤ (0 : Int)), (by decide : (0 : Int) < (2 : Int)), (exchange_Open_ok k ((List.getD p5 (0) (Kd.dflt (Kd.pair (Kd.sl KI) Kd.unit))).1) _ h1503), (exchange_Hear_n_ok k ((List.getD p5 (0) (Kd.dflt (Kd.pair (Kd.sl KI) Kd.unit))).1) x1502.1 x1502.2.1 x1502.2.2.1 x1502.2.2.2.1 x1502.2.2.2.2.1 x1502.2.2.2.2.2 _ h1505), (antiquarylaw44_sanity_ok k  _ h1507), h1508, h1508, h1508, h1509, h1509, h1509, h1509, trivial⟩ (by kernel_rfl)
        · replace h := Option.some.inj h; subst h
          exact Abs.Good.path_ret hm [.reg [], .cond false, .reg [(4, { call := some { lend := [], pass := [], res := .v (.agg [.p (Kd.int .i64) x1502.1, .p (Kd.arr 16 (Kd.int .u8)) x1502.2.1, .p (Kd.int .i64) x1502.2.2.1, .p (Kd.arr 16 (Kd.int .u8)) x1502.2.2.2.1, .p (Kd.int .i64) x1502.2.2.2.2.1, .nilsl, .p Kd.str x1502.2.2.2.2.2]), outs := [], back := [] } }), (5, { call := some { lend := [], pass := [], res := .t [.agg [.p (Kd.sl KI) x1504.1], .p (Kd.sl KP) x1504.2.1, .p (Kd.int .i64) x1504.2.2], outs := [], back := [] } })], .reg [(0, { call := some { lend := [], pass := [], res := .v (.p Kd.bool x1506), outs := [], back := [] } }), (2, { dec := some true }), (3, { dec := some true }), (4, { pick := some true }), (6, { dec := some false }), (7, { dec := some false }), (8, { dec := some false }), (9, { pick := some false })]] [] Tryd.func7 (cs := [_, _, _, _, _, _, _, _, _, _, _, _, _, _, _]) (by kernel_rfl) ⟨h1493, (by decide : 0 ≤ (0 : Int)), (by decide : (0 : Int) < (2 : Int)), (by decide : 0 ≤ (0 : Int)), (by decide : (0 : Int) < (2 : Int)), (exchange_Open_ok k ((List.getD p5 (0) (Kd.dflt (Kd.pair (Kd.sl KI) Kd.unit))).1) _ h1503), (exchange_Hear_n_ok k ((List.getD p5 (0) (Kd.dflt (Kd.pair (Kd.sl KI) Kd.unit))).1) x1502.1 x1502.2.1 x1502.2.2.1 x1502.2.2.2.1 x1502.2.2.2.2.1 x1502.2.2.2.2.2 _ h1505), (antiquarylaw44_sanity_ok k  _ h1507), h1508, h1508, h1508, h1509, h1509, h1509, h1509, trivial⟩ (by kernel_rfl)
      · replace h := Option.some.inj h; subst h
        exact Abs.Good.path_ret hm [.reg [], .cond false, .reg [(4, { call := some { lend := [], pass := [], res := .v (.agg [.p (Kd.int .i64) x1502.1, .p (Kd.arr 16 (Kd.int .u8)) x1502.2.1, .p (Kd.int .i64) x1502.2.2.1, .p (Kd.arr 16 (Kd.int .u8)) x1502.2.2.2.1, .p (Kd.int .i64) x1502.2.2.2.2.1, .nilsl, .p Kd.str x1502.2.2.2.2.2]), outs := [], back := [] } }), (5, { call := some { lend := [], pass := [], res := .t [.agg [.p (Kd.sl KI) x1504.1], .p (Kd.sl KP) x1504.2.1, .p (Kd.int .i64) x1504.2.2], outs := [], back := [] } })], .reg [(0, { call := some { lend := [], pass := [], res := .v (.p Kd.bool x1506), outs := [], back := [] } }), (2, { dec := some false }), (3, { dec := some false }), (4, { pick := some false }), (6, { dec := some false }), (7, { dec := some false }), (8, { dec := some false }), (9, { pick := some false })]] [] Tryd.func7 (cs := [_, _, _, _, _, _, _, _, _, _, _, _, _, _, _]) (by kernel_rfl) ⟨h1493, (by decide : 0 ≤ (0 : Int)), (by decide : (0 : Int) < (2 : Int)), (by decide : 0 ≤ (0 : Int)), (by decide : (0 : Int) < (2 : Int)), (exchange_Open_ok k ((List.getD p5 (0) (Kd.dflt (Kd.pair (Kd.sl KI) Kd.unit))).1) _ h1503), (exchange_Hear_n_ok k ((List.getD p5 (0) (Kd.dflt (Kd.pair (Kd.sl KI) Kd.unit))).1) x1502.1 x1502.2.1 x1502.2.2.1 x1502.2.2.2.1 x1502.2.2.2.2.1 x1502.2.2.2.2.2 _ h1505), (antiquarylaw44_sanity_ok k  _ h1507), h1508, h1508, h1508, (rfl : false = false), (rfl : false = false), (rfl : false = false), (rfl : false = false), trivial⟩ (by kernel_rfl)
theorem antiquarylaw44_ExchangeSendsOnlyWhatIsNeeded_l1_ok (k : Nat) (p1 : Bool) (p2 : List It) (p3 : List It) (r : Bool) (h : antiquarylaw44_ExchangeSendsOnlyWhatIsNeeded_l1 k p1 p2 p3 = some r) :
    Abs.Good P 7 Tryd.f7.ntmps [] [] (.v (.p Kd.bool r)) (pos Tryd.f7 [.r, .r, .r, .r, .c false, .r, .r, .r]) [(sk 7, some (.v (.ptr 501001 0))), (sk 9, some (.v (.ptr 501002 0))), (sk 47, some (.v (.p Kd.bool p1))), (ek 501001, some (.box [.p (Kd.sl KI) p2])), (ek 501002, some (.box [.p (Kd.sl KI) p3]))] := by
  unfold antiquarylaw44_ExchangeSendsOnlyWhatIsNeeded_l1 at h
  rcases br_inv h with ⟨h1486, h⟩ | ⟨h1486, h⟩
  · replace h := Option.some.inj h; subst h
    exact Abs.Good.path_ret hm [.cond true, .reg []] [] Tryd.func7 (cs := [_]) (by kernel_rfl) ⟨h1486, trivial⟩ (by kernel_rfl)
  · obtain ⟨x1487, h1488, h⟩ := bind_inv h
    rcases br_inv h with ⟨h1489, h⟩ | ⟨h1489, h⟩
    · obtain ⟨x1490, h1491, h⟩ := bind_inv h
      replace h := Option.some.inj h; subst h
      exact Abs.Good.path_ret hm [.cond false, .reg [(2, { call := some { lend := [], pass := [], res := .t [.p (Kd.arr 2 (Kd.pair (Kd.sl KI) Kd.unit)) x1487.1, .p (Kd.sl KSe) x1487.2.1, .p Kd.bool x1487.2.2.1, .p Kd.bool x1487.2.2.2], outs := [], back := [] } })], .reg [], .cond true, .reg [(0, { call := some { lend := [], pass := [], res := .v (.p Kd.bool x1490), outs := [], back := [] } })]] [] Tryd.func7 (cs := [_, _, _, _]) (by kernel_rfl) ⟨h1486, (antiquarylaw44_run_ok k p2 p3 false _ h1488), h1489, (antiquarylaw44_sanity_ok k  _ h1491), trivial⟩ (by kernel_rfl)
    · rcases br_inv h with ⟨h1492, h⟩ | ⟨h1492, h⟩
      · replace h := Option.some.inj h; subst h
        exact Abs.Good.path_ret hm [.cond false, .reg [(2, { call := some { lend := [], pass := [], res := .t [.p (Kd.arr 2 (Kd.pair (Kd.sl KI) Kd.unit)) x1487.1, .p (Kd.sl KSe) x1487.2.1, .p Kd.bool x1487.2.2.1, .p Kd.bool x1487.2.2.2], outs := [], back := [] } })], .reg [], .cond false, .reg [], .cond true, .reg []] [] Tryd.func7 (cs := [_, _, _, _]) (by kernel_rfl) ⟨h1486, (antiquarylaw44_run_ok k p2 p3 false _ h1488), h1489, h1492, trivial⟩ (by kernel_rfl)
      · exact Abs.Good.path hm [.cond false, .reg [(2, { call := some { lend := [], pass := [], res := .t [.p (Kd.arr 2 (Kd.pair (Kd.sl KI) Kd.unit)) x1487.1, .p (Kd.sl KSe) x1487.2.1, .p Kd.bool x1487.2.2.1, .p Kd.bool x1487.2.2.2], outs := [], back := [] } })], .reg [], .cond false, .reg [], .cond false, .reg [], .keep [sk 7, sk 9, sk 11, sk 12, sk 15, ek 501001, ek 501002, ek 11], .ren [(501001, 502001), (501002, 502002), (11, 502003)]] (cs := [_, _, _, _]) (by kernel_rfl) ⟨h1486, (antiquarylaw44_run_ok k p2 p3 false _ h1488), h1489, h1492, trivial⟩ (antiquarylaw44_ExchangeSendsOnlyWhatIsNeeded_l2_ok k x1487.2.1 (0 : Int) p2 p3 x1487.1 r h)
theorem antiquarylaw44_ExchangeSendsOnlyWhatIsNeeded_l0_ok (k : Nat) (p1 : List ByteArray) (p2 : List ByteArray) (p3 : Bool) (r : Bool) (h : antiquarylaw44_ExchangeSendsOnlyWhatIsNeeded_l0 k p1 p2 p3 = some r) :
    Abs.Good P 7 Tryd.f7.ntmps [] [] (.v (.p Kd.bool r)) (pos Tryd.f7 [.r, .r, .r, .r]) [(sk 0, some (.v (.p (Kd.sl Kd.str) p1))), (sk 1, some (.v (.p (Kd.sl Kd.str) p2))), (sk 30, some (.v (.p Kd.bool p3)))] := by
  unfold antiquarylaw44_ExchangeSendsOnlyWhatIsNeeded_l0 at h
  rcases br_inv h with ⟨h1478, h⟩ | ⟨h1478, h⟩
  · obtain ⟨x1479, h1480, h⟩ := bind_inv h
    replace h := Option.some.inj h; subst h
    exact Abs.Good.path_ret hm [.cond true, .reg [(0, { call := some { lend := [], pass := [], res := .v (.p Kd.bool x1479), outs := [], back := [] } })]] [] Tryd.func7 (cs := [_, _]) (by kernel_rfl) ⟨h1478, (antiquarylaw44_sanity_ok k  _ h1480), trivial⟩ (by kernel_rfl)
  · obtain ⟨x1481, h1482, h⟩ := bind_inv h
    obtain ⟨x1483, h1484, h⟩ := bind_inv h
    rcases br_inv h with ⟨h1485, h⟩ | ⟨h1485, h⟩
    · exact Abs.Good.path hm [.cond false, .reg [(1, { call := some { lend := [], pass := [], res := .t [.agg [.p (Kd.sl KI) x1481.1], .p Kd.bool x1481.2], outs := [], back := [] } })], .reg [(1, { call := some { lend := [], pass := [], res := .t [.agg [.p (Kd.sl KI) x1483.1], .p Kd.bool x1483.2], outs := [], back := [] } })], .reg [(3, { dec := some true }), (4, { dec := some true }), (5, { pick := some true })], .keep [sk 7, sk 9, sk 47, ek 7, ek 9], .ren [(7, 501001), (9, 501002)]] (cs := [_, _, _, _, _, _]) (by kernel_rfl) ⟨h1478, (antiquarylaw44_of_ok k p1 _ h1482), (antiquarylaw44_of_ok k p2 _ h1484), h1485, h1485, h1485, trivial⟩ (antiquarylaw44_ExchangeSendsOnlyWhatIsNeeded_l1_ok k true x1481.1 x1483.1 r h)
    · exact Abs.Good.path hm [.cond false, .reg [(1, { call := some { lend := [], pass := [], res := .t [.agg [.p (Kd.sl KI) x1481.1], .p Kd.bool x1481.2], outs := [], back := [] } })], .reg [(1, { call := some { lend := [], pass := [], res := .t [.agg [.p (Kd.sl KI) x1483.1], .p Kd.bool x1483.2], outs := [], back := [] } })], .reg [(3, { dec := some false }), (4, { dec := some false }), (5, { pick := some false })], .keep [sk 7, sk 9, sk 47, ek 7, ek 9], .ren [(7, 501001), (9, 501002)]] (cs := [_, _, _, _, _, _]) (by kernel_rfl) ⟨h1478, (antiquarylaw44_of_ok k p1 _ h1482), (antiquarylaw44_of_ok k p2 _ h1484), h1485, h1485, h1485, trivial⟩ (antiquarylaw44_ExchangeSendsOnlyWhatIsNeeded_l1_ok k (!x1483.2) x1481.1 x1483.1 r h)
theorem antiquarylaw44_ExchangeSendsOnlyWhatIsNeeded_ok (k : Nat) (a1 : List ByteArray) (a2 : List ByteArray) (r : Bool) (h : antiquarylaw44_ExchangeSendsOnlyWhatIsNeeded k a1 a2 = some r) : SpecOk P ⟨7, [.p (Kd.sl Kd.str) a1, .p (Kd.sl Kd.str) a2], [], .v (.p Kd.bool r), []⟩ := by
  refine spec_at Tryd.func7 (by kernel_rfl) (Nat.le_of_ble_eq_true (by kernel_rfl)) ?_
  unfold antiquarylaw44_ExchangeSendsOnlyWhatIsNeeded at h
  obtain ⟨x1473, h1474, h⟩ := bind_inv h
  obtain ⟨x1475, h1476, h⟩ := bind_inv h
  rcases br_inv h with ⟨h1477, h⟩ | ⟨h1477, h⟩
  · exact Abs.Good.path hm [.reg [], .reg [(1, { call := some { lend := [], pass := [], res := .v (.p Kd.bool x1473), outs := [], back := [] } })], .reg [(1, { call := some { lend := [], pass := [], res := .v (.p Kd.bool x1475), outs := [], back := [] } })], .reg [(3, { dec := some true }), (4, { dec := some true }), (5, { pick := some true })], .keep [sk 0, sk 1, sk 30]] (cs := [_, _, _, _, _]) (by kernel_rfl) ⟨(antiquaryref44_Few_ok k a1 (40 : Int) _ h1474), (antiquaryref44_Few_ok k a2 (40 : Int) _ h1476), h1477, h1477, h1477, trivial⟩ (antiquarylaw44_ExchangeSendsOnlyWhatIsNeeded_l0_ok k a1 a2 true r h)
  · exact Abs.Good.path hm [.reg [], .reg [(1, { call := some { lend := [], pass := [], res := .v (.p Kd.bool x1473), outs := [], back := [] } })], .reg [(1, { call := some { lend := [], pass := [], res := .v (.p Kd.bool x1475), outs := [], back := [] } })], .reg [(3, { dec := some false }), (4, { dec := some false }), (5, { pick := some false })], .keep [sk 0, sk 1, sk 30]] (cs := [_, _, _, _, _]) (by kernel_rfl) ⟨(antiquaryref44_Few_ok k a1 (40 : Int) _ h1474), (antiquaryref44_Few_ok k a2 (40 : Int) _ h1476), h1477, h1477, h1477, trivial⟩ (antiquarylaw44_ExchangeSendsOnlyWhatIsNeeded_l0_ok k a1 a2 (!x1475) r h)

def antiquaryref44_Less_l0 : Nat → Int → List Int → List Int → Option (Bool)
  | 0, _, _, _ => none
  | k + 1, p1, p2, p3 =>
    if (decide (p1 < (16 : Int))) = true then
      if 0 ≤ p1 ∧ p1 < (16 : Int) then
        if ((List.getD p2 (Int.toNat p1) (Kd.dflt (Kd.int .u8))) != (List.getD p3 (Int.toNat p1) (Kd.dflt (Kd.int .u8)))) = true then
          some ((decide ((List.getD p2 (Int.toNat p1) (Kd.dflt (Kd.int .u8))) < (List.getD p3 (Int.toNat p1) (Kd.dflt (Kd.int .u8))))))
        else
          antiquaryref44_Less_l0 k (IntKind.i64.wrap (p1 + (1 : Int))) p2 p3
      else none
    else
      some (false)
def antiquaryref44_Less (k : Nat) (a1 : List Int) (a2 : List Int) : Option (Bool) :=
  antiquaryref44_Less_l0 k (0 : Int) a1 a2
theorem antiquaryref44_Less_l0_ok (k : Nat) : ∀ (p1 : Int) (p2 : List Int) (p3 : List Int) (r : Bool), antiquaryref44_Less_l0 k p1 p2 p3 = some r →
    Abs.Good P 42 Tryd.f42.ntmps [] [] (.v (.p Kd.bool r)) (pos Tryd.f42 [.r, .r]) [(sk 2, some (.v (.ptr 500001 0))), (sk 3, some (.v (.ptr 500002 0))), (sk 5, some (.v (.p (Kd.int .i64) p1))), (ek 500001, some (.box [.p (Kd.arr 16 (Kd.int .u8)) p2])), (ek 500002, some (.box [.p (Kd.arr 16 (Kd.int .u8)) p3]))] := by
  induction k with
  | zero => intro p1 p2 p3 r h; cases h
  | succ k ih =>
    intro p1 p2 p3 r h
    unfold antiquaryref44_Less_l0 at h
    rcases br_inv h with ⟨h1536, h⟩ | ⟨h1536, h⟩
    · obtain ⟨h1537, h⟩ := gd_inv h
      rcases br_inv h with ⟨h1538, h⟩ | ⟨h1538, h⟩
      · replace h := Option.some.inj h; subst h
        exact Abs.Good.path_ret hm [.reg [], .cond true, .reg [], .cond true, .reg []] [] Tryd.func42 (cs := [_, _, _, _, _, _, _, _, _, _]) (by kernel_rfl) ⟨h1536, h1537.1, h1537.2, h1537.1, h1537.2, h1538, h1537.1, h1537.2, h1537.1, h1537.2, trivial⟩ (by kernel_rfl)
      · exact Abs.Good.path hm [.reg [], .cond true, .reg [], .cond false, .reg [], .keep [sk 2, sk 3, sk 5, ek 500001, ek 500002]] (cs := [_, _, _, _, _, _]) (by kernel_rfl) ⟨h1536, h1537.1, h1537.2, h1537.1, h1537.2, h1538, trivial⟩ (ih (IntKind.i64.wrap (p1 + (1 : Int))) p2 p3 r h)
    · replace h := Option.some.inj h; subst h
      exact Abs.Good.path_ret hm [.reg [], .cond false, .reg []] [] Tryd.func42 (cs := [_]) (by kernel_rfl) ⟨h1536, trivial⟩ (by kernel_rfl)
theorem antiquaryref44_Less_ok (k : Nat) (a1 : List Int) (a2 : List Int) (r : Bool) (h : antiquaryref44_Less k a1 a2 = some r) : SpecOk P ⟨42, [.p (Kd.arr 16 (Kd.int .u8)) a1, .p (Kd.arr 16 (Kd.int .u8)) a2], [], .v (.p Kd.bool r), []⟩ := by
  refine spec_at Tryd.func42 (by kernel_rfl) (Nat.le_of_ble_eq_true (by kernel_rfl)) ?_
  unfold antiquaryref44_Less at h
  exact Abs.Good.path hm [.reg [], .reg [], .keep [sk 2, sk 3, sk 5, ek 2, ek 3], .ren [(2, 500001), (3, 500002)]] (cs := []) (by kernel_rfl) trivial (antiquaryref44_Less_l0_ok k (0 : Int) a1 a2 r h)

def antiquaryref44_Add_l2 (s0 : ByteArray → Bool → Int → List It → Int → List Int → List It → Option (List It × Int)) (k : Nat) (p1 : ByteArray) (p2 : Bool) (p3 : Int) (p4 : List It) (p5 : Int) (p6 : List Int) (p7 : List It) : Option (List It × Int) :=
  if 0 ≤ p3 ∧ p3 < (List.length p4 : Int) then
    if List.length p7 + List.length ([((List.getD p4 (Int.toNat p3) (Kd.dflt KI)).1, (((List.getD p4 (Int.toNat p3) (Kd.dflt KI)).2).1, ()))] : List It) ≤ 4398046511104 then
      s0 p1 p2 (IntKind.i64.wrap (p3 + (1 : Int))) p4 p5 p6 (p7 ++ ([((List.getD p4 (Int.toNat p3) (Kd.dflt KI)).1, (((List.getD p4 (Int.toNat p3) (Kd.dflt KI)).2).1, ()))] : List It))
    else none
  else none
def antiquaryref44_Add_l1 (s0 : ByteArray → Bool → Int → List It → Int → List Int → List It → Option (List It × Int)) (k : Nat) (p1 : ByteArray) (p2 : Bool) (p3 : Int) (p4 : Bool) (p5 : List It) (p6 : Int) (p7 : List Int) (p8 : List It) : Option (List It × Int) :=
  if p4 = true then
    if List.length p8 + List.length ([(p7, (p1, ()))] : List It) ≤ 4398046511104 then
      antiquaryref44_Add_l2 s0 k p1 true p3 p5 p6 p7 (p8 ++ ([(p7, (p1, ()))] : List It))
    else none
  else
    antiquaryref44_Add_l2 s0 k p1 p2 p3 p5 p6 p7 p8
def antiquaryref44_Add_l0 : Nat → ByteArray → Bool → Int → List It → Int → List Int → List It → Option (List It × Int)
  | 0, _, _, _, _, _, _, _ => none
  | k + 1, p1, p2, p3, p4, p5, p6, p7 =>
    if (decide (p3 < (List.length p4 : Int))) = true then
      if (!p2) = true then
        if 0 ≤ p3 ∧ p3 < (List.length p4 : Int) then
          Option.bind (antiquaryref44_Less k p6 ((List.getD p4 (Int.toNat p3) (Kd.dflt KI)).1)) fun x1597 =>
          antiquaryref44_Add_l1 (antiquaryref44_Add_l0 k) k p1 p2 p3 x1597 p4 p5 p6 p7
        else none
      else
        antiquaryref44_Add_l1 (antiquaryref44_Add_l0 k) k p1 p2 p3 false p4 p5 p6 p7
    else
      if (!p2) = true then
        if List.length p7 + List.length ([(p6, (p1, ()))] : List It) ≤ 4398046511104 then
          some ((p7 ++ ([(p6, (p1, ()))] : List It)), (0 : Int))
        else none
      else
        some (p7, (0 : Int))
def antiquaryref44_Add (k : Nat) (a1 : List It) (a2 : ByteArray) : Option (List It × Int) :=
  if (decide ((ByteArray.size a2 : Int) > (1048576 : Int))) = true then
    some (a1, (1 : Int))
  else
    Option.bind (antiquaryref44_Name k a2) fun x1588 =>
    Option.bind (antiquaryref44_Place k a1 x1588) fun x1590 =>
    if (decide (x1590 ≥ (0 : Int))) = true then
      some (a1, (6 : Int))
    else
      if (decide ((List.length a1 : Int) ≥ (65536 : Int))) = true then
        some (a1, (2 : Int))
      else
        antiquaryref44_Add_l0 k a2 false (0 : Int) a1 (0 : Int) x1588 ([] : List It)
theorem antiquaryref44_Add_l2_ok (s0 : ByteArray → Bool → Int → List It → Int → List Int → List It → Option (List It × Int)) (hs0 : ∀ (p1 : ByteArray) (p2 : Bool) (p3 : Int) (p4 : List It) (p5 : Int) (p6 : List Int) (p7 : List It) (r : List It × Int), s0 p1 p2 p3 p4 p5 p6 p7 = some r → Abs.Good P 19 Tryd.f19.ntmps [] [] (.v (.agg [.p (Kd.sl KI) r.1, .nilsl, .p (Kd.int .i64) r.2])) (pos Tryd.f19 [.r, .r, .c false, .r, .r, .c false, .r, .c false, .r, .r, .r]) [(sk 1, some (.v (.p Kd.str p1))), (sk 2, some (.v (.ptr 500001 0))), (sk 4, some (.v (.ptr 500002 0))), (sk 5, some (.v (.ptr 500003 0))), (sk 6, some (.v (.ptr 500004 0))), (sk 7, some (.v (.p Kd.bool p2))), (sk 8, some (.v (.p (Kd.int .i64) p3))), (ek 500001, some (.box [.p (Kd.sl KI) p4])), (ek 500002, some (.box [.nilsl, .nilsl, .p (Kd.int .i64) p5])), (ek 500003, some (.box [.p (Kd.arr 16 (Kd.int .u8)) p6])), (ek 500004, some (.box [.row 500005 (List.length p7)])), (ek 500005, some (.row KI 50 p7))]) (k : Nat) (p1 : ByteArray) (p2 : Bool) (p3 : Int) (p4 : List It) (p5 : Int) (p6 : List Int) (p7 : List It) (r : List It × Int) (h : antiquaryref44_Add_l2 s0 k p1 p2 p3 p4 p5 p6 p7 = some r) :
    Abs.Good P 19 Tryd.f19.ntmps [] [] (.v (.agg [.p (Kd.sl KI) r.1, .nilsl, .p (Kd.int .i64) r.2])) (pos Tryd.f19 [.r, .r, .c false, .r, .r, .c false, .r, .c false, .r, .r, .r, .r, .c true, .r, .c false]) [(sk 1, some (.v (.p Kd.str p1))), (sk 2, some (.v (.ptr 502001 0))), (sk 4, some (.v (.ptr 502002 0))), (sk 5, some (.v (.ptr 502003 0))), (sk 6, some (.v (.ptr 502004 0))), (sk 7, some (.v (.p Kd.bool p2))), (sk 8, some (.v (.p (Kd.int .i64) p3))), (ek 502001, some (.box [.p (Kd.sl KI) p4])), (ek 502002, some (.box [.nilsl, .nilsl, .p (Kd.int .i64) p5])), (ek 502003, some (.box [.p (Kd.arr 16 (Kd.int .u8)) p6])), (ek 502004, some (.box [.row 502005 (List.length p7)])), (ek 502005, some (.row KI 50 p7))] := by
  unfold antiquaryref44_Add_l2 at h
  obtain ⟨h1603, h⟩ := gd_inv h
  obtain ⟨h1604, h⟩ := gd_inv h
  exact Abs.Good.path hm [.reg [], .reg [], .keep [sk 1, sk 2, sk 4, sk 5, sk 6, sk 7, sk 8, ek 502001, ek 502002, ek 502003, ek 502004, ek 63], .ren [(502001, 500001), (502002, 500002), (502003, 500003), (502004, 500004), (63, 500005)]] (cs := [_, _, _, _, _]) (by kernel_rfl) ⟨h1603.1, h1603.2, (rfl : (List.length p7) = List.length p7), (appBound (P := P) (et := 50) (b := 32) (by kernel_rfl) (by decide) h1604), (rfl : 1 = List.length ([((List.getD p4 (Int.toNat p3) (Kd.dflt KI)).1, (((List.getD p4 (Int.toNat p3) (Kd.dflt KI)).2).1, ()))] : List It)), trivial⟩ (hs0 p1 p2 (IntKind.i64.wrap (p3 + (1 : Int))) p4 p5 p6 (p7 ++ ([((List.getD p4 (Int.toNat p3) (Kd.dflt KI)).1, (((List.getD p4 (Int.toNat p3) (Kd.dflt KI)).2).1, ()))] : List It)) r h)
theorem antiquaryref44_Add_l1_ok (s0 : ByteArray → Bool → Int → List It → Int → List Int → List It → Option (List It × Int)) (hs0 : ∀ (p1 : ByteArray) (p2 : Bool) (p3 : Int) (p4 : List It) (p5 : Int) (p6 : List Int) (p7 : List It) (r : List It × Int), s0 p1 p2 p3 p4 p5 p6 p7 = some r → Abs.Good P 19 Tryd.f19.ntmps [] [] (.v (.agg [.p (Kd.sl KI) r.1, .nilsl, .p (Kd.int .i64) r.2])) (pos Tryd.f19 [.r, .r, .c false, .r, .r, .c false, .r, .c false, .r, .r, .r]) [(sk 1, some (.v (.p Kd.str p1))), (sk 2, some (.v (.ptr 500001 0))), (sk 4, some (.v (.ptr 500002 0))), (sk 5, some (.v (.ptr 500003 0))), (sk 6, some (.v (.ptr 500004 0))), (sk 7, some (.v (.p Kd.bool p2))), (sk 8, some (.v (.p (Kd.int .i64) p3))), (ek 500001, some (.box [.p (Kd.sl KI) p4])), (ek 500002, some (.box [.nilsl, .nilsl, .p (Kd.int .i64) p5])), (ek 500003, some (.box [.p (Kd.arr 16 (Kd.int .u8)) p6])), (ek 500004, some (.box [.row 500005 (List.length p7)])), (ek 500005, some (.row KI 50 p7))]) (k : Nat) (p1 : ByteArray) (p2 : Bool) (p3 : Int) (p4 : Bool) (p5 : List It) (p6 : Int) (p7 : List Int) (p8 : List It) (r : List It × Int) (h : antiquaryref44_Add_l1 s0 k p1 p2 p3 p4 p5 p6 p7 p8 = some r) :
    Abs.Good P 19 Tryd.f19.ntmps [] [] (.v (.agg [.p (Kd.sl KI) r.1, .nilsl, .p (Kd.int .i64) r.2])) (pos Tryd.f19 [.r, .r, .c false, .r, .r, .c false, .r, .c false, .r, .r, .r, .r, .c true, .r]) [(sk 1, some (.v (.p Kd.str p1))), (sk 2, some (.v (.ptr 501001 0))), (sk 4, some (.v (.ptr 501002 0))), (sk 5, some (.v (.ptr 501003 0))), (sk 6, some (.v (.ptr 501004 0))), (sk 7, some (.v (.p Kd.bool p2))), (sk 8, some (.v (.p (Kd.int .i64) p3))), (sk 46, some (.v (.p Kd.bool p4))), (ek 501001, some (.box [.p (Kd.sl KI) p5])), (ek 501002, some (.box [.nilsl, .nilsl, .p (Kd.int .i64) p6])), (ek 501003, some (.box [.p (Kd.arr 16 (Kd.int .u8)) p7])), (ek 501004, some (.box [.row 501005 (List.length p8)])), (ek 501005, some (.row KI 50 p8))] := by
  unfold antiquaryref44_Add_l1 at h
  rcases br_inv h with ⟨h1601, h⟩ | ⟨h1601, h⟩
  · obtain ⟨h1602, h⟩ := gd_inv h
    exact Abs.Good.path hm [.cond true, .reg [], .reg [], .keep [sk 1, sk 2, sk 4, sk 5, sk 6, sk 7, sk 8, ek 501001, ek 501002, ek 501003, ek 501004, ek 53], .ren [(501001, 502001), (501002, 502002), (501003, 502003), (501004, 502004), (53, 502005)]] (cs := [_, _, _, _]) (by kernel_rfl) ⟨h1601, (rfl : (List.length p8) = List.length p8), (appBound (P := P) (et := 50) (b := 32) (by kernel_rfl) (by decide) h1602), (rfl : 1 = List.length ([(p7, (p1, ()))] : List It)), trivial⟩ (antiquaryref44_Add_l2_ok s0 hs0 k p1 true p3 p5 p6 p7 (p8 ++ ([(p7, (p1, ()))] : List It)) r h)
  · exact Abs.Good.path hm [.cond false, .keep [sk 1, sk 2, sk 4, sk 5, sk 6, sk 7, sk 8, ek 501001, ek 501002, ek 501003, ek 501004, ek 501005], .ren [(501001, 502001), (501002, 502002), (501003, 502003), (501004, 502004), (501005, 502005)]] (cs := [_]) (by kernel_rfl) ⟨h1601, trivial⟩ (antiquaryref44_Add_l2_ok s0 hs0 k p1 p2 p3 p5 p6 p7 p8 r h)
theorem antiquaryref44_Add_l0_ok (k : Nat) : ∀ (p1 : ByteArray) (p2 : Bool) (p3 : Int) (p4 : List It) (p5 : Int) (p6 : List Int) (p7 : List It) (r : List It × Int), antiquaryref44_Add_l0 k p1 p2 p3 p4 p5 p6 p7 = some r →
    Abs.Good P 19 Tryd.f19.ntmps [] [] (.v (.agg [.p (Kd.sl KI) r.1, .nilsl, .p (Kd.int .i64) r.2])) (pos Tryd.f19 [.r, .r, .c false, .r, .r, .c false, .r, .c false, .r, .r, .r]) [(sk 1, some (.v (.p Kd.str p1))), (sk 2, some (.v (.ptr 500001 0))), (sk 4, some (.v (.ptr 500002 0))), (sk 5, some (.v (.ptr 500003 0))), (sk 6, some (.v (.ptr 500004 0))), (sk 7, some (.v (.p Kd.bool p2))), (sk 8, some (.v (.p (Kd.int .i64) p3))), (ek 500001, some (.box [.p (Kd.sl KI) p4])), (ek 500002, some (.box [.nilsl, .nilsl, .p (Kd.int .i64) p5])), (ek 500003, some (.box [.p (Kd.arr 16 (Kd.int .u8)) p6])), (ek 500004, some (.box [.row 500005 (List.length p7)])), (ek 500005, some (.row KI 50 p7))] := by
  induction k with
  | zero => intro p1 p2 p3 p4 p5 p6 p7 r h; cases h
  | succ k ih =>
    intro p1 p2 p3 p4 p5 p6 p7 r h
    unfold antiquaryref44_Add_l0 at h
    rcases br_inv h with ⟨h1594, h⟩ | ⟨h1594, h⟩
    · rcases br_inv h with ⟨h1595, h⟩ | ⟨h1595, h⟩
      · obtain ⟨h1596, h⟩ := gd_inv h
        obtain ⟨x1597, h1598, h⟩ := bind_inv h
        exact Abs.Good.path hm [.reg [], .cond true, .reg [(3, { dec := some true }), (4, { dec := some true }), (5, { dec := some true }), (6, { dec := some true }), (7, { dec := some true }), (8, { dec := some true }), (9, { dec := some true }), (10, { dec := some true, call := some { lend := [], pass := [], res := .v (.p Kd.bool x1597), outs := [], back := [] } }), (11, { pick := some true })], .keep [sk 1, sk 2, sk 4, sk 5, sk 6, sk 7, sk 8, sk 46, ek 500001, ek 500002, ek 500003, ek 500004, ek 500005], .ren [(500001, 501001), (500002, 501002), (500003, 501003), (500004, 501004), (500005, 501005)]] (cs := [_, _, _, _, _, _, _, _, _, _, _, _, _]) (by kernel_rfl) ⟨h1594, h1595, h1595, h1595, h1595, h1595, h1596.1, h1596.2, h1595, h1595, h1595, (antiquaryref44_Less_ok k p6 ((List.getD p4 (Int.toNat p3) (Kd.dflt KI)).1) _ h1598), h1595, trivial⟩ (antiquaryref44_Add_l1_ok (antiquaryref44_Add_l0 k) ih k p1 p2 p3 x1597 p4 p5 p6 p7 r h)
      · exact Abs.Good.path hm [.reg [], .cond true, .reg [(3, { dec := some false }), (4, { dec := some false }), (5, { dec := some false }), (6, { dec := some false }), (7, { dec := some false }), (8, { dec := some false }), (9, { dec := some false }), (10, { dec := some false }), (11, { pick := some false })], .keep [sk 1, sk 2, sk 4, sk 5, sk 6, sk 7, sk 8, sk 46, ek 500001, ek 500002, ek 500003, ek 500004, ek 500005], .ren [(500001, 501001), (500002, 501002), (500003, 501003), (500004, 501004), (500005, 501005)]] (cs := [_, _, _, _, _, _, _, _, _, _]) (by kernel_rfl) ⟨h1594, h1595, h1595, h1595, h1595, h1595, h1595, h1595, h1595, h1595, trivial⟩ (antiquaryref44_Add_l1_ok (antiquaryref44_Add_l0 k) ih k p1 p2 p3 false p4 p5 p6 p7 r h)
    · rcases br_inv h with ⟨h1599, h⟩ | ⟨h1599, h⟩
      · obtain ⟨h1600, h⟩ := gd_inv h
        replace h := Option.some.inj h; subst h
        exact Abs.Good.path_ret hm [.reg [], .cond false, .reg [], .cond true, .reg [], .reg []] [73] Tryd.func19 (cs := [_, _, _, _, _, _]) (by kernel_rfl) ⟨h1594, h1599, (rfl : (List.length p7) = List.length p7), (appBound (P := P) (et := 50) (b := 32) (by kernel_rfl) (by decide) h1600), (rfl : 1 = List.length ([(p6, (p1, ()))] : List It)), (rfl : (List.length (p7 ++ ([(p6, (p1, ()))] : List It))) = List.length (p7 ++ ([(p6, (p1, ()))] : List It))), trivial⟩ (by kernel_rfl)
      · replace h := Option.some.inj h; subst h
        exact Abs.Good.path_ret hm [.reg [], .cond false, .reg [], .cond false, .reg []] [500005] Tryd.func19 (cs := [_, _, _]) (by kernel_rfl) ⟨h1594, h1599, (rfl : (List.length p7) = List.length p7), trivial⟩ (by kernel_rfl)
theorem antiquaryref44_Add_ok (k : Nat) (a1 : List It) (a2 : ByteArray) (r : List It × Int) (h : antiquaryref44_Add k a1 a2 = some r) : SpecOk P ⟨19, [.agg [.p (Kd.sl KI) a1], .p Kd.str a2], [], .v (.agg [.p (Kd.sl KI) r.1, .nilsl, .p (Kd.int .i64) r.2]), []⟩ := by
  refine spec_at Tryd.func19 (by kernel_rfl) (Nat.le_of_ble_eq_true (by kernel_rfl)) ?_
  unfold antiquaryref44_Add at h
  rcases br_inv h with ⟨h1587, h⟩ | ⟨h1587, h⟩
  · replace h := Option.some.inj h; subst h
    exact Abs.Good.path_ret hm [.reg [], .reg [], .cond true, .reg []] [] Tryd.func19 (cs := [_]) (by kernel_rfl) ⟨h1587, trivial⟩ (by kernel_rfl)
  · obtain ⟨x1588, h1589, h⟩ := bind_inv h
    obtain ⟨x1590, h1591, h⟩ := bind_inv h
    rcases br_inv h with ⟨h1592, h⟩ | ⟨h1592, h⟩
    · replace h := Option.some.inj h; subst h
      exact Abs.Good.path_ret hm [.reg [], .reg [], .cond false, .reg [(1, { call := some { lend := [], pass := [], res := .v (.p (Kd.arr 16 (Kd.int .u8)) x1588), outs := [], back := [] } })], .reg [(2, { call := some { lend := [], pass := [], res := .v (.p (Kd.int .i64) x1590), outs := [], back := [] } })], .cond true, .reg []] [] Tryd.func19 (cs := [_, _, _, _]) (by kernel_rfl) ⟨h1587, (antiquaryref44_Name_ok k a2 _ h1589), (antiquaryref44_Place_ok k a1 x1588 _ h1591), h1592, trivial⟩ (by kernel_rfl)
    · rcases br_inv h with ⟨h1593, h⟩ | ⟨h1593, h⟩
      · replace h := Option.some.inj h; subst h
        exact Abs.Good.path_ret hm [.reg [], .reg [], .cond false, .reg [(1, { call := some { lend := [], pass := [], res := .v (.p (Kd.arr 16 (Kd.int .u8)) x1588), outs := [], back := [] } })], .reg [(2, { call := some { lend := [], pass := [], res := .v (.p (Kd.int .i64) x1590), outs := [], back := [] } })], .cond false, .reg [], .cond true, .reg []] [] Tryd.func19 (cs := [_, _, _, _, _]) (by kernel_rfl) ⟨h1587, (antiquaryref44_Name_ok k a2 _ h1589), (antiquaryref44_Place_ok k a1 x1588 _ h1591), h1592, h1593, trivial⟩ (by kernel_rfl)
      · exact Abs.Good.path hm [.reg [], .reg [], .cond false, .reg [(1, { call := some { lend := [], pass := [], res := .v (.p (Kd.arr 16 (Kd.int .u8)) x1588), outs := [], back := [] } })], .reg [(2, { call := some { lend := [], pass := [], res := .v (.p (Kd.int .i64) x1590), outs := [], back := [] } })], .cond false, .reg [], .cond false, .reg [], .reg [], .reg [], .co (ek 6) 0 (.mk 900001 KI 50), .keep [sk 1, sk 2, sk 4, sk 5, sk 6, sk 7, sk 8, ek 2, ek 4, ek 5, ek 6, ek 900001], .ren [(2, 500001), (4, 500002), (5, 500003), (6, 500004), (900001, 500005)]] (cs := [_, _, _, _, _]) (by kernel_rfl) ⟨h1587, (antiquaryref44_Name_ok k a2 _ h1589), (antiquaryref44_Place_ok k a1 x1588 _ h1591), h1592, h1593, trivial⟩ (antiquaryref44_Add_l0_ok k a2 false (0 : Int) a1 (0 : Int) x1588 ([] : List It) r h)

def antiquaryref44_Half (k : Nat) (a1 : List Int) (a2 : Int) (a3 : Bool) : Option (List Int × Int) :=
  if a3 = true then
    if 0 ≤ (IntKind.i64.wrap (Int.tdiv a2 (8 : Int))) ∧ (IntKind.i64.wrap (Int.tdiv a2 (8 : Int))) < (16 : Int) then
      if 0 ≤ (Int.tmod a2 (8 : Int)) then
        some ((List.set a1 (Int.toNat (IntKind.i64.wrap (Int.tdiv a2 (8 : Int)))) (IntKind.u8.wrap ((List.getD a1 (Int.toNat (IntKind.i64.wrap (Int.tdiv a2 (8 : Int)))) (Kd.dflt (Kd.int .u8))) + (Int.fdiv (128 : Int) (2 ^ (min (Int.toNat (Int.tmod a2 (8 : Int))) (IntKind.bits .u8))))))), (IntKind.i64.wrap (a2 + (1 : Int))))
      else none
    else none
  else
    some (a1, (IntKind.i64.wrap (a2 + (1 : Int))))
theorem antiquaryref44_Half_ok (k : Nat) (a1 : List Int) (a2 : Int) (a3 : Bool) (r : List Int × Int) (h : antiquaryref44_Half k a1 a2 a3 = some r) : SpecOk P ⟨31, [.agg [.p (Kd.arr 16 (Kd.int .u8)) a1, .p (Kd.int .i64) a2], .p Kd.bool a3], [], .v (.agg [.p (Kd.arr 16 (Kd.int .u8)) r.1, .p (Kd.int .i64) r.2]), []⟩ := by
  refine spec_at Tryd.func31 (by kernel_rfl) (Nat.le_of_ble_eq_true (by kernel_rfl)) ?_
  unfold antiquaryref44_Half at h
  rcases br_inv h with ⟨h1608, h⟩ | ⟨h1608, h⟩
  · obtain ⟨h1609, h⟩ := gd_inv h
    obtain ⟨h1610, h⟩ := gd_inv h
    replace h := Option.some.inj h; subst h
    exact Abs.Good.path_ret hm [.reg [], .reg [], .reg [], .cond true, .reg [], .reg []] [] Tryd.func31 (cs := [_, _, _, _, _, _, _, _, _]) (by kernel_rfl) ⟨h1608, (by decide : (8 : Int) ≠ 0), (by decide : (8 : Int) ≠ 0), h1609.1, h1609.2, (by decide : (8 : Int) ≠ 0), h1610, h1609.1, h1609.2, trivial⟩ (by kernel_rfl)
  · replace h := Option.some.inj h; subst h
    exact Abs.Good.path_ret hm [.reg [], .reg [], .reg [], .cond false, .reg []] [] Tryd.func31 (cs := [_]) (by kernel_rfl) ⟨h1608, trivial⟩ (by kernel_rfl)


end Go.Proofs.G44
