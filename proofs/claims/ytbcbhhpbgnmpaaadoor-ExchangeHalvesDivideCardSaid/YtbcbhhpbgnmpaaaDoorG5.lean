/- The walks: each function of the program that the law reaches computes the Lean function that is printed beside it. No condition but that the Lean function has a result. -/
import Derived.Test.YtbcbhhpbgnmpaaaDoorG4
set_option linter.unusedVariables false
namespace Go.Proofs.G44
open Go.Abs
set_option maxRecDepth 10000
open Go.Proofs.K1
theorem antiquarylaw44_ExchangeStocksAsSpecified_l1_ok (k : Nat) (p1 : ByteArray) (p2 : Bool) (p3 : List It) (p4 : List Int) (p5 : List Int) (p6 : Int) (r : Bool) (h : antiquarylaw44_ExchangeStocksAsSpecified_l1 k p1 p2 p3 p4 p5 p6 = some r) :
    Abs.Good P 3 Tryd.f3.ntmps [] [] (.v (.p Kd.bool r)) (pos Tryd.f3 [.r, .r, .r, .c false, .r]) [(sk 1, some (.v (.p Kd.str p1))), (sk 4, some (.v (.ptr 501001 0))), (sk 6, some (.v (.ptr 501002 0))), (sk 7, some (.v (.ptr 501003 0))), (sk 44, some (.v (.p Kd.bool p2))), (ek 501001, some (.box [.p (Kd.sl KI) p3])), (ek 501002, some (.box [.p (Kd.arr 16 (Kd.int .u8)) p4])), (ek 501003, some (.box [.p (Kd.arr 16 (Kd.int .u8)) p5, .p (Kd.int .i64) p6]))] := by
  unfold antiquarylaw44_ExchangeStocksAsSpecified_l1 at h
  rcases br_inv h with ⟨h1429, h⟩ | ⟨h1429, h⟩
  · replace h := Option.some.inj h; subst h
    exact Abs.Good.path_ret hm [.cond true, .reg []] [] Tryd.func3 (cs := [_]) (by kernel_rfl) ⟨h1429, trivial⟩ (by kernel_rfl)
  · obtain ⟨x1430, h1431, h⟩ := bind_inv h
    obtain ⟨x1432, h1433, h⟩ := bind_inv h
    rcases br_inv h with ⟨h1434, h⟩ | ⟨h1434, h⟩
    · exact Abs.Good.path hm [.cond false, .reg [(1, { call := some { lend := [], pass := [], res := .v (.p Kd.bool x1430), outs := [], back := [] } })], .reg [(1, { call := some { lend := [], pass := [], res := .v (.p Kd.bool x1432), outs := [], back := [] } })], .reg [(3, { dec := some true }), (4, { dec := some true }), (5, { pick := some true })], .keep [sk 1, sk 4, sk 6, sk 7, sk 54, ek 501001, ek 501002, ek 501003], .ren [(501001, 502001), (501002, 502002), (501003, 502003)]] (cs := [_, _, _, _, _, _]) (by kernel_rfl) ⟨h1429, (antiquaryref44_Right_ok k p5 p6 _ h1431), (antiquaryref44_Valid_ok k p3 _ h1433), h1434, h1434, h1434, trivial⟩ (antiquarylaw44_ExchangeStocksAsSpecified_l2_ok k p1 true p3 p4 p5 p6 r h)
    · exact Abs.Good.path hm [.cond false, .reg [(1, { call := some { lend := [], pass := [], res := .v (.p Kd.bool x1430), outs := [], back := [] } })], .reg [(1, { call := some { lend := [], pass := [], res := .v (.p Kd.bool x1432), outs := [], back := [] } })], .reg [(3, { dec := some false }), (4, { dec := some false }), (5, { pick := some false })], .keep [sk 1, sk 4, sk 6, sk 7, sk 54, ek 501001, ek 501002, ek 501003], .ren [(501001, 502001), (501002, 502002), (501003, 502003)]] (cs := [_, _, _, _, _, _]) (by kernel_rfl) ⟨h1429, (antiquaryref44_Right_ok k p5 p6 _ h1431), (antiquaryref44_Valid_ok k p3 _ h1433), h1434, h1434, h1434, trivial⟩ (antiquarylaw44_ExchangeStocksAsSpecified_l2_ok k p1 (!x1432) p3 p4 p5 p6 r h)
theorem antiquarylaw44_ExchangeStocksAsSpecified_l0_ok (k : Nat) (p1 : ByteArray) (p2 : Bool) (p3 : List It) (p4 : List Int) (p5 : List Int) (p6 : Int) (r : Bool) (h : antiquarylaw44_ExchangeStocksAsSpecified_l0 k p1 p2 p3 p4 p5 p6 = some r) :
    Abs.Good P 3 Tryd.f3.ntmps [] [] (.v (.p Kd.bool r)) (pos Tryd.f3 [.r, .r, .r]) [(sk 1, some (.v (.p Kd.str p1))), (sk 4, some (.v (.ptr 500001 0))), (sk 6, some (.v (.ptr 500002 0))), (sk 7, some (.v (.ptr 500003 0))), (sk 31, some (.v (.p Kd.bool p2))), (ek 500001, some (.box [.p (Kd.sl KI) p3])), (ek 500002, some (.box [.p (Kd.arr 16 (Kd.int .u8)) p4])), (ek 500003, some (.box [.p (Kd.arr 16 (Kd.int .u8)) p5, .p (Kd.int .i64) p6]))] := by
  unfold antiquarylaw44_ExchangeStocksAsSpecified_l0 at h
  rcases br_inv h with ⟨h1417, h⟩ | ⟨h1417, h⟩
  · obtain ⟨x1418, h1419, h⟩ := bind_inv h
    replace h := Option.some.inj h; subst h
    exact Abs.Good.path_ret hm [.cond true, .reg [(0, { call := some { lend := [], pass := [], res := .v (.p Kd.bool x1418), outs := [], back := [] } })]] [] Tryd.func3 (cs := [_, _]) (by kernel_rfl) ⟨h1417, (antiquarylaw44_sanity_ok k  _ h1419), trivial⟩ (by kernel_rfl)
  · obtain ⟨x1420, h1421, h⟩ := bind_inv h
    obtain ⟨x1422, h1423, h⟩ := bind_inv h
    rcases br_inv h with ⟨h1424, h⟩ | ⟨h1424, h⟩
    · exact Abs.Good.path hm [.cond false, .reg [(1, { call := some { lend := [], pass := [], res := .v (.p Kd.bool x1420), outs := [], back := [] } }), (3, { call := some { lend := [], pass := [], res := .v (.p Kd.bool x1422), outs := [], back := [] } }), (6, { dec := some true }), (7, { dec := some true }), (8, { dec := some true }), (9, { dec := some true }), (10, { dec := some true }), (11, { pick := some true })], .keep [sk 1, sk 4, sk 6, sk 7, sk 44, ek 500001, ek 500002, ek 500003], .ren [(500001, 501001), (500002, 501002), (500003, 501003)]] (cs := [_, _, _, _, _, _, _, _, _]) (by kernel_rfl) ⟨h1417, (exchange_Valid_ok k p3 _ h1421), (antiquaryref44_Valid_ok k p3 _ h1423), h1424, h1424, h1424, h1424, h1424, h1424, trivial⟩ (antiquarylaw44_ExchangeStocksAsSpecified_l1_ok k p1 true p3 p4 p5 p6 r h)
    · obtain ⟨x1425, h1426, h⟩ := bind_inv h
      obtain ⟨x1427, h1428, h⟩ := bind_inv h
      exact Abs.Good.path hm [.cond false, .reg [(1, { call := some { lend := [], pass := [], res := .v (.p Kd.bool x1420), outs := [], back := [] } }), (3, { call := some { lend := [], pass := [], res := .v (.p Kd.bool x1422), outs := [], back := [] } }), (6, { dec := some false }), (7, { dec := some false, call := some { lend := [], pass := [], res := .v (.p (Kd.arr 16 (Kd.int .u8)) x1425), outs := [], back := [] } }), (8, { dec := some false }), (9, { dec := some false, call := some { lend := [], pass := [], res := .v (.p (Kd.arr 16 (Kd.int .u8)) x1427), outs := [], back := [] } }), (10, { dec := some false }), (11, { pick := some false })], .keep [sk 1, sk 4, sk 6, sk 7, sk 44, ek 500001, ek 500002, ek 500003], .ren [(500001, 501001), (500002, 501002), (500003, 501003)]] (cs := [_, _, _, _, _, _, _, _, _, _, _, _]) (by kernel_rfl) ⟨h1417, (exchange_Valid_ok k p3 _ h1421), (antiquaryref44_Valid_ok k p3 _ h1423), h1424, h1424, (exchange_Name_ok k p1 _ h1426), h1424, h1424, (antiquaryref44_Name_ok k p1 _ h1428), h1424, eq26, h1424, trivial⟩ (antiquarylaw44_ExchangeStocksAsSpecified_l1_ok k p1 (!(Kd.eqb (Kd.arr 16 (Kd.int .u8)) x1425 x1427)) p3 p4 p5 p6 r h)
theorem antiquarylaw44_ExchangeStocksAsSpecified_ok (k : Nat) (a1 : List It) (a2 : ByteArray) (a3 : List Int) (a4 : List Int) (a5 : Int) (r : Bool) (h : antiquarylaw44_ExchangeStocksAsSpecified k a1 a2 a3 a4 a5 = some r) : SpecOk P ⟨3, [.agg [.p (Kd.sl KI) a1], .p Kd.str a2, .p (Kd.arr 16 (Kd.int .u8)) a3, .agg [.p (Kd.arr 16 (Kd.int .u8)) a4, .p (Kd.int .i64) a5]], [], .v (.p Kd.bool r), []⟩ := by
  refine spec_at Tryd.func3 (by kernel_rfl) (Nat.le_of_ble_eq_true (by kernel_rfl)) ?_
  unfold antiquarylaw44_ExchangeStocksAsSpecified at h
  obtain ⟨x1414, h1415, h⟩ := bind_inv h
  rcases br_inv h with ⟨h1416, h⟩ | ⟨h1416, h⟩
  · exact Abs.Good.path hm [.reg [], .reg [(1, { call := some { lend := [], pass := [], res := .v (.p Kd.bool x1414), outs := [], back := [] } })], .reg [(3, { dec := some true }), (4, { dec := some true }), (5, { dec := some true }), (6, { pick := some true })], .keep [sk 1, sk 4, sk 6, sk 7, sk 31, ek 4, ek 6, ek 7], .ren [(4, 500001), (6, 500002), (7, 500003)]] (cs := [_, _, _, _, _]) (by kernel_rfl) ⟨(antiquarylaw44_few_ok k a1 _ h1415), h1416, h1416, h1416, h1416, trivial⟩ (antiquarylaw44_ExchangeStocksAsSpecified_l0_ok k a2 true a1 a3 a4 a5 r h)
  · exact Abs.Good.path hm [.reg [], .reg [(1, { call := some { lend := [], pass := [], res := .v (.p Kd.bool x1414), outs := [], back := [] } })], .reg [(3, { dec := some false }), (4, { dec := some false }), (5, { dec := some false }), (6, { pick := some false })], .keep [sk 1, sk 4, sk 6, sk 7, sk 31, ek 4, ek 6, ek 7], .ren [(4, 500001), (6, 500002), (7, 500003)]] (cs := [_, _, _, _, _]) (by kernel_rfl) ⟨(antiquarylaw44_few_ok k a1 _ h1415), h1416, h1416, h1416, h1416, trivial⟩ (antiquarylaw44_ExchangeStocksAsSpecified_l0_ok k a2 (decide ((ByteArray.size a2 : Int) > (200 : Int))) a1 a3 a4 a5 r h)

def antiquarylaw44_valid (k : Nat) (a1 : List It) : Option (Bool) :=
  Option.bind (antiquarylaw44_few k a1) fun x1548 =>
  if x1548 = true then
    Option.bind (antiquaryref44_Valid k a1) fun x1551 =>
    some (x1551)
  else
    some (false)
theorem antiquarylaw44_valid_ok (k : Nat) (a1 : List It) (r : Bool) (h : antiquarylaw44_valid k a1 = some r) : SpecOk P ⟨32, [.agg [.p (Kd.sl KI) a1]], [], .v (.p Kd.bool r), []⟩ := by
  refine spec_at Tryd.func32 (by kernel_rfl) (Nat.le_of_ble_eq_true (by kernel_rfl)) ?_
  unfold antiquarylaw44_valid at h
  obtain ⟨x1548, h1549, h⟩ := bind_inv h
  rcases br_inv h with ⟨h1550, h⟩ | ⟨h1550, h⟩
  · obtain ⟨x1551, h1552, h⟩ := bind_inv h
    replace h := Option.some.inj h; subst h
    exact Abs.Good.path_ret hm [.reg [], .reg [(1, { call := some { lend := [], pass := [], res := .v (.p Kd.bool x1548), outs := [], back := [] } })], .reg [(2, { dec := some true }), (3, { dec := some true, call := some { lend := [], pass := [], res := .v (.p Kd.bool x1551), outs := [], back := [] } }), (4, { pick := some true })]] [] Tryd.func32 (cs := [_, _, _, _, _]) (by kernel_rfl) ⟨(antiquarylaw44_few_ok k a1 _ h1549), h1550, h1550, (antiquaryref44_Valid_ok k a1 _ h1552), h1550, trivial⟩ (by kernel_rfl)
  · replace h := Option.some.inj h; subst h
    exact Abs.Good.path_ret hm [.reg [], .reg [(1, { call := some { lend := [], pass := [], res := .v (.p Kd.bool x1548), outs := [], back := [] } })], .reg [(2, { dec := some false }), (3, { dec := some false }), (4, { pick := some false })]] [] Tryd.func32 (cs := [_, _, _, _]) (by kernel_rfl) ⟨(antiquarylaw44_few_ok k a1 _ h1549), h1550, h1550, h1550, trivial⟩ (by kernel_rfl)

def antiquarylaw44_ExchangeHalvesDivide_l2 (s1 : List (List Int) → Int → List Int → Int → List Int → Int → List Int → Int → List (List Int) → Option (Bool)) (k : Nat) (p1 : List (List Int)) (p2 : Int) (p3 : Bool) (p4 : List Int) (p5 : Int) (p6 : List Int) (p7 : Int) (p8 : List Int) (p9 : Int) (p10 : List (List Int)) : Option (Bool) :=
  if p3 = true then
    some (false)
  else
    s1 p1 (IntKind.i64.wrap (p2 + (1 : Int))) p4 p5 p6 p7 p8 p9 p10
def antiquarylaw44_ExchangeHalvesDivide_l1 : Nat → List (List Int) → Int → List Int → Int → List Int → Int → List Int → Int → List (List Int) → Option (Bool)
  | 0, _, _, _, _, _, _, _, _, _ => none
  | k + 1, p1, p2, p3, p4, p5, p6, p7, p8, p9 =>
    if (decide (p2 < (List.length p1 : Int))) = true then
      if 0 ≤ p2 ∧ p2 < (List.length p1 : Int) then
        Option.bind (exchange_Under k p3 p4 (List.getD p1 (Int.toNat p2) (Kd.dflt (Kd.arr 16 (Kd.int .u8))))) fun x1631 =>
        if (!x1631) = true then
          antiquarylaw44_ExchangeHalvesDivide_l2 (antiquarylaw44_ExchangeHalvesDivide_l1 k) k p1 p2 true p3 p4 p5 p6 p7 p8 p9
        else
          Option.bind (exchange_Under k p5 p6 (List.getD p1 (Int.toNat p2) (Kd.dflt (Kd.arr 16 (Kd.int .u8))))) fun x1634 =>
          Option.bind (exchange_Under k p7 p8 (List.getD p1 (Int.toNat p2) (Kd.dflt (Kd.arr 16 (Kd.int .u8))))) fun x1636 =>
          antiquarylaw44_ExchangeHalvesDivide_l2 (antiquarylaw44_ExchangeHalvesDivide_l1 k) k p1 p2 (x1634 == x1636) p3 p4 p5 p6 p7 p8 p9
      else none
    else
      Option.bind (antiquarylaw44_sanity k) fun x1638 =>
      if x1638 = true then
        Option.bind (antiquaryref44_SameNames k p1 p9) fun x1641 =>
        if x1641 = true then
          Option.bind (antiquaryref44_Right k p5 p6) fun x1644 =>
          if x1644 = true then
            Option.bind (antiquaryref44_Right k p7 p8) fun x1647 =>
            some (x1647)
          else
            some (false)
        else
          some (false)
      else
        some (false)
def antiquarylaw44_ExchangeHalvesDivide_l0 (k : Nat) (p1 : Bool) (p2 : List It) (p3 : List Int) (p4 : Int) : Option (Bool) :=
  if p1 = true then
    Option.bind (antiquarylaw44_sanity k) fun x1617 =>
    some (x1617)
  else
    Option.bind (exchange_Halves k p3 p4) fun x1619 =>
    Option.bind (exchange_Names k p2 p3 p4) fun x1621 =>
    Option.bind (exchange_Names k p2 x1619.1 x1619.2.1) fun x1623 =>
    if List.length ([] : List (List Int)) + List.length x1623 ≤ 8796093022208 then
      Option.bind (exchange_Names k p2 x1619.2.2.1 x1619.2.2.2) fun x1626 =>
      if List.length (([] : List (List Int)) ++ x1623) + List.length x1626 ≤ 8796093022208 then
        antiquarylaw44_ExchangeHalvesDivide_l1 k x1621 (0 : Int) p3 p4 x1619.1 x1619.2.1 x1619.2.2.1 x1619.2.2.2 ((([] : List (List Int)) ++ x1623) ++ x1626)
      else none
    else none
def antiquarylaw44_ExchangeHalvesDivide (k : Nat) (a1 : List It) (a2 : List Int) (a3 : Int) : Option (Bool) :=
  Option.bind (antiquarylaw44_valid k a1) fun x1610 =>
  Option.bind (antiquaryref44_Right k a2 a3) fun x1612 =>
  if (!x1610) = true then
    antiquarylaw44_ExchangeHalvesDivide_l0 k true a1 a2 a3
  else
    if (!x1612) = true then
      antiquarylaw44_ExchangeHalvesDivide_l0 k true a1 a2 a3
    else
      antiquarylaw44_ExchangeHalvesDivide_l0 k (decide (a3 > (127 : Int))) a1 a2 a3
theorem antiquarylaw44_ExchangeHalvesDivide_l2_ok (s1 : List (List Int) → Int → List Int → Int → List Int → Int → List Int → Int → List (List Int) → Option (Bool)) (hs1 : ∀ (p1 : List (List Int)) (p2 : Int) (p3 : List Int) (p4 : Int) (p5 : List Int) (p6 : Int) (p7 : List Int) (p8 : Int) (p9 : List (List Int)) (r : Bool), s1 p1 p2 p3 p4 p5 p6 p7 p8 p9 = some r → Abs.Good P 8 Tryd.f8.ntmps [] [] (.v (.p Kd.bool r)) (pos Tryd.f8 [.r, .r, .r, .r, .c false, .r, .r, .r, .r]) [(sk 3, some (.v (.ptr 501001 0))), (sk 7, some (.v (.ptr 501002 0))), (sk 8, some (.v (.ptr 501003 0))), (sk 9, some (.v (.p (Kd.sl (Kd.arr 16 (Kd.int .u8))) p1))), (sk 10, some (.v (.row 501004 (List.length p9)))), (sk 11, some (.v (.p (Kd.int .i64) p2))), (ek 501001, some (.box [.p (Kd.arr 16 (Kd.int .u8)) p3, .p (Kd.int .i64) p4])), (ek 501002, some (.box [.p (Kd.arr 16 (Kd.int .u8)) p5, .p (Kd.int .i64) p6])), (ek 501003, some (.box [.p (Kd.arr 16 (Kd.int .u8)) p7, .p (Kd.int .i64) p8])), (ek 501004, some (.row (Kd.arr 16 (Kd.int .u8)) 26 p9))]) (k : Nat) (p1 : List (List Int)) (p2 : Int) (p3 : Bool) (p4 : List Int) (p5 : Int) (p6 : List Int) (p7 : Int) (p8 : List Int) (p9 : Int) (p10 : List (List Int)) (r : Bool) (h : antiquarylaw44_ExchangeHalvesDivide_l2 s1 k p1 p2 p3 p4 p5 p6 p7 p8 p9 p10 = some r) :
    Abs.Good P 8 Tryd.f8.ntmps [] [] (.v (.p Kd.bool r)) (pos Tryd.f8 [.r, .r, .r, .r, .c false, .r, .r, .r, .r, .r, .c true, .r]) [(sk 3, some (.v (.ptr 502001 0))), (sk 7, some (.v (.ptr 502002 0))), (sk 8, some (.v (.ptr 502003 0))), (sk 9, some (.v (.p (Kd.sl (Kd.arr 16 (Kd.int .u8))) p1))), (sk 10, some (.v (.row 502004 (List.length p10)))), (sk 11, some (.v (.p (Kd.int .i64) p2))), (sk 72, some (.v (.p Kd.bool p3))), (ek 502001, some (.box [.p (Kd.arr 16 (Kd.int .u8)) p4, .p (Kd.int .i64) p5])), (ek 502002, some (.box [.p (Kd.arr 16 (Kd.int .u8)) p6, .p (Kd.int .i64) p7])), (ek 502003, some (.box [.p (Kd.arr 16 (Kd.int .u8)) p8, .p (Kd.int .i64) p9])), (ek 502004, some (.row (Kd.arr 16 (Kd.int .u8)) 26 p10))] := by
  unfold antiquarylaw44_ExchangeHalvesDivide_l2 at h
  rcases br_inv h with ⟨h1649, h⟩ | ⟨h1649, h⟩
  · replace h := Option.some.inj h; subst h
    exact Abs.Good.path_ret hm [.cond true, .reg []] [] Tryd.func8 (cs := [_]) (by kernel_rfl) ⟨h1649, trivial⟩ (by kernel_rfl)
  · exact Abs.Good.path hm [.cond false, .reg [], .keep [sk 3, sk 7, sk 8, sk 9, sk 10, sk 11, ek 502001, ek 502002, ek 502003, ek 502004], .ren [(502001, 501001), (502002, 501002), (502003, 501003), (502004, 501004)]] (cs := [_]) (by kernel_rfl) ⟨h1649, trivial⟩ (hs1 p1 (IntKind.i64.wrap (p2 + (1 : Int))) p4 p5 p6 p7 p8 p9 p10 r h)
theorem antiquarylaw44_ExchangeHalvesDivide_l1_ok (k : Nat) : ∀ (p1 : List (List Int)) (p2 : Int) (p3 : List Int) (p4 : Int) (p5 : List Int) (p6 : Int) (p7 : List Int) (p8 : Int) (p9 : List (List Int)) (r : Bool), antiquarylaw44_ExchangeHalvesDivide_l1 k p1 p2 p3 p4 p5 p6 p7 p8 p9 = some r →
    Abs.Good P 8 Tryd.f8.ntmps [] [] (.v (.p Kd.bool r)) (pos Tryd.f8 [.r, .r, .r, .r, .c false, .r, .r, .r, .r]) [(sk 3, some (.v (.ptr 501001 0))), (sk 7, some (.v (.ptr 501002 0))), (sk 8, some (.v (.ptr 501003 0))), (sk 9, some (.v (.p (Kd.sl (Kd.arr 16 (Kd.int .u8))) p1))), (sk 10, some (.v (.row 501004 (List.length p9)))), (sk 11, some (.v (.p (Kd.int .i64) p2))), (ek 501001, some (.box [.p (Kd.arr 16 (Kd.int .u8)) p3, .p (Kd.int .i64) p4])), (ek 501002, some (.box [.p (Kd.arr 16 (Kd.int .u8)) p5, .p (Kd.int .i64) p6])), (ek 501003, some (.box [.p (Kd.arr 16 (Kd.int .u8)) p7, .p (Kd.int .i64) p8])), (ek 501004, some (.row (Kd.arr 16 (Kd.int .u8)) 26 p9))] := by
  induction k with
  | zero => intro p1 p2 p3 p4 p5 p6 p7 p8 p9 r h; cases h
  | succ k ih =>
    intro p1 p2 p3 p4 p5 p6 p7 p8 p9 r h
    unfold antiquarylaw44_ExchangeHalvesDivide_l1 at h
    rcases br_inv h with ⟨h1629, h⟩ | ⟨h1629, h⟩
    · obtain ⟨h1630, h⟩ := gd_inv h
      obtain ⟨x1631, h1632, h⟩ := bind_inv h
      rcases br_inv h with ⟨h1633, h⟩ | ⟨h1633, h⟩
      · exact Abs.Good.path hm [.reg [], .cond true, .reg [(5, { call := some { lend := [], pass := [], res := .v (.p Kd.bool x1631), outs := [], back := [] } }), (8, { dec := some true }), (9, { dec := some true }), (10, { dec := some true }), (11, { dec := some true }), (12, { dec := some true }), (13, { dec := some true }), (14, { dec := some true }), (15, { dec := some true }), (16, { dec := some true }), (17, { dec := some true }), (18, { dec := some true }), (19, { dec := some true }), (20, { dec := some true }), (21, { pick := some true })], .keep [sk 3, sk 7, sk 8, sk 9, sk 10, sk 11, sk 72, ek 501001, ek 501002, ek 501003, ek 501004], .ren [(501001, 502001), (501002, 502002), (501003, 502003), (501004, 502004)]] (cs := [_, _, _, _, _, _, _, _, _, _, _, _, _, _, _, _, _, _]) (by kernel_rfl) ⟨h1629, h1630.1, h1630.2, (exchange_Under_ok k p3 p4 (List.getD p1 (Int.toNat p2) (Kd.dflt (Kd.arr 16 (Kd.int .u8)))) _ h1632), h1633, h1633, h1633, h1633, h1633, h1633, h1633, h1633, h1633, h1633, h1633, h1633, h1633, h1633, trivial⟩ (antiquarylaw44_ExchangeHalvesDivide_l2_ok (antiquarylaw44_ExchangeHalvesDivide_l1 k) ih k p1 p2 true p3 p4 p5 p6 p7 p8 p9 r h)
      · obtain ⟨x1634, h1635, h⟩ := bind_inv h
        obtain ⟨x1636, h1637, h⟩ := bind_inv h
        exact Abs.Good.path hm [.reg [], .cond true, .reg [(5, { call := some { lend := [], pass := [], res := .v (.p Kd.bool x1631), outs := [], back := [] } }), (8, { dec := some false }), (9, { dec := some false }), (10, { dec := some false }), (11, { dec := some false }), (12, { dec := some false }), (13, { dec := some false, call := some { lend := [], pass := [], res := .v (.p Kd.bool x1634), outs := [], back := [] } }), (14, { dec := some false }), (15, { dec := some false }), (16, { dec := some false }), (17, { dec := some false }), (18, { dec := some false }), (19, { dec := some false, call := some { lend := [], pass := [], res := .v (.p Kd.bool x1636), outs := [], back := [] } }), (20, { dec := some false }), (21, { pick := some false })], .keep [sk 3, sk 7, sk 8, sk 9, sk 10, sk 11, sk 72, ek 501001, ek 501002, ek 501003, ek 501004], .ren [(501001, 502001), (501002, 502002), (501003, 502003), (501004, 502004)]] (cs := [_, _, _, _, _, _, _, _, _, _, _, _, _, _, _, _, _, _, _, _, _, _, _, _]) (by kernel_rfl) ⟨h1629, h1630.1, h1630.2, (exchange_Under_ok k p3 p4 (List.getD p1 (Int.toNat p2) (Kd.dflt (Kd.arr 16 (Kd.int .u8)))) _ h1632), h1633, h1633, h1633, h1633, h1630.1, h1630.2, h1633, h1633, (exchange_Under_ok k p5 p6 (List.getD p1 (Int.toNat p2) (Kd.dflt (Kd.arr 16 (Kd.int .u8)))) _ h1635), h1633, h1633, h1633, h1633, h1630.1, h1630.2, h1633, h1633, (exchange_Under_ok k p7 p8 (List.getD p1 (Int.toNat p2) (Kd.dflt (Kd.arr 16 (Kd.int .u8)))) _ h1637), h1633, h1633, trivial⟩ (antiquarylaw44_ExchangeHalvesDivide_l2_ok (antiquarylaw44_ExchangeHalvesDivide_l1 k) ih k p1 p2 (x1634 == x1636) p3 p4 p5 p6 p7 p8 p9 r h)
    · obtain ⟨x1638, h1639, h⟩ := bind_inv h
      rcases br_inv h with ⟨h1640, h⟩ | ⟨h1640, h⟩
      · obtain ⟨x1641, h1642, h⟩ := bind_inv h
        rcases br_inv h with ⟨h1643, h⟩ | ⟨h1643, h⟩
        · obtain ⟨x1644, h1645, h⟩ := bind_inv h
          rcases br_inv h with ⟨h1646, h⟩ | ⟨h1646, h⟩
          · obtain ⟨x1647, h1648, h⟩ := bind_inv h
            replace h := Option.some.inj h; subst h
            exact Abs.Good.path_ret hm [.reg [], .cond false, .reg [(0, { call := some { lend := [], pass := [], res := .v (.p Kd.bool x1638), outs := [], back := [] } }), (2, { dec := some true }), (3, { dec := some true }), (4, { dec := some true, call := some { lend := [(501004, false)], pass := [], res := .v (.p Kd.bool x1641), outs := [], back := [] } }), (5, { pick := some true }), (7, { dec := some true }), (8, { dec := some true, call := some { lend := [], pass := [], res := .v (.p Kd.bool x1644), outs := [], back := [] } }), (9, { pick := some true }), (11, { dec := some true }), (12, { dec := some true, call := some { lend := [], pass := [], res := .v (.p Kd.bool x1647), outs := [], back := [] } }), (13, { pick := some true })]] [] Tryd.func8 (cs := [_, _, _, _, _, _, _, _, _, _, _, _, _, _, _, _]) (by kernel_rfl) ⟨h1629, (antiquarylaw44_sanity_ok k  _ h1639), h1640, h1640, h1640, (antiquaryref44_SameNames_ok k p1 p9 _ h1642), (rfl : (List.length p9) = List.length p9), h1640, h1643, h1643, (antiquaryref44_Right_ok k p5 p6 _ h1645), h1643, h1646, h1646, (antiquaryref44_Right_ok k p7 p8 _ h1648), h1646, trivial⟩ (by kernel_rfl)
          · replace h := Option.some.inj h; subst h
            exact Abs.Good.path_ret hm [.reg [], .cond false, .reg [(0, { call := some { lend := [], pass := [], res := .v (.p Kd.bool x1638), outs := [], back := [] } }), (2, { dec := some true }), (3, { dec := some true }), (4, { dec := some true, call := some { lend := [(501004, false)], pass := [], res := .v (.p Kd.bool x1641), outs := [], back := [] } }), (5, { pick := some true }), (7, { dec := some true }), (8, { dec := some true, call := some { lend := [], pass := [], res := .v (.p Kd.bool x1644), outs := [], back := [] } }), (9, { pick := some true }), (11, { dec := some false }), (12, { dec := some false }), (13, { pick := some false })]] [] Tryd.func8 (cs := [_, _, _, _, _, _, _, _, _, _, _, _, _, _, _]) (by kernel_rfl) ⟨h1629, (antiquarylaw44_sanity_ok k  _ h1639), h1640, h1640, h1640, (antiquaryref44_SameNames_ok k p1 p9 _ h1642), (rfl : (List.length p9) = List.length p9), h1640, h1643, h1643, (antiquaryref44_Right_ok k p5 p6 _ h1645), h1643, h1646, h1646, h1646, trivial⟩ (by kernel_rfl)
        · replace h := Option.some.inj h; subst h
          exact Abs.Good.path_ret hm [.reg [], .cond false, .reg [(0, { call := some { lend := [], pass := [], res := .v (.p Kd.bool x1638), outs := [], back := [] } }), (2, { dec := some true }), (3, { dec := some true }), (4, { dec := some true, call := some { lend := [(501004, false)], pass := [], res := .v (.p Kd.bool x1641), outs := [], back := [] } }), (5, { pick := some true }), (7, { dec := some false }), (8, { dec := some false }), (9, { pick := some false }), (11, { dec := some false }), (12, { dec := some false }), (13, { pick := some false })]] [] Tryd.func8 (cs := [_, _, _, _, _, _, _, _, _, _, _, _, _, _]) (by kernel_rfl) ⟨h1629, (antiquarylaw44_sanity_ok k  _ h1639), h1640, h1640, h1640, (antiquaryref44_SameNames_ok k p1 p9 _ h1642), (rfl : (List.length p9) = List.length p9), h1640, h1643, h1643, h1643, (rfl : false = false), (rfl : false = false), (rfl : false = false), trivial⟩ (by kernel_rfl)
      · replace h := Option.some.inj h; subst h
        exact Abs.Good.path_ret hm [.reg [], .cond false, .reg [(0, { call := some { lend := [], pass := [], res := .v (.p Kd.bool x1638), outs := [], back := [] } }), (2, { dec := some false }), (3, { dec := some false }), (4, { dec := some false }), (5, { pick := some false }), (7, { dec := some false }), (8, { dec := some false }), (9, { pick := some false }), (11, { dec := some false }), (12, { dec := some false }), (13, { pick := some false })]] [] Tryd.func8 (cs := [_, _, _, _, _, _, _, _, _, _, _, _]) (by kernel_rfl) ⟨h1629, (antiquarylaw44_sanity_ok k  _ h1639), h1640, h1640, h1640, h1640, (rfl : false = false), (rfl : false = false), (rfl : false = false), (rfl : false = false), (rfl : false = false), (rfl : false = false), trivial⟩ (by kernel_rfl)
theorem antiquarylaw44_ExchangeHalvesDivide_l0_ok (k : Nat) (p1 : Bool) (p2 : List It) (p3 : List Int) (p4 : Int) (r : Bool) (h : antiquarylaw44_ExchangeHalvesDivide_l0 k p1 p2 p3 p4 = some r) :
    Abs.Good P 8 Tryd.f8.ntmps [] [] (.v (.p Kd.bool r)) (pos Tryd.f8 [.r, .r, .r, .r]) [(sk 2, some (.v (.ptr 500001 0))), (sk 3, some (.v (.ptr 500002 0))), (sk 26, some (.v (.p Kd.bool p1))), (ek 500001, some (.box [.p (Kd.sl KI) p2])), (ek 500002, some (.box [.p (Kd.arr 16 (Kd.int .u8)) p3, .p (Kd.int .i64) p4]))] := by
  unfold antiquarylaw44_ExchangeHalvesDivide_l0 at h
  rcases br_inv h with ⟨h1616, h⟩ | ⟨h1616, h⟩
  · obtain ⟨x1617, h1618, h⟩ := bind_inv h
    replace h := Option.some.inj h; subst h
    exact Abs.Good.path_ret hm [.cond true, .reg [(0, { call := some { lend := [], pass := [], res := .v (.p Kd.bool x1617), outs := [], back := [] } })]] [] Tryd.func8 (cs := [_, _]) (by kernel_rfl) ⟨h1616, (antiquarylaw44_sanity_ok k  _ h1618), trivial⟩ (by kernel_rfl)
  · obtain ⟨x1619, h1620, h⟩ := bind_inv h
    obtain ⟨x1621, h1622, h⟩ := bind_inv h
    obtain ⟨x1623, h1624, h⟩ := bind_inv h
    obtain ⟨h1625, h⟩ := gd_inv h
    obtain ⟨x1626, h1627, h⟩ := bind_inv h
    obtain ⟨h1628, h⟩ := gd_inv h
    exact Abs.Good.path hm [.cond false, .reg [(1, { call := some { lend := [], pass := [], res := .t [.agg [.p (Kd.arr 16 (Kd.int .u8)) x1619.1, .p (Kd.int .i64) x1619.2.1], .agg [.p (Kd.arr 16 (Kd.int .u8)) x1619.2.2.1, .p (Kd.int .i64) x1619.2.2.2]], outs := [], back := [] } })], .reg [(2, { call := some { lend := [], pass := [], res := .v (.p (Kd.sl (Kd.arr 16 (Kd.int .u8))) x1621), outs := [], back := [] } })], .reg [(3, { call := some { lend := [], pass := [], res := .v (.p (Kd.sl (Kd.arr 16 (Kd.int .u8))) x1623), outs := [], back := [] } }), (7, { call := some { lend := [], pass := [], res := .v (.p (Kd.sl (Kd.arr 16 (Kd.int .u8))) x1626), outs := [], back := [] } })], .reg [], .keep [sk 3, sk 7, sk 8, sk 9, sk 10, sk 11, ek 500002, ek 7, ek 8, ek 44], .ren [(500002, 501001), (7, 501002), (8, 501003), (44, 501004)]] (cs := [_, _, _, _, _, _, _, _, _]) (by kernel_rfl) ⟨h1616, (exchange_Halves_ok k p3 p4 _ h1620), (exchange_Names_ok k p2 p3 p4 _ h1622), (exchange_Names_ok k p2 x1619.1 x1619.2.1 _ h1624), (rfl : 0 = List.length ([] : List (List Int))), (appBound (P := P) (et := 26) (b := 16) (by kernel_rfl) (by decide) h1625), (exchange_Names_ok k p2 x1619.2.2.1 x1619.2.2.2 _ h1627), (rfl : (List.length (([] : List (List Int)) ++ x1623)) = List.length (([] : List (List Int)) ++ x1623)), (appBound (P := P) (et := 26) (b := 16) (by kernel_rfl) (by decide) h1628), trivial⟩ (antiquarylaw44_ExchangeHalvesDivide_l1_ok k x1621 (0 : Int) p3 p4 x1619.1 x1619.2.1 x1619.2.2.1 x1619.2.2.2 ((([] : List (List Int)) ++ x1623) ++ x1626) r h)
theorem antiquarylaw44_ExchangeHalvesDivide_ok (k : Nat) (a1 : List It) (a2 : List Int) (a3 : Int) (r : Bool) (h : antiquarylaw44_ExchangeHalvesDivide k a1 a2 a3 = some r) : SpecOk P ⟨8, [.agg [.p (Kd.sl KI) a1], .agg [.p (Kd.arr 16 (Kd.int .u8)) a2, .p (Kd.int .i64) a3]], [], .v (.p Kd.bool r), []⟩ := by
  refine spec_at Tryd.func8 (by kernel_rfl) (Nat.le_of_ble_eq_true (by kernel_rfl)) ?_
  unfold antiquarylaw44_ExchangeHalvesDivide at h
  obtain ⟨x1610, h1611, h⟩ := bind_inv h
  obtain ⟨x1612, h1613, h⟩ := bind_inv h
  rcases br_inv h with ⟨h1614, h⟩ | ⟨h1614, h⟩
  · exact Abs.Good.path hm [.reg [], .reg [(1, { call := some { lend := [], pass := [], res := .v (.p Kd.bool x1610), outs := [], back := [] } })], .reg [(1, { call := some { lend := [], pass := [], res := .v (.p Kd.bool x1612), outs := [], back := [] } })], .reg [(3, { dec := some true }), (4, { dec := some true }), (5, { pick := some true }), (7, { dec := some true }), (8, { dec := some true }), (9, { dec := some true }), (10, { pick := some true })], .keep [sk 2, sk 3, sk 26, ek 2, ek 3], .ren [(2, 500001), (3, 500002)]] (cs := [_, _, _, _, _, _, _, _, _]) (by kernel_rfl) ⟨(antiquarylaw44_valid_ok k a1 _ h1611), (antiquaryref44_Right_ok k a2 a3 _ h1613), h1614, h1614, h1614, (rfl : true = true), (rfl : true = true), (rfl : true = true), (rfl : true = true), trivial⟩ (antiquarylaw44_ExchangeHalvesDivide_l0_ok k true a1 a2 a3 r h)
  · rcases br_inv h with ⟨h1615, h⟩ | ⟨h1615, h⟩
    · exact Abs.Good.path hm [.reg [], .reg [(1, { call := some { lend := [], pass := [], res := .v (.p Kd.bool x1610), outs := [], back := [] } })], .reg [(1, { call := some { lend := [], pass := [], res := .v (.p Kd.bool x1612), outs := [], back := [] } })], .reg [(3, { dec := some false }), (4, { dec := some false }), (5, { pick := some false }), (7, { dec := some true }), (8, { dec := some true }), (9, { dec := some true }), (10, { pick := some true })], .keep [sk 2, sk 3, sk 26, ek 2, ek 3], .ren [(2, 500001), (3, 500002)]] (cs := [_, _, _, _, _, _, _, _, _]) (by kernel_rfl) ⟨(antiquarylaw44_valid_ok k a1 _ h1611), (antiquaryref44_Right_ok k a2 a3 _ h1613), h1614, h1614, h1614, h1615, h1615, h1615, h1615, trivial⟩ (antiquarylaw44_ExchangeHalvesDivide_l0_ok k true a1 a2 a3 r h)
    · exact Abs.Good.path hm [.reg [], .reg [(1, { call := some { lend := [], pass := [], res := .v (.p Kd.bool x1610), outs := [], back := [] } })], .reg [(1, { call := some { lend := [], pass := [], res := .v (.p Kd.bool x1612), outs := [], back := [] } })], .reg [(3, { dec := some false }), (4, { dec := some false }), (5, { pick := some false }), (7, { dec := some false }), (8, { dec := some false }), (9, { dec := some false }), (10, { pick := some false })], .keep [sk 2, sk 3, sk 26, ek 2, ek 3], .ren [(2, 500001), (3, 500002)]] (cs := [_, _, _, _, _, _, _, _, _]) (by kernel_rfl) ⟨(antiquarylaw44_valid_ok k a1 _ h1611), (antiquaryref44_Right_ok k a2 a3 _ h1613), h1614, h1614, h1614, h1615, h1615, h1615, h1615, trivial⟩ (antiquarylaw44_ExchangeHalvesDivide_l0_ok k (decide (a3 > (127 : Int))) a1 a2 a3 r h)


end Go.Proofs.G44
