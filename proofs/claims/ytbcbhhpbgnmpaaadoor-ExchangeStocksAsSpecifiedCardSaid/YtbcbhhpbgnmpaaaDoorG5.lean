/- The walks: each function of the program that the law reaches computes the Lean function that is printed beside it. No condition but that the Lean function has a result. -/
import Derived.Test.YtbcbhhpbgnmpaaaDoorG4
set_option linter.unusedVariables false
namespace Go.Proofs.G44
open Go.Abs
set_option maxRecDepth 10000
open Go.Proofs.K1
theorem antiquarylaw44_ExchangeStocksAsSpecified_l1_ok (k : Nat) (p1 : ByteArray) (p2 : Bool) (p3 : List It) (p4 : List Int) (p5 : List Int) (p6 : Int) (r : Bool) (h : antiquarylaw44_ExchangeStocksAsSpecified_l1 k p1 p2 p3 p4 p5 p6 = some r) :
    Abs.Good P 3 Tryd.f3.ntmps [] [] (.v (.p Kd.bool r)) (pos Tryd.f3 [.r, .r, .r, .c false, .r]) [(sk 1, some (.v (.p Kd.str p1))), (sk 4, some (.v (.ptr 501001 0))), (sk 6, some (.v (.ptr 501002 0))), (sk 7, some (.v (.ptr 501003 0))), (sk 44, some (.v (.p Kd.bool p2))), (ek 501001, some (.box [.p (Kd.sl KI) p3])), (ek 501002, some (.box [.p (Kd.arr 16 (Kd.int .u8)) p4])), (ek 501003, some (.box [.p (Kd.arr 16 (Kd.int .u8)) p5, .p (Kd.int .i64) p6]))] := by
  unfold antiquarylaw44_ExchangeStocksAsSpecified_l1 at h
  rcases br_inv h with ⟨h1429, h⟩ | ⟨h1429, h⟩
  · replace h := Option.some.inj h; subst h
    exact Abs.Good.path_ret hm [.cond true, .reg []] [] Tryd.func3 (cs := [_]) (by kernel_rfl) ⟨h1429, trivial⟩ (by kernel_rfl)
  · obtain ⟨x1430, h1431, h⟩ := bind_inv h
    obtain ⟨x1432, h1433, h⟩ := bind_inv h
    rcases br_inv h with ⟨h1434, h⟩ | ⟨h1434, h⟩
    · exact Abs.Good.path hm [.cond false, .reg [(1, { call := some { lend := [], pass := [], res := .v (.p Kd.bool x1430), outs := [], back := [] } })], .reg [(1, { call := some { lend := [], pass := [], res := .v (.p Kd.bool x1432), outs := [], back := [] } })], .reg [(3, { dec := some true }), (4, { dec := some true }), (5, { pick := some true })], .keep [sk 1, sk 4, sk 6, sk 7, sk 54, ek 501001, ek 501002, ek 501003], .ren [(501001, 502001), (501002, 502002), (501003, 502003)]] (cs := [_, _, _, _, _, _]) (by kernel_rfl) ⟨h1429, (antiquaryref44_Right_ok k p5 p6 _ h1431), (antiquaryref44_Valid_ok k p3 _ h1433), h1434, h1434, h1434, trivial⟩ (antiquarylaw44_ExchangeStocksAsSpecified_l2_ok k p1 true p3 p4 p5 p6 r h)
    · exact Abs.Good.path hm [.cond false, .reg [(1, { call := some { lend := [], pass := [], res := .v (.p Kd.bool x1430), outs := [], back := [] } })], .reg [(1, { call := some { lend := [], pass := [], res := .v (.p Kd.bool x1432), outs := [], back := [] } })], .reg [(3, { dec := some false }), (4, { dec := some false }), (5, { pick := some false })], .keep [sk 1, sk 4, sk 6, sk 7, sk 54, ek 501001, ek 501002, ek 501003], .ren [(501001, 502001), (501002, 502002), (501003, 502003)]] (cs := [_, _, _, _, _, _]) (by kernel_rfl) ⟨h1429, (antiquaryref44_Right_ok k p5 p6 _ h1431), (antiquaryref44_Valid_ok k p3 _ h1433), h1434, h1434, h1434, trivial⟩ (antiquarylaw44_ExchangeStocksAsSpecified_l2_ok k p1 (!x1432) p3 p4 p5 p6 r h)
theorem antiquarylaw44_ExchangeStocksAsSpecified_l0_ok (k : Nat) (p1 : ByteArray) (p2 : Bool) (p3 : List It) (p4 : List Int) (p5 : List Int) (p6 : Int) (r : Bool) (h : antiquarylaw44_ExchangeStocksAsSpecified_l0 k p1 p2 p3 p4 p5 p6 = some r) :
    Abs.Good P 3 Tryd.f3.ntmps [] [] (.v (.p Kd.bool r)) (pos Tryd.f3 [.r, .r, .r]) [(sk 1, some (.v (.p Kd.str p1))), (sk 4, some (.v (.ptr 500001 0))), (sk 6, some (.v (.ptr 500002 0))), (sk 7, some (.v (.ptr 500003 0))), (sk 31, some (.v (.p Kd.bool p2))), (ek 500001, some (.box [.p (Kd.sl KI) p3])), (ek 500002, some (.box [.p (Kd.arr 16 (Kd.int .u8)) p4])), (ek 500003, some (.box [.p (Kd.arr 16 (Kd.int .u8)) p5, .p (Kd.int .i64) p6]))] := by
  unfold antiquarylaw44_ExchangeStocksAsSpecified_l0 at h
  rcases br_inv h with ⟨h1417, h⟩ | ⟨h1417, h⟩
  · obtain ⟨x1418, h1419, h⟩ := bind_inv h
    replace h := Option.some.inj h; subst h
    exact Abs.Good.path_ret hm [.cond true, .reg [(0, { call := some { lend := [], pass := [], res := .v (.p Kd.bool x1418), outs := [], back := [] } })]] [] Tryd.func3 (cs := [_, _]) (by kernel_rfl) ⟨h1417, (antiquarylaw44_sanity_ok k  _ h1419), trivial⟩ (by kernel_rfl)
  · obtain ⟨x1420, h1421, h⟩ := bind_inv h
    obtain ⟨x1422, h1423, h⟩ := bind_inv h
    rcases br_inv h with ⟨h1424, h⟩ | ⟨h1424, h⟩
    · exact Abs.Good.path hm [.cond false, .reg [(1, { call := some { lend := [], pass := [], res := .v (.p Kd.bool x1420), outs := [], back := [] } }), (3, { call := some { lend := [], pass := [], res := .v (.p Kd.bool x1422), outs := [], back := [] } }), (6, { dec := some true }), (7, { dec := some true }), (8, { dec := some true }), (9, { dec := some true }), (10, { dec := some true }), (11, { pick := some true })], .keep [sk 1, sk 4, sk 6, sk 7, sk 44, ek 500001, ek 500002, ek 500003], .ren [(500001, 501001), (500002, 501002), (500003, 501003)]] (cs := [_, _, _, _, _, _, _, _, _]) (by kernel_rfl) ⟨h1417, (exchange_Valid_ok k p3 _ h1421), (antiquaryref44_Valid_ok k p3 _ h1423), h1424, h1424, h1424, h1424, h1424, h1424, trivial⟩ (antiquarylaw44_ExchangeStocksAsSpecified_l1_ok k p1 true p3 p4 p5 p6 r h)
    · obtain ⟨x1425, h1426, h⟩ := bind_inv h
      obtain ⟨x1427, h1428, h⟩ := bind_inv h
      exact Abs.Good.path hm [.cond false, .reg [(1, { call := some { lend := [], pass := [], res := .v (.p Kd.bool x1420), outs := [], back := [] } }), (3, { call := some { lend := [], pass := [], res := .v (.p Kd.bool x1422), outs := [], back := [] } }), (6, { dec := some false }), (7, { dec := some false, call := some { lend := [], pass := [], res := .v (.p (Kd.arr 16 (Kd.int .u8)) x1425), outs := [], back := [] } }), (8, { dec := some false }), (9, { dec := some false, call := some { lend := [], pass := [], res := .v (.p (Kd.arr 16 (Kd.int .u8)) x1427), outs := [], back := [] } }), (10, { dec := some false }), (11, { pick := some false })], .keep [sk 1, sk 4, sk 6, sk 7, sk 44, ek 500001, ek 500002, ek 500003], .ren [(500001, 501001), (500002, 501002), (500003, 501003)]] (cs := [_, _, _, _, _, _, _, _, _, _, _, _]) (by kernel_rfl) ⟨h1417, (exchange_Valid_ok k p3 _ h1421), (antiquaryref44_Valid_ok k p3 _ h1423), h1424, h1424, (exchange_Name_ok k p1 _ h1426), h1424, h1424, (antiquaryref44_Name_ok k p1 _ h1428), h1424, eq26, h1424, trivial⟩ (antiquarylaw44_ExchangeStocksAsSpecified_l1_ok k p1 (!(Kd.eqb (Kd.arr 16 (Kd.int .u8)) x1425 x1427)) p3 p4 p5 p6 r h)
theorem antiquarylaw44_ExchangeStocksAsSpecified_ok (k : Nat) (a1 : List It) (a2 : ByteArray) (a3 : List Int) (a4 : List Int) (a5 : Int) (r : Bool) (h : antiquarylaw44_ExchangeStocksAsSpecified k a1 a2 a3 a4 a5 = some r) : SpecOk P ⟨3, [.agg [.p (Kd.sl KI) a1], .p Kd.str a2, .p (Kd.arr 16 (Kd.int .u8)) a3, .agg [.p (Kd.arr 16 (Kd.int .u8)) a4, .p (Kd.int .i64) a5]], [], .v (.p Kd.bool r), []⟩ := by
  refine spec_at Tryd.func3 (by kernel_rfl) (Nat.le_of_ble_eq_true (by kernel_rfl)) ?_
  unfold antiquarylaw44_ExchangeStocksAsSpecified at h
  obtain ⟨x1414, h1415, h⟩ := bind_inv h
  rcases br_inv h with ⟨h1416, h⟩ | ⟨h1416, h⟩
  · exact Abs.Good.path hm [.reg [], .reg [(1, { call := some { lend := [], pass := [], res := .v (.p Kd.bool x1414), outs := [], back := [] } })], .reg [(3, { dec := some true }), (4, { dec := some true }), (5, { dec := some true }), (6, { pick := some true })], .keep [sk 1, sk 4, sk 6, sk 7, sk 31, ek 4, ek 6, ek 7], .ren [(4, 500001), (6, 500002), (7, 500003)]] (cs := [_, _, _, _, _]) (by kernel_rfl) ⟨(antiquarylaw44_few_ok k a1 _ h1415), h1416, h1416, h1416, h1416, trivial⟩ (antiquarylaw44_ExchangeStocksAsSpecified_l0_ok k a2 true a1 a3 a4 a5 r h)
  · exact Abs.Good.path hm [.reg [], .reg [(1, { call := some { lend := [], pass := [], res := .v (.p Kd.bool x1414), outs := [], back := [] } })], .reg [(3, { dec := some false }), (4, { dec := some false }), (5, { dec := some false }), (6, { pick := some false })], .keep [sk 1, sk 4, sk 6, sk 7, sk 31, ek 4, ek 6, ek 7], .ren [(4, 500001), (6, 500002), (7, 500003)]] (cs := [_, _, _, _, _]) (by kernel_rfl) ⟨(antiquarylaw44_few_ok k a1 _ h1415), h1416, h1416, h1416, h1416, trivial⟩ (antiquarylaw44_ExchangeStocksAsSpecified_l0_ok k a2 (decide ((ByteArray.size a2 : Int) > (200 : Int))) a1 a3 a4 a5 r h)


end Go.Proofs.G44
