/- The walks: each function of the program that the law reaches computes the Lean function that is printed beside it. No condition but that the Lean function has a result. -/
import Derived.Test.YtbcbhhpbgnmpaaaDoorG4
set_option linter.unusedVariables false
namespace Go.Proofs.G44
open Go.Abs
set_option maxRecDepth 10000
open Go.Proofs.K1
theorem antiquaryref44_Add_l0_ok (k : Nat) : ∀ (p1 : ByteArray) (p2 : Bool) (p3 : Int) (p4 : List It) (p5 : Int) (p6 : List Int) (p7 : List It) (r : List It × Int), antiquaryref44_Add_l0 k p1 p2 p3 p4 p5 p6 p7 = some r →
    Abs.Good P 19 Tryd.f19.ntmps [] [] (.v (.agg [.p (Kd.sl KI) r.1, .nilsl, .p (Kd.int .i64) r.2])) (pos Tryd.f19 [.r, .r, .c false, .r, .r, .c false, .r, .c false, .r, .r, .r]) [(sk 1, some (.v (.p Kd.str p1))), (sk 2, some (.v (.ptr 500001 0))), (sk 4, some (.v (.ptr 500002 0))), (sk 5, some (.v (.ptr 500003 0))), (sk 6, some (.v (.ptr 500004 0))), (sk 7, some (.v (.p Kd.bool p2))), (sk 8, some (.v (.p (Kd.int .i64) p3))), (ek 500001, some (.box [.p (Kd.sl KI) p4])), (ek 500002, some (.box [.nilsl, .nilsl, .p (Kd.int .i64) p5])), (ek 500003, some (.box [.p (Kd.arr 16 (Kd.int .u8)) p6])), (ek 500004, some (.box [.row 500005 (List.length p7)])), (ek 500005, some (.row KI 50 p7))] := by
  induction k with
  | zero => intro p1 p2 p3 p4 p5 p6 p7 r h; cases h
  | succ k ih =>
    intro p1 p2 p3 p4 p5 p6 p7 r h
    unfold antiquaryref44_Add_l0 at h
    rcases br_inv h with ⟨h1815, h⟩ | ⟨h1815, h⟩
    · rcases br_inv h with ⟨h1816, h⟩ | ⟨h1816, h⟩
      · obtain ⟨h1817, h⟩ := gd_inv h
        obtain ⟨x1818, h1819, h⟩ := bind_inv h
        exact Abs.Good.path hm [.reg [], .cond true, .reg [(3, { dec := some true }), (4, { dec := some true }), (5, { dec := some true }), (6, { dec := some true }), (7, { dec := some true }), (8, { dec := some true }), (9, { dec := some true }), (10, { dec := some true, call := some { lend := [], pass := [], res := .v (.p Kd.bool x1818), outs := [], back := [] } }), (11, { pick := some true })], .keep [sk 1, sk 2, sk 4, sk 5, sk 6, sk 7, sk 8, sk 46, ek 500001, ek 500002, ek 500003, ek 500004, ek 500005], .ren [(500001, 501001), (500002, 501002), (500003, 501003), (500004, 501004), (500005, 501005)]] (cs := [_, _, _, _, _, _, _, _, _, _, _, _, _]) (by kernel_rfl) ⟨h1815, h1816, h1816, h1816, h1816, h1816, h1817.1, h1817.2, h1816, h1816, h1816, (antiquaryref44_Less_ok k p6 ((List.getD p4 (Int.toNat p3) (Kd.dflt KI)).1) _ h1819), h1816, trivial⟩ (antiquaryref44_Add_l1_ok (antiquaryref44_Add_l0 k) ih k p1 p2 p3 x1818 p4 p5 p6 p7 r h)
      · exact Abs.Good.path hm [.reg [], .cond true, .reg [(3, { dec := some false }), (4, { dec := some false }), (5, { dec := some false }), (6, { dec := some false }), (7, { dec := some false }), (8, { dec := some false }), (9, { dec := some false }), (10, { dec := some false }), (11, { pick := some false })], .keep [sk 1, sk 2, sk 4, sk 5, sk 6, sk 7, sk 8, sk 46, ek 500001, ek 500002, ek 500003, ek 500004, ek 500005], .ren [(500001, 501001), (500002, 501002), (500003, 501003), (500004, 501004), (500005, 501005)]] (cs := [_, _, _, _, _, _, _, _, _, _]) (by kernel_rfl) ⟨h1815, h1816, h1816, h1816, h1816, h1816, h1816, h1816, h1816, h1816, trivial⟩ (antiquaryref44_Add_l1_ok (antiquaryref44_Add_l0 k) ih k p1 p2 p3 false p4 p5 p6 p7 r h)
    · rcases br_inv h with ⟨h1820, h⟩ | ⟨h1820, h⟩
      · obtain ⟨h1821, h⟩ := gd_inv h
        replace h := Option.some.inj h; subst h
        exact Abs.Good.path_ret hm [.reg [], .cond false, .reg [], .cond true, .reg [], .reg []] [73] Tryd.func19 (cs := [_, _, _, _, _, _]) (by kernel_rfl) ⟨h1815, h1820, (rfl : (List.length p7) = List.length p7), (appBound (P := P) (et := 50) (b := 32) (by kernel_rfl) (by decide) h1821), (rfl : 1 = List.length ([(p6, (p1, ()))] : List It)), (rfl : (List.length (p7 ++ ([(p6, (p1, ()))] : List It))) = List.length (p7 ++ ([(p6, (p1, ()))] : List It))), trivial⟩ (by kernel_rfl)
      · replace h := Option.some.inj h; subst h
        exact Abs.Good.path_ret hm [.reg [], .cond false, .reg [], .cond false, .reg []] [500005] Tryd.func19 (cs := [_, _, _]) (by kernel_rfl) ⟨h1815, h1820, (rfl : (List.length p7) = List.length p7), trivial⟩ (by kernel_rfl)
theorem antiquaryref44_Add_ok (k : Nat) (a1 : List It) (a2 : ByteArray) (r : List It × Int) (h : antiquaryref44_Add k a1 a2 = some r) : SpecOk P ⟨19, [.agg [.p (Kd.sl KI) a1], .p Kd.str a2], [], .v (.agg [.p (Kd.sl KI) r.1, .nilsl, .p (Kd.int .i64) r.2]), []⟩ := by
  refine spec_at Tryd.func19 (by kernel_rfl) (Nat.le_of_ble_eq_true (by kernel_rfl)) ?_
  unfold antiquaryref44_Add at h
  rcases br_inv h with ⟨h1808, h⟩ | ⟨h1808, h⟩
  · replace h := Option.some.inj h; subst h
    exact Abs.Good.path_ret hm [.reg [], .reg [], .cond true, .reg []] [] Tryd.func19 (cs := [_]) (by kernel_rfl) ⟨h1808, trivial⟩ (by kernel_rfl)
  · obtain ⟨x1809, h1810, h⟩ := bind_inv h
    obtain ⟨x1811, h1812, h⟩ := bind_inv h
    rcases br_inv h with ⟨h1813, h⟩ | ⟨h1813, h⟩
    · replace h := Option.some.inj h; subst h
      exact Abs.Good.path_ret hm [.reg [], .reg [], .cond false, .reg [(1, { call := some { lend := [], pass := [], res := .v (.p (Kd.arr 16 (Kd.int .u8)) x1809), outs := [], back := [] } })], .reg [(2, { call := some { lend := [], pass := [], res := .v (.p (Kd.int .i64) x1811), outs := [], back := [] } })], .cond true, .reg []] [] Tryd.func19 (cs := [_, _, _, _]) (by kernel_rfl) ⟨h1808, (antiquaryref44_Name_ok k a2 _ h1810), (antiquaryref44_Place_ok k a1 x1809 _ h1812), h1813, trivial⟩ (by kernel_rfl)
    · rcases br_inv h with ⟨h1814, h⟩ | ⟨h1814, h⟩
      · replace h := Option.some.inj h; subst h
        exact Abs.Good.path_ret hm [.reg [], .reg [], .cond false, .reg [(1, { call := some { lend := [], pass := [], res := .v (.p (Kd.arr 16 (Kd.int .u8)) x1809), outs := [], back := [] } })], .reg [(2, { call := some { lend := [], pass := [], res := .v (.p (Kd.int .i64) x1811), outs := [], back := [] } })], .cond false, .reg [], .cond true, .reg []] [] Tryd.func19 (cs := [_, _, _, _, _]) (by kernel_rfl) ⟨h1808, (antiquaryref44_Name_ok k a2 _ h1810), (antiquaryref44_Place_ok k a1 x1809 _ h1812), h1813, h1814, trivial⟩ (by kernel_rfl)
      · exact Abs.Good.path hm [.reg [], .reg [], .cond false, .reg [(1, { call := some { lend := [], pass := [], res := .v (.p (Kd.arr 16 (Kd.int .u8)) x1809), outs := [], back := [] } })], .reg [(2, { call := some { lend := [], pass := [], res := .v (.p (Kd.int .i64) x1811), outs := [], back := [] } })], .cond false, .reg [], .cond false, .reg [], .reg [], .reg [], .co (ek 6) 0 (.mk 900001 KI 50), .keep [sk 1, sk 2, sk 4, sk 5, sk 6, sk 7, sk 8, ek 2, ek 4, ek 5, ek 6, ek 900001], .ren [(2, 500001), (4, 500002), (5, 500003), (6, 500004), (900001, 500005)]] (cs := [_, _, _, _, _]) (by kernel_rfl) ⟨h1808, (antiquaryref44_Name_ok k a2 _ h1810), (antiquaryref44_Place_ok k a1 x1809 _ h1812), h1813, h1814, trivial⟩ (antiquaryref44_Add_l0_ok k a2 false (0 : Int) a1 (0 : Int) x1809 ([] : List It) r h)


end Go.Proofs.G44
