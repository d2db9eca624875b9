/- The walks: each function of the program that the law reaches computes the Lean function that is printed beside it. No condition but that the Lean function has a result. -/
import Derived.Test.YtbcbhhpbgnmpaaaDoorG4
set_option linter.unusedVariables false
namespace Go.Proofs.G44
open Go.Abs
set_option maxRecDepth 10000
open Go.Proofs.K1
def antiquaryref44_Names_l0 : Nat → Int → List It → List Int → Int → List (List Int) → Option (List (List Int))
  | 0, _, _, _, _, _ => none
  | k + 1, p1, p2, p3, p4, p5 =>
    if (decide (p1 < (List.length p2 : Int))) = true then
      if 0 ≤ p1 ∧ p1 < (List.length p2 : Int) then
        Option.bind (antiquaryref44_Under k p3 p4 ((List.getD p2 (Int.toNat p1) (Kd.dflt KI)).1)) fun x1490 =>
        if x1490 = true then
          if List.length p5 + List.length ([(List.getD p2 (Int.toNat p1) (Kd.dflt KI)).1] : List (List Int)) ≤ 8796093022208 then
            antiquaryref44_Names_l1 (antiquaryref44_Names_l0 k) k p1 p2 p3 p4 (p5 ++ ([(List.getD p2 (Int.toNat p1) (Kd.dflt KI)).1] : List (List Int)))
          else none
        else
          antiquaryref44_Names_l1 (antiquaryref44_Names_l0 k) k p1 p2 p3 p4 p5
      else none
    else
      some (p5)
def antiquaryref44_Names (k : Nat) (a1 : List It) (a2 : List Int) (a3 : Int) : Option (List (List Int)) :=
  antiquaryref44_Names_l0 k (0 : Int) a1 a2 a3 ([] : List (List Int))
theorem antiquaryref44_Names_l1_ok (s0 : Int → List It → List Int → Int → List (List Int) → Option (List (List Int))) (hs0 : ∀ (p1 : Int) (p2 : List It) (p3 : List Int) (p4 : Int) (p5 : List (List Int)) (r : List (List Int)), s0 p1 p2 p3 p4 p5 = some r → Abs.Good P 27 Tryd.f27.ntmps [] [] (.v (.p (Kd.sl (Kd.arr 16 (Kd.int .u8))) r)) (pos Tryd.f27 [.r, .r, .r]) [(sk 2, some (.v (.ptr 500001 0))), (sk 3, some (.v (.ptr 500002 0))), (sk 5, some (.v (.row 500003 (List.length p5)))), (sk 6, some (.v (.p (Kd.int .i64) p1))), (ek 500001, some (.box [.p (Kd.sl KI) p2])), (ek 500002, some (.box [.p (Kd.arr 16 (Kd.int .u8)) p3, .p (Kd.int .i64) p4])), (ek 500003, some (.row (Kd.arr 16 (Kd.int .u8)) 26 p5))]) (k : Nat) (p1 : Int) (p2 : List It) (p3 : List Int) (p4 : Int) (p5 : List (List Int)) (r : List (List Int)) (h : antiquaryref44_Names_l1 s0 k p1 p2 p3 p4 p5 = some r) :
    Abs.Good P 27 Tryd.f27.ntmps [] [] (.v (.p (Kd.sl (Kd.arr 16 (Kd.int .u8))) r)) (pos Tryd.f27 [.r, .r, .r, .r, .c true, .r, .r, .c false]) [(sk 2, some (.v (.ptr 501001 0))), (sk 3, some (.v (.ptr 501002 0))), (sk 5, some (.v (.row 501003 (List.length p5)))), (sk 6, some (.v (.p (Kd.int .i64) p1))), (ek 501001, some (.box [.p (Kd.sl KI) p2])), (ek 501002, some (.box [.p (Kd.arr 16 (Kd.int .u8)) p3, .p (Kd.int .i64) p4])), (ek 501003, some (.row (Kd.arr 16 (Kd.int .u8)) 26 p5))] := by
  unfold antiquaryref44_Names_l1 at h
  exact Abs.Good.path hm [.reg [], .keep [sk 2, sk 3, sk 5, sk 6, ek 501001, ek 501002, ek 501003], .ren [(501001, 500001), (501002, 500002), (501003, 500003)]] (cs := []) (by kernel_rfl) trivial (hs0 (IntKind.i64.wrap (p1 + (1 : Int))) p2 p3 p4 p5 r h)
theorem antiquaryref44_Names_l0_ok (k : Nat) : ∀ (p1 : Int) (p2 : List It) (p3 : List Int) (p4 : Int) (p5 : List (List Int)) (r : List (List Int)), antiquaryref44_Names_l0 k p1 p2 p3 p4 p5 = some r →
    Abs.Good P 27 Tryd.f27.ntmps [] [] (.v (.p (Kd.sl (Kd.arr 16 (Kd.int .u8))) r)) (pos Tryd.f27 [.r, .r, .r]) [(sk 2, some (.v (.ptr 500001 0))), (sk 3, some (.v (.ptr 500002 0))), (sk 5, some (.v (.row 500003 (List.length p5)))), (sk 6, some (.v (.p (Kd.int .i64) p1))), (ek 500001, some (.box [.p (Kd.sl KI) p2])), (ek 500002, some (.box [.p (Kd.arr 16 (Kd.int .u8)) p3, .p (Kd.int .i64) p4])), (ek 500003, some (.row (Kd.arr 16 (Kd.int .u8)) 26 p5))] := by
  induction k with
  | zero => intro p1 p2 p3 p4 p5 r h; cases h
  | succ k ih =>
    intro p1 p2 p3 p4 p5 r h
    unfold antiquaryref44_Names_l0 at h
    rcases br_inv h with ⟨h1488, h⟩ | ⟨h1488, h⟩
    · obtain ⟨h1489, h⟩ := gd_inv h
      obtain ⟨x1490, h1491, h⟩ := bind_inv h
      rcases br_inv h with ⟨h1492, h⟩ | ⟨h1492, h⟩
      · obtain ⟨h1493, h⟩ := gd_inv h
        exact Abs.Good.path hm [.reg [], .cond true, .reg [(7, { call := some { lend := [], pass := [], res := .v (.p Kd.bool x1490), outs := [], back := [] } })], .reg [], .cond true, .reg [], .keep [sk 2, sk 3, sk 5, sk 6, ek 500001, ek 500002, ek 32], .ren [(500001, 501001), (500002, 501002), (32, 501003)]] (cs := [_, _, _, _, _, _, _, _, _, _]) (by kernel_rfl) ⟨h1488, h1489.1, h1489.2, (antiquaryref44_Under_ok k p3 p4 ((List.getD p2 (Int.toNat p1) (Kd.dflt KI)).1) _ h1491), h1492, h1489.1, h1489.2, (rfl : (List.length p5) = List.length p5), (appBound (P := P) (et := 26) (b := 16) (by kernel_rfl) (by decide) h1493), (rfl : 1 = List.length ([(List.getD p2 (Int.toNat p1) (Kd.dflt KI)).1] : List (List Int))), trivial⟩ (antiquaryref44_Names_l1_ok (antiquaryref44_Names_l0 k) ih k p1 p2 p3 p4 (p5 ++ ([(List.getD p2 (Int.toNat p1) (Kd.dflt KI)).1] : List (List Int))) r h)
      · exact Abs.Good.path hm [.reg [], .cond true, .reg [(7, { call := some { lend := [], pass := [], res := .v (.p Kd.bool x1490), outs := [], back := [] } })], .reg [], .cond false, .keep [sk 2, sk 3, sk 5, sk 6, ek 500001, ek 500002, ek 500003], .ren [(500001, 501001), (500002, 501002), (500003, 501003)]] (cs := [_, _, _, _, _]) (by kernel_rfl) ⟨h1488, h1489.1, h1489.2, (antiquaryref44_Under_ok k p3 p4 ((List.getD p2 (Int.toNat p1) (Kd.dflt KI)).1) _ h1491), h1492, trivial⟩ (antiquaryref44_Names_l1_ok (antiquaryref44_Names_l0 k) ih k p1 p2 p3 p4 p5 r h)
    · replace h := Option.some.inj h; subst h
      exact Abs.Good.path_ret hm [.reg [], .cond false, .reg []] [500003] Tryd.func27 (cs := [_, _]) (by kernel_rfl) ⟨h1488, (rfl : (List.length p5) = List.length p5), trivial⟩ (by kernel_rfl)
theorem antiquaryref44_Names_ok (k : Nat) (a1 : List It) (a2 : List Int) (a3 : Int) (r : List (List Int)) (h : antiquaryref44_Names k a1 a2 a3 = some r) : SpecOk P ⟨27, [.agg [.p (Kd.sl KI) a1], .agg [.p (Kd.arr 16 (Kd.int .u8)) a2, .p (Kd.int .i64) a3]], [], .v (.p (Kd.sl (Kd.arr 16 (Kd.int .u8))) r), []⟩ := by
  refine spec_at Tryd.func27 (by kernel_rfl) (Nat.le_of_ble_eq_true (by kernel_rfl)) ?_
  unfold antiquaryref44_Names at h
  exact Abs.Good.path hm [.reg [], .reg [], .reg [], .co (sk 5) 0 (.mk 900001 (Kd.arr 16 (Kd.int .u8)) 26), .keep [sk 2, sk 3, sk 5, sk 6, ek 2, ek 3, ek 900001], .ren [(2, 500001), (3, 500002), (900001, 500003)]] (cs := []) (by kernel_rfl) trivial (antiquaryref44_Names_l0_ok k (0 : Int) a1 a2 a3 ([] : List (List Int)) r h)

def antiquaryref44_bytes_l0 : Nat → Int → List Int → List Int → Option (ByteArray)
  | 0, _, _, _ => none
  | k + 1, p1, p2, p3 =>
    if (decide (p1 < (16 : Int))) = true then
      if 0 ≤ p1 ∧ p1 < (16 : Int) then
        if List.length p3 + List.length ([(List.getD p2 (Int.toNat p1) (Kd.dflt (Kd.int .u8)))] : List Int) ≤ 140737488355328 then
          antiquaryref44_bytes_l0 k (IntKind.i64.wrap (p1 + (1 : Int))) p2 (p3 ++ ([(List.getD p2 (Int.toNat p1) (Kd.dflt (Kd.int .u8)))] : List Int))
        else none
      else none
    else
      some ((strOf (List.take (List.length p3) p3)))
def antiquaryref44_bytes (k : Nat) (a1 : List Int) : Option (ByteArray) :=
  antiquaryref44_bytes_l0 k (0 : Int) a1 ([] : List Int)
theorem antiquaryref44_bytes_l0_ok (k : Nat) : ∀ (p1 : Int) (p2 : List Int) (p3 : List Int) (r : ByteArray), antiquaryref44_bytes_l0 k p1 p2 p3 = some r →
    Abs.Good P 50 Tryd.f50.ntmps [] [] (.v (.p Kd.str r)) (pos Tryd.f50 [.r, .r, .r]) [(sk 1, some (.v (.ptr 500001 0))), (sk 3, some (.v (.row 500002 (List.length p3)))), (sk 4, some (.v (.p (Kd.int .i64) p1))), (ek 500001, some (.box [.p (Kd.arr 16 (Kd.int .u8)) p2])), (ek 500002, some (.row (Kd.int .u8) 5 p3))] := by
  induction k with
  | zero => intro p1 p2 p3 r h; cases h
  | succ k ih =>
    intro p1 p2 p3 r h
    unfold antiquaryref44_bytes_l0 at h
    rcases br_inv h with ⟨h1506, h⟩ | ⟨h1506, h⟩
    · obtain ⟨h1507, h⟩ := gd_inv h
      obtain ⟨h1508, h⟩ := gd_inv h
      exact Abs.Good.path hm [.reg [], .cond true, .reg [], .reg [], .keep [sk 1, sk 3, sk 4, ek 500001, ek 14], .ren [(500001, 500001), (14, 500002)]] (cs := [_, _, _, _, _, _]) (by kernel_rfl) ⟨h1506, h1507.1, h1507.2, (rfl : (List.length p3) = List.length p3), (appBound (P := P) (et := 5) (b := 1) (by kernel_rfl) (by decide) h1508), (rfl : 1 = List.length ([(List.getD p2 (Int.toNat p1) (Kd.dflt (Kd.int .u8)))] : List Int)), trivial⟩ (ih (IntKind.i64.wrap (p1 + (1 : Int))) p2 (p3 ++ ([(List.getD p2 (Int.toNat p1) (Kd.dflt (Kd.int .u8)))] : List Int)) r h)
    · replace h := Option.some.inj h; subst h
      exact Abs.Good.path_ret hm [.reg [], .cond false, .reg []] [] Tryd.func50 (cs := [_]) (by kernel_rfl) ⟨h1506, trivial⟩ (by kernel_rfl)
theorem antiquaryref44_bytes_ok (k : Nat) (a1 : List Int) (r : ByteArray) (h : antiquaryref44_bytes k a1 = some r) : SpecOk P ⟨50, [.p (Kd.arr 16 (Kd.int .u8)) a1], [], .v (.p Kd.str r), []⟩ := by
  refine spec_at Tryd.func50 (by kernel_rfl) (Nat.le_of_ble_eq_true (by kernel_rfl)) ?_
  unfold antiquaryref44_bytes at h
  exact Abs.Good.path hm [.reg [], .reg [], .reg [], .co (sk 3) 0 (.mk 900001 (Kd.int .u8) 5), .keep [sk 1, sk 3, sk 4, ek 1, ek 900001], .ren [(1, 500001), (900001, 500002)]] (cs := []) (by kernel_rfl) trivial (antiquaryref44_bytes_l0_ok k (0 : Int) a1 ([] : List Int) r h)

def antiquaryref44_Sum_l0 : Nat → List (List Int) → Int → List Int → Int → Int → List Int → Int → List Int → Int → ByteArray → List ByteArray → Option (Int × List Int × Int × List Int × Int × ByteArray)
  | 0, _, _, _, _, _, _, _, _, _, _, _ => none
  | k + 1, p1, p2, p3, p4, p5, p6, p7, p8, p9, p10, p11 =>
    if (decide (p2 < (List.length p1 : Int))) = true then
      if 0 ≤ p2 ∧ p2 < (List.length p1 : Int) then
        Option.bind (antiquaryref44_bytes k (List.getD p1 (Int.toNat p2) (Kd.dflt (Kd.arr 16 (Kd.int .u8))))) fun x1525 =>
        if List.length p11 + List.length ([x1525] : List ByteArray) ≤ 8796093022208 then
          antiquaryref44_Sum_l0 k p1 (IntKind.i64.wrap (p2 + (1 : Int))) p3 p4 p5 p6 p7 p8 p9 p10 (p11 ++ ([x1525] : List ByteArray))
        else none
      else none
    else
      Option.bind (antiquaryref02_Of k (45 : Int) p11) fun x1528 =>
      some ((1 : Int), p3, p4, x1528, (List.length p1 : Int), (⟨#[]⟩ : ByteArray))
def antiquaryref44_Sum (k : Nat) (a1 : List It) (a2 : List Int) (a3 : Int) : Option (Int × List Int × Int × List Int × Int × ByteArray) :=
  Option.bind (antiquaryref44_Names k a1 a2 a3) fun x1521 =>
  antiquaryref44_Sum_l0 k x1521 (0 : Int) a2 a3 (0 : Int) (Kd.dflt (Kd.arr 16 (Kd.int .u8))) (0 : Int) (Kd.dflt (Kd.arr 16 (Kd.int .u8))) (0 : Int) (⟨#[]⟩ : ByteArray) ([] : List ByteArray)
theorem antiquaryref44_Sum_l0_ok (k : Nat) : ∀ (p1 : List (List Int)) (p2 : Int) (p3 : List Int) (p4 : Int) (p5 : Int) (p6 : List Int) (p7 : Int) (p8 : List Int) (p9 : Int) (p10 : ByteArray) (p11 : List ByteArray) (r : Int × List Int × Int × List Int × Int × ByteArray), antiquaryref44_Sum_l0 k p1 p2 p3 p4 p5 p6 p7 p8 p9 p10 p11 = some r →
    Abs.Good P 21 Tryd.f21.ntmps [] [] (.v (.agg [.p (Kd.int .i64) r.1, .p (Kd.arr 16 (Kd.int .u8)) r.2.1, .p (Kd.int .i64) r.2.2.1, .p (Kd.arr 16 (Kd.int .u8)) r.2.2.2.1, .p (Kd.int .i64) r.2.2.2.2.1, .nilsl, .p Kd.str r.2.2.2.2.2])) (pos Tryd.f21 [.r, .r, .r, .r]) [(sk 3, some (.v (.ptr 500001 0))), (sk 4, some (.v (.ptr 500002 0))), (sk 5, some (.v (.p (Kd.sl (Kd.arr 16 (Kd.int .u8))) p1))), (sk 6, some (.v (.row 500003 (List.length p11)))), (sk 7, some (.v (.p (Kd.int .i64) p2))), (ek 500001, some (.box [.p (Kd.arr 16 (Kd.int .u8)) p3, .p (Kd.int .i64) p4])), (ek 500002, some (.box [.p (Kd.int .i64) p5, .p (Kd.arr 16 (Kd.int .u8)) p6, .p (Kd.int .i64) p7, .p (Kd.arr 16 (Kd.int .u8)) p8, .p (Kd.int .i64) p9, .nilsl, .p Kd.str p10])), (ek 500003, some (.row Kd.str 9 p11))] := by
  induction k with
  | zero => intro p1 p2 p3 p4 p5 p6 p7 p8 p9 p10 p11 r h; cases h
  | succ k ih =>
    intro p1 p2 p3 p4 p5 p6 p7 p8 p9 p10 p11 r h
    unfold antiquaryref44_Sum_l0 at h
    rcases br_inv h with ⟨h1523, h⟩ | ⟨h1523, h⟩
    · obtain ⟨h1524, h⟩ := gd_inv h
      obtain ⟨x1525, h1526, h⟩ := bind_inv h
      obtain ⟨h1527, h⟩ := gd_inv h
      exact Abs.Good.path hm [.reg [], .cond true, .reg [(5, { call := some { lend := [], pass := [], res := .v (.p Kd.str x1525), outs := [], back := [] } })], .reg [], .keep [sk 3, sk 4, sk 5, sk 6, sk 7, ek 500001, ek 500002, ek 24], .ren [(500001, 500001), (500002, 500002), (24, 500003)]] (cs := [_, _, _, _, _, _, _]) (by kernel_rfl) ⟨h1523, h1524.1, h1524.2, (antiquaryref44_bytes_ok k (List.getD p1 (Int.toNat p2) (Kd.dflt (Kd.arr 16 (Kd.int .u8)))) _ h1526), (rfl : (List.length p11) = List.length p11), (appBound (P := P) (et := 9) (b := 16) (by kernel_rfl) (by decide) h1527), (rfl : 1 = List.length ([x1525] : List ByteArray)), trivial⟩ (ih p1 (IntKind.i64.wrap (p2 + (1 : Int))) p3 p4 p5 p6 p7 p8 p9 p10 (p11 ++ ([x1525] : List ByteArray)) r h)
    · obtain ⟨x1528, h1529, h⟩ := bind_inv h
      replace h := Option.some.inj h; subst h
      exact Abs.Good.path_ret hm [.reg [], .cond false, .reg [(2, { call := some { lend := [(500003, false)], pass := [], res := .v (.p (Kd.arr 16 (Kd.int .u8)) x1528), outs := [], back := [] } })]] [] Tryd.func21 (cs := [_, _, _]) (by kernel_rfl) ⟨h1523, (antiquaryref02_Of_ok k (45 : Int) p11 _ h1529), (rfl : (List.length p11) = List.length p11), trivial⟩ (by kernel_rfl)
theorem antiquaryref44_Sum_ok (k : Nat) (a1 : List It) (a2 : List Int) (a3 : Int) (r : Int × List Int × Int × List Int × Int × ByteArray) (h : antiquaryref44_Sum k a1 a2 a3 = some r) : SpecOk P ⟨21, [.agg [.p (Kd.sl KI) a1], .agg [.p (Kd.arr 16 (Kd.int .u8)) a2, .p (Kd.int .i64) a3]], [], .v (.agg [.p (Kd.int .i64) r.1, .p (Kd.arr 16 (Kd.int .u8)) r.2.1, .p (Kd.int .i64) r.2.2.1, .p (Kd.arr 16 (Kd.int .u8)) r.2.2.2.1, .p (Kd.int .i64) r.2.2.2.2.1, .nilsl, .p Kd.str r.2.2.2.2.2]), []⟩ := by
  refine spec_at Tryd.func21 (by kernel_rfl) (Nat.le_of_ble_eq_true (by kernel_rfl)) ?_
  unfold antiquaryref44_Sum at h
  obtain ⟨x1521, h1522, h⟩ := bind_inv h
  exact Abs.Good.path hm [.reg [], .reg [(2, { call := some { lend := [], pass := [], res := .v (.p (Kd.sl (Kd.arr 16 (Kd.int .u8))) x1521), outs := [], back := [] } })], .reg [], .reg [], .co (sk 6) 0 (.mk 900001 Kd.str 9), .keep [sk 3, sk 4, sk 5, sk 6, sk 7, ek 3, ek 4, ek 900001], .ren [(3, 500001), (4, 500002), (900001, 500003)]] (cs := [_]) (by kernel_rfl) ⟨(antiquaryref44_Names_ok k a1 a2 a3 _ h1522), trivial⟩ (antiquaryref44_Sum_l0_ok k x1521 (0 : Int) a2 a3 (0 : Int) (Kd.dflt (Kd.arr 16 (Kd.int .u8))) (0 : Int) (Kd.dflt (Kd.arr 16 (Kd.int .u8))) (0 : Int) (⟨#[]⟩ : ByteArray) ([] : List ByteArray) r h)

def antiquaryref44_Half (k : Nat) (a1 : List Int) (a2 : Int) (a3 : Bool) : Option (List Int × Int) :=
  if a3 = true then
    if 0 ≤ (IntKind.i64.wrap (Int.tdiv a2 (8 : Int))) ∧ (IntKind.i64.wrap (Int.tdiv a2 (8 : Int))) < (16 : Int) then
      if 0 ≤ (Int.tmod a2 (8 : Int)) then
        some ((List.set a1 (Int.toNat (IntKind.i64.wrap (Int.tdiv a2 (8 : Int)))) (IntKind.u8.wrap ((List.getD a1 (Int.toNat (IntKind.i64.wrap (Int.tdiv a2 (8 : Int)))) (Kd.dflt (Kd.int .u8))) + (Int.fdiv (128 : Int) (2 ^ (min (Int.toNat (Int.tmod a2 (8 : Int))) (IntKind.bits .u8))))))), (IntKind.i64.wrap (a2 + (1 : Int))))
      else none
    else none
  else
    some (a1, (IntKind.i64.wrap (a2 + (1 : Int))))
theorem antiquaryref44_Half_ok (k : Nat) (a1 : List Int) (a2 : Int) (a3 : Bool) (r : List Int × Int) (h : antiquaryref44_Half k a1 a2 a3 = some r) : SpecOk P ⟨31, [.agg [.p (Kd.arr 16 (Kd.int .u8)) a1, .p (Kd.int .i64) a2], .p Kd.bool a3], [], .v (.agg [.p (Kd.arr 16 (Kd.int .u8)) r.1, .p (Kd.int .i64) r.2]), []⟩ := by
  refine spec_at Tryd.func31 (by kernel_rfl) (Nat.le_of_ble_eq_true (by kernel_rfl)) ?_
  unfold antiquaryref44_Half at h
  rcases br_inv h with ⟨h1662, h⟩ | ⟨h1662, h⟩
  · obtain ⟨h1663, h⟩ := gd_inv h
    obtain ⟨h1664, h⟩ := gd_inv h
    replace h := Option.some.inj h; subst h
    exact Abs.Good.path_ret hm [.reg [], .reg [], .reg [], .cond true, .reg [], .reg []] [] Tryd.func31 (cs := [_, _, _, _, _, _, _, _, _]) (by kernel_rfl) ⟨h1662, (by decide : (8 : Int) ≠ 0), (by decide : (8 : Int) ≠ 0), h1663.1, h1663.2, (by decide : (8 : Int) ≠ 0), h1664, h1663.1, h1663.2, trivial⟩ (by kernel_rfl)
  · replace h := Option.some.inj h; subst h
    exact Abs.Good.path_ret hm [.reg [], .reg [], .reg [], .cond false, .reg []] [] Tryd.func31 (cs := [_]) (by kernel_rfl) ⟨h1662, trivial⟩ (by kernel_rfl)

def antiquaryref44_has_l0 : Nat → List (List Int) → Int → List Int → Option (Bool)
  | 0, _, _, _ => none
  | k + 1, p1, p2, p3 =>
    if (decide (p2 < (List.length p1 : Int))) = true then
      if 0 ≤ p2 ∧ p2 < (List.length p1 : Int) then
        if (Kd.eqb (Kd.arr 16 (Kd.int .u8)) (List.getD p1 (Int.toNat p2) (Kd.dflt (Kd.arr 16 (Kd.int .u8)))) p3) = true then
          some (true)
        else
          antiquaryref44_has_l0 k p1 (IntKind.i64.wrap (p2 + (1 : Int))) p3
      else none
    else
      some (false)
def antiquaryref44_has (k : Nat) (a1 : List (List Int)) (a2 : List Int) : Option (Bool) :=
  antiquaryref44_has_l0 k a1 (0 : Int) a2
theorem antiquaryref44_has_l0_ok (k : Nat) : ∀ (p1 : List (List Int)) (p2 : Int) (p3 : List Int) (r : Bool), antiquaryref44_has_l0 k p1 p2 p3 = some r →
    Abs.Good P 57 Tryd.f57.ntmps [] [] (.v (.p Kd.bool r)) (pos Tryd.f57 [.r, .r]) [(sk 0, some (.v (.p (Kd.sl (Kd.arr 16 (Kd.int .u8))) p1))), (sk 3, some (.v (.ptr 500001 0))), (sk 5, some (.v (.p (Kd.int .i64) p2))), (ek 500001, some (.box [.p (Kd.arr 16 (Kd.int .u8)) p3]))] := by
  induction k with
  | zero => intro p1 p2 p3 r h; cases h
  | succ k ih =>
    intro p1 p2 p3 r h
    unfold antiquaryref44_has_l0 at h
    rcases br_inv h with ⟨h1831, h⟩ | ⟨h1831, h⟩
    · obtain ⟨h1832, h⟩ := gd_inv h
      rcases br_inv h with ⟨h1833, h⟩ | ⟨h1833, h⟩
      · replace h := Option.some.inj h; subst h
        exact Abs.Good.path_ret hm [.reg [], .cond true, .reg [], .cond true, .reg []] [] Tryd.func57 (cs := [_, _, _, _, _]) (by kernel_rfl) ⟨h1831, h1832.1, h1832.2, eq26, h1833, trivial⟩ (by kernel_rfl)
      · exact Abs.Good.path hm [.reg [], .cond true, .reg [], .cond false, .reg [], .keep [sk 0, sk 3, sk 5, ek 500001]] (cs := [_, _, _, _, _]) (by kernel_rfl) ⟨h1831, h1832.1, h1832.2, eq26, h1833, trivial⟩ (ih p1 (IntKind.i64.wrap (p2 + (1 : Int))) p3 r h)
    · replace h := Option.some.inj h; subst h
      exact Abs.Good.path_ret hm [.reg [], .cond false, .reg []] [] Tryd.func57 (cs := [_]) (by kernel_rfl) ⟨h1831, trivial⟩ (by kernel_rfl)
theorem antiquaryref44_has_ok (k : Nat) (a1 : List (List Int)) (a2 : List Int) (r : Bool) (h : antiquaryref44_has k a1 a2 = some r) : SpecOk P ⟨57, [.p (Kd.sl (Kd.arr 16 (Kd.int .u8))) a1, .p (Kd.arr 16 (Kd.int .u8)) a2], [], .v (.p Kd.bool r), []⟩ := by
  refine spec_at Tryd.func57 (by kernel_rfl) (Nat.le_of_ble_eq_true (by kernel_rfl)) ?_
  unfold antiquaryref44_has at h
  exact Abs.Good.path hm [.reg [], .reg [], .keep [sk 0, sk 3, sk 5, ek 3], .ren [(3, 500001)]] (cs := []) (by kernel_rfl) trivial (antiquaryref44_has_l0_ok k a1 (0 : Int) a2 r h)

def antiquaryref44_Hear_l3 (s0 : Int → List It → Int → List Int → Int → List Int → Int → List (List Int) → ByteArray → Int → List It → Int → List Pt → Option (List It × List Pt × Int)) (k : Nat) (p1 : Int) (p2 : List It) (p3 : Int) (p4 : List Int) (p5 : Int) (p6 : List Int) (p7 : Int) (p8 : List (List Int)) (p9 : ByteArray) (p10 : Int) (p11 : List It) (p12 : Int) (p13 : List Pt) : Option (List It × List Pt × Int) :=
  s0 (IntKind.i64.wrap (p1 + (1 : Int))) p2 p3 p4 p5 p6 p7 p8 p9 p10 p11 p12 p13
def antiquaryref44_Hear_l0 : Nat → Int → List It → Int → List Int → Int → List Int → Int → List (List Int) → ByteArray → Int → List It → Int → List Pt → Option (List It × List Pt × Int)
  | 0, _, _, _, _, _, _, _, _, _, _, _, _, _ => none
  | k + 1, p1, p2, p3, p4, p5, p6, p7, p8, p9, p10, p11, p12, p13 =>
    if (decide (p1 < (List.length p8 : Int))) = true then
      if 0 ≤ p1 ∧ p1 < (List.length p8 : Int) then
        Option.bind (antiquaryref44_Place k p2 (List.getD p8 (Int.toNat p1) (Kd.dflt (Kd.arr 16 (Kd.int .u8))))) fun x1902 =>
        if (decide (x1902 ≥ (0 : Int))) = true then
          if 0 ≤ x1902 ∧ x1902 < (List.length p2 : Int) then
            if List.length p13 + List.length ([((4 : Int), (((Kd.dflt (Kd.arr 16 (Kd.int .u8))), ((0 : Int), ())), ((Kd.dflt (Kd.arr 16 (Kd.int .u8))), ((0 : Int), (([] : List (List Int)), (((List.getD p2 (Int.toNat x1902) (Kd.dflt KI)).2).1, ()))))))] : List Pt) ≤ 1466015503701 then
              antiquaryref44_Hear_l3 (antiquaryref44_Hear_l0 k) k p1 p2 p3 p4 p5 p6 p7 p8 p9 p10 p11 p12 (p13 ++ ([((4 : Int), (((Kd.dflt (Kd.arr 16 (Kd.int .u8))), ((0 : Int), ())), ((Kd.dflt (Kd.arr 16 (Kd.int .u8))), ((0 : Int), (([] : List (List Int)), (((List.getD p2 (Int.toNat x1902) (Kd.dflt KI)).2).1, ()))))))] : List Pt))
            else none
          else none
        else
          antiquaryref44_Hear_l3 (antiquaryref44_Hear_l0 k) k p1 p2 p3 p4 p5 p6 p7 p8 p9 p10 p11 p12 p13
      else none
    else
      some (p11, p13, p12)
def antiquaryref44_Hear_l8 (s6 : Int → List It → Int → List Int → Int → List Int → Int → List (List Int) → ByteArray → Int → List It → Int → List Pt → Option (List It × List Pt × Int)) (k : Nat) (p1 : Int) (p2 : List It) (p3 : Int) (p4 : List Int) (p5 : Int) (p6 : List Int) (p7 : Int) (p8 : List (List Int)) (p9 : ByteArray) (p10 : Int) (p11 : List It) (p12 : Int) (p13 : List Pt) : Option (List It × List Pt × Int) :=
  s6 (IntKind.i64.wrap (p1 + (1 : Int))) p2 p3 p4 p5 p6 p7 p8 p9 p10 p11 p12 p13
def antiquaryref44_Hear_l7 (s6 : Int → List It → Int → List Int → Int → List Int → Int → List (List Int) → ByteArray → Int → List It → Int → List Pt → Option (List It × List Pt × Int)) (k : Nat) (p1 : Int) (p2 : Bool) (p3 : List It) (p4 : Int) (p5 : List Int) (p6 : Int) (p7 : List Int) (p8 : Int) (p9 : List (List Int)) (p10 : ByteArray) (p11 : Int) (p12 : List It) (p13 : Int) (p14 : List Pt) : Option (List It × List Pt × Int) :=
  if p2 = true then
    if 0 ≤ p1 ∧ p1 < (List.length p3 : Int) then
      if List.length p14 + List.length ([((4 : Int), (((Kd.dflt (Kd.arr 16 (Kd.int .u8))), ((0 : Int), ())), ((Kd.dflt (Kd.arr 16 (Kd.int .u8))), ((0 : Int), (([] : List (List Int)), (((List.getD p3 (Int.toNat p1) (Kd.dflt KI)).2).1, ()))))))] : List Pt) ≤ 1466015503701 then
        antiquaryref44_Hear_l8 s6 k p1 p3 p4 p5 p6 p7 p8 p9 p10 p11 p12 p13 (p14 ++ ([((4 : Int), (((Kd.dflt (Kd.arr 16 (Kd.int .u8))), ((0 : Int), ())), ((Kd.dflt (Kd.arr 16 (Kd.int .u8))), ((0 : Int), (([] : List (List Int)), (((List.getD p3 (Int.toNat p1) (Kd.dflt KI)).2).1, ()))))))] : List Pt))
      else none
    else none
  else
    antiquaryref44_Hear_l8 s6 k p1 p3 p4 p5 p6 p7 p8 p9 p10 p11 p12 p13 p14
def antiquaryref44_Hear_l6 : Nat → Int → List It → Int → List Int → Int → List Int → Int → List (List Int) → ByteArray → Int → List It → Int → List Pt → Option (List It × List Pt × Int)
  | 0, _, _, _, _, _, _, _, _, _, _, _, _, _ => none
  | k + 1, p1, p2, p3, p4, p5, p6, p7, p8, p9, p10, p11, p12, p13 =>
    if (decide (p1 < (List.length p2 : Int))) = true then
      if 0 ≤ p1 ∧ p1 < (List.length p2 : Int) then
        Option.bind (antiquaryref44_Under k p4 p5 ((List.getD p2 (Int.toNat p1) (Kd.dflt KI)).1)) fun x1933 =>
        Option.bind (antiquaryref44_has k p8 ((List.getD p2 (Int.toNat p1) (Kd.dflt KI)).1)) fun x1935 =>
        if x1933 = true then
          antiquaryref44_Hear_l7 (antiquaryref44_Hear_l6 k) k p1 (!x1935) p2 p3 p4 p5 p6 p7 p8 p9 p10 p11 p12 p13
        else
          antiquaryref44_Hear_l7 (antiquaryref44_Hear_l6 k) k p1 false p2 p3 p4 p5 p6 p7 p8 p9 p10 p11 p12 p13
      else none
    else
      some (p11, p13, p12)
def antiquaryref44_Hear_l5 (k : Nat) (p1 : List It) (p2 : Int) (p3 : List Int) (p4 : Int) (p5 : List Int) (p6 : Int) (p7 : List (List Int)) (p8 : ByteArray) (p9 : Int) (p10 : List It) (p11 : Int) (p12 : List Pt) : Option (List It × List Pt × Int) :=
  antiquaryref44_Hear_l6 k (0 : Int) p1 p2 p3 p4 p5 p6 p7 p8 p9 p10 p11 p12
def antiquaryref44_Hear_l4 (s1 : Int → List It → Int → List Int → Int → List Int → Int → List (List Int) → ByteArray → Int → List It → Int → List (List Int) → Option (List It × List Pt × Int)) (k : Nat) (p1 : Int) (p2 : List It) (p3 : Int) (p4 : List Int) (p5 : Int) (p6 : List Int) (p7 : Int) (p8 : List (List Int)) (p9 : ByteArray) (p10 : Int) (p11 : List It) (p12 : Int) (p13 : List (List Int)) : Option (List It × List Pt × Int) :=
  s1 (IntKind.i64.wrap (p1 + (1 : Int))) p2 p3 p4 p5 p6 p7 p8 p9 p10 p11 p12 p13
def antiquaryref44_Hear_l1 : Nat → Int → List It → Int → List Int → Int → List Int → Int → List (List Int) → ByteArray → Int → List It → Int → List (List Int) → Option (List It × List Pt × Int)
  | 0, _, _, _, _, _, _, _, _, _, _, _, _, _ => none
  | k + 1, p1, p2, p3, p4, p5, p6, p7, p8, p9, p10, p11, p12, p13 =>
    if (decide (p1 < (List.length p8 : Int))) = true then
      if 0 ≤ p1 ∧ p1 < (List.length p8 : Int) then
        Option.bind (antiquaryref44_Place k p2 (List.getD p8 (Int.toNat p1) (Kd.dflt (Kd.arr 16 (Kd.int .u8))))) fun x1909 =>
        if (decide (x1909 < (0 : Int))) = true then
          if List.length p13 + List.length ([(List.getD p8 (Int.toNat p1) (Kd.dflt (Kd.arr 16 (Kd.int .u8))))] : List (List Int)) ≤ 8796093022208 then
            antiquaryref44_Hear_l4 (antiquaryref44_Hear_l1 k) k p1 p2 p3 p4 p5 p6 p7 p8 p9 p10 p11 p12 (p13 ++ ([(List.getD p8 (Int.toNat p1) (Kd.dflt (Kd.arr 16 (Kd.int .u8))))] : List (List Int)))
          else none
        else
          antiquaryref44_Hear_l4 (antiquaryref44_Hear_l1 k) k p1 p2 p3 p4 p5 p6 p7 p8 p9 p10 p11 p12 p13
      else none
    else
      if (decide (((List.length p13) : Int) > (0 : Int))) = true then
        if 0 + List.length ([((3 : Int), (((Kd.dflt (Kd.arr 16 (Kd.int .u8))), ((0 : Int), ())), ((Kd.dflt (Kd.arr 16 (Kd.int .u8))), ((0 : Int), (p13, ((⟨#[]⟩ : ByteArray), ()))))))] : List Pt) ≤ 1466015503701 then
          antiquaryref44_Hear_l5 k p2 p3 p4 p5 p6 p7 p8 p9 p10 p11 p12 ([((3 : Int), (((Kd.dflt (Kd.arr 16 (Kd.int .u8))), ((0 : Int), ())), ((Kd.dflt (Kd.arr 16 (Kd.int .u8))), ((0 : Int), (p13, ((⟨#[]⟩ : ByteArray), ()))))))] : List Pt)
        else none
      else
        antiquaryref44_Hear_l5 k p2 p3 p4 p5 p6 p7 p8 p9 p10 p11 p12 ([] : List Pt)
def antiquaryref44_Hear_l2 (k : Nat) (p1 : Bool) (p2 : List It) (p3 : Int) (p4 : List Int) (p5 : Int) (p6 : List Int) (p7 : Int) (p8 : List (List Int)) (p9 : ByteArray) (p10 : Int) (p11 : List It) (p12 : Int) (p13 : Int) (p14 : List Int) (p15 : Int) (p16 : List Int) (p17 : Int) (p18 : ByteArray) : Option (List It × List Pt × Int) :=
  if p1 = true then
    some (p11, ([] : List Pt), p12)
  else
    if (decide (p17 ≤ (8 : Int))) = true then
      Option.bind (antiquaryref44_Names k p2 p4 p5) fun x1917 =>
      if 0 + List.length ([((2 : Int), ((p4, (p5, ())), ((Kd.dflt (Kd.arr 16 (Kd.int .u8))), ((0 : Int), (x1917, ((⟨#[]⟩ : ByteArray), ()))))))] : List Pt) ≤ 1466015503701 then
        some (p11, ([((2 : Int), ((p4, (p5, ())), ((Kd.dflt (Kd.arr 16 (Kd.int .u8))), ((0 : Int), (x1917, ((⟨#[]⟩ : ByteArray), ()))))))] : List Pt), p12)
      else none
    else
      if (decide (p7 ≤ (8 : Int))) = true then
        if 0 + List.length ([(p13, ((p14, (p15, ())), (p16, (p17, (([] : List (List Int)), (p18, ()))))))] : List Pt) ≤ 1466015503701 then
          some (p11, ([(p13, ((p14, (p15, ())), (p16, (p17, (([] : List (List Int)), (p18, ()))))))] : List Pt), p12)
        else none
      else
        Option.bind (antiquaryref44_Half k p4 p5 false) fun x1922 =>
        Option.bind (antiquaryref44_Sum k p2 x1922.1 x1922.2) fun x1924 =>
        Option.bind (antiquaryref44_Half k p4 p5 true) fun x1926 =>
        Option.bind (antiquaryref44_Sum k p2 x1926.1 x1926.2) fun x1928 =>
        if 0 + List.length ([(x1924.1, ((x1924.2.1, (x1924.2.2.1, ())), (x1924.2.2.2.1, (x1924.2.2.2.2.1, (([] : List (List Int)), (x1924.2.2.2.2.2, ())))))), (x1928.1, ((x1928.2.1, (x1928.2.2.1, ())), (x1928.2.2.2.1, (x1928.2.2.2.2.1, (([] : List (List Int)), (x1928.2.2.2.2.2, ()))))))] : List Pt) ≤ 1466015503701 then
          some (p11, ([(x1924.1, ((x1924.2.1, (x1924.2.2.1, ())), (x1924.2.2.2.1, (x1924.2.2.2.2.1, (([] : List (List Int)), (x1924.2.2.2.2.2, ())))))), (x1928.1, ((x1928.2.1, (x1928.2.2.1, ())), (x1928.2.2.2.1, (x1928.2.2.2.2.1, (([] : List (List Int)), (x1928.2.2.2.2.2, ()))))))] : List Pt), p12)
        else none
def antiquaryref44_Hear (k : Nat) (a1 : List It) (a2 : Int) (a3 : List Int) (a4 : Int) (a5 : List Int) (a6 : Int) (a7 : List (List Int)) (a8 : ByteArray) : Option (List It × List Pt × Int) :=
  Option.bind (antiquaryref44_Check k a2 a3 a4 a5 a6 a7 a8) fun x1889 =>
  if (x1889 != (0 : Int)) = true then
    some (a1, ([] : List Pt), x1889)
  else
    if (a2 == (4 : Int)) = true then
      Option.bind (antiquaryref44_Add k a1 a8) fun x1893 =>
      some (x1893.1, ([] : List Pt), x1893.2)
    else
      if (a2 == (3 : Int)) = true then
        antiquaryref44_Hear_l0 k (0 : Int) a1 a2 a3 a4 a5 a6 a7 a8 (0 : Int) a1 (0 : Int) ([] : List Pt)
      else
        if (a2 == (2 : Int)) = true then
          antiquaryref44_Hear_l1 k (0 : Int) a1 a2 a3 a4 a5 a6 a7 a8 (0 : Int) a1 (0 : Int) ([] : List (List Int))
        else
          Option.bind (antiquaryref44_Sum k a1 a3 a4) fun x1897 =>
          if (Kd.eqb (Kd.arr 16 (Kd.int .u8)) x1897.2.2.2.1 a5) = true then
            antiquaryref44_Hear_l2 k (x1897.2.2.2.2.1 == a6) a1 a2 a3 a4 a5 a6 a7 a8 (0 : Int) a1 (0 : Int) x1897.1 x1897.2.1 x1897.2.2.1 x1897.2.2.2.1 x1897.2.2.2.2.1 x1897.2.2.2.2.2
          else
            antiquaryref44_Hear_l2 k false a1 a2 a3 a4 a5 a6 a7 a8 (0 : Int) a1 (0 : Int) x1897.1 x1897.2.1 x1897.2.2.1 x1897.2.2.2.1 x1897.2.2.2.2.1 x1897.2.2.2.2.2
theorem antiquaryref44_Hear_l3_ok (s0 : Int → List It → Int → List Int → Int → List Int → Int → List (List Int) → ByteArray → Int → List It → Int → List Pt → Option (List It × List Pt × Int)) (hs0 : ∀ (p1 : Int) (p2 : List It) (p3 : Int) (p4 : List Int) (p5 : Int) (p6 : List Int) (p7 : Int) (p8 : List (List Int)) (p9 : ByteArray) (p10 : Int) (p11 : List It) (p12 : Int) (p13 : List Pt) (r : List It × List Pt × Int), s0 p1 p2 p3 p4 p5 p6 p7 p8 p9 p10 p11 p12 p13 = some r → Abs.Good P 34 Tryd.f34.ntmps [] [] (.v (.agg [.p (Kd.sl KI) r.1, .p (Kd.sl KP) r.2.1, .p (Kd.int .i64) r.2.2])) (pos Tryd.f34 [.r, .r, .r, .c false, .r, .c false, .r, .r, .c true, .r]) [(sk 2, some (.v (.ptr 500001 0))), (sk 3, some (.v (.ptr 500002 0))), (sk 4, some (.v (.ptr 500003 0))), (sk 6, some (.v (.ptr 500004 0))), (sk 7, some (.v (.p (Kd.int .i64) p1))), (ek 500001, some (.box [.p (Kd.sl KI) p2])), (ek 500002, some (.box [.p (Kd.int .i64) p3, .p (Kd.arr 16 (Kd.int .u8)) p4, .p (Kd.int .i64) p5, .p (Kd.arr 16 (Kd.int .u8)) p6, .p (Kd.int .i64) p7, .p (Kd.sl (Kd.arr 16 (Kd.int .u8))) p8, .p Kd.str p9])), (ek 500003, some (.box [.nilsl, .nilsl, .p (Kd.int .i64) p10])), (ek 500004, some (.box [.p (Kd.sl KI) p11, .row 500005 (List.length p13), .p (Kd.int .i64) p12])), (ek 500005, some (.row KP 47 p13))]) (k : Nat) (p1 : Int) (p2 : List It) (p3 : Int) (p4 : List Int) (p5 : Int) (p6 : List Int) (p7 : Int) (p8 : List (List Int)) (p9 : ByteArray) (p10 : Int) (p11 : List It) (p12 : Int) (p13 : List Pt) (r : List It × List Pt × Int) (h : antiquaryref44_Hear_l3 s0 k p1 p2 p3 p4 p5 p6 p7 p8 p9 p10 p11 p12 p13 = some r) :
    Abs.Good P 34 Tryd.f34.ntmps [] [] (.v (.agg [.p (Kd.sl KI) r.1, .p (Kd.sl KP) r.2.1, .p (Kd.int .i64) r.2.2])) (pos Tryd.f34 [.r, .r, .r, .c false, .r, .c false, .r, .r, .c true, .r, .r, .c true, .r, .r, .c false]) [(sk 2, some (.v (.ptr 503001 0))), (sk 3, some (.v (.ptr 503002 0))), (sk 4, some (.v (.ptr 503003 0))), (sk 6, some (.v (.ptr 503004 0))), (sk 7, some (.v (.p (Kd.int .i64) p1))), (ek 503001, some (.box [.p (Kd.sl KI) p2])), (ek 503002, some (.box [.p (Kd.int .i64) p3, .p (Kd.arr 16 (Kd.int .u8)) p4, .p (Kd.int .i64) p5, .p (Kd.arr 16 (Kd.int .u8)) p6, .p (Kd.int .i64) p7, .p (Kd.sl (Kd.arr 16 (Kd.int .u8))) p8, .p Kd.str p9])), (ek 503003, some (.box [.nilsl, .nilsl, .p (Kd.int .i64) p10])), (ek 503004, some (.box [.p (Kd.sl KI) p11, .row 503005 (List.length p13), .p (Kd.int .i64) p12])), (ek 503005, some (.row KP 47 p13))] := by
  unfold antiquaryref44_Hear_l3 at h
  exact Abs.Good.path hm [.reg [], .keep [sk 2, sk 3, sk 4, sk 6, sk 7, ek 503001, ek 503002, ek 503003, ek 503004, ek 503005], .ren [(503001, 500001), (503002, 500002), (503003, 500003), (503004, 500004), (503005, 500005)]] (cs := []) (by kernel_rfl) trivial (hs0 (IntKind.i64.wrap (p1 + (1 : Int))) p2 p3 p4 p5 p6 p7 p8 p9 p10 p11 p12 p13 r h)
theorem antiquaryref44_Hear_l0_ok (k : Nat) : ∀ (p1 : Int) (p2 : List It) (p3 : Int) (p4 : List Int) (p5 : Int) (p6 : List Int) (p7 : Int) (p8 : List (List Int)) (p9 : ByteArray) (p10 : Int) (p11 : List It) (p12 : Int) (p13 : List Pt) (r : List It × List Pt × Int), antiquaryref44_Hear_l0 k p1 p2 p3 p4 p5 p6 p7 p8 p9 p10 p11 p12 p13 = some r →
    Abs.Good P 34 Tryd.f34.ntmps [] [] (.v (.agg [.p (Kd.sl KI) r.1, .p (Kd.sl KP) r.2.1, .p (Kd.int .i64) r.2.2])) (pos Tryd.f34 [.r, .r, .r, .c false, .r, .c false, .r, .r, .c true, .r]) [(sk 2, some (.v (.ptr 500001 0))), (sk 3, some (.v (.ptr 500002 0))), (sk 4, some (.v (.ptr 500003 0))), (sk 6, some (.v (.ptr 500004 0))), (sk 7, some (.v (.p (Kd.int .i64) p1))), (ek 500001, some (.box [.p (Kd.sl KI) p2])), (ek 500002, some (.box [.p (Kd.int .i64) p3, .p (Kd.arr 16 (Kd.int .u8)) p4, .p (Kd.int .i64) p5, .p (Kd.arr 16 (Kd.int .u8)) p6, .p (Kd.int .i64) p7, .p (Kd.sl (Kd.arr 16 (Kd.int .u8))) p8, .p Kd.str p9])), (ek 500003, some (.box [.nilsl, .nilsl, .p (Kd.int .i64) p10])), (ek 500004, some (.box [.p (Kd.sl KI) p11, .row 500005 (List.length p13), .p (Kd.int .i64) p12])), (ek 500005, some (.row KP 47 p13))] := by
  induction k with
  | zero => intro p1 p2 p3 p4 p5 p6 p7 p8 p9 p10 p11 p12 p13 r h; cases h
  | succ k ih =>
    intro p1 p2 p3 p4 p5 p6 p7 p8 p9 p10 p11 p12 p13 r h
    unfold antiquaryref44_Hear_l0 at h
    rcases br_inv h with ⟨h1900, h⟩ | ⟨h1900, h⟩
    · obtain ⟨h1901, h⟩ := gd_inv h
      obtain ⟨x1902, h1903, h⟩ := bind_inv h
      rcases br_inv h with ⟨h1904, h⟩ | ⟨h1904, h⟩
      · obtain ⟨h1905, h⟩ := gd_inv h
        obtain ⟨h1906, h⟩ := gd_inv h
        exact Abs.Good.path hm [.reg [], .cond true, .reg [(6, { call := some { lend := [], pass := [], res := .v (.p (Kd.int .i64) x1902), outs := [], back := [] } })], .reg [], .cond true, .reg [], .keep [sk 2, sk 3, sk 4, sk 6, sk 7, ek 500001, ek 500002, ek 500003, ek 500004, ek 60], .ren [(500001, 503001), (500002, 503002), (500003, 503003), (500004, 503004), (60, 503005)]] (cs := [_, _, _, _, _, _, _, _, _, _]) (by kernel_rfl) ⟨h1900, h1901.1, h1901.2, (antiquaryref44_Place_ok k p2 (List.getD p8 (Int.toNat p1) (Kd.dflt (Kd.arr 16 (Kd.int .u8)))) _ h1903), h1904, h1905.1, h1905.2, (rfl : (List.length p13) = List.length p13), (appBound (P := P) (et := 47) (b := 96) (by kernel_rfl) (by decide) h1906), (rfl : 1 = List.length ([((4 : Int), (((Kd.dflt (Kd.arr 16 (Kd.int .u8))), ((0 : Int), ())), ((Kd.dflt (Kd.arr 16 (Kd.int .u8))), ((0 : Int), (([] : List (List Int)), (((List.getD p2 (Int.toNat x1902) (Kd.dflt KI)).2).1, ()))))))] : List Pt)), trivial⟩ (antiquaryref44_Hear_l3_ok (antiquaryref44_Hear_l0 k) ih k p1 p2 p3 p4 p5 p6 p7 p8 p9 p10 p11 p12 (p13 ++ ([((4 : Int), (((Kd.dflt (Kd.arr 16 (Kd.int .u8))), ((0 : Int), ())), ((Kd.dflt (Kd.arr 16 (Kd.int .u8))), ((0 : Int), (([] : List (List Int)), (((List.getD p2 (Int.toNat x1902) (Kd.dflt KI)).2).1, ()))))))] : List Pt)) r h)
      · exact Abs.Good.path hm [.reg [], .cond true, .reg [(6, { call := some { lend := [], pass := [], res := .v (.p (Kd.int .i64) x1902), outs := [], back := [] } })], .reg [], .cond false, .keep [sk 2, sk 3, sk 4, sk 6, sk 7, ek 500001, ek 500002, ek 500003, ek 500004, ek 500005], .ren [(500001, 503001), (500002, 503002), (500003, 503003), (500004, 503004), (500005, 503005)]] (cs := [_, _, _, _, _]) (by kernel_rfl) ⟨h1900, h1901.1, h1901.2, (antiquaryref44_Place_ok k p2 (List.getD p8 (Int.toNat p1) (Kd.dflt (Kd.arr 16 (Kd.int .u8)))) _ h1903), h1904, trivial⟩ (antiquaryref44_Hear_l3_ok (antiquaryref44_Hear_l0 k) ih k p1 p2 p3 p4 p5 p6 p7 p8 p9 p10 p11 p12 p13 r h)
    · replace h := Option.some.inj h; subst h
      exact Abs.Good.path_ret hm [.reg [], .cond false, .reg []] [500005] Tryd.func34 (cs := [_, _]) (by kernel_rfl) ⟨h1900, (rfl : (List.length p13) = List.length p13), trivial⟩ (by kernel_rfl)
theorem antiquaryref44_Hear_l8_ok (s6 : Int → List It → Int → List Int → Int → List Int → Int → List (List Int) → ByteArray → Int → List It → Int → List Pt → Option (List It × List Pt × Int)) (hs6 : ∀ (p1 : Int) (p2 : List It) (p3 : Int) (p4 : List Int) (p5 : Int) (p6 : List Int) (p7 : Int) (p8 : List (List Int)) (p9 : ByteArray) (p10 : Int) (p11 : List It) (p12 : Int) (p13 : List Pt) (r : List It × List Pt × Int), s6 p1 p2 p3 p4 p5 p6 p7 p8 p9 p10 p11 p12 p13 = some r → Abs.Good P 34 Tryd.f34.ntmps [] [] (.v (.agg [.p (Kd.sl KI) r.1, .p (Kd.sl KP) r.2.1, .p (Kd.int .i64) r.2.2])) (pos Tryd.f34 [.r, .r, .r, .c false, .r, .c false, .r, .r, .c false, .r, .c true, .r, .r, .r, .c false, .r, .c false, .r]) [(sk 2, some (.v (.ptr 506001 0))), (sk 3, some (.v (.ptr 506002 0))), (sk 4, some (.v (.ptr 506003 0))), (sk 6, some (.v (.ptr 506004 0))), (sk 11, some (.v (.p (Kd.int .i64) p1))), (ek 506001, some (.box [.p (Kd.sl KI) p2])), (ek 506002, some (.box [.p (Kd.int .i64) p3, .p (Kd.arr 16 (Kd.int .u8)) p4, .p (Kd.int .i64) p5, .p (Kd.arr 16 (Kd.int .u8)) p6, .p (Kd.int .i64) p7, .p (Kd.sl (Kd.arr 16 (Kd.int .u8))) p8, .p Kd.str p9])), (ek 506003, some (.box [.nilsl, .nilsl, .p (Kd.int .i64) p10])), (ek 506004, some (.box [.p (Kd.sl KI) p11, .row 506005 (List.length p13), .p (Kd.int .i64) p12])), (ek 506005, some (.row KP 47 p13))]) (k : Nat) (p1 : Int) (p2 : List It) (p3 : Int) (p4 : List Int) (p5 : Int) (p6 : List Int) (p7 : Int) (p8 : List (List Int)) (p9 : ByteArray) (p10 : Int) (p11 : List It) (p12 : Int) (p13 : List Pt) (r : List It × List Pt × Int) (h : antiquaryref44_Hear_l8 s6 k p1 p2 p3 p4 p5 p6 p7 p8 p9 p10 p11 p12 p13 = some r) :
    Abs.Good P 34 Tryd.f34.ntmps [] [] (.v (.agg [.p (Kd.sl KI) r.1, .p (Kd.sl KP) r.2.1, .p (Kd.int .i64) r.2.2])) (pos Tryd.f34 [.r, .r, .r, .c false, .r, .c false, .r, .r, .c false, .r, .c true, .r, .r, .r, .c false, .r, .c false, .r, .r, .c true, .r, .r, .r, .c false]) [(sk 2, some (.v (.ptr 508001 0))), (sk 3, some (.v (.ptr 508002 0))), (sk 4, some (.v (.ptr 508003 0))), (sk 6, some (.v (.ptr 508004 0))), (sk 11, some (.v (.p (Kd.int .i64) p1))), (ek 508001, some (.box [.p (Kd.sl KI) p2])), (ek 508002, some (.box [.p (Kd.int .i64) p3, .p (Kd.arr 16 (Kd.int .u8)) p4, .p (Kd.int .i64) p5, .p (Kd.arr 16 (Kd.int .u8)) p6, .p (Kd.int .i64) p7, .p (Kd.sl (Kd.arr 16 (Kd.int .u8))) p8, .p Kd.str p9])), (ek 508003, some (.box [.nilsl, .nilsl, .p (Kd.int .i64) p10])), (ek 508004, some (.box [.p (Kd.sl KI) p11, .row 508005 (List.length p13), .p (Kd.int .i64) p12])), (ek 508005, some (.row KP 47 p13))] := by
  unfold antiquaryref44_Hear_l8 at h
  exact Abs.Good.path hm [.reg [], .keep [sk 2, sk 3, sk 4, sk 6, sk 11, ek 508001, ek 508002, ek 508003, ek 508004, ek 508005], .ren [(508001, 506001), (508002, 506002), (508003, 506003), (508004, 506004), (508005, 506005)]] (cs := []) (by kernel_rfl) trivial (hs6 (IntKind.i64.wrap (p1 + (1 : Int))) p2 p3 p4 p5 p6 p7 p8 p9 p10 p11 p12 p13 r h)
theorem antiquaryref44_Hear_l7_ok (s6 : Int → List It → Int → List Int → Int → List Int → Int → List (List Int) → ByteArray → Int → List It → Int → List Pt → Option (List It × List Pt × Int)) (hs6 : ∀ (p1 : Int) (p2 : List It) (p3 : Int) (p4 : List Int) (p5 : Int) (p6 : List Int) (p7 : Int) (p8 : List (List Int)) (p9 : ByteArray) (p10 : Int) (p11 : List It) (p12 : Int) (p13 : List Pt) (r : List It × List Pt × Int), s6 p1 p2 p3 p4 p5 p6 p7 p8 p9 p10 p11 p12 p13 = some r → Abs.Good P 34 Tryd.f34.ntmps [] [] (.v (.agg [.p (Kd.sl KI) r.1, .p (Kd.sl KP) r.2.1, .p (Kd.int .i64) r.2.2])) (pos Tryd.f34 [.r, .r, .r, .c false, .r, .c false, .r, .r, .c false, .r, .c true, .r, .r, .r, .c false, .r, .c false, .r]) [(sk 2, some (.v (.ptr 506001 0))), (sk 3, some (.v (.ptr 506002 0))), (sk 4, some (.v (.ptr 506003 0))), (sk 6, some (.v (.ptr 506004 0))), (sk 11, some (.v (.p (Kd.int .i64) p1))), (ek 506001, some (.box [.p (Kd.sl KI) p2])), (ek 506002, some (.box [.p (Kd.int .i64) p3, .p (Kd.arr 16 (Kd.int .u8)) p4, .p (Kd.int .i64) p5, .p (Kd.arr 16 (Kd.int .u8)) p6, .p (Kd.int .i64) p7, .p (Kd.sl (Kd.arr 16 (Kd.int .u8))) p8, .p Kd.str p9])), (ek 506003, some (.box [.nilsl, .nilsl, .p (Kd.int .i64) p10])), (ek 506004, some (.box [.p (Kd.sl KI) p11, .row 506005 (List.length p13), .p (Kd.int .i64) p12])), (ek 506005, some (.row KP 47 p13))]) (k : Nat) (p1 : Int) (p2 : Bool) (p3 : List It) (p4 : Int) (p5 : List Int) (p6 : Int) (p7 : List Int) (p8 : Int) (p9 : List (List Int)) (p10 : ByteArray) (p11 : Int) (p12 : List It) (p13 : Int) (p14 : List Pt) (r : List It × List Pt × Int) (h : antiquaryref44_Hear_l7 s6 k p1 p2 p3 p4 p5 p6 p7 p8 p9 p10 p11 p12 p13 p14 = some r) :
    Abs.Good P 34 Tryd.f34.ntmps [] [] (.v (.agg [.p (Kd.sl KI) r.1, .p (Kd.sl KP) r.2.1, .p (Kd.int .i64) r.2.2])) (pos Tryd.f34 [.r, .r, .r, .c false, .r, .c false, .r, .r, .c false, .r, .c true, .r, .r, .r, .c false, .r, .c false, .r, .r, .c true, .r, .r, .r]) [(sk 2, some (.v (.ptr 507001 0))), (sk 3, some (.v (.ptr 507002 0))), (sk 4, some (.v (.ptr 507003 0))), (sk 6, some (.v (.ptr 507004 0))), (sk 11, some (.v (.p (Kd.int .i64) p1))), (sk 128, some (.v (.p Kd.bool p2))), (ek 507001, some (.box [.p (Kd.sl KI) p3])), (ek 507002, some (.box [.p (Kd.int .i64) p4, .p (Kd.arr 16 (Kd.int .u8)) p5, .p (Kd.int .i64) p6, .p (Kd.arr 16 (Kd.int .u8)) p7, .p (Kd.int .i64) p8, .p (Kd.sl (Kd.arr 16 (Kd.int .u8))) p9, .p Kd.str p10])), (ek 507003, some (.box [.nilsl, .nilsl, .p (Kd.int .i64) p11])), (ek 507004, some (.box [.p (Kd.sl KI) p12, .row 507005 (List.length p14), .p (Kd.int .i64) p13])), (ek 507005, some (.row KP 47 p14))] := by
  unfold antiquaryref44_Hear_l7 at h
  rcases br_inv h with ⟨h1938, h⟩ | ⟨h1938, h⟩
  · obtain ⟨h1939, h⟩ := gd_inv h
    obtain ⟨h1940, h⟩ := gd_inv h
    exact Abs.Good.path hm [.cond true, .reg [], .keep [sk 2, sk 3, sk 4, sk 6, sk 11, ek 507001, ek 507002, ek 507003, ek 507004, ek 139], .ren [(507001, 508001), (507002, 508002), (507003, 508003), (507004, 508004), (139, 508005)]] (cs := [_, _, _, _, _, _]) (by kernel_rfl) ⟨h1938, h1939.1, h1939.2, (rfl : (List.length p14) = List.length p14), (appBound (P := P) (et := 47) (b := 96) (by kernel_rfl) (by decide) h1940), (rfl : 1 = List.length ([((4 : Int), (((Kd.dflt (Kd.arr 16 (Kd.int .u8))), ((0 : Int), ())), ((Kd.dflt (Kd.arr 16 (Kd.int .u8))), ((0 : Int), (([] : List (List Int)), (((List.getD p3 (Int.toNat p1) (Kd.dflt KI)).2).1, ()))))))] : List Pt)), trivial⟩ (antiquaryref44_Hear_l8_ok s6 hs6 k p1 p3 p4 p5 p6 p7 p8 p9 p10 p11 p12 p13 (p14 ++ ([((4 : Int), (((Kd.dflt (Kd.arr 16 (Kd.int .u8))), ((0 : Int), ())), ((Kd.dflt (Kd.arr 16 (Kd.int .u8))), ((0 : Int), (([] : List (List Int)), (((List.getD p3 (Int.toNat p1) (Kd.dflt KI)).2).1, ()))))))] : List Pt)) r h)
  · exact Abs.Good.path hm [.cond false, .keep [sk 2, sk 3, sk 4, sk 6, sk 11, ek 507001, ek 507002, ek 507003, ek 507004, ek 507005], .ren [(507001, 508001), (507002, 508002), (507003, 508003), (507004, 508004), (507005, 508005)]] (cs := [_]) (by kernel_rfl) ⟨h1938, trivial⟩ (antiquaryref44_Hear_l8_ok s6 hs6 k p1 p3 p4 p5 p6 p7 p8 p9 p10 p11 p12 p13 p14 r h)
theorem antiquaryref44_Hear_l6_ok (k : Nat) : ∀ (p1 : Int) (p2 : List It) (p3 : Int) (p4 : List Int) (p5 : Int) (p6 : List Int) (p7 : Int) (p8 : List (List Int)) (p9 : ByteArray) (p10 : Int) (p11 : List It) (p12 : Int) (p13 : List Pt) (r : List It × List Pt × Int), antiquaryref44_Hear_l6 k p1 p2 p3 p4 p5 p6 p7 p8 p9 p10 p11 p12 p13 = some r →
    Abs.Good P 34 Tryd.f34.ntmps [] [] (.v (.agg [.p (Kd.sl KI) r.1, .p (Kd.sl KP) r.2.1, .p (Kd.int .i64) r.2.2])) (pos Tryd.f34 [.r, .r, .r, .c false, .r, .c false, .r, .r, .c false, .r, .c true, .r, .r, .r, .c false, .r, .c false, .r]) [(sk 2, some (.v (.ptr 506001 0))), (sk 3, some (.v (.ptr 506002 0))), (sk 4, some (.v (.ptr 506003 0))), (sk 6, some (.v (.ptr 506004 0))), (sk 11, some (.v (.p (Kd.int .i64) p1))), (ek 506001, some (.box [.p (Kd.sl KI) p2])), (ek 506002, some (.box [.p (Kd.int .i64) p3, .p (Kd.arr 16 (Kd.int .u8)) p4, .p (Kd.int .i64) p5, .p (Kd.arr 16 (Kd.int .u8)) p6, .p (Kd.int .i64) p7, .p (Kd.sl (Kd.arr 16 (Kd.int .u8))) p8, .p Kd.str p9])), (ek 506003, some (.box [.nilsl, .nilsl, .p (Kd.int .i64) p10])), (ek 506004, some (.box [.p (Kd.sl KI) p11, .row 506005 (List.length p13), .p (Kd.int .i64) p12])), (ek 506005, some (.row KP 47 p13))] := by
  induction k with
  | zero => intro p1 p2 p3 p4 p5 p6 p7 p8 p9 p10 p11 p12 p13 r h; cases h
  | succ k ih =>
    intro p1 p2 p3 p4 p5 p6 p7 p8 p9 p10 p11 p12 p13 r h
    unfold antiquaryref44_Hear_l6 at h
    rcases br_inv h with ⟨h1931, h⟩ | ⟨h1931, h⟩
    · obtain ⟨h1932, h⟩ := gd_inv h
      obtain ⟨x1933, h1934, h⟩ := bind_inv h
      obtain ⟨x1935, h1936, h⟩ := bind_inv h
      rcases br_inv h with ⟨h1937, h⟩ | ⟨h1937, h⟩
      · exact Abs.Good.path hm [.reg [], .cond true, .reg [(8, { call := some { lend := [], pass := [], res := .v (.p Kd.bool x1933), outs := [], back := [] } })], .reg [(8, { call := some { lend := [], pass := [], res := .v (.p Kd.bool x1935), outs := [], back := [] } })], .reg [(2, { dec := some true }), (3, { dec := some true }), (4, { pick := some true })], .keep [sk 2, sk 3, sk 4, sk 6, sk 11, sk 128, ek 506001, ek 506002, ek 506003, ek 506004, ek 506005], .ren [(506001, 507001), (506002, 507002), (506003, 507003), (506004, 507004), (506005, 507005)]] (cs := [_, _, _, _, _, _, _, _, _, _]) (by kernel_rfl) ⟨h1931, h1932.1, h1932.2, (antiquaryref44_Under_ok k p4 p5 ((List.getD p2 (Int.toNat p1) (Kd.dflt KI)).1) _ h1934), h1932.1, h1932.2, (antiquaryref44_has_ok k p8 ((List.getD p2 (Int.toNat p1) (Kd.dflt KI)).1) _ h1936), h1937, h1937, h1937, trivial⟩ (antiquaryref44_Hear_l7_ok (antiquaryref44_Hear_l6 k) ih k p1 (!x1935) p2 p3 p4 p5 p6 p7 p8 p9 p10 p11 p12 p13 r h)
      · exact Abs.Good.path hm [.reg [], .cond true, .reg [(8, { call := some { lend := [], pass := [], res := .v (.p Kd.bool x1933), outs := [], back := [] } })], .reg [(8, { call := some { lend := [], pass := [], res := .v (.p Kd.bool x1935), outs := [], back := [] } })], .reg [(2, { dec := some false }), (3, { dec := some false }), (4, { pick := some false })], .keep [sk 2, sk 3, sk 4, sk 6, sk 11, sk 128, ek 506001, ek 506002, ek 506003, ek 506004, ek 506005], .ren [(506001, 507001), (506002, 507002), (506003, 507003), (506004, 507004), (506005, 507005)]] (cs := [_, _, _, _, _, _, _, _, _, _]) (by kernel_rfl) ⟨h1931, h1932.1, h1932.2, (antiquaryref44_Under_ok k p4 p5 ((List.getD p2 (Int.toNat p1) (Kd.dflt KI)).1) _ h1934), h1932.1, h1932.2, (antiquaryref44_has_ok k p8 ((List.getD p2 (Int.toNat p1) (Kd.dflt KI)).1) _ h1936), h1937, h1937, h1937, trivial⟩ (antiquaryref44_Hear_l7_ok (antiquaryref44_Hear_l6 k) ih k p1 false p2 p3 p4 p5 p6 p7 p8 p9 p10 p11 p12 p13 r h)
    · replace h := Option.some.inj h; subst h
      exact Abs.Good.path_ret hm [.reg [], .cond false, .reg []] [506005] Tryd.func34 (cs := [_, _]) (by kernel_rfl) ⟨h1931, (rfl : (List.length p13) = List.length p13), trivial⟩ (by kernel_rfl)
theorem antiquaryref44_Hear_l5_ok (k : Nat) (p1 : List It) (p2 : Int) (p3 : List Int) (p4 : Int) (p5 : List Int) (p6 : Int) (p7 : List (List Int)) (p8 : ByteArray) (p9 : Int) (p10 : List It) (p11 : Int) (p12 : List Pt) (r : List It × List Pt × Int) (h : antiquaryref44_Hear_l5 k p1 p2 p3 p4 p5 p6 p7 p8 p9 p10 p11 p12 = some r) :
    Abs.Good P 34 Tryd.f34.ntmps [] [] (.v (.agg [.p (Kd.sl KI) r.1, .p (Kd.sl KP) r.2.1, .p (Kd.int .i64) r.2.2])) (pos Tryd.f34 [.r, .r, .r, .c false, .r, .c false, .r, .r, .c false, .r, .c true, .r, .r, .r, .c false, .r, .c false]) [(sk 2, some (.v (.ptr 505001 0))), (sk 3, some (.v (.ptr 505002 0))), (sk 4, some (.v (.ptr 505003 0))), (sk 6, some (.v (.ptr 505004 0))), (ek 505001, some (.box [.p (Kd.sl KI) p1])), (ek 505002, some (.box [.p (Kd.int .i64) p2, .p (Kd.arr 16 (Kd.int .u8)) p3, .p (Kd.int .i64) p4, .p (Kd.arr 16 (Kd.int .u8)) p5, .p (Kd.int .i64) p6, .p (Kd.sl (Kd.arr 16 (Kd.int .u8))) p7, .p Kd.str p8])), (ek 505003, some (.box [.nilsl, .nilsl, .p (Kd.int .i64) p9])), (ek 505004, some (.box [.p (Kd.sl KI) p10, .row 505005 (List.length p12), .p (Kd.int .i64) p11])), (ek 505005, some (.row KP 47 p12))] := by
  unfold antiquaryref44_Hear_l5 at h
  exact Abs.Good.path hm [.reg [], .keep [sk 2, sk 3, sk 4, sk 6, sk 11, ek 505001, ek 505002, ek 505003, ek 505004, ek 505005], .ren [(505001, 506001), (505002, 506002), (505003, 506003), (505004, 506004), (505005, 506005)]] (cs := []) (by kernel_rfl) trivial (antiquaryref44_Hear_l6_ok k (0 : Int) p1 p2 p3 p4 p5 p6 p7 p8 p9 p10 p11 p12 r h)
theorem antiquaryref44_Hear_l4_ok (s1 : Int → List It → Int → List Int → Int → List Int → Int → List (List Int) → ByteArray → Int → List It → Int → List (List Int) → Option (List It × List Pt × Int)) (hs1 : ∀ (p1 : Int) (p2 : List It) (p3 : Int) (p4 : List Int) (p5 : Int) (p6 : List Int) (p7 : Int) (p8 : List (List Int)) (p9 : ByteArray) (p10 : Int) (p11 : List It) (p12 : Int) (p13 : List (List Int)) (r : List It × List Pt × Int), s1 p1 p2 p3 p4 p5 p6 p7 p8 p9 p10 p11 p12 p13 = some r → Abs.Good P 34 Tryd.f34.ntmps [] [] (.v (.agg [.p (Kd.sl KI) r.1, .p (Kd.sl KP) r.2.1, .p (Kd.int .i64) r.2.2])) (pos Tryd.f34 [.r, .r, .r, .c false, .r, .c false, .r, .r, .c false, .r, .c true, .r, .r]) [(sk 2, some (.v (.ptr 501001 0))), (sk 3, some (.v (.ptr 501002 0))), (sk 4, some (.v (.ptr 501003 0))), (sk 6, some (.v (.ptr 501004 0))), (sk 9, some (.v (.row 501005 (List.length p13)))), (sk 10, some (.v (.p (Kd.int .i64) p1))), (ek 501001, some (.box [.p (Kd.sl KI) p2])), (ek 501002, some (.box [.p (Kd.int .i64) p3, .p (Kd.arr 16 (Kd.int .u8)) p4, .p (Kd.int .i64) p5, .p (Kd.arr 16 (Kd.int .u8)) p6, .p (Kd.int .i64) p7, .p (Kd.sl (Kd.arr 16 (Kd.int .u8))) p8, .p Kd.str p9])), (ek 501003, some (.box [.nilsl, .nilsl, .p (Kd.int .i64) p10])), (ek 501004, some (.box [.p (Kd.sl KI) p11, .nilsl, .p (Kd.int .i64) p12])), (ek 501005, some (.row (Kd.arr 16 (Kd.int .u8)) 26 p13))]) (k : Nat) (p1 : Int) (p2 : List It) (p3 : Int) (p4 : List Int) (p5 : Int) (p6 : List Int) (p7 : Int) (p8 : List (List Int)) (p9 : ByteArray) (p10 : Int) (p11 : List It) (p12 : Int) (p13 : List (List Int)) (r : List It × List Pt × Int) (h : antiquaryref44_Hear_l4 s1 k p1 p2 p3 p4 p5 p6 p7 p8 p9 p10 p11 p12 p13 = some r) :
    Abs.Good P 34 Tryd.f34.ntmps [] [] (.v (.agg [.p (Kd.sl KI) r.1, .p (Kd.sl KP) r.2.1, .p (Kd.int .i64) r.2.2])) (pos Tryd.f34 [.r, .r, .r, .c false, .r, .c false, .r, .r, .c false, .r, .c true, .r, .r, .r, .c true, .r, .c false]) [(sk 2, some (.v (.ptr 504001 0))), (sk 3, some (.v (.ptr 504002 0))), (sk 4, some (.v (.ptr 504003 0))), (sk 6, some (.v (.ptr 504004 0))), (sk 9, some (.v (.row 504005 (List.length p13)))), (sk 10, some (.v (.p (Kd.int .i64) p1))), (ek 504001, some (.box [.p (Kd.sl KI) p2])), (ek 504002, some (.box [.p (Kd.int .i64) p3, .p (Kd.arr 16 (Kd.int .u8)) p4, .p (Kd.int .i64) p5, .p (Kd.arr 16 (Kd.int .u8)) p6, .p (Kd.int .i64) p7, .p (Kd.sl (Kd.arr 16 (Kd.int .u8))) p8, .p Kd.str p9])), (ek 504003, some (.box [.nilsl, .nilsl, .p (Kd.int .i64) p10])), (ek 504004, some (.box [.p (Kd.sl KI) p11, .nilsl, .p (Kd.int .i64) p12])), (ek 504005, some (.row (Kd.arr 16 (Kd.int .u8)) 26 p13))] := by
  unfold antiquaryref44_Hear_l4 at h
  exact Abs.Good.path hm [.reg [], .keep [sk 2, sk 3, sk 4, sk 6, sk 9, sk 10, ek 504001, ek 504002, ek 504003, ek 504004, ek 504005], .ren [(504001, 501001), (504002, 501002), (504003, 501003), (504004, 501004), (504005, 501005)]] (cs := []) (by kernel_rfl) trivial (hs1 (IntKind.i64.wrap (p1 + (1 : Int))) p2 p3 p4 p5 p6 p7 p8 p9 p10 p11 p12 p13 r h)
theorem antiquaryref44_Hear_l1_ok (k : Nat) : ∀ (p1 : Int) (p2 : List It) (p3 : Int) (p4 : List Int) (p5 : Int) (p6 : List Int) (p7 : Int) (p8 : List (List Int)) (p9 : ByteArray) (p10 : Int) (p11 : List It) (p12 : Int) (p13 : List (List Int)) (r : List It × List Pt × Int), antiquaryref44_Hear_l1 k p1 p2 p3 p4 p5 p6 p7 p8 p9 p10 p11 p12 p13 = some r →
    Abs.Good P 34 Tryd.f34.ntmps [] [] (.v (.agg [.p (Kd.sl KI) r.1, .p (Kd.sl KP) r.2.1, .p (Kd.int .i64) r.2.2])) (pos Tryd.f34 [.r, .r, .r, .c false, .r, .c false, .r, .r, .c false, .r, .c true, .r, .r]) [(sk 2, some (.v (.ptr 501001 0))), (sk 3, some (.v (.ptr 501002 0))), (sk 4, some (.v (.ptr 501003 0))), (sk 6, some (.v (.ptr 501004 0))), (sk 9, some (.v (.row 501005 (List.length p13)))), (sk 10, some (.v (.p (Kd.int .i64) p1))), (ek 501001, some (.box [.p (Kd.sl KI) p2])), (ek 501002, some (.box [.p (Kd.int .i64) p3, .p (Kd.arr 16 (Kd.int .u8)) p4, .p (Kd.int .i64) p5, .p (Kd.arr 16 (Kd.int .u8)) p6, .p (Kd.int .i64) p7, .p (Kd.sl (Kd.arr 16 (Kd.int .u8))) p8, .p Kd.str p9])), (ek 501003, some (.box [.nilsl, .nilsl, .p (Kd.int .i64) p10])), (ek 501004, some (.box [.p (Kd.sl KI) p11, .nilsl, .p (Kd.int .i64) p12])), (ek 501005, some (.row (Kd.arr 16 (Kd.int .u8)) 26 p13))] := by
  induction k with
  | zero => intro p1 p2 p3 p4 p5 p6 p7 p8 p9 p10 p11 p12 p13 r h; cases h
  | succ k ih =>
    intro p1 p2 p3 p4 p5 p6 p7 p8 p9 p10 p11 p12 p13 r h
    unfold antiquaryref44_Hear_l1 at h
    rcases br_inv h with ⟨h1907, h⟩ | ⟨h1907, h⟩
    · obtain ⟨h1908, h⟩ := gd_inv h
      obtain ⟨x1909, h1910, h⟩ := bind_inv h
      rcases br_inv h with ⟨h1911, h⟩ | ⟨h1911, h⟩
      · obtain ⟨h1912, h⟩ := gd_inv h
        exact Abs.Good.path hm [.reg [], .cond true, .reg [(6, { call := some { lend := [], pass := [], res := .v (.p (Kd.int .i64) x1909), outs := [], back := [] } })], .cond true, .reg [], .keep [sk 2, sk 3, sk 4, sk 6, sk 9, sk 10, ek 501001, ek 501002, ek 501003, ek 501004, ek 88], .ren [(501001, 504001), (501002, 504002), (501003, 504003), (501004, 504004), (88, 504005)]] (cs := [_, _, _, _, _, _, _, _, _, _]) (by kernel_rfl) ⟨h1907, h1908.1, h1908.2, (antiquaryref44_Place_ok k p2 (List.getD p8 (Int.toNat p1) (Kd.dflt (Kd.arr 16 (Kd.int .u8)))) _ h1910), h1911, h1908.1, h1908.2, (rfl : (List.length p13) = List.length p13), (appBound (P := P) (et := 26) (b := 16) (by kernel_rfl) (by decide) h1912), (rfl : 1 = List.length ([(List.getD p8 (Int.toNat p1) (Kd.dflt (Kd.arr 16 (Kd.int .u8))))] : List (List Int))), trivial⟩ (antiquaryref44_Hear_l4_ok (antiquaryref44_Hear_l1 k) ih k p1 p2 p3 p4 p5 p6 p7 p8 p9 p10 p11 p12 (p13 ++ ([(List.getD p8 (Int.toNat p1) (Kd.dflt (Kd.arr 16 (Kd.int .u8))))] : List (List Int))) r h)
      · exact Abs.Good.path hm [.reg [], .cond true, .reg [(6, { call := some { lend := [], pass := [], res := .v (.p (Kd.int .i64) x1909), outs := [], back := [] } })], .cond false, .keep [sk 2, sk 3, sk 4, sk 6, sk 9, sk 10, ek 501001, ek 501002, ek 501003, ek 501004, ek 501005], .ren [(501001, 504001), (501002, 504002), (501003, 504003), (501004, 504004), (501005, 504005)]] (cs := [_, _, _, _, _]) (by kernel_rfl) ⟨h1907, h1908.1, h1908.2, (antiquaryref44_Place_ok k p2 (List.getD p8 (Int.toNat p1) (Kd.dflt (Kd.arr 16 (Kd.int .u8)))) _ h1910), h1911, trivial⟩ (antiquaryref44_Hear_l4_ok (antiquaryref44_Hear_l1 k) ih k p1 p2 p3 p4 p5 p6 p7 p8 p9 p10 p11 p12 p13 r h)
    · rcases br_inv h with ⟨h1913, h⟩ | ⟨h1913, h⟩
      · obtain ⟨h1914, h⟩ := gd_inv h
        exact Abs.Good.path hm [.reg [], .cond false, .reg [], .cond true, .co (sk 9) 0 (.fz), .reg [], .keep [sk 2, sk 3, sk 4, sk 6, ek 501001, ek 501002, ek 501003, ek 501004, ek 97], .ren [(501001, 505001), (501002, 505002), (501003, 505003), (501004, 505004), (97, 505005)]] (cs := [_, _, _, _, _]) (by kernel_rfl) ⟨h1907, h1913, (rfl : (List.length p13) = List.length p13), (appBound (P := P) (et := 47) (b := 96) (by kernel_rfl) (by decide) h1914), (rfl : 1 = List.length ([((3 : Int), (((Kd.dflt (Kd.arr 16 (Kd.int .u8))), ((0 : Int), ())), ((Kd.dflt (Kd.arr 16 (Kd.int .u8))), ((0 : Int), (p13, ((⟨#[]⟩ : ByteArray), ()))))))] : List Pt)), trivial⟩ (antiquaryref44_Hear_l5_ok k p2 p3 p4 p5 p6 p7 p8 p9 p10 p11 p12 ([((3 : Int), (((Kd.dflt (Kd.arr 16 (Kd.int .u8))), ((0 : Int), ())), ((Kd.dflt (Kd.arr 16 (Kd.int .u8))), ((0 : Int), (p13, ((⟨#[]⟩ : ByteArray), ()))))))] : List Pt) r h)
      · exact Abs.Good.path hm [.reg [], .cond false, .reg [], .cond false, .co (ek 501004) 1 (.mk 900003 KP 47), .keep [sk 2, sk 3, sk 4, sk 6, ek 501001, ek 501002, ek 501003, ek 501004, ek 900003], .ren [(501001, 505001), (501002, 505002), (501003, 505003), (501004, 505004), (900003, 505005)]] (cs := [_, _]) (by kernel_rfl) ⟨h1907, h1913, trivial⟩ (antiquaryref44_Hear_l5_ok k p2 p3 p4 p5 p6 p7 p8 p9 p10 p11 p12 ([] : List Pt) r h)
theorem antiquaryref44_Hear_l2_ok (k : Nat) (p1 : Bool) (p2 : List It) (p3 : Int) (p4 : List Int) (p5 : Int) (p6 : List Int) (p7 : Int) (p8 : List (List Int)) (p9 : ByteArray) (p10 : Int) (p11 : List It) (p12 : Int) (p13 : Int) (p14 : List Int) (p15 : Int) (p16 : List Int) (p17 : Int) (p18 : ByteArray) (r : List It × List Pt × Int) (h : antiquaryref44_Hear_l2 k p1 p2 p3 p4 p5 p6 p7 p8 p9 p10 p11 p12 p13 p14 p15 p16 p17 p18 = some r) :
    Abs.Good P 34 Tryd.f34.ntmps [] [] (.v (.agg [.p (Kd.sl KI) r.1, .p (Kd.sl KP) r.2.1, .p (Kd.int .i64) r.2.2])) (pos Tryd.f34 [.r, .r, .r, .c false, .r, .c false, .r, .r, .c false, .r, .c false, .r, .r]) [(sk 2, some (.v (.ptr 502001 0))), (sk 3, some (.v (.ptr 502002 0))), (sk 4, some (.v (.ptr 502003 0))), (sk 6, some (.v (.ptr 502004 0))), (sk 14, some (.v (.ptr 502005 0))), (sk 157, some (.v (.p Kd.bool p1))), (ek 502001, some (.box [.p (Kd.sl KI) p2])), (ek 502002, some (.box [.p (Kd.int .i64) p3, .p (Kd.arr 16 (Kd.int .u8)) p4, .p (Kd.int .i64) p5, .p (Kd.arr 16 (Kd.int .u8)) p6, .p (Kd.int .i64) p7, .p (Kd.sl (Kd.arr 16 (Kd.int .u8))) p8, .p Kd.str p9])), (ek 502003, some (.box [.nilsl, .nilsl, .p (Kd.int .i64) p10])), (ek 502004, some (.box [.p (Kd.sl KI) p11, .nilsl, .p (Kd.int .i64) p12])), (ek 502005, some (.box [.p (Kd.int .i64) p13, .p (Kd.arr 16 (Kd.int .u8)) p14, .p (Kd.int .i64) p15, .p (Kd.arr 16 (Kd.int .u8)) p16, .p (Kd.int .i64) p17, .nilsl, .p Kd.str p18]))] := by
  unfold antiquaryref44_Hear_l2 at h
  rcases br_inv h with ⟨h1915, h⟩ | ⟨h1915, h⟩
  · replace h := Option.some.inj h; subst h
    exact Abs.Good.path_ret hm [.cond true, .reg [], .co (ek 502003) 1 (.nsl KP)] [] Tryd.func34 (cs := [_]) (by kernel_rfl) ⟨h1915, trivial⟩ (by kernel_rfl)
  · rcases br_inv h with ⟨h1916, h⟩ | ⟨h1916, h⟩
    · obtain ⟨x1917, h1918, h⟩ := bind_inv h
      obtain ⟨h1919, h⟩ := gd_inv h
      replace h := Option.some.inj h; subst h
      exact Abs.Good.path_ret hm [.cond false, .reg [], .cond true, .reg [(7, { call := some { lend := [], pass := [], res := .v (.p (Kd.sl (Kd.arr 16 (Kd.int .u8))) x1917), outs := [], back := [] } })], .reg []] [172] Tryd.func34 (cs := [_, _, _, _, _, _]) (by kernel_rfl) ⟨h1915, h1916, (antiquaryref44_Names_ok k p2 p4 p5 _ h1918), (appBound (P := P) (et := 47) (b := 96) (by kernel_rfl) (by decide) h1919), (rfl : 1 = List.length ([((2 : Int), ((p4, (p5, ())), ((Kd.dflt (Kd.arr 16 (Kd.int .u8))), ((0 : Int), (x1917, ((⟨#[]⟩ : ByteArray), ()))))))] : List Pt)), (rfl : (List.length ([((2 : Int), ((p4, (p5, ())), ((Kd.dflt (Kd.arr 16 (Kd.int .u8))), ((0 : Int), (x1917, ((⟨#[]⟩ : ByteArray), ()))))))] : List Pt)) = List.length ([((2 : Int), ((p4, (p5, ())), ((Kd.dflt (Kd.arr 16 (Kd.int .u8))), ((0 : Int), (x1917, ((⟨#[]⟩ : ByteArray), ()))))))] : List Pt)), trivial⟩ (by kernel_rfl)
    · rcases br_inv h with ⟨h1920, h⟩ | ⟨h1920, h⟩
      · obtain ⟨h1921, h⟩ := gd_inv h
        replace h := Option.some.inj h; subst h
        exact Abs.Good.path_ret hm [.cond false, .reg [], .cond false, .reg [], .cond true, .reg [], .reg []] [182] Tryd.func34 (cs := [_, _, _, _, _, _]) (by kernel_rfl) ⟨h1915, h1916, h1920, (appBound (P := P) (et := 47) (b := 96) (by kernel_rfl) (by decide) h1921), (rfl : 1 = List.length ([(p13, ((p14, (p15, ())), (p16, (p17, (([] : List (List Int)), (p18, ()))))))] : List Pt)), (rfl : (List.length ([(p13, ((p14, (p15, ())), (p16, (p17, (([] : List (List Int)), (p18, ()))))))] : List Pt)) = List.length ([(p13, ((p14, (p15, ())), (p16, (p17, (([] : List (List Int)), (p18, ()))))))] : List Pt)), trivial⟩ (by kernel_rfl)
      · obtain ⟨x1922, h1923, h⟩ := bind_inv h
        obtain ⟨x1924, h1925, h⟩ := bind_inv h
        obtain ⟨x1926, h1927, h⟩ := bind_inv h
        obtain ⟨x1928, h1929, h⟩ := bind_inv h
        obtain ⟨h1930, h⟩ := gd_inv h
        replace h := Option.some.inj h; subst h
        exact Abs.Good.path_ret hm [.cond false, .reg [], .cond false, .reg [], .cond false, .reg [(5, { call := some { lend := [], pass := [], res := .v (.agg [.p (Kd.arr 16 (Kd.int .u8)) x1922.1, .p (Kd.int .i64) x1922.2]), outs := [], back := [] } }), (6, { call := some { lend := [], pass := [], res := .v (.agg [.p (Kd.int .i64) x1924.1, .p (Kd.arr 16 (Kd.int .u8)) x1924.2.1, .p (Kd.int .i64) x1924.2.2.1, .p (Kd.arr 16 (Kd.int .u8)) x1924.2.2.2.1, .p (Kd.int .i64) x1924.2.2.2.2.1, .nilsl, .p Kd.str x1924.2.2.2.2.2]), outs := [], back := [] } }), (10, { call := some { lend := [], pass := [], res := .v (.agg [.p (Kd.arr 16 (Kd.int .u8)) x1926.1, .p (Kd.int .i64) x1926.2]), outs := [], back := [] } }), (11, { call := some { lend := [], pass := [], res := .v (.agg [.p (Kd.int .i64) x1928.1, .p (Kd.arr 16 (Kd.int .u8)) x1928.2.1, .p (Kd.int .i64) x1928.2.2.1, .p (Kd.arr 16 (Kd.int .u8)) x1928.2.2.2.1, .p (Kd.int .i64) x1928.2.2.2.2.1, .nilsl, .p Kd.str x1928.2.2.2.2.2]), outs := [], back := [] } })], .reg []] [198] Tryd.func34 (cs := [_, _, _, _, _, _, _, _, _, _]) (by kernel_rfl) ⟨h1915, h1916, h1920, (antiquaryref44_Half_ok k p4 p5 false _ h1923), (antiquaryref44_Sum_ok k p2 x1922.1 x1922.2 _ h1925), (antiquaryref44_Half_ok k p4 p5 true _ h1927), (antiquaryref44_Sum_ok k p2 x1926.1 x1926.2 _ h1929), (appBound (P := P) (et := 47) (b := 96) (by kernel_rfl) (by decide) h1930), (rfl : 2 = List.length ([(x1924.1, ((x1924.2.1, (x1924.2.2.1, ())), (x1924.2.2.2.1, (x1924.2.2.2.2.1, (([] : List (List Int)), (x1924.2.2.2.2.2, ())))))), (x1928.1, ((x1928.2.1, (x1928.2.2.1, ())), (x1928.2.2.2.1, (x1928.2.2.2.2.1, (([] : List (List Int)), (x1928.2.2.2.2.2, ()))))))] : List Pt)), (rfl : (List.length ([(x1924.1, ((x1924.2.1, (x1924.2.2.1, ())), (x1924.2.2.2.1, (x1924.2.2.2.2.1, (([] : List (List Int)), (x1924.2.2.2.2.2, ())))))), (x1928.1, ((x1928.2.1, (x1928.2.2.1, ())), (x1928.2.2.2.1, (x1928.2.2.2.2.1, (([] : List (List Int)), (x1928.2.2.2.2.2, ()))))))] : List Pt)) = List.length ([(x1924.1, ((x1924.2.1, (x1924.2.2.1, ())), (x1924.2.2.2.1, (x1924.2.2.2.2.1, (([] : List (List Int)), (x1924.2.2.2.2.2, ())))))), (x1928.1, ((x1928.2.1, (x1928.2.2.1, ())), (x1928.2.2.2.1, (x1928.2.2.2.2.1, (([] : List (List Int)), (x1928.2.2.2.2.2, ()))))))] : List Pt)), trivial⟩ (by kernel_rfl)
theorem antiquaryref44_Hear_ok (k : Nat) (a1 : List It) (a2 : Int) (a3 : List Int) (a4 : Int) (a5 : List Int) (a6 : Int) (a7 : List (List Int)) (a8 : ByteArray) (r : List It × List Pt × Int) (h : antiquaryref44_Hear k a1 a2 a3 a4 a5 a6 a7 a8 = some r) : SpecOk P ⟨34, [.agg [.p (Kd.sl KI) a1], .agg [.p (Kd.int .i64) a2, .p (Kd.arr 16 (Kd.int .u8)) a3, .p (Kd.int .i64) a4, .p (Kd.arr 16 (Kd.int .u8)) a5, .p (Kd.int .i64) a6, .p (Kd.sl (Kd.arr 16 (Kd.int .u8))) a7, .p Kd.str a8]], [], .v (.agg [.p (Kd.sl KI) r.1, .p (Kd.sl KP) r.2.1, .p (Kd.int .i64) r.2.2]), []⟩ := by
  refine spec_at Tryd.func34 (by kernel_rfl) (Nat.le_of_ble_eq_true (by kernel_rfl)) ?_
  unfold antiquaryref44_Hear at h
  obtain ⟨x1889, h1890, h⟩ := bind_inv h
  rcases br_inv h with ⟨h1891, h⟩ | ⟨h1891, h⟩
  · replace h := Option.some.inj h; subst h
    exact Abs.Good.path_ret hm [.reg [], .reg [(1, { call := some { lend := [], pass := [], res := .v (.p (Kd.int .i64) x1889), outs := [], back := [] } })], .reg [], .cond true, .reg [], .co (ek 4) 1 (.nsl KP)] [] Tryd.func34 (cs := [_, _]) (by kernel_rfl) ⟨(antiquaryref44_Check_ok k a2 a3 a4 a5 a6 a7 a8 _ h1890), h1891, trivial⟩ (by kernel_rfl)
  · rcases br_inv h with ⟨h1892, h⟩ | ⟨h1892, h⟩
    · obtain ⟨x1893, h1894, h⟩ := bind_inv h
      replace h := Option.some.inj h; subst h
      exact Abs.Good.path_ret hm [.reg [], .reg [(1, { call := some { lend := [], pass := [], res := .v (.p (Kd.int .i64) x1889), outs := [], back := [] } })], .reg [], .cond false, .reg [], .cond true, .reg [(3, { call := some { lend := [], pass := [], res := .v (.agg [.p (Kd.sl KI) x1893.1, .nilsl, .p (Kd.int .i64) x1893.2]), outs := [], back := [] } })], .co (ek 4) 1 (.nsl KP)] [] Tryd.func34 (cs := [_, _, _, _]) (by kernel_rfl) ⟨(antiquaryref44_Check_ok k a2 a3 a4 a5 a6 a7 a8 _ h1890), h1891, h1892, (antiquaryref44_Add_ok k a1 a8 _ h1894), trivial⟩ (by kernel_rfl)
    · rcases br_inv h with ⟨h1895, h⟩ | ⟨h1895, h⟩
      · exact Abs.Good.path hm [.reg [], .reg [(1, { call := some { lend := [], pass := [], res := .v (.p (Kd.int .i64) x1889), outs := [], back := [] } })], .reg [], .cond false, .reg [], .cond false, .reg [], .reg [], .cond true, .reg [], .co (ek 6) 1 (.mk 900001 KP 47), .keep [sk 2, sk 3, sk 4, sk 6, sk 7, ek 2, ek 3, ek 4, ek 6, ek 900001], .ren [(2, 500001), (3, 500002), (4, 500003), (6, 500004), (900001, 500005)]] (cs := [_, _, _, _]) (by kernel_rfl) ⟨(antiquaryref44_Check_ok k a2 a3 a4 a5 a6 a7 a8 _ h1890), h1891, h1892, h1895, trivial⟩ (antiquaryref44_Hear_l0_ok k (0 : Int) a1 a2 a3 a4 a5 a6 a7 a8 (0 : Int) a1 (0 : Int) ([] : List Pt) r h)
      · rcases br_inv h with ⟨h1896, h⟩ | ⟨h1896, h⟩
        · exact Abs.Good.path hm [.reg [], .reg [(1, { call := some { lend := [], pass := [], res := .v (.p (Kd.int .i64) x1889), outs := [], back := [] } })], .reg [], .cond false, .reg [], .cond false, .reg [], .reg [], .cond false, .reg [], .cond true, .reg [], .reg [], .co (sk 9) 0 (.mk 900002 (Kd.arr 16 (Kd.int .u8)) 26), .keep [sk 2, sk 3, sk 4, sk 6, sk 9, sk 10, ek 2, ek 3, ek 4, ek 6, ek 900002], .ren [(2, 501001), (3, 501002), (4, 501003), (6, 501004), (900002, 501005)]] (cs := [_, _, _, _, _]) (by kernel_rfl) ⟨(antiquaryref44_Check_ok k a2 a3 a4 a5 a6 a7 a8 _ h1890), h1891, h1892, h1895, h1896, trivial⟩ (antiquaryref44_Hear_l1_ok k (0 : Int) a1 a2 a3 a4 a5 a6 a7 a8 (0 : Int) a1 (0 : Int) ([] : List (List Int)) r h)
        · obtain ⟨x1897, h1898, h⟩ := bind_inv h
          rcases br_inv h with ⟨h1899, h⟩ | ⟨h1899, h⟩
          · exact Abs.Good.path hm [.reg [], .reg [(1, { call := some { lend := [], pass := [], res := .v (.p (Kd.int .i64) x1889), outs := [], back := [] } })], .reg [], .cond false, .reg [], .cond false, .reg [], .reg [], .cond false, .reg [], .cond false, .reg [(3, { call := some { lend := [], pass := [], res := .v (.agg [.p (Kd.int .i64) x1897.1, .p (Kd.arr 16 (Kd.int .u8)) x1897.2.1, .p (Kd.int .i64) x1897.2.2.1, .p (Kd.arr 16 (Kd.int .u8)) x1897.2.2.2.1, .p (Kd.int .i64) x1897.2.2.2.2.1, .nilsl, .p Kd.str x1897.2.2.2.2.2]), outs := [], back := [] } })], .reg [(6, { dec := some true }), (7, { dec := some true }), (8, { dec := some true }), (9, { dec := some true }), (10, { dec := some true }), (11, { pick := some true })], .keep [sk 2, sk 3, sk 4, sk 6, sk 14, sk 157, ek 2, ek 3, ek 4, ek 6, ek 14], .ren [(2, 502001), (3, 502002), (4, 502003), (6, 502004), (14, 502005)]] (cs := [_, _, _, _, _, _, _, _, _, _, _, _, _]) (by kernel_rfl) ⟨(antiquaryref44_Check_ok k a2 a3 a4 a5 a6 a7 a8 _ h1890), h1891, h1892, h1895, h1896, (antiquaryref44_Sum_ok k a1 a3 a4 _ h1898), eq26, h1899, h1899, h1899, h1899, h1899, h1899, trivial⟩ (antiquaryref44_Hear_l2_ok k (x1897.2.2.2.2.1 == a6) a1 a2 a3 a4 a5 a6 a7 a8 (0 : Int) a1 (0 : Int) x1897.1 x1897.2.1 x1897.2.2.1 x1897.2.2.2.1 x1897.2.2.2.2.1 x1897.2.2.2.2.2 r h)
          · exact Abs.Good.path hm [.reg [], .reg [(1, { call := some { lend := [], pass := [], res := .v (.p (Kd.int .i64) x1889), outs := [], back := [] } })], .reg [], .cond false, .reg [], .cond false, .reg [], .reg [], .cond false, .reg [], .cond false, .reg [(3, { call := some { lend := [], pass := [], res := .v (.agg [.p (Kd.int .i64) x1897.1, .p (Kd.arr 16 (Kd.int .u8)) x1897.2.1, .p (Kd.int .i64) x1897.2.2.1, .p (Kd.arr 16 (Kd.int .u8)) x1897.2.2.2.1, .p (Kd.int .i64) x1897.2.2.2.2.1, .nilsl, .p Kd.str x1897.2.2.2.2.2]), outs := [], back := [] } })], .reg [(6, { dec := some false }), (7, { dec := some false }), (8, { dec := some false }), (9, { dec := some false }), (10, { dec := some false }), (11, { pick := some false })], .keep [sk 2, sk 3, sk 4, sk 6, sk 14, sk 157, ek 2, ek 3, ek 4, ek 6, ek 14], .ren [(2, 502001), (3, 502002), (4, 502003), (6, 502004), (14, 502005)]] (cs := [_, _, _, _, _, _, _, _, _, _, _, _, _]) (by kernel_rfl) ⟨(antiquaryref44_Check_ok k a2 a3 a4 a5 a6 a7 a8 _ h1890), h1891, h1892, h1895, h1896, (antiquaryref44_Sum_ok k a1 a3 a4 _ h1898), eq26, h1899, h1899, h1899, h1899, h1899, h1899, trivial⟩ (antiquaryref44_Hear_l2_ok k false a1 a2 a3 a4 a5 a6 a7 a8 (0 : Int) a1 (0 : Int) x1897.1 x1897.2.1 x1897.2.2.1 x1897.2.2.2.1 x1897.2.2.2.2.1 x1897.2.2.2.2.2 r h)

def antiquaryref44_SameNames_l0 : Nat → List (List Int) → List (List Int) → Int → Option (Bool)
  | 0, _, _, _ => none
  | k + 1, p1, p2, p3 =>
    if (decide (p3 < (List.length p1 : Int))) = true then
      if 0 ≤ p3 ∧ p3 < (List.length p1 : Int) then
        if p3 < (List.length p2 : Int) then
          if (!(Kd.eqb (Kd.arr 16 (Kd.int .u8)) (List.getD p1 (Int.toNat p3) (Kd.dflt (Kd.arr 16 (Kd.int .u8)))) (List.getD p2 (Int.toNat p3) (Kd.dflt (Kd.arr 16 (Kd.int .u8)))))) = true then
            some (false)
          else
            antiquaryref44_SameNames_l0 k p1 p2 (IntKind.i64.wrap (p3 + (1 : Int)))
        else none
      else none
    else
      some (true)
def antiquaryref44_SameNames (k : Nat) (a1 : List (List Int)) (a2 : List (List Int)) : Option (Bool) :=
  if ((List.length a1 : Int) != (List.length a2 : Int)) = true then
    some (false)
  else
    antiquaryref44_SameNames_l0 k a1 a2 (0 : Int)
theorem antiquaryref44_SameNames_l0_ok (k : Nat) : ∀ (p1 : List (List Int)) (p2 : List (List Int)) (p3 : Int) (r : Bool), antiquaryref44_SameNames_l0 k p1 p2 p3 = some r →
    Abs.Good P 25 Tryd.f25.ntmps [] [] (.v (.p Kd.bool r)) (pos Tryd.f25 [.r, .r, .c false, .r]) [(sk 0, some (.v (.p (Kd.sl (Kd.arr 16 (Kd.int .u8))) p1))), (sk 1, some (.v (.p (Kd.sl (Kd.arr 16 (Kd.int .u8))) p2))), (sk 5, some (.v (.p (Kd.int .i64) p3)))] := by
  induction k with
  | zero => intro p1 p2 p3 r h; cases h
  | succ k ih =>
    intro p1 p2 p3 r h
    unfold antiquaryref44_SameNames_l0 at h
    rcases br_inv h with ⟨h1974, h⟩ | ⟨h1974, h⟩
    · obtain ⟨h1975, h⟩ := gd_inv h
      obtain ⟨h1976, h⟩ := gd_inv h
      rcases br_inv h with ⟨h1977, h⟩ | ⟨h1977, h⟩
      · replace h := Option.some.inj h; subst h
        exact Abs.Good.path_ret hm [.reg [], .cond true, .reg [], .cond true, .reg []] [] Tryd.func25 (cs := [_, _, _, _, _, _, _]) (by kernel_rfl) ⟨h1974, h1975.1, h1975.2, h1975.1, h1976, eq26, h1977, trivial⟩ (by kernel_rfl)
      · exact Abs.Good.path hm [.reg [], .cond true, .reg [], .cond false, .reg [], .keep [sk 0, sk 1, sk 5]] (cs := [_, _, _, _, _, _, _]) (by kernel_rfl) ⟨h1974, h1975.1, h1975.2, h1975.1, h1976, eq26, h1977, trivial⟩ (ih p1 p2 (IntKind.i64.wrap (p3 + (1 : Int))) r h)
    · replace h := Option.some.inj h; subst h
      exact Abs.Good.path_ret hm [.reg [], .cond false, .reg []] [] Tryd.func25 (cs := [_]) (by kernel_rfl) ⟨h1974, trivial⟩ (by kernel_rfl)
theorem antiquaryref44_SameNames_ok (k : Nat) (a1 : List (List Int)) (a2 : List (List Int)) (r : Bool) (h : antiquaryref44_SameNames k a1 a2 = some r) : SpecOk P ⟨25, [.p (Kd.sl (Kd.arr 16 (Kd.int .u8))) a1, .p (Kd.sl (Kd.arr 16 (Kd.int .u8))) a2], [], .v (.p Kd.bool r), []⟩ := by
  refine spec_at Tryd.func25 (by kernel_rfl) (Nat.le_of_ble_eq_true (by kernel_rfl)) ?_
  unfold antiquaryref44_SameNames at h
  rcases br_inv h with ⟨h1973, h⟩ | ⟨h1973, h⟩
  · replace h := Option.some.inj h; subst h
    exact Abs.Good.path_ret hm [.reg [], .reg [], .cond true, .reg []] [] Tryd.func25 (cs := [_]) (by kernel_rfl) ⟨h1973, trivial⟩ (by kernel_rfl)
  · exact Abs.Good.path hm [.reg [], .reg [], .cond false, .reg [], .keep [sk 0, sk 1, sk 5]] (cs := [_]) (by kernel_rfl) ⟨h1973, trivial⟩ (antiquaryref44_SameNames_l0_ok k a1 a2 (0 : Int) r h)

def antiquaryref44_SameParcels_l1 (s0 : List Pt → List Pt → Int → Option (Bool)) (k : Nat) (p1 : List Pt) (p2 : List Pt) (p3 : Int) (p4 : Bool) : Option (Bool) :=
  if p4 = true then
    some (false)
  else
    s0 p1 p2 (IntKind.i64.wrap (p3 + (1 : Int)))
def antiquaryref44_SameParcels_l0 : Nat → List Pt → List Pt → Int → Option (Bool)
  | 0, _, _, _ => none
  | k + 1, p1, p2, p3 =>
    if (decide (p3 < (List.length p1 : Int))) = true then
      if 0 ≤ p3 ∧ p3 < (List.length p1 : Int) then
        if p3 < (List.length p2 : Int) then
          if ((List.getD p1 (Int.toNat p3) (Kd.dflt KP)).1 != (List.getD p2 (Int.toNat p3) (Kd.dflt KP)).1) = true then
            antiquaryref44_SameParcels_l1 (antiquaryref44_SameParcels_l0 k) k p1 p2 p3 true
          else
            if (!(Kd.eqb KX ((((List.getD p1 (Int.toNat p3) (Kd.dflt KP)).2).1).1, (((((List.getD p1 (Int.toNat p3) (Kd.dflt KP)).2).1).2).1, ())) ((((List.getD p2 (Int.toNat p3) (Kd.dflt KP)).2).1).1, (((((List.getD p2 (Int.toNat p3) (Kd.dflt KP)).2).1).2).1, ())))) = true then
              antiquaryref44_SameParcels_l1 (antiquaryref44_SameParcels_l0 k) k p1 p2 p3 true
            else
              if (!(Kd.eqb (Kd.arr 16 (Kd.int .u8)) ((((List.getD p1 (Int.toNat p3) (Kd.dflt KP)).2).2).1) ((((List.getD p2 (Int.toNat p3) (Kd.dflt KP)).2).2).1))) = true then
                antiquaryref44_SameParcels_l1 (antiquaryref44_SameParcels_l0 k) k p1 p2 p3 true
              else
                if (((((List.getD p1 (Int.toNat p3) (Kd.dflt KP)).2).2).2).1 != ((((List.getD p2 (Int.toNat p3) (Kd.dflt KP)).2).2).2).1) = true then
                  antiquaryref44_SameParcels_l1 (antiquaryref44_SameParcels_l0 k) k p1 p2 p3 true
                else
                  if (!(ByteArray.toList (((((((List.getD p1 (Int.toNat p3) (Kd.dflt KP)).2).2).2).2).2).1) == ByteArray.toList (((((((List.getD p2 (Int.toNat p3) (Kd.dflt KP)).2).2).2).2).2).1))) = true then
                    antiquaryref44_SameParcels_l1 (antiquaryref44_SameParcels_l0 k) k p1 p2 p3 true
                  else
                    Option.bind (antiquaryref44_SameNames k ((((((List.getD p1 (Int.toNat p3) (Kd.dflt KP)).2).2).2).2).1) ((((((List.getD p2 (Int.toNat p3) (Kd.dflt KP)).2).2).2).2).1)) fun x1978 =>
                    antiquaryref44_SameParcels_l1 (antiquaryref44_SameParcels_l0 k) k p1 p2 p3 (!x1978)
        else none
      else none
    else
      some (true)
def antiquaryref44_SameParcels (k : Nat) (a1 : List Pt) (a2 : List Pt) : Option (Bool) :=
  if ((List.length a1 : Int) != (List.length a2 : Int)) = true then
    some (false)
  else
    antiquaryref44_SameParcels_l0 k a1 a2 (0 : Int)
theorem antiquaryref44_SameParcels_l1_ok (s0 : List Pt → List Pt → Int → Option (Bool)) (hs0 : ∀ (p1 : List Pt) (p2 : List Pt) (p3 : Int) (r : Bool), s0 p1 p2 p3 = some r → Abs.Good P 28 Tryd.f28.ntmps [] [] (.v (.p Kd.bool r)) (pos Tryd.f28 [.r, .r, .c false, .r]) [(sk 0, some (.v (.p (Kd.sl KP) p1))), (sk 1, some (.v (.p (Kd.sl KP) p2))), (sk 5, some (.v (.p (Kd.int .i64) p3)))]) (k : Nat) (p1 : List Pt) (p2 : List Pt) (p3 : Int) (p4 : Bool) (r : Bool) (h : antiquaryref44_SameParcels_l1 s0 k p1 p2 p3 p4 = some r) :
    Abs.Good P 28 Tryd.f28.ntmps [] [] (.v (.p Kd.bool r)) (pos Tryd.f28 [.r, .r, .c false, .r, .r, .c true, .r]) [(sk 0, some (.v (.p (Kd.sl KP) p1))), (sk 1, some (.v (.p (Kd.sl KP) p2))), (sk 5, some (.v (.p (Kd.int .i64) p3))), (sk 93, some (.v (.p Kd.bool p4)))] := by
  unfold antiquaryref44_SameParcels_l1 at h
  rcases br_inv h with ⟨h1980, h⟩ | ⟨h1980, h⟩
  · replace h := Option.some.inj h; subst h
    exact Abs.Good.path_ret hm [.cond true, .reg []] [] Tryd.func28 (cs := [_]) (by kernel_rfl) ⟨h1980, trivial⟩ (by kernel_rfl)
  · exact Abs.Good.path hm [.cond false, .reg [], .keep [sk 0, sk 1, sk 5]] (cs := [_]) (by kernel_rfl) ⟨h1980, trivial⟩ (hs0 p1 p2 (IntKind.i64.wrap (p3 + (1 : Int))) r h)
theorem antiquaryref44_SameParcels_l0_ok (k : Nat) : ∀ (p1 : List Pt) (p2 : List Pt) (p3 : Int) (r : Bool), antiquaryref44_SameParcels_l0 k p1 p2 p3 = some r →
    Abs.Good P 28 Tryd.f28.ntmps [] [] (.v (.p Kd.bool r)) (pos Tryd.f28 [.r, .r, .c false, .r]) [(sk 0, some (.v (.p (Kd.sl KP) p1))), (sk 1, some (.v (.p (Kd.sl KP) p2))), (sk 5, some (.v (.p (Kd.int .i64) p3)))] := by
  induction k with
  | zero => intro p1 p2 p3 r h; cases h
  | succ k ih =>
    intro p1 p2 p3 r h
    unfold antiquaryref44_SameParcels_l0 at h
    rcases br_inv h with ⟨h1963, h⟩ | ⟨h1963, h⟩
    · obtain ⟨h1964, h⟩ := gd_inv h
      obtain ⟨h1965, h⟩ := gd_inv h
      rcases br_inv h with ⟨h1966, h⟩ | ⟨h1966, h⟩
      · exact Abs.Good.path hm [.reg [], .cond true, .reg [(12, { dec := some true }), (13, { dec := some true }), (14, { dec := some true }), (15, { dec := some true }), (16, { dec := some true }), (17, { dec := some true }), (18, { dec := some true }), (19, { dec := some true }), (20, { dec := some true }), (21, { dec := some true }), (22, { dec := some true }), (23, { pick := some true }), (25, { dec := some true }), (26, { dec := some true }), (27, { dec := some true }), (28, { dec := some true }), (29, { dec := some true }), (30, { dec := some true }), (31, { dec := some true }), (32, { dec := some true }), (33, { dec := some true }), (34, { dec := some true }), (35, { dec := some true }), (36, { pick := some true }), (38, { dec := some true }), (39, { dec := some true }), (40, { dec := some true }), (41, { dec := some true }), (42, { dec := some true }), (43, { dec := some true }), (44, { dec := some true }), (45, { dec := some true }), (46, { dec := some true }), (47, { dec := some true }), (48, { dec := some true }), (49, { pick := some true }), (51, { dec := some true }), (52, { dec := some true }), (53, { dec := some true }), (54, { dec := some true }), (55, { dec := some true }), (56, { dec := some true }), (57, { dec := some true }), (58, { dec := some true }), (59, { dec := some true }), (60, { dec := some true }), (61, { dec := some true }), (62, { pick := some true }), (64, { dec := some true }), (65, { dec := some true }), (66, { dec := some true }), (67, { dec := some true }), (68, { dec := some true }), (69, { dec := some true }), (70, { dec := some true }), (71, { dec := some true }), (72, { dec := some true }), (73, { dec := some true }), (74, { dec := some true }), (75, { dec := some true }), (76, { pick := some true })], .keep [sk 0, sk 1, sk 5, sk 93]] (cs := [_, _, _, _, _, _, _, _, _, _, _, _, _, _, _, _, _, _, _, _, _, _, _, _, _, _, _, _, _, _, _, _, _, _, _, _, _, _, _, _, _, _, _, _, _, _, _, _, _, _, _, _, _, _, _, _, _, _, _, _, _, _, _, _, _, _]) (by kernel_rfl) ⟨h1963, h1964.1, h1964.2, h1964.1, h1965, h1966, h1966, h1966, h1966, h1966, h1966, h1966, h1966, h1966, h1966, h1966, h1966, (rfl : true = true), (rfl : true = true), (rfl : true = true), (rfl : true = true), (rfl : true = true), (rfl : true = true), (rfl : true = true), (rfl : true = true), (rfl : true = true), (rfl : true = true), (rfl : true = true), (rfl : true = true), (rfl : true = true), (rfl : true = true), (rfl : true = true), (rfl : true = true), (rfl : true = true), (rfl : true = true), (rfl : true = true), (rfl : true = true), (rfl : true = true), (rfl : true = true), (rfl : true = true), (rfl : true = true), (rfl : true = true), (rfl : true = true), (rfl : true = true), (rfl : true = true), (rfl : true = true), (rfl : true = true), (rfl : true = true), (rfl : true = true), (rfl : true = true), (rfl : true = true), (rfl : true = true), (rfl : true = true), (rfl : true = true), (rfl : true = true), (rfl : true = true), (rfl : true = true), (rfl : true = true), (rfl : true = true), (rfl : true = true), (rfl : true = true), (rfl : true = true), (rfl : true = true), (rfl : true = true), (rfl : true = true), (rfl : true = true), trivial⟩ (antiquaryref44_SameParcels_l1_ok (antiquaryref44_SameParcels_l0 k) ih k p1 p2 p3 true r h)
      · rcases br_inv h with ⟨h1967, h⟩ | ⟨h1967, h⟩
        · exact Abs.Good.path hm [.reg [], .cond true, .reg [(12, { dec := some false }), (13, { dec := some false }), (14, { dec := some false }), (15, { dec := some false }), (16, { dec := some false }), (17, { dec := some false }), (18, { dec := some false }), (19, { dec := some false }), (20, { dec := some false }), (21, { dec := some false }), (22, { dec := some false }), (23, { pick := some false }), (25, { dec := some true }), (26, { dec := some true }), (27, { dec := some true }), (28, { dec := some true }), (29, { dec := some true }), (30, { dec := some true }), (31, { dec := some true }), (32, { dec := some true }), (33, { dec := some true }), (34, { dec := some true }), (35, { dec := some true }), (36, { pick := some true }), (38, { dec := some true }), (39, { dec := some true }), (40, { dec := some true }), (41, { dec := some true }), (42, { dec := some true }), (43, { dec := some true }), (44, { dec := some true }), (45, { dec := some true }), (46, { dec := some true }), (47, { dec := some true }), (48, { dec := some true }), (49, { pick := some true }), (51, { dec := some true }), (52, { dec := some true }), (53, { dec := some true }), (54, { dec := some true }), (55, { dec := some true }), (56, { dec := some true }), (57, { dec := some true }), (58, { dec := some true }), (59, { dec := some true }), (60, { dec := some true }), (61, { dec := some true }), (62, { pick := some true }), (64, { dec := some true }), (65, { dec := some true }), (66, { dec := some true }), (67, { dec := some true }), (68, { dec := some true }), (69, { dec := some true }), (70, { dec := some true }), (71, { dec := some true }), (72, { dec := some true }), (73, { dec := some true }), (74, { dec := some true }), (75, { dec := some true }), (76, { pick := some true })], .keep [sk 0, sk 1, sk 5, sk 93]] (cs := [_, _, _, _, _, _, _, _, _, _, _, _, _, _, _, _, _, _, _, _, _, _, _, _, _, _, _, _, _, _, _, _, _, _, _, _, _, _, _, _, _, _, _, _, _, _, _, _, _, _, _, _, _, _, _, _, _, _, _, _, _, _, _, _, _, _, _, _, _, _, _]) (by kernel_rfl) ⟨h1963, h1964.1, h1964.2, h1964.1, h1965, h1966, h1966, h1966, h1964.1, h1964.2, h1966, h1966, h1966, h1966, h1966, h1964.1, h1965, h1966, h1966, h1966, eq28, h1966, h1967, h1967, h1967, h1967, h1967, h1967, h1967, h1967, h1967, h1967, h1967, h1967, (rfl : true = true), (rfl : true = true), (rfl : true = true), (rfl : true = true), (rfl : true = true), (rfl : true = true), (rfl : true = true), (rfl : true = true), (rfl : true = true), (rfl : true = true), (rfl : true = true), (rfl : true = true), (rfl : true = true), (rfl : true = true), (rfl : true = true), (rfl : true = true), (rfl : true = true), (rfl : true = true), (rfl : true = true), (rfl : true = true), (rfl : true = true), (rfl : true = true), (rfl : true = true), (rfl : true = true), (rfl : true = true), (rfl : true = true), (rfl : true = true), (rfl : true = true), (rfl : true = true), (rfl : true = true), (rfl : true = true), (rfl : true = true), (rfl : true = true), (rfl : true = true), (rfl : true = true), (rfl : true = true), (rfl : true = true), trivial⟩ (antiquaryref44_SameParcels_l1_ok (antiquaryref44_SameParcels_l0 k) ih k p1 p2 p3 true r h)
        · rcases br_inv h with ⟨h1968, h⟩ | ⟨h1968, h⟩
          · exact Abs.Good.path hm [.reg [], .cond true, .reg [(12, { dec := some false }), (13, { dec := some false }), (14, { dec := some false }), (15, { dec := some false }), (16, { dec := some false }), (17, { dec := some false }), (18, { dec := some false }), (19, { dec := some false }), (20, { dec := some false }), (21, { dec := some false }), (22, { dec := some false }), (23, { pick := some false }), (25, { dec := some false }), (26, { dec := some false }), (27, { dec := some false }), (28, { dec := some false }), (29, { dec := some false }), (30, { dec := some false }), (31, { dec := some false }), (32, { dec := some false }), (33, { dec := some false }), (34, { dec := some false }), (35, { dec := some false }), (36, { pick := some false }), (38, { dec := some true }), (39, { dec := some true }), (40, { dec := some true }), (41, { dec := some true }), (42, { dec := some true }), (43, { dec := some true }), (44, { dec := some true }), (45, { dec := some true }), (46, { dec := some true }), (47, { dec := some true }), (48, { dec := some true }), (49, { pick := some true }), (51, { dec := some true }), (52, { dec := some true }), (53, { dec := some true }), (54, { dec := some true }), (55, { dec := some true }), (56, { dec := some true }), (57, { dec := some true }), (58, { dec := some true }), (59, { dec := some true }), (60, { dec := some true }), (61, { dec := some true }), (62, { pick := some true }), (64, { dec := some true }), (65, { dec := some true }), (66, { dec := some true }), (67, { dec := some true }), (68, { dec := some true }), (69, { dec := some true }), (70, { dec := some true }), (71, { dec := some true }), (72, { dec := some true }), (73, { dec := some true }), (74, { dec := some true }), (75, { dec := some true }), (76, { pick := some true })], .keep [sk 0, sk 1, sk 5, sk 93]] (cs := [_, _, _, _, _, _, _, _, _, _, _, _, _, _, _, _, _, _, _, _, _, _, _, _, _, _, _, _, _, _, _, _, _, _, _, _, _, _, _, _, _, _, _, _, _, _, _, _, _, _, _, _, _, _, _, _, _, _, _, _, _, _, _, _, _, _, _, _, _, _, _, _, _, _, _, _]) (by kernel_rfl) ⟨h1963, h1964.1, h1964.2, h1964.1, h1965, h1966, h1966, h1966, h1964.1, h1964.2, h1966, h1966, h1966, h1966, h1966, h1964.1, h1965, h1966, h1966, h1966, eq28, h1966, h1967, h1967, h1967, h1964.1, h1964.2, h1967, h1967, h1967, h1967, h1967, h1964.1, h1965, h1967, h1967, h1967, eq26, h1967, h1968, h1968, h1968, h1968, h1968, h1968, h1968, h1968, h1968, h1968, h1968, h1968, (rfl : true = true), (rfl : true = true), (rfl : true = true), (rfl : true = true), (rfl : true = true), (rfl : true = true), (rfl : true = true), (rfl : true = true), (rfl : true = true), (rfl : true = true), (rfl : true = true), (rfl : true = true), (rfl : true = true), (rfl : true = true), (rfl : true = true), (rfl : true = true), (rfl : true = true), (rfl : true = true), (rfl : true = true), (rfl : true = true), (rfl : true = true), (rfl : true = true), (rfl : true = true), (rfl : true = true), (rfl : true = true), trivial⟩ (antiquaryref44_SameParcels_l1_ok (antiquaryref44_SameParcels_l0 k) ih k p1 p2 p3 true r h)
          · rcases br_inv h with ⟨h1969, h⟩ | ⟨h1969, h⟩
            · exact Abs.Good.path hm [.reg [], .cond true, .reg [(12, { dec := some false }), (13, { dec := some false }), (14, { dec := some false }), (15, { dec := some false }), (16, { dec := some false }), (17, { dec := some false }), (18, { dec := some false }), (19, { dec := some false }), (20, { dec := some false }), (21, { dec := some false }), (22, { dec := some false }), (23, { pick := some false }), (25, { dec := some false }), (26, { dec := some false }), (27, { dec := some false }), (28, { dec := some false }), (29, { dec := some false }), (30, { dec := some false }), (31, { dec := some false }), (32, { dec := some false }), (33, { dec := some false }), (34, { dec := some false }), (35, { dec := some false }), (36, { pick := some false }), (38, { dec := some false }), (39, { dec := some false }), (40, { dec := some false }), (41, { dec := some false }), (42, { dec := some false }), (43, { dec := some false }), (44, { dec := some false }), (45, { dec := some false }), (46, { dec := some false }), (47, { dec := some false }), (48, { dec := some false }), (49, { pick := some false }), (51, { dec := some true }), (52, { dec := some true }), (53, { dec := some true }), (54, { dec := some true }), (55, { dec := some true }), (56, { dec := some true }), (57, { dec := some true }), (58, { dec := some true }), (59, { dec := some true }), (60, { dec := some true }), (61, { dec := some true }), (62, { pick := some true }), (64, { dec := some true }), (65, { dec := some true }), (66, { dec := some true }), (67, { dec := some true }), (68, { dec := some true }), (69, { dec := some true }), (70, { dec := some true }), (71, { dec := some true }), (72, { dec := some true }), (73, { dec := some true }), (74, { dec := some true }), (75, { dec := some true }), (76, { pick := some true })], .keep [sk 0, sk 1, sk 5, sk 93]] (cs := [_, _, _, _, _, _, _, _, _, _, _, _, _, _, _, _, _, _, _, _, _, _, _, _, _, _, _, _, _, _, _, _, _, _, _, _, _, _, _, _, _, _, _, _, _, _, _, _, _, _, _, _, _, _, _, _, _, _, _, _, _, _, _, _, _, _, _, _, _, _, _, _, _, _, _, _, _, _, _, _]) (by kernel_rfl) ⟨h1963, h1964.1, h1964.2, h1964.1, h1965, h1966, h1966, h1966, h1964.1, h1964.2, h1966, h1966, h1966, h1966, h1966, h1964.1, h1965, h1966, h1966, h1966, eq28, h1966, h1967, h1967, h1967, h1964.1, h1964.2, h1967, h1967, h1967, h1967, h1967, h1964.1, h1965, h1967, h1967, h1967, eq26, h1967, h1968, h1968, h1968, h1964.1, h1964.2, h1968, h1968, h1968, h1968, h1968, h1964.1, h1965, h1968, h1968, h1968, h1968, h1969, h1969, h1969, h1969, h1969, h1969, h1969, h1969, h1969, h1969, h1969, h1969, (rfl : true = true), (rfl : true = true), (rfl : true = true), (rfl : true = true), (rfl : true = true), (rfl : true = true), (rfl : true = true), (rfl : true = true), (rfl : true = true), (rfl : true = true), (rfl : true = true), (rfl : true = true), (rfl : true = true), trivial⟩ (antiquaryref44_SameParcels_l1_ok (antiquaryref44_SameParcels_l0 k) ih k p1 p2 p3 true r h)
            · rcases br_inv h with ⟨h1970, h⟩ | ⟨h1970, h⟩
              · exact Abs.Good.path hm [.reg [], .cond true, .reg [(12, { dec := some false }), (13, { dec := some false }), (14, { dec := some false }), (15, { dec := some false }), (16, { dec := some false }), (17, { dec := some false }), (18, { dec := some false }), (19, { dec := some false }), (20, { dec := some false }), (21, { dec := some false }), (22, { dec := some false }), (23, { pick := some false }), (25, { dec := some false }), (26, { dec := some false }), (27, { dec := some false }), (28, { dec := some false }), (29, { dec := some false }), (30, { dec := some false }), (31, { dec := some false }), (32, { dec := some false }), (33, { dec := some false }), (34, { dec := some false }), (35, { dec := some false }), (36, { pick := some false }), (38, { dec := some false }), (39, { dec := some false }), (40, { dec := some false }), (41, { dec := some false }), (42, { dec := some false }), (43, { dec := some false }), (44, { dec := some false }), (45, { dec := some false }), (46, { dec := some false }), (47, { dec := some false }), (48, { dec := some false }), (49, { pick := some false }), (51, { dec := some false }), (52, { dec := some false }), (53, { dec := some false }), (54, { dec := some false }), (55, { dec := some false }), (56, { dec := some false }), (57, { dec := some false }), (58, { dec := some false }), (59, { dec := some false }), (60, { dec := some false }), (61, { dec := some false }), (62, { pick := some false }), (64, { dec := some true }), (65, { dec := some true }), (66, { dec := some true }), (67, { dec := some true }), (68, { dec := some true }), (69, { dec := some true }), (70, { dec := some true }), (71, { dec := some true }), (72, { dec := some true }), (73, { dec := some true }), (74, { dec := some true }), (75, { dec := some true }), (76, { pick := some true })], .keep [sk 0, sk 1, sk 5, sk 93]] (cs := [_, _, _, _, _, _, _, _, _, _, _, _, _, _, _, _, _, _, _, _, _, _, _, _, _, _, _, _, _, _, _, _, _, _, _, _, _, _, _, _, _, _, _, _, _, _, _, _, _, _, _, _, _, _, _, _, _, _, _, _, _, _, _, _, _, _, _, _, _, _, _, _, _, _, _, _, _, _, _, _, _, _, _, _]) (by kernel_rfl) ⟨h1963, h1964.1, h1964.2, h1964.1, h1965, h1966, h1966, h1966, h1964.1, h1964.2, h1966, h1966, h1966, h1966, h1966, h1964.1, h1965, h1966, h1966, h1966, eq28, h1966, h1967, h1967, h1967, h1964.1, h1964.2, h1967, h1967, h1967, h1967, h1967, h1964.1, h1965, h1967, h1967, h1967, eq26, h1967, h1968, h1968, h1968, h1964.1, h1964.2, h1968, h1968, h1968, h1968, h1968, h1964.1, h1965, h1968, h1968, h1968, h1968, h1969, h1969, h1969, h1964.1, h1964.2, h1969, h1969, h1969, h1969, h1969, h1964.1, h1965, h1969, h1969, h1969, h1969, h1970, h1970, h1970, h1970, h1970, h1970, h1970, h1970, h1970, h1970, h1970, h1970, h1970, trivial⟩ (antiquaryref44_SameParcels_l1_ok (antiquaryref44_SameParcels_l0 k) ih k p1 p2 p3 true r h)
              · obtain ⟨x1978, h1979, h⟩ := bind_inv h
                exact Abs.Good.path hm [.reg [], .cond true, .reg [(12, { dec := some false }), (13, { dec := some false }), (14, { dec := some false }), (15, { dec := some false }), (16, { dec := some false }), (17, { dec := some false }), (18, { dec := some false }), (19, { dec := some false }), (20, { dec := some false }), (21, { dec := some false }), (22, { dec := some false }), (23, { pick := some false }), (25, { dec := some false }), (26, { dec := some false }), (27, { dec := some false }), (28, { dec := some false }), (29, { dec := some false }), (30, { dec := some false }), (31, { dec := some false }), (32, { dec := some false }), (33, { dec := some false }), (34, { dec := some false }), (35, { dec := some false }), (36, { pick := some false }), (38, { dec := some false }), (39, { dec := some false }), (40, { dec := some false }), (41, { dec := some false }), (42, { dec := some false }), (43, { dec := some false }), (44, { dec := some false }), (45, { dec := some false }), (46, { dec := some false }), (47, { dec := some false }), (48, { dec := some false }), (49, { pick := some false }), (51, { dec := some false }), (52, { dec := some false }), (53, { dec := some false }), (54, { dec := some false }), (55, { dec := some false }), (56, { dec := some false }), (57, { dec := some false }), (58, { dec := some false }), (59, { dec := some false }), (60, { dec := some false }), (61, { dec := some false }), (62, { pick := some false }), (64, { dec := some false }), (65, { dec := some false }), (66, { dec := some false }), (67, { dec := some false }), (68, { dec := some false }), (69, { dec := some false }), (70, { dec := some false }), (71, { dec := some false }), (72, { dec := some false }), (73, { dec := some false }), (74, { dec := some false, call := some { lend := [], pass := [], res := .v (.p Kd.bool x1978), outs := [], back := [] } }), (75, { dec := some false }), (76, { pick := some false })], .keep [sk 0, sk 1, sk 5, sk 93]] (cs := [_, _, _, _, _, _, _, _, _, _, _, _, _, _, _, _, _, _, _, _, _, _, _, _, _, _, _, _, _, _, _, _, _, _, _, _, _, _, _, _, _, _, _, _, _, _, _, _, _, _, _, _, _, _, _, _, _, _, _, _, _, _, _, _, _, _, _, _, _, _, _, _, _, _, _, _, _, _, _, _, _, _, _, _, _, _, _, _, _]) (by kernel_rfl) ⟨h1963, h1964.1, h1964.2, h1964.1, h1965, h1966, h1966, h1966, h1964.1, h1964.2, h1966, h1966, h1966, h1966, h1966, h1964.1, h1965, h1966, h1966, h1966, eq28, h1966, h1967, h1967, h1967, h1964.1, h1964.2, h1967, h1967, h1967, h1967, h1967, h1964.1, h1965, h1967, h1967, h1967, eq26, h1967, h1968, h1968, h1968, h1964.1, h1964.2, h1968, h1968, h1968, h1968, h1968, h1964.1, h1965, h1968, h1968, h1968, h1968, h1969, h1969, h1969, h1964.1, h1964.2, h1969, h1969, h1969, h1969, h1969, h1964.1, h1965, h1969, h1969, h1969, h1969, h1970, h1970, h1970, h1964.1, h1964.2, h1970, h1970, h1970, h1970, h1970, h1964.1, h1965, h1970, h1970, h1970, (antiquaryref44_SameNames_ok k ((((((List.getD p1 (Int.toNat p3) (Kd.dflt KP)).2).2).2).2).1) ((((((List.getD p2 (Int.toNat p3) (Kd.dflt KP)).2).2).2).2).1) _ h1979), h1970, h1970, trivial⟩ (antiquaryref44_SameParcels_l1_ok (antiquaryref44_SameParcels_l0 k) ih k p1 p2 p3 (!x1978) r h)
    · replace h := Option.some.inj h; subst h
      exact Abs.Good.path_ret hm [.reg [], .cond false, .reg []] [] Tryd.func28 (cs := [_]) (by kernel_rfl) ⟨h1963, trivial⟩ (by kernel_rfl)
theorem antiquaryref44_SameParcels_ok (k : Nat) (a1 : List Pt) (a2 : List Pt) (r : Bool) (h : antiquaryref44_SameParcels k a1 a2 = some r) : SpecOk P ⟨28, [.p (Kd.sl KP) a1, .p (Kd.sl KP) a2], [], .v (.p Kd.bool r), []⟩ := by
  refine spec_at Tryd.func28 (by kernel_rfl) (Nat.le_of_ble_eq_true (by kernel_rfl)) ?_
  unfold antiquaryref44_SameParcels at h
  rcases br_inv h with ⟨h1962, h⟩ | ⟨h1962, h⟩
  · replace h := Option.some.inj h; subst h
    exact Abs.Good.path_ret hm [.reg [], .reg [], .cond true, .reg []] [] Tryd.func28 (cs := [_]) (by kernel_rfl) ⟨h1962, trivial⟩ (by kernel_rfl)
  · exact Abs.Good.path hm [.reg [], .reg [], .cond false, .reg [], .keep [sk 0, sk 1, sk 5]] (cs := [_]) (by kernel_rfl) ⟨h1962, trivial⟩ (antiquaryref44_SameParcels_l0_ok k a1 a2 (0 : Int) r h)

def antiquarylaw44_ExchangeHearsAsSpecified_l0 (k : Nat) (p1 : Bool) (p2 : List It) (p3 : Int) (p4 : List Int) (p5 : Int) (p6 : List Int) (p7 : Int) (p8 : List (List Int)) (p9 : ByteArray) : Option (Bool) :=
  if p1 = true then
    Option.bind (antiquarylaw44_sanity k) fun x1108 =>
    some (x1108)
  else
    Option.bind (exchange_Hear k p2 p3 p4 p5 p6 p7 p8 p9) fun x1110 =>
    Option.bind (antiquaryref44_Hear k p2 p3 p4 p5 p6 p7 p8 p9) fun x1941 =>
    Option.bind (antiquarylaw44_sanity k) fun x1943 =>
    if x1943 = true then
      Option.bind (exchange_Check k p3 p4 p5 p6 p7 p8 p9) fun x1946 =>
      Option.bind (antiquaryref44_Check k p3 p4 p5 p6 p7 p8 p9) fun x1948 =>
      if (x1946 == x1948) = true then
        if (x1110.2.2 == x1941.2.2) = true then
          Option.bind (antiquaryref44_Same k x1110.1 x1941.1) fun x1952 =>
          if x1952 = true then
            Option.bind (antiquaryref44_SameParcels k x1110.2.1 x1941.2.1) fun x1981 =>
            some (x1981)
          else
            some (false)
        else
          some (false)
      else
        some (false)
    else
      some (false)
def antiquarylaw44_ExchangeHearsAsSpecified (k : Nat) (a1 : List It) (a2 : Int) (a3 : List Int) (a4 : Int) (a5 : List Int) (a6 : Int) (a7 : List (List Int)) (a8 : ByteArray) : Option (Bool) :=
  Option.bind (antiquarylaw44_valid k a1) fun x1103 =>
  if (!x1103) = true then
    antiquarylaw44_ExchangeHearsAsSpecified_l0 k true a1 a2 a3 a4 a5 a6 a7 a8
  else
    if (decide ((List.length a7 : Int) > (100 : Int))) = true then
      antiquarylaw44_ExchangeHearsAsSpecified_l0 k true a1 a2 a3 a4 a5 a6 a7 a8
    else
      antiquarylaw44_ExchangeHearsAsSpecified_l0 k (decide ((ByteArray.size a8 : Int) > (200 : Int))) a1 a2 a3 a4 a5 a6 a7 a8
theorem antiquarylaw44_ExchangeHearsAsSpecified_l0_ok (k : Nat) (p1 : Bool) (p2 : List It) (p3 : Int) (p4 : List Int) (p5 : Int) (p6 : List Int) (p7 : Int) (p8 : List (List Int)) (p9 : ByteArray) (r : Bool) (h : antiquarylaw44_ExchangeHearsAsSpecified_l0 k p1 p2 p3 p4 p5 p6 p7 p8 p9 = some r) :
    Abs.Good P 4 Tryd.f4.ntmps [] [] (.v (.p Kd.bool r)) (pos Tryd.f4 [.r, .r, .r]) [(sk 2, some (.v (.ptr 500001 0))), (sk 3, some (.v (.ptr 500002 0))), (sk 25, some (.v (.p Kd.bool p1))), (ek 500001, some (.box [.p (Kd.sl KI) p2])), (ek 500002, some (.box [.p (Kd.int .i64) p3, .p (Kd.arr 16 (Kd.int .u8)) p4, .p (Kd.int .i64) p5, .p (Kd.arr 16 (Kd.int .u8)) p6, .p (Kd.int .i64) p7, .p (Kd.sl (Kd.arr 16 (Kd.int .u8))) p8, .p Kd.str p9]))] := by
  unfold antiquarylaw44_ExchangeHearsAsSpecified_l0 at h
  rcases br_inv h with ⟨h1107, h⟩ | ⟨h1107, h⟩
  · obtain ⟨x1108, h1109, h⟩ := bind_inv h
    replace h := Option.some.inj h; subst h
    exact Abs.Good.path_ret hm [.cond true, .reg [(0, { call := some { lend := [], pass := [], res := .v (.p Kd.bool x1108), outs := [], back := [] } })]] [] Tryd.func4 (cs := [_, _]) (by kernel_rfl) ⟨h1107, (antiquarylaw44_sanity_ok k  _ h1109), trivial⟩ (by kernel_rfl)
  · obtain ⟨x1110, h1111, h⟩ := bind_inv h
    obtain ⟨x1941, h1942, h⟩ := bind_inv h
    obtain ⟨x1943, h1944, h⟩ := bind_inv h
    rcases br_inv h with ⟨h1945, h⟩ | ⟨h1945, h⟩
    · obtain ⟨x1946, h1947, h⟩ := bind_inv h
      obtain ⟨x1948, h1949, h⟩ := bind_inv h
      rcases br_inv h with ⟨h1950, h⟩ | ⟨h1950, h⟩
      · rcases br_inv h with ⟨h1951, h⟩ | ⟨h1951, h⟩
        · obtain ⟨x1952, h1953, h⟩ := bind_inv h
          rcases br_inv h with ⟨h1954, h⟩ | ⟨h1954, h⟩
          · obtain ⟨x1981, h1982, h⟩ := bind_inv h
            replace h := Option.some.inj h; subst h
            exact Abs.Good.path_ret hm [.cond false, .reg [(2, { call := some { lend := [], pass := [], res := .t [.agg [.p (Kd.sl KI) x1110.1], .p (Kd.sl KP) x1110.2.1, .p (Kd.int .i64) x1110.2.2], outs := [], back := [] } })], .reg [(2, { call := some { lend := [], pass := [], res := .v (.agg [.p (Kd.sl KI) x1941.1, .p (Kd.sl KP) x1941.2.1, .p (Kd.int .i64) x1941.2.2]), outs := [], back := [] } })], .reg [(0, { call := some { lend := [], pass := [], res := .v (.p Kd.bool x1943), outs := [], back := [] } }), (2, { dec := some true }), (3, { dec := some true, call := some { lend := [], pass := [], res := .v (.p (Kd.int .i64) x1946), outs := [], back := [] } }), (4, { dec := some true }), (5, { dec := some true, call := some { lend := [], pass := [], res := .v (.p (Kd.int .i64) x1948), outs := [], back := [] } }), (6, { dec := some true }), (7, { pick := some true }), (9, { dec := some true }), (10, { dec := some true }), (11, { dec := some true }), (12, { dec := some true }), (13, { pick := some true }), (15, { dec := some true }), (16, { dec := some true }), (17, { dec := some true }), (18, { dec := some true, call := some { lend := [], pass := [], res := .v (.p Kd.bool x1952), outs := [], back := [] } }), (19, { pick := some true }), (21, { dec := some true }), (22, { dec := some true }), (23, { dec := some true }), (24, { dec := some true, call := some { lend := [], pass := [], res := .v (.p Kd.bool x1981), outs := [], back := [] } }), (25, { pick := some true })]] [] Tryd.func4 (cs := [_, _, _, _, _, _, _, _, _, _, _, _, _, _, _, _, _, _, _, _, _, _, _, _, _, _, _, _, _]) (by kernel_rfl) ⟨h1107, (exchange_Hear_ok k p2 p3 p4 p5 p6 p7 p8 p9 _ h1111), (antiquaryref44_Hear_ok k p2 p3 p4 p5 p6 p7 p8 p9 _ h1942), (antiquarylaw44_sanity_ok k  _ h1944), h1945, h1945, (exchange_Check_ok k p3 p4 p5 p6 p7 p8 p9 _ h1947), h1945, h1945, (antiquaryref44_Check_ok k p3 p4 p5 p6 p7 p8 p9 _ h1949), h1945, h1945, h1950, h1950, h1950, h1950, h1950, h1951, h1951, h1951, h1951, (antiquaryref44_Same_ok k x1110.1 x1941.1 _ h1953), h1951, h1954, h1954, h1954, h1954, (antiquaryref44_SameParcels_ok k x1110.2.1 x1941.2.1 _ h1982), h1954, trivial⟩ (by kernel_rfl)
          · replace h := Option.some.inj h; subst h
            exact Abs.Good.path_ret hm [.cond false, .reg [(2, { call := some { lend := [], pass := [], res := .t [.agg [.p (Kd.sl KI) x1110.1], .p (Kd.sl KP) x1110.2.1, .p (Kd.int .i64) x1110.2.2], outs := [], back := [] } })], .reg [(2, { call := some { lend := [], pass := [], res := .v (.agg [.p (Kd.sl KI) x1941.1, .p (Kd.sl KP) x1941.2.1, .p (Kd.int .i64) x1941.2.2]), outs := [], back := [] } })], .reg [(0, { call := some { lend := [], pass := [], res := .v (.p Kd.bool x1943), outs := [], back := [] } }), (2, { dec := some true }), (3, { dec := some true, call := some { lend := [], pass := [], res := .v (.p (Kd.int .i64) x1946), outs := [], back := [] } }), (4, { dec := some true }), (5, { dec := some true, call := some { lend := [], pass := [], res := .v (.p (Kd.int .i64) x1948), outs := [], back := [] } }), (6, { dec := some true }), (7, { pick := some true }), (9, { dec := some true }), (10, { dec := some true }), (11, { dec := some true }), (12, { dec := some true }), (13, { pick := some true }), (15, { dec := some true }), (16, { dec := some true }), (17, { dec := some true }), (18, { dec := some true, call := some { lend := [], pass := [], res := .v (.p Kd.bool x1952), outs := [], back := [] } }), (19, { pick := some true }), (21, { dec := some false }), (22, { dec := some false }), (23, { dec := some false }), (24, { dec := some false }), (25, { pick := some false })]] [] Tryd.func4 (cs := [_, _, _, _, _, _, _, _, _, _, _, _, _, _, _, _, _, _, _, _, _, _, _, _, _, _, _, _]) (by kernel_rfl) ⟨h1107, (exchange_Hear_ok k p2 p3 p4 p5 p6 p7 p8 p9 _ h1111), (antiquaryref44_Hear_ok k p2 p3 p4 p5 p6 p7 p8 p9 _ h1942), (antiquarylaw44_sanity_ok k  _ h1944), h1945, h1945, (exchange_Check_ok k p3 p4 p5 p6 p7 p8 p9 _ h1947), h1945, h1945, (antiquaryref44_Check_ok k p3 p4 p5 p6 p7 p8 p9 _ h1949), h1945, h1945, h1950, h1950, h1950, h1950, h1950, h1951, h1951, h1951, h1951, (antiquaryref44_Same_ok k x1110.1 x1941.1 _ h1953), h1951, h1954, h1954, h1954, h1954, h1954, trivial⟩ (by kernel_rfl)
        · replace h := Option.some.inj h; subst h
          exact Abs.Good.path_ret hm [.cond false, .reg [(2, { call := some { lend := [], pass := [], res := .t [.agg [.p (Kd.sl KI) x1110.1], .p (Kd.sl KP) x1110.2.1, .p (Kd.int .i64) x1110.2.2], outs := [], back := [] } })], .reg [(2, { call := some { lend := [], pass := [], res := .v (.agg [.p (Kd.sl KI) x1941.1, .p (Kd.sl KP) x1941.2.1, .p (Kd.int .i64) x1941.2.2]), outs := [], back := [] } })], .reg [(0, { call := some { lend := [], pass := [], res := .v (.p Kd.bool x1943), outs := [], back := [] } }), (2, { dec := some true }), (3, { dec := some true, call := some { lend := [], pass := [], res := .v (.p (Kd.int .i64) x1946), outs := [], back := [] } }), (4, { dec := some true }), (5, { dec := some true, call := some { lend := [], pass := [], res := .v (.p (Kd.int .i64) x1948), outs := [], back := [] } }), (6, { dec := some true }), (7, { pick := some true }), (9, { dec := some true }), (10, { dec := some true }), (11, { dec := some true }), (12, { dec := some true }), (13, { pick := some true }), (15, { dec := some false }), (16, { dec := some false }), (17, { dec := some false }), (18, { dec := some false }), (19, { pick := some false }), (21, { dec := some false }), (22, { dec := some false }), (23, { dec := some false }), (24, { dec := some false }), (25, { pick := some false })]] [] Tryd.func4 (cs := [_, _, _, _, _, _, _, _, _, _, _, _, _, _, _, _, _, _, _, _, _, _, _, _, _, _, _]) (by kernel_rfl) ⟨h1107, (exchange_Hear_ok k p2 p3 p4 p5 p6 p7 p8 p9 _ h1111), (antiquaryref44_Hear_ok k p2 p3 p4 p5 p6 p7 p8 p9 _ h1942), (antiquarylaw44_sanity_ok k  _ h1944), h1945, h1945, (exchange_Check_ok k p3 p4 p5 p6 p7 p8 p9 _ h1947), h1945, h1945, (antiquaryref44_Check_ok k p3 p4 p5 p6 p7 p8 p9 _ h1949), h1945, h1945, h1950, h1950, h1950, h1950, h1950, h1951, h1951, h1951, h1951, h1951, (rfl : false = false), (rfl : false = false), (rfl : false = false), (rfl : false = false), (rfl : false = false), trivial⟩ (by kernel_rfl)
      · replace h := Option.some.inj h; subst h
        exact Abs.Good.path_ret hm [.cond false, .reg [(2, { call := some { lend := [], pass := [], res := .t [.agg [.p (Kd.sl KI) x1110.1], .p (Kd.sl KP) x1110.2.1, .p (Kd.int .i64) x1110.2.2], outs := [], back := [] } })], .reg [(2, { call := some { lend := [], pass := [], res := .v (.agg [.p (Kd.sl KI) x1941.1, .p (Kd.sl KP) x1941.2.1, .p (Kd.int .i64) x1941.2.2]), outs := [], back := [] } })], .reg [(0, { call := some { lend := [], pass := [], res := .v (.p Kd.bool x1943), outs := [], back := [] } }), (2, { dec := some true }), (3, { dec := some true, call := some { lend := [], pass := [], res := .v (.p (Kd.int .i64) x1946), outs := [], back := [] } }), (4, { dec := some true }), (5, { dec := some true, call := some { lend := [], pass := [], res := .v (.p (Kd.int .i64) x1948), outs := [], back := [] } }), (6, { dec := some true }), (7, { pick := some true }), (9, { dec := some false }), (10, { dec := some false }), (11, { dec := some false }), (12, { dec := some false }), (13, { pick := some false }), (15, { dec := some false }), (16, { dec := some false }), (17, { dec := some false }), (18, { dec := some false }), (19, { pick := some false }), (21, { dec := some false }), (22, { dec := some false }), (23, { dec := some false }), (24, { dec := some false }), (25, { pick := some false })]] [] Tryd.func4 (cs := [_, _, _, _, _, _, _, _, _, _, _, _, _, _, _, _, _, _, _, _, _, _, _, _, _, _, _]) (by kernel_rfl) ⟨h1107, (exchange_Hear_ok k p2 p3 p4 p5 p6 p7 p8 p9 _ h1111), (antiquaryref44_Hear_ok k p2 p3 p4 p5 p6 p7 p8 p9 _ h1942), (antiquarylaw44_sanity_ok k  _ h1944), h1945, h1945, (exchange_Check_ok k p3 p4 p5 p6 p7 p8 p9 _ h1947), h1945, h1945, (antiquaryref44_Check_ok k p3 p4 p5 p6 p7 p8 p9 _ h1949), h1945, h1945, h1950, h1950, h1950, h1950, h1950, (rfl : false = false), (rfl : false = false), (rfl : false = false), (rfl : false = false), (rfl : false = false), (rfl : false = false), (rfl : false = false), (rfl : false = false), (rfl : false = false), (rfl : false = false), trivial⟩ (by kernel_rfl)
    · replace h := Option.some.inj h; subst h
      exact Abs.Good.path_ret hm [.cond false, .reg [(2, { call := some { lend := [], pass := [], res := .t [.agg [.p (Kd.sl KI) x1110.1], .p (Kd.sl KP) x1110.2.1, .p (Kd.int .i64) x1110.2.2], outs := [], back := [] } })], .reg [(2, { call := some { lend := [], pass := [], res := .v (.agg [.p (Kd.sl KI) x1941.1, .p (Kd.sl KP) x1941.2.1, .p (Kd.int .i64) x1941.2.2]), outs := [], back := [] } })], .reg [(0, { call := some { lend := [], pass := [], res := .v (.p Kd.bool x1943), outs := [], back := [] } }), (2, { dec := some false }), (3, { dec := some false }), (4, { dec := some false }), (5, { dec := some false }), (6, { dec := some false }), (7, { pick := some false }), (9, { dec := some false }), (10, { dec := some false }), (11, { dec := some false }), (12, { dec := some false }), (13, { pick := some false }), (15, { dec := some false }), (16, { dec := some false }), (17, { dec := some false }), (18, { dec := some false }), (19, { pick := some false }), (21, { dec := some false }), (22, { dec := some false }), (23, { dec := some false }), (24, { dec := some false }), (25, { pick := some false })]] [] Tryd.func4 (cs := [_, _, _, _, _, _, _, _, _, _, _, _, _, _, _, _, _, _, _, _, _, _, _, _, _]) (by kernel_rfl) ⟨h1107, (exchange_Hear_ok k p2 p3 p4 p5 p6 p7 p8 p9 _ h1111), (antiquaryref44_Hear_ok k p2 p3 p4 p5 p6 p7 p8 p9 _ h1942), (antiquarylaw44_sanity_ok k  _ h1944), h1945, h1945, h1945, h1945, h1945, h1945, (rfl : false = false), (rfl : false = false), (rfl : false = false), (rfl : false = false), (rfl : false = false), (rfl : false = false), (rfl : false = false), (rfl : false = false), (rfl : false = false), (rfl : false = false), (rfl : false = false), (rfl : false = false), (rfl : false = false), (rfl : false = false), (rfl : false = false), trivial⟩ (by kernel_rfl)
theorem antiquarylaw44_ExchangeHearsAsSpecified_ok (k : Nat) (a1 : List It) (a2 : Int) (a3 : List Int) (a4 : Int) (a5 : List Int) (a6 : Int) (a7 : List (List Int)) (a8 : ByteArray) (r : Bool) (h : antiquarylaw44_ExchangeHearsAsSpecified k a1 a2 a3 a4 a5 a6 a7 a8 = some r) : SpecOk P ⟨4, [.agg [.p (Kd.sl KI) a1], .agg [.p (Kd.int .i64) a2, .p (Kd.arr 16 (Kd.int .u8)) a3, .p (Kd.int .i64) a4, .p (Kd.arr 16 (Kd.int .u8)) a5, .p (Kd.int .i64) a6, .p (Kd.sl (Kd.arr 16 (Kd.int .u8))) a7, .p Kd.str a8]], [], .v (.p Kd.bool r), []⟩ := by
  refine spec_at Tryd.func4 (by kernel_rfl) (Nat.le_of_ble_eq_true (by kernel_rfl)) ?_
  unfold antiquarylaw44_ExchangeHearsAsSpecified at h
  obtain ⟨x1103, h1104, h⟩ := bind_inv h
  rcases br_inv h with ⟨h1105, h⟩ | ⟨h1105, h⟩
  · exact Abs.Good.path hm [.reg [], .reg [(1, { call := some { lend := [], pass := [], res := .v (.p Kd.bool x1103), outs := [], back := [] } })], .reg [(3, { dec := some true }), (4, { dec := some true }), (5, { dec := some true }), (6, { dec := some true }), (7, { pick := some true }), (9, { dec := some true }), (10, { dec := some true }), (11, { dec := some true }), (12, { dec := some true }), (13, { pick := some true })], .keep [sk 2, sk 3, sk 25, ek 2, ek 3], .ren [(2, 500001), (3, 500002)]] (cs := [_, _, _, _, _, _, _, _, _, _, _]) (by kernel_rfl) ⟨(antiquarylaw44_valid_ok k a1 _ h1104), h1105, h1105, h1105, h1105, h1105, (rfl : true = true), (rfl : true = true), (rfl : true = true), (rfl : true = true), (rfl : true = true), trivial⟩ (antiquarylaw44_ExchangeHearsAsSpecified_l0_ok k true a1 a2 a3 a4 a5 a6 a7 a8 r h)
  · rcases br_inv h with ⟨h1106, h⟩ | ⟨h1106, h⟩
    · exact Abs.Good.path hm [.reg [], .reg [(1, { call := some { lend := [], pass := [], res := .v (.p Kd.bool x1103), outs := [], back := [] } })], .reg [(3, { dec := some false }), (4, { dec := some false }), (5, { dec := some false }), (6, { dec := some false }), (7, { pick := some false }), (9, { dec := some true }), (10, { dec := some true }), (11, { dec := some true }), (12, { dec := some true }), (13, { pick := some true })], .keep [sk 2, sk 3, sk 25, ek 2, ek 3], .ren [(2, 500001), (3, 500002)]] (cs := [_, _, _, _, _, _, _, _, _, _, _]) (by kernel_rfl) ⟨(antiquarylaw44_valid_ok k a1 _ h1104), h1105, h1105, h1105, h1105, h1105, h1106, h1106, h1106, h1106, h1106, trivial⟩ (antiquarylaw44_ExchangeHearsAsSpecified_l0_ok k true a1 a2 a3 a4 a5 a6 a7 a8 r h)
    · exact Abs.Good.path hm [.reg [], .reg [(1, { call := some { lend := [], pass := [], res := .v (.p Kd.bool x1103), outs := [], back := [] } })], .reg [(3, { dec := some false }), (4, { dec := some false }), (5, { dec := some false }), (6, { dec := some false }), (7, { pick := some false }), (9, { dec := some false }), (10, { dec := some false }), (11, { dec := some false }), (12, { dec := some false }), (13, { pick := some false })], .keep [sk 2, sk 3, sk 25, ek 2, ek 3], .ren [(2, 500001), (3, 500002)]] (cs := [_, _, _, _, _, _, _, _, _, _, _]) (by kernel_rfl) ⟨(antiquarylaw44_valid_ok k a1 _ h1104), h1105, h1105, h1105, h1105, h1105, h1106, h1106, h1106, h1106, h1106, trivial⟩ (antiquarylaw44_ExchangeHearsAsSpecified_l0_ok k (decide ((ByteArray.size a8 : Int) > (200 : Int))) a1 a2 a3 a4 a5 a6 a7 a8 r h)


end Go.Proofs.G44
