/- The walks: each function of the program that the law reaches computes the Lean function that is printed beside it. No condition but that the Lean function has a result. -/
import Derived.Test.YtbcbhhpbgnmpaaaDoorG4
set_option linter.unusedVariables false
namespace Go.Proofs.G44
open Go.Abs
set_option maxRecDepth 10000
open Go.Proofs.K1
def antiquaryref02_Of (k : Nat) (a1 : Int) (a2 : List ByteArray) : Option (List Int) :=
  Option.bind (antiquaryref02_Input k a1 a2) fun x1945 =>
  Option.bind (antiquaryref02_Short k x1945) fun x1947 =>
  some (x1947)
theorem antiquaryref02_Of_ok (k : Nat) (a1 : Int) (a2 : List ByteArray) (r : List Int) (h : antiquaryref02_Of k a1 a2 = some r) : SpecOk P ⟨44, [.p (Kd.int .i64) a1, .p (Kd.sl Kd.str) a2], [], .v (.p (Kd.arr 16 (Kd.int .u8)) r), []⟩ := by
  refine spec_at Tryd.func44 (by kernel_rfl) (Nat.le_of_ble_eq_true (by kernel_rfl)) ?_
  unfold antiquaryref02_Of at h
  obtain ⟨x1945, h1946, h⟩ := bind_inv h
  obtain ⟨x1947, h1948, h⟩ := bind_inv h
  replace h := Option.some.inj h; subst h
  exact Abs.Good.path_ret hm [.reg [], .reg [(2, { call := some { lend := [], pass := [], res := .v (.p (Kd.sl (Kd.int .u8)) x1945), outs := [], back := [] } }), (3, { call := some { lend := [], pass := [], res := .v (.p (Kd.arr 16 (Kd.int .u8)) x1947), outs := [], back := [] } })]] [] Tryd.func44 (cs := [_, _]) (by kernel_rfl) ⟨(antiquaryref02_Input_ok k a1 a2 _ h1946), (antiquaryref02_Short_ok k x1945 _ h1948), trivial⟩ (by kernel_rfl)

def antiquaryref44_Sum_l0 : Nat → List (List Int) → Int → List Int → Int → Int → List Int → Int → List Int → Int → ByteArray → List ByteArray → Option (Int × List Int × Int × List Int × Int × ByteArray)
  | 0, _, _, _, _, _, _, _, _, _, _, _ => none
  | k + 1, p1, p2, p3, p4, p5, p6, p7, p8, p9, p10, p11 =>
    if (decide (p2 < (List.length p1 : Int))) = true then
      if 0 ≤ p2 ∧ p2 < (List.length p1 : Int) then
        Option.bind (antiquaryref44_bytes k (List.getD p1 (Int.toNat p2) (Kd.dflt (Kd.arr 16 (Kd.int .u8))))) fun x1955 =>
        if List.length p11 + List.length ([x1955] : List ByteArray) ≤ 8796093022208 then
          antiquaryref44_Sum_l0 k p1 (IntKind.i64.wrap (p2 + (1 : Int))) p3 p4 p5 p6 p7 p8 p9 p10 (p11 ++ ([x1955] : List ByteArray))
        else none
      else none
    else
      Option.bind (antiquaryref02_Of k (45 : Int) p11) fun x1958 =>
      some ((1 : Int), p3, p4, x1958, (List.length p1 : Int), (⟨#[]⟩ : ByteArray))
def antiquaryref44_Sum (k : Nat) (a1 : List It) (a2 : List Int) (a3 : Int) : Option (Int × List Int × Int × List Int × Int × ByteArray) :=
  Option.bind (antiquaryref44_Names k a1 a2 a3) fun x1951 =>
  antiquaryref44_Sum_l0 k x1951 (0 : Int) a2 a3 (0 : Int) (Kd.dflt (Kd.arr 16 (Kd.int .u8))) (0 : Int) (Kd.dflt (Kd.arr 16 (Kd.int .u8))) (0 : Int) (⟨#[]⟩ : ByteArray) ([] : List ByteArray)
theorem antiquaryref44_Sum_l0_ok (k : Nat) : ∀ (p1 : List (List Int)) (p2 : Int) (p3 : List Int) (p4 : Int) (p5 : Int) (p6 : List Int) (p7 : Int) (p8 : List Int) (p9 : Int) (p10 : ByteArray) (p11 : List ByteArray) (r : Int × List Int × Int × List Int × Int × ByteArray), antiquaryref44_Sum_l0 k p1 p2 p3 p4 p5 p6 p7 p8 p9 p10 p11 = some r →
    Abs.Good P 21 Tryd.f21.ntmps [] [] (.v (.agg [.p (Kd.int .i64) r.1, .p (Kd.arr 16 (Kd.int .u8)) r.2.1, .p (Kd.int .i64) r.2.2.1, .p (Kd.arr 16 (Kd.int .u8)) r.2.2.2.1, .p (Kd.int .i64) r.2.2.2.2.1, .nilsl, .p Kd.str r.2.2.2.2.2])) (pos Tryd.f21 [.r, .r, .r, .r]) [(sk 3, some (.v (.ptr 500001 0))), (sk 4, some (.v (.ptr 500002 0))), (sk 5, some (.v (.p (Kd.sl (Kd.arr 16 (Kd.int .u8))) p1))), (sk 6, some (.v (.row 500003 (List.length p11)))), (sk 7, some (.v (.p (Kd.int .i64) p2))), (ek 500001, some (.box [.p (Kd.arr 16 (Kd.int .u8)) p3, .p (Kd.int .i64) p4])), (ek 500002, some (.box [.p (Kd.int .i64) p5, .p (Kd.arr 16 (Kd.int .u8)) p6, .p (Kd.int .i64) p7, .p (Kd.arr 16 (Kd.int .u8)) p8, .p (Kd.int .i64) p9, .nilsl, .p Kd.str p10])), (ek 500003, some (.row Kd.str 9 p11))] := by
  induction k with
  | zero => intro p1 p2 p3 p4 p5 p6 p7 p8 p9 p10 p11 r h; cases h
  | succ k ih =>
    intro p1 p2 p3 p4 p5 p6 p7 p8 p9 p10 p11 r h
    unfold antiquaryref44_Sum_l0 at h
    rcases br_inv h with ⟨h1953, h⟩ | ⟨h1953, h⟩
    · obtain ⟨h1954, h⟩ := gd_inv h
      obtain ⟨x1955, h1956, h⟩ := bind_inv h
      obtain ⟨h1957, h⟩ := gd_inv h
      exact Abs.Good.path hm [.reg [], .cond true, .reg [(5, { call := some { lend := [], pass := [], res := .v (.p Kd.str x1955), outs := [], back := [] } })], .reg [], .keep [sk 3, sk 4, sk 5, sk 6, sk 7, ek 500001, ek 500002, ek 24], .ren [(500001, 500001), (500002, 500002), (24, 500003)]] (cs := [_, _, _, _, _, _, _]) (by kernel_rfl) ⟨h1953, h1954.1, h1954.2, (antiquaryref44_bytes_ok k (List.getD p1 (Int.toNat p2) (Kd.dflt (Kd.arr 16 (Kd.int .u8)))) _ h1956), (rfl : (List.length p11) = List.length p11), (appBound (P := P) (et := 9) (b := 16) (by kernel_rfl) (by decide) h1957), (rfl : 1 = List.length ([x1955] : List ByteArray)), trivial⟩ (ih p1 (IntKind.i64.wrap (p2 + (1 : Int))) p3 p4 p5 p6 p7 p8 p9 p10 (p11 ++ ([x1955] : List ByteArray)) r h)
    · obtain ⟨x1958, h1959, h⟩ := bind_inv h
      replace h := Option.some.inj h; subst h
      exact Abs.Good.path_ret hm [.reg [], .cond false, .reg [(2, { call := some { lend := [(500003, false)], pass := [], res := .v (.p (Kd.arr 16 (Kd.int .u8)) x1958), outs := [], back := [] } })]] [] Tryd.func21 (cs := [_, _, _]) (by kernel_rfl) ⟨h1953, (antiquaryref02_Of_ok k (45 : Int) p11 _ h1959), (rfl : (List.length p11) = List.length p11), trivial⟩ (by kernel_rfl)
theorem antiquaryref44_Sum_ok (k : Nat) (a1 : List It) (a2 : List Int) (a3 : Int) (r : Int × List Int × Int × List Int × Int × ByteArray) (h : antiquaryref44_Sum k a1 a2 a3 = some r) : SpecOk P ⟨21, [.agg [.p (Kd.sl KI) a1], .agg [.p (Kd.arr 16 (Kd.int .u8)) a2, .p (Kd.int .i64) a3]], [], .v (.agg [.p (Kd.int .i64) r.1, .p (Kd.arr 16 (Kd.int .u8)) r.2.1, .p (Kd.int .i64) r.2.2.1, .p (Kd.arr 16 (Kd.int .u8)) r.2.2.2.1, .p (Kd.int .i64) r.2.2.2.2.1, .nilsl, .p Kd.str r.2.2.2.2.2]), []⟩ := by
  refine spec_at Tryd.func21 (by kernel_rfl) (Nat.le_of_ble_eq_true (by kernel_rfl)) ?_
  unfold antiquaryref44_Sum at h
  obtain ⟨x1951, h1952, h⟩ := bind_inv h
  exact Abs.Good.path hm [.reg [], .reg [(2, { call := some { lend := [], pass := [], res := .v (.p (Kd.sl (Kd.arr 16 (Kd.int .u8))) x1951), outs := [], back := [] } })], .reg [], .reg [], .co (sk 6) 0 (.mk 900001 Kd.str 9), .keep [sk 3, sk 4, sk 5, sk 6, sk 7, ek 3, ek 4, ek 900001], .ren [(3, 500001), (4, 500002), (900001, 500003)]] (cs := [_]) (by kernel_rfl) ⟨(antiquaryref44_Names_ok k a1 a2 a3 _ h1952), trivial⟩ (antiquaryref44_Sum_l0_ok k x1951 (0 : Int) a2 a3 (0 : Int) (Kd.dflt (Kd.arr 16 (Kd.int .u8))) (0 : Int) (Kd.dflt (Kd.arr 16 (Kd.int .u8))) (0 : Int) (⟨#[]⟩ : ByteArray) ([] : List ByteArray) r h)

def antiquaryref44_Half (k : Nat) (a1 : List Int) (a2 : Int) (a3 : Bool) : Option (List Int × Int) :=
  if a3 = true then
    if 0 ≤ (IntKind.i64.wrap (Int.tdiv a2 (8 : Int))) ∧ (IntKind.i64.wrap (Int.tdiv a2 (8 : Int))) < (16 : Int) then
      if 0 ≤ (Int.tmod a2 (8 : Int)) then
        some ((List.set a1 (Int.toNat (IntKind.i64.wrap (Int.tdiv a2 (8 : Int)))) (IntKind.u8.wrap ((List.getD a1 (Int.toNat (IntKind.i64.wrap (Int.tdiv a2 (8 : Int)))) (Kd.dflt (Kd.int .u8))) + (Int.fdiv (128 : Int) (2 ^ (min (Int.toNat (Int.tmod a2 (8 : Int))) (IntKind.bits .u8))))))), (IntKind.i64.wrap (a2 + (1 : Int))))
      else none
    else none
  else
    some (a1, (IntKind.i64.wrap (a2 + (1 : Int))))
theorem antiquaryref44_Half_ok (k : Nat) (a1 : List Int) (a2 : Int) (a3 : Bool) (r : List Int × Int) (h : antiquaryref44_Half k a1 a2 a3 = some r) : SpecOk P ⟨31, [.agg [.p (Kd.arr 16 (Kd.int .u8)) a1, .p (Kd.int .i64) a2], .p Kd.bool a3], [], .v (.agg [.p (Kd.arr 16 (Kd.int .u8)) r.1, .p (Kd.int .i64) r.2]), []⟩ := by
  refine spec_at Tryd.func31 (by kernel_rfl) (Nat.le_of_ble_eq_true (by kernel_rfl)) ?_
  unfold antiquaryref44_Half at h
  rcases br_inv h with ⟨h1972, h⟩ | ⟨h1972, h⟩
  · obtain ⟨h1973, h⟩ := gd_inv h
    obtain ⟨h1974, h⟩ := gd_inv h
    replace h := Option.some.inj h; subst h
    exact Abs.Good.path_ret hm [.reg [], .reg [], .reg [], .cond true, .reg [], .reg []] [] Tryd.func31 (cs := [_, _, _, _, _, _, _, _, _]) (by kernel_rfl) ⟨h1972, (by decide : (8 : Int) ≠ 0), (by decide : (8 : Int) ≠ 0), h1973.1, h1973.2, (by decide : (8 : Int) ≠ 0), h1974, h1973.1, h1973.2, trivial⟩ (by kernel_rfl)
  · replace h := Option.some.inj h; subst h
    exact Abs.Good.path_ret hm [.reg [], .reg [], .reg [], .cond false, .reg []] [] Tryd.func31 (cs := [_]) (by kernel_rfl) ⟨h1972, trivial⟩ (by kernel_rfl)

def antiquaryref44_Collides_l2 (s0 : Int → List It → List It → Option (Bool)) (k : Nat) (p1 : Int) (p2 : List It) (p3 : List It) : Option (Bool) :=
  s0 (IntKind.i64.wrap (p1 + (1 : Int))) p2 p3
def antiquaryref44_Collides_l4 (s0 : Int → List It → List It → Option (Bool)) (s3 : Int → Int → List It → List It → List Int → Int → Option (Bool)) (k : Nat) (p1 : Int) (p2 : Int) (p3 : List It) (p4 : List It) (p5 : List Int) (p6 : Int) : Option (Bool) :=
  s3 p1 (IntKind.i64.wrap (p2 + (1 : Int))) p3 p4 p5 p6
def antiquaryref44_Collides_l3 (s0 : Int → List It → List It → Option (Bool)) : Nat → Int → Int → List It → List It → List Int → Int → Option (Bool)
  | 0, _, _, _, _, _, _ => none
  | k + 1, p1, p2, p3, p4, p5, p6 =>
    if (decide (p2 ≤ (128 : Int))) = true then
      Option.bind (antiquaryref44_Sum k p3 p5 p6) fun x1986 =>
      Option.bind (antiquaryref44_Sum k p4 p5 p6) fun x1988 =>
      if (Kd.eqb (Kd.arr 16 (Kd.int .u8)) x1986.2.2.2.1 x1988.2.2.2.1) = true then
        some (true)
      else
        if (decide (p2 < (128 : Int))) = true then
          if 0 ≤ p1 ∧ p1 < (List.length p3 : Int) then
            Option.bind (antiquaryref44_Bit k ((List.getD p3 (Int.toNat p1) (Kd.dflt KI)).1) p2) fun x1993 =>
            Option.bind (antiquaryref44_Half k p5 p6 x1993) fun x1995 =>
            antiquaryref44_Collides_l4 s0 (antiquaryref44_Collides_l3 s0 k) k p1 p2 p3 p4 x1995.1 x1995.2
          else none
        else
          antiquaryref44_Collides_l4 s0 (antiquaryref44_Collides_l3 s0 k) k p1 p2 p3 p4 p5 p6
    else
      antiquaryref44_Collides_l2 s0 k p1 p3 p4
def antiquaryref44_Collides_l1 (s0 : Int → List It → List It → Option (Bool)) (k : Nat) (p1 : Int) (p2 : Int) (p3 : Bool) (p4 : List It) (p5 : List It) : Option (Bool) :=
  if p3 = true then
    some (true)
  else
    if (decide (p2 ≥ (0 : Int))) = true then
      antiquaryref44_Collides_l2 s0 k p1 p4 p5
    else
      antiquaryref44_Collides_l3 s0 k p1 (0 : Int) p4 p5 (Kd.dflt (Kd.arr 16 (Kd.int .u8))) (0 : Int)
def antiquaryref44_Collides_l0 : Nat → Int → List It → List It → Option (Bool)
  | 0, _, _, _ => none
  | k + 1, p1, p2, p3 =>
    if (decide (p1 < (List.length p2 : Int))) = true then
      if 0 ≤ p1 ∧ p1 < (List.length p2 : Int) then
        Option.bind (antiquaryref44_Place k p3 ((List.getD p2 (Int.toNat p1) (Kd.dflt KI)).1)) fun x1979 =>
        if (decide (x1979 ≥ (0 : Int))) = true then
          if 0 ≤ x1979 ∧ x1979 < (List.length p3 : Int) then
            antiquaryref44_Collides_l1 (antiquaryref44_Collides_l0 k) k p1 x1979 (!(ByteArray.toList (((List.getD p3 (Int.toNat x1979) (Kd.dflt KI)).2).1) == ByteArray.toList (((List.getD p2 (Int.toNat p1) (Kd.dflt KI)).2).1))) p2 p3
          else none
        else
          antiquaryref44_Collides_l1 (antiquaryref44_Collides_l0 k) k p1 x1979 false p2 p3
      else none
    else
      some (false)
def antiquaryref44_Collides (k : Nat) (a1 : List It) (a2 : List It) : Option (Bool) :=
  antiquaryref44_Collides_l0 k (0 : Int) a1 a2
theorem antiquaryref44_Collides_l2_ok (s0 : Int → List It → List It → Option (Bool)) (hs0 : ∀ (p1 : Int) (p2 : List It) (p3 : List It) (r : Bool), s0 p1 p2 p3 = some r → Abs.Good P 40 Tryd.f40.ntmps [] [] (.v (.p Kd.bool r)) (pos Tryd.f40 [.r, .r]) [(sk 2, some (.v (.ptr 500001 0))), (sk 3, some (.v (.ptr 500002 0))), (sk 5, some (.v (.p (Kd.int .i64) p1))), (ek 500001, some (.box [.p (Kd.sl KI) p2])), (ek 500002, some (.box [.p (Kd.sl KI) p3]))]) (k : Nat) (p1 : Int) (p2 : List It) (p3 : List It) (r : Bool) (h : antiquaryref44_Collides_l2 s0 k p1 p2 p3 = some r) :
    Abs.Good P 40 Tryd.f40.ntmps [] [] (.v (.p Kd.bool r)) (pos Tryd.f40 [.r, .r, .r, .c true, .r, .r, .c false, .r, .c true]) [(sk 2, some (.v (.ptr 502001 0))), (sk 3, some (.v (.ptr 502002 0))), (sk 5, some (.v (.p (Kd.int .i64) p1))), (ek 502001, some (.box [.p (Kd.sl KI) p2])), (ek 502002, some (.box [.p (Kd.sl KI) p3]))] := by
  unfold antiquaryref44_Collides_l2 at h
  exact Abs.Good.path hm [.reg [], .keep [sk 2, sk 3, sk 5, ek 502001, ek 502002], .ren [(502001, 500001), (502002, 500002)]] (cs := []) (by kernel_rfl) trivial (hs0 (IntKind.i64.wrap (p1 + (1 : Int))) p2 p3 r h)
theorem antiquaryref44_Collides_l4_ok (s0 : Int → List It → List It → Option (Bool)) (hs0 : ∀ (p1 : Int) (p2 : List It) (p3 : List It) (r : Bool), s0 p1 p2 p3 = some r → Abs.Good P 40 Tryd.f40.ntmps [] [] (.v (.p Kd.bool r)) (pos Tryd.f40 [.r, .r]) [(sk 2, some (.v (.ptr 500001 0))), (sk 3, some (.v (.ptr 500002 0))), (sk 5, some (.v (.p (Kd.int .i64) p1))), (ek 500001, some (.box [.p (Kd.sl KI) p2])), (ek 500002, some (.box [.p (Kd.sl KI) p3]))]) (s3 : Int → Int → List It → List It → List Int → Int → Option (Bool)) (hs3 : ∀ (p1 : Int) (p2 : Int) (p3 : List It) (p4 : List It) (p5 : List Int) (p6 : Int) (r : Bool), s3 p1 p2 p3 p4 p5 p6 = some r → Abs.Good P 40 Tryd.f40.ntmps [] [] (.v (.p Kd.bool r)) (pos Tryd.f40 [.r, .r, .r, .c true, .r, .r, .c false, .r, .c false, .r, .r]) [(sk 2, some (.v (.ptr 503001 0))), (sk 3, some (.v (.ptr 503002 0))), (sk 5, some (.v (.p (Kd.int .i64) p1))), (sk 7, some (.v (.ptr 503003 0))), (sk 8, some (.v (.p (Kd.int .i64) p2))), (ek 503001, some (.box [.p (Kd.sl KI) p3])), (ek 503002, some (.box [.p (Kd.sl KI) p4])), (ek 503003, some (.box [.p (Kd.arr 16 (Kd.int .u8)) p5, .p (Kd.int .i64) p6]))]) (k : Nat) (p1 : Int) (p2 : Int) (p3 : List It) (p4 : List It) (p5 : List Int) (p6 : Int) (r : Bool) (h : antiquaryref44_Collides_l4 s0 s3 k p1 p2 p3 p4 p5 p6 = some r) :
    Abs.Good P 40 Tryd.f40.ntmps [] [] (.v (.p Kd.bool r)) (pos Tryd.f40 [.r, .r, .r, .c true, .r, .r, .c false, .r, .c false, .r, .r, .r, .c true, .r, .c false, .r, .c false]) [(sk 2, some (.v (.ptr 504001 0))), (sk 3, some (.v (.ptr 504002 0))), (sk 5, some (.v (.p (Kd.int .i64) p1))), (sk 7, some (.v (.ptr 504003 0))), (sk 8, some (.v (.p (Kd.int .i64) p2))), (ek 504001, some (.box [.p (Kd.sl KI) p3])), (ek 504002, some (.box [.p (Kd.sl KI) p4])), (ek 504003, some (.box [.p (Kd.arr 16 (Kd.int .u8)) p5, .p (Kd.int .i64) p6]))] := by
  unfold antiquaryref44_Collides_l4 at h
  exact Abs.Good.path hm [.reg [], .keep [sk 2, sk 3, sk 5, sk 7, sk 8, ek 504001, ek 504002, ek 504003], .ren [(504001, 503001), (504002, 503002), (504003, 503003)]] (cs := []) (by kernel_rfl) trivial (hs3 p1 (IntKind.i64.wrap (p2 + (1 : Int))) p3 p4 p5 p6 r h)
theorem antiquaryref44_Collides_l3_ok (s0 : Int → List It → List It → Option (Bool)) (hs0 : ∀ (p1 : Int) (p2 : List It) (p3 : List It) (r : Bool), s0 p1 p2 p3 = some r → Abs.Good P 40 Tryd.f40.ntmps [] [] (.v (.p Kd.bool r)) (pos Tryd.f40 [.r, .r]) [(sk 2, some (.v (.ptr 500001 0))), (sk 3, some (.v (.ptr 500002 0))), (sk 5, some (.v (.p (Kd.int .i64) p1))), (ek 500001, some (.box [.p (Kd.sl KI) p2])), (ek 500002, some (.box [.p (Kd.sl KI) p3]))]) (k : Nat) : ∀ (p1 : Int) (p2 : Int) (p3 : List It) (p4 : List It) (p5 : List Int) (p6 : Int) (r : Bool), antiquaryref44_Collides_l3 s0 k p1 p2 p3 p4 p5 p6 = some r →
    Abs.Good P 40 Tryd.f40.ntmps [] [] (.v (.p Kd.bool r)) (pos Tryd.f40 [.r, .r, .r, .c true, .r, .r, .c false, .r, .c false, .r, .r]) [(sk 2, some (.v (.ptr 503001 0))), (sk 3, some (.v (.ptr 503002 0))), (sk 5, some (.v (.p (Kd.int .i64) p1))), (sk 7, some (.v (.ptr 503003 0))), (sk 8, some (.v (.p (Kd.int .i64) p2))), (ek 503001, some (.box [.p (Kd.sl KI) p3])), (ek 503002, some (.box [.p (Kd.sl KI) p4])), (ek 503003, some (.box [.p (Kd.arr 16 (Kd.int .u8)) p5, .p (Kd.int .i64) p6]))] := by
  induction k with
  | zero => intro p1 p2 p3 p4 p5 p6 r h; cases h
  | succ k ih =>
    intro p1 p2 p3 p4 p5 p6 r h
    unfold antiquaryref44_Collides_l3 at h
    rcases br_inv h with ⟨h1985, h⟩ | ⟨h1985, h⟩
    · obtain ⟨x1986, h1987, h⟩ := bind_inv h
      obtain ⟨x1988, h1989, h⟩ := bind_inv h
      rcases br_inv h with ⟨h1990, h⟩ | ⟨h1990, h⟩
      · replace h := Option.some.inj h; subst h
        exact Abs.Good.path_ret hm [.reg [], .cond true, .reg [(2, { call := some { lend := [], pass := [], res := .v (.agg [.p (Kd.int .i64) x1986.1, .p (Kd.arr 16 (Kd.int .u8)) x1986.2.1, .p (Kd.int .i64) x1986.2.2.1, .p (Kd.arr 16 (Kd.int .u8)) x1986.2.2.2.1, .p (Kd.int .i64) x1986.2.2.2.2.1, .nilsl, .p Kd.str x1986.2.2.2.2.2]), outs := [], back := [] } }), (6, { call := some { lend := [], pass := [], res := .v (.agg [.p (Kd.int .i64) x1988.1, .p (Kd.arr 16 (Kd.int .u8)) x1988.2.1, .p (Kd.int .i64) x1988.2.2.1, .p (Kd.arr 16 (Kd.int .u8)) x1988.2.2.2.1, .p (Kd.int .i64) x1988.2.2.2.2.1, .nilsl, .p Kd.str x1988.2.2.2.2.2]), outs := [], back := [] } })], .cond true, .reg []] [] Tryd.func40 (cs := [_, _, _, _, _]) (by kernel_rfl) ⟨h1985, (antiquaryref44_Sum_ok k p3 p5 p6 _ h1987), (antiquaryref44_Sum_ok k p4 p5 p6 _ h1989), eq26, h1990, trivial⟩ (by kernel_rfl)
      · rcases br_inv h with ⟨h1991, h⟩ | ⟨h1991, h⟩
        · obtain ⟨h1992, h⟩ := gd_inv h
          obtain ⟨x1993, h1994, h⟩ := bind_inv h
          obtain ⟨x1995, h1996, h⟩ := bind_inv h
          exact Abs.Good.path hm [.reg [], .cond true, .reg [(2, { call := some { lend := [], pass := [], res := .v (.agg [.p (Kd.int .i64) x1986.1, .p (Kd.arr 16 (Kd.int .u8)) x1986.2.1, .p (Kd.int .i64) x1986.2.2.1, .p (Kd.arr 16 (Kd.int .u8)) x1986.2.2.2.1, .p (Kd.int .i64) x1986.2.2.2.2.1, .nilsl, .p Kd.str x1986.2.2.2.2.2]), outs := [], back := [] } }), (6, { call := some { lend := [], pass := [], res := .v (.agg [.p (Kd.int .i64) x1988.1, .p (Kd.arr 16 (Kd.int .u8)) x1988.2.1, .p (Kd.int .i64) x1988.2.2.1, .p (Kd.arr 16 (Kd.int .u8)) x1988.2.2.2.1, .p (Kd.int .i64) x1988.2.2.2.2.1, .nilsl, .p Kd.str x1988.2.2.2.2.2]), outs := [], back := [] } })], .cond false, .reg [], .cond true, .reg [(8, { call := some { lend := [], pass := [], res := .v (.p Kd.bool x1993), outs := [], back := [] } }), (9, { call := some { lend := [], pass := [], res := .v (.agg [.p (Kd.arr 16 (Kd.int .u8)) x1995.1, .p (Kd.int .i64) x1995.2]), outs := [], back := [] } })], .keep [sk 2, sk 3, sk 5, sk 7, sk 8, ek 503001, ek 503002, ek 503003], .ren [(503001, 504001), (503002, 504002), (503003, 504003)]] (cs := [_, _, _, _, _, _, _, _, _, _]) (by kernel_rfl) ⟨h1985, (antiquaryref44_Sum_ok k p3 p5 p6 _ h1987), (antiquaryref44_Sum_ok k p4 p5 p6 _ h1989), eq26, h1990, h1991, h1992.1, h1992.2, (antiquaryref44_Bit_ok k ((List.getD p3 (Int.toNat p1) (Kd.dflt KI)).1) p2 _ h1994), (antiquaryref44_Half_ok k p5 p6 x1993 _ h1996), trivial⟩ (antiquaryref44_Collides_l4_ok s0 hs0 (antiquaryref44_Collides_l3 s0 k) ih k p1 p2 p3 p4 x1995.1 x1995.2 r h)
        · exact Abs.Good.path hm [.reg [], .cond true, .reg [(2, { call := some { lend := [], pass := [], res := .v (.agg [.p (Kd.int .i64) x1986.1, .p (Kd.arr 16 (Kd.int .u8)) x1986.2.1, .p (Kd.int .i64) x1986.2.2.1, .p (Kd.arr 16 (Kd.int .u8)) x1986.2.2.2.1, .p (Kd.int .i64) x1986.2.2.2.2.1, .nilsl, .p Kd.str x1986.2.2.2.2.2]), outs := [], back := [] } }), (6, { call := some { lend := [], pass := [], res := .v (.agg [.p (Kd.int .i64) x1988.1, .p (Kd.arr 16 (Kd.int .u8)) x1988.2.1, .p (Kd.int .i64) x1988.2.2.1, .p (Kd.arr 16 (Kd.int .u8)) x1988.2.2.2.1, .p (Kd.int .i64) x1988.2.2.2.2.1, .nilsl, .p Kd.str x1988.2.2.2.2.2]), outs := [], back := [] } })], .cond false, .reg [], .cond false, .keep [sk 2, sk 3, sk 5, sk 7, sk 8, ek 503001, ek 503002, ek 503003], .ren [(503001, 504001), (503002, 504002), (503003, 504003)]] (cs := [_, _, _, _, _, _]) (by kernel_rfl) ⟨h1985, (antiquaryref44_Sum_ok k p3 p5 p6 _ h1987), (antiquaryref44_Sum_ok k p4 p5 p6 _ h1989), eq26, h1990, h1991, trivial⟩ (antiquaryref44_Collides_l4_ok s0 hs0 (antiquaryref44_Collides_l3 s0 k) ih k p1 p2 p3 p4 p5 p6 r h)
    · exact Abs.Good.path hm [.reg [], .cond false, .keep [sk 2, sk 3, sk 5, ek 503001, ek 503002], .ren [(503001, 502001), (503002, 502002)]] (cs := [_]) (by kernel_rfl) ⟨h1985, trivial⟩ (antiquaryref44_Collides_l2_ok s0 hs0 k p1 p3 p4 r h)
theorem antiquaryref44_Collides_l1_ok (s0 : Int → List It → List It → Option (Bool)) (hs0 : ∀ (p1 : Int) (p2 : List It) (p3 : List It) (r : Bool), s0 p1 p2 p3 = some r → Abs.Good P 40 Tryd.f40.ntmps [] [] (.v (.p Kd.bool r)) (pos Tryd.f40 [.r, .r]) [(sk 2, some (.v (.ptr 500001 0))), (sk 3, some (.v (.ptr 500002 0))), (sk 5, some (.v (.p (Kd.int .i64) p1))), (ek 500001, some (.box [.p (Kd.sl KI) p2])), (ek 500002, some (.box [.p (Kd.sl KI) p3]))]) (k : Nat) (p1 : Int) (p2 : Int) (p3 : Bool) (p4 : List It) (p5 : List It) (r : Bool) (h : antiquaryref44_Collides_l1 s0 k p1 p2 p3 p4 p5 = some r) :
    Abs.Good P 40 Tryd.f40.ntmps [] [] (.v (.p Kd.bool r)) (pos Tryd.f40 [.r, .r, .r, .c true, .r, .r]) [(sk 2, some (.v (.ptr 501001 0))), (sk 3, some (.v (.ptr 501002 0))), (sk 5, some (.v (.p (Kd.int .i64) p1))), (sk 6, some (.v (.p (Kd.int .i64) p2))), (sk 40, some (.v (.p Kd.bool p3))), (ek 501001, some (.box [.p (Kd.sl KI) p4])), (ek 501002, some (.box [.p (Kd.sl KI) p5]))] := by
  unfold antiquaryref44_Collides_l1 at h
  rcases br_inv h with ⟨h1983, h⟩ | ⟨h1983, h⟩
  · replace h := Option.some.inj h; subst h
    exact Abs.Good.path_ret hm [.cond true, .reg []] [] Tryd.func40 (cs := [_]) (by kernel_rfl) ⟨h1983, trivial⟩ (by kernel_rfl)
  · rcases br_inv h with ⟨h1984, h⟩ | ⟨h1984, h⟩
    · exact Abs.Good.path hm [.cond false, .reg [], .cond true, .keep [sk 2, sk 3, sk 5, ek 501001, ek 501002], .ren [(501001, 502001), (501002, 502002)]] (cs := [_, _]) (by kernel_rfl) ⟨h1983, h1984, trivial⟩ (antiquaryref44_Collides_l2_ok s0 hs0 k p1 p4 p5 r h)
    · exact Abs.Good.path hm [.cond false, .reg [], .cond false, .reg [], .reg [], .keep [sk 2, sk 3, sk 5, sk 7, sk 8, ek 501001, ek 501002, ek 7], .ren [(501001, 503001), (501002, 503002), (7, 503003)]] (cs := [_, _]) (by kernel_rfl) ⟨h1983, h1984, trivial⟩ (antiquaryref44_Collides_l3_ok s0 hs0 k p1 (0 : Int) p4 p5 (Kd.dflt (Kd.arr 16 (Kd.int .u8))) (0 : Int) r h)
theorem antiquaryref44_Collides_l0_ok (k : Nat) : ∀ (p1 : Int) (p2 : List It) (p3 : List It) (r : Bool), antiquaryref44_Collides_l0 k p1 p2 p3 = some r →
    Abs.Good P 40 Tryd.f40.ntmps [] [] (.v (.p Kd.bool r)) (pos Tryd.f40 [.r, .r]) [(sk 2, some (.v (.ptr 500001 0))), (sk 3, some (.v (.ptr 500002 0))), (sk 5, some (.v (.p (Kd.int .i64) p1))), (ek 500001, some (.box [.p (Kd.sl KI) p2])), (ek 500002, some (.box [.p (Kd.sl KI) p3]))] := by
  induction k with
  | zero => intro p1 p2 p3 r h; cases h
  | succ k ih =>
    intro p1 p2 p3 r h
    unfold antiquaryref44_Collides_l0 at h
    rcases br_inv h with ⟨h1977, h⟩ | ⟨h1977, h⟩
    · obtain ⟨h1978, h⟩ := gd_inv h
      obtain ⟨x1979, h1980, h⟩ := bind_inv h
      rcases br_inv h with ⟨h1981, h⟩ | ⟨h1981, h⟩
      · obtain ⟨h1982, h⟩ := gd_inv h
        exact Abs.Good.path hm [.reg [], .cond true, .reg [(7, { call := some { lend := [], pass := [], res := .v (.p (Kd.int .i64) x1979), outs := [], back := [] } })], .reg [(3, { dec := some true }), (4, { dec := some true }), (5, { dec := some true }), (6, { dec := some true }), (7, { dec := some true }), (8, { dec := some true }), (9, { dec := some true }), (10, { dec := some true }), (11, { dec := some true }), (12, { dec := some true }), (13, { dec := some true }), (14, { dec := some true }), (15, { dec := some true }), (16, { pick := some true })], .keep [sk 2, sk 3, sk 5, sk 6, sk 40, ek 500001, ek 500002], .ren [(500001, 501001), (500002, 501002)]] (cs := [_, _, _, _, _, _, _, _, _, _, _, _, _, _, _, _, _, _, _, _, _, _]) (by kernel_rfl) ⟨h1977, h1978.1, h1978.2, (antiquaryref44_Place_ok k p3 ((List.getD p2 (Int.toNat p1) (Kd.dflt KI)).1) _ h1980), h1981, h1981, h1981, h1981, h1982.1, h1982.2, h1981, h1981, h1981, h1981, h1981, h1981, h1978.1, h1978.2, h1981, h1981, h1981, h1981, trivial⟩ (antiquaryref44_Collides_l1_ok (antiquaryref44_Collides_l0 k) ih k p1 x1979 (!(ByteArray.toList (((List.getD p3 (Int.toNat x1979) (Kd.dflt KI)).2).1) == ByteArray.toList (((List.getD p2 (Int.toNat p1) (Kd.dflt KI)).2).1))) p2 p3 r h)
      · exact Abs.Good.path hm [.reg [], .cond true, .reg [(7, { call := some { lend := [], pass := [], res := .v (.p (Kd.int .i64) x1979), outs := [], back := [] } })], .reg [(3, { dec := some false }), (4, { dec := some false }), (5, { dec := some false }), (6, { dec := some false }), (7, { dec := some false }), (8, { dec := some false }), (9, { dec := some false }), (10, { dec := some false }), (11, { dec := some false }), (12, { dec := some false }), (13, { dec := some false }), (14, { dec := some false }), (15, { dec := some false }), (16, { pick := some false })], .keep [sk 2, sk 3, sk 5, sk 6, sk 40, ek 500001, ek 500002], .ren [(500001, 501001), (500002, 501002)]] (cs := [_, _, _, _, _, _, _, _, _, _, _, _, _, _, _, _, _, _]) (by kernel_rfl) ⟨h1977, h1978.1, h1978.2, (antiquaryref44_Place_ok k p3 ((List.getD p2 (Int.toNat p1) (Kd.dflt KI)).1) _ h1980), h1981, h1981, h1981, h1981, h1981, h1981, h1981, h1981, h1981, h1981, h1981, h1981, h1981, h1981, trivial⟩ (antiquaryref44_Collides_l1_ok (antiquaryref44_Collides_l0 k) ih k p1 x1979 false p2 p3 r h)
    · replace h := Option.some.inj h; subst h
      exact Abs.Good.path_ret hm [.reg [], .cond false, .reg []] [] Tryd.func40 (cs := [_]) (by kernel_rfl) ⟨h1977, trivial⟩ (by kernel_rfl)
theorem antiquaryref44_Collides_ok (k : Nat) (a1 : List It) (a2 : List It) (r : Bool) (h : antiquaryref44_Collides k a1 a2 = some r) : SpecOk P ⟨40, [.agg [.p (Kd.sl KI) a1], .agg [.p (Kd.sl KI) a2]], [], .v (.p Kd.bool r), []⟩ := by
  refine spec_at Tryd.func40 (by kernel_rfl) (Nat.le_of_ble_eq_true (by kernel_rfl)) ?_
  unfold antiquaryref44_Collides at h
  exact Abs.Good.path hm [.reg [], .reg [], .keep [sk 2, sk 3, sk 5, ek 2, ek 3], .ren [(2, 500001), (3, 500002)]] (cs := []) (by kernel_rfl) trivial (antiquaryref44_Collides_l0_ok k (0 : Int) a1 a2 r h)

def antiquarylaw44_ExchangeBearsLosses_l5 (s2 : Int → List It → List It → (List (List It × Unit)) → Option (Bool)) (s4 : Int → Int → List It → List It → (List (List It × Unit)) → Option (Bool)) (k : Nat) (p1 : Int) (p2 : Int) (p3 : Bool) (p4 : List It) (p5 : List It) (p6 : List (List It × Unit)) : Option (Bool) :=
  if p3 = true then
    some (false)
  else
    s4 p1 (IntKind.i64.wrap (p2 + (1 : Int))) p4 p5 p6
def antiquarylaw44_ExchangeBearsLosses_l4 (s2 : Int → List It → List It → (List (List It × Unit)) → Option (Bool)) : Nat → Int → Int → List It → List It → (List (List It × Unit)) → Option (Bool)
  | 0, _, _, _, _, _ => none
  | k + 1, p1, p2, p3, p4, p5 =>
    if 0 ≤ p1 ∧ p1 < (2 : Int) then
      if (decide (p2 < (List.length ((List.getD p5 (Int.toNat p1) (Kd.dflt (Kd.pair (Kd.sl KI) Kd.unit))).1) : Int))) = true then
        if 0 ≤ p2 ∧ p2 < (List.length ((List.getD p5 (Int.toNat p1) (Kd.dflt (Kd.pair (Kd.sl KI) Kd.unit))).1) : Int) then
          Option.bind (antiquaryref44_Place k p3 ((List.getD ((List.getD p5 (Int.toNat p1) (Kd.dflt (Kd.pair (Kd.sl KI) Kd.unit))).1) (Int.toNat p2) (Kd.dflt KI)).1)) fun x2109 =>
          if (decide (x2109 < (0 : Int))) = true then
            Option.bind (antiquaryref44_Place k p4 ((List.getD ((List.getD p5 (Int.toNat p1) (Kd.dflt (Kd.pair (Kd.sl KI) Kd.unit))).1) (Int.toNat p2) (Kd.dflt KI)).1)) fun x2112 =>
            antiquarylaw44_ExchangeBearsLosses_l5 s2 (antiquarylaw44_ExchangeBearsLosses_l4 s2 k) k p1 p2 (decide (x2112 < (0 : Int))) p3 p4 p5
          else
            antiquarylaw44_ExchangeBearsLosses_l5 s2 (antiquarylaw44_ExchangeBearsLosses_l4 s2 k) k p1 p2 false p3 p4 p5
        else none
      else
        s2 (IntKind.i64.wrap (p1 + (1 : Int))) p3 p4 p5
    else none
def antiquarylaw44_ExchangeBearsLosses_l3 (s2 : Int → List It → List It → (List (List It × Unit)) → Option (Bool)) : Nat → Int → Int → List It → List It → (List (List It × Unit)) → List It → Option (Bool)
  | 0, _, _, _, _, _, _ => none
  | k + 1, p1, p2, p3, p4, p5, p6 =>
    if (decide (p2 < (List.length p6 : Int))) = true then
      if 0 ≤ p1 ∧ p1 < (2 : Int) then
        if 0 ≤ p2 ∧ p2 < (List.length p6 : Int) then
          Option.bind (antiquaryref44_Place k ((List.getD p5 (Int.toNat p1) (Kd.dflt (Kd.pair (Kd.sl KI) Kd.unit))).1) ((List.getD p6 (Int.toNat p2) (Kd.dflt KI)).1)) fun x2103 =>
          if (decide (x2103 < (0 : Int))) = true then
            some (false)
          else
            antiquarylaw44_ExchangeBearsLosses_l3 s2 k p1 (IntKind.i64.wrap (p2 + (1 : Int))) p3 p4 p5 p6
        else none
      else none
    else
      antiquarylaw44_ExchangeBearsLosses_l4 s2 k p1 (0 : Int) p3 p4 p5
def antiquarylaw44_ExchangeBearsLosses_l2 : Nat → Int → List It → List It → (List (List It × Unit)) → Option (Bool)
  | 0, _, _, _, _ => none
  | k + 1, p1, p2, p3, p4 =>
    if (decide (p1 < (2 : Int))) = true then
      if 0 ≤ p1 ∧ p1 < (2 : Int) ∧ 2 ≤ List.length ([(p2, ()), (p3, ())] : List (List It × Unit)) then
        if Int.toNat p1 < List.length ([(p2, ()), (p3, ())] : List (List It × Unit)) then
          antiquarylaw44_ExchangeBearsLosses_l3 (antiquarylaw44_ExchangeBearsLosses_l2 k) k p1 (0 : Int) p2 p3 p4 ((List.getD ([(p2, ()), (p3, ())] : List (List It × Unit)) (Int.toNat p1) (Kd.dflt (Kd.pair (Kd.sl KI) Kd.unit))).1)
        else none
      else none
    else
      Option.bind (antiquarylaw44_run_39 k ((List.getD p4 (0) (Kd.dflt (Kd.pair (Kd.sl KI) Kd.unit))).1) ((List.getD p4 (1) (Kd.dflt (Kd.pair (Kd.sl KI) Kd.unit))).1) false) fun x2085 =>
      Option.bind (antiquarylaw44_sanity k) fun x2087 =>
      if x2087 = true then
        if x2085.2.2.1 = true then
          if (!x2085.2.2.2) = true then
            some (true)
          else
            Option.bind (antiquaryref44_Same k ((List.getD x2085.1 (0) (Kd.dflt (Kd.pair (Kd.sl KI) Kd.unit))).1) ((List.getD x2085.1 (1) (Kd.dflt (Kd.pair (Kd.sl KI) Kd.unit))).1)) fun x2092 =>
            if x2092 = true then
              some (true)
            else
              Option.bind (antiquaryref44_Collides k ((List.getD p4 (0) (Kd.dflt (Kd.pair (Kd.sl KI) Kd.unit))).1) ((List.getD p4 (1) (Kd.dflt (Kd.pair (Kd.sl KI) Kd.unit))).1)) fun x2095 =>
              if x2095 = true then
                some (true)
              else
                Option.bind (antiquaryref44_Collides k ((List.getD p4 (1) (Kd.dflt (Kd.pair (Kd.sl KI) Kd.unit))).1) ((List.getD p4 (0) (Kd.dflt (Kd.pair (Kd.sl KI) Kd.unit))).1)) fun x2098 =>
                some (x2098)
        else
          some (false)
      else
        some (false)
def antiquarylaw44_ExchangeBearsLosses_l1 (k : Nat) (p1 : List Int) (p2 : Bool) (p3 : List It) (p4 : List It) : Option (Bool) :=
  if p2 = true then
    some (false)
  else
    Option.bind (antiquarylaw44_run k p3 p4 p1 true) fun x2076 =>
    if (!x2076.2.2.2) = true then
      Option.bind (antiquarylaw44_sanity k) fun x2079 =>
      some (x2079)
    else
      if (!x2076.2.2.1) = true then
        some (false)
      else
        antiquarylaw44_ExchangeBearsLosses_l2 k (0 : Int) p3 p4 x2076.1
def antiquarylaw44_ExchangeBearsLosses_l0 (k : Nat) (p1 : List ByteArray) (p2 : List ByteArray) (p3 : List Int) (p4 : Bool) : Option (Bool) :=
  if p4 = true then
    Option.bind (antiquarylaw44_sanity k) fun x2068 =>
    some (x2068)
  else
    Option.bind (antiquarylaw44_of k p1) fun x2070 =>
    Option.bind (antiquarylaw44_of k p2) fun x2072 =>
    if (!x2070.2) = true then
      antiquarylaw44_ExchangeBearsLosses_l1 k p3 true x2070.1 x2072.1
    else
      antiquarylaw44_ExchangeBearsLosses_l1 k p3 (!x2072.2) x2070.1 x2072.1
def antiquarylaw44_ExchangeBearsLosses (k : Nat) (a1 : List ByteArray) (a2 : List ByteArray) (a3 : List Int) : Option (Bool) :=
  Option.bind (antiquaryref44_Few k a1 (40 : Int)) fun x2061 =>
  Option.bind (antiquaryref44_Few k a2 (40 : Int)) fun x2063 =>
  if (!x2061) = true then
    antiquarylaw44_ExchangeBearsLosses_l0 k a1 a2 a3 true
  else
    if (!x2063) = true then
      antiquarylaw44_ExchangeBearsLosses_l0 k a1 a2 a3 true
    else
      antiquarylaw44_ExchangeBearsLosses_l0 k a1 a2 a3 (decide ((List.length a3 : Int) > (300 : Int)))
theorem antiquarylaw44_ExchangeBearsLosses_l5_ok (s2 : Int → List It → List It → (List (List It × Unit)) → Option (Bool)) (hs2 : ∀ (p1 : Int) (p2 : List It) (p3 : List It) (p4 : List (List It × Unit)) (r : Bool), s2 p1 p2 p3 p4 = some r → Abs.Good P 6 Tryd.f6.ntmps [] [] (.v (.p Kd.bool r)) (pos Tryd.f6 [.r, .r, .r, .r, .c false, .r, .r, .r, .c false, .r, .r, .c false, .r, .c false, .r]) [(sk 9, some (.v (.ptr 502001 0))), (sk 11, some (.v (.ptr 502002 0))), (sk 13, some (.v (.ptr 502003 0))), (sk 17, some (.v (.p (Kd.int .i64) p1))), (ek 502001, some (.box [.p (Kd.sl KI) p2])), (ek 502002, some (.box [.p (Kd.sl KI) p3])), (ek 502003, some (.box [.p (Kd.arr 2 (Kd.pair (Kd.sl KI) Kd.unit)) p4]))]) (s4 : Int → Int → List It → List It → (List (List It × Unit)) → Option (Bool)) (hs4 : ∀ (p1 : Int) (p2 : Int) (p3 : List It) (p4 : List It) (p5 : List (List It × Unit)) (r : Bool), s4 p1 p2 p3 p4 p5 = some r → Abs.Good P 6 Tryd.f6.ntmps [] [] (.v (.p Kd.bool r)) (pos Tryd.f6 [.r, .r, .r, .r, .c false, .r, .r, .r, .c false, .r, .r, .c false, .r, .c false, .r, .r, .c true, .r, .r, .r, .c false, .r]) [(sk 9, some (.v (.ptr 504001 0))), (sk 11, some (.v (.ptr 504002 0))), (sk 13, some (.v (.ptr 504003 0))), (sk 17, some (.v (.p (Kd.int .i64) p1))), (sk 20, some (.v (.p (Kd.int .i64) p2))), (ek 504001, some (.box [.p (Kd.sl KI) p3])), (ek 504002, some (.box [.p (Kd.sl KI) p4])), (ek 504003, some (.box [.p (Kd.arr 2 (Kd.pair (Kd.sl KI) Kd.unit)) p5]))]) (k : Nat) (p1 : Int) (p2 : Int) (p3 : Bool) (p4 : List It) (p5 : List It) (p6 : List (List It × Unit)) (r : Bool) (h : antiquarylaw44_ExchangeBearsLosses_l5 s2 s4 k p1 p2 p3 p4 p5 p6 = some r) :
    Abs.Good P 6 Tryd.f6.ntmps [] [] (.v (.p Kd.bool r)) (pos Tryd.f6 [.r, .r, .r, .r, .c false, .r, .r, .r, .c false, .r, .r, .c false, .r, .c false, .r, .r, .c true, .r, .r, .r, .c false, .r, .r, .c true, .r]) [(sk 9, some (.v (.ptr 505001 0))), (sk 11, some (.v (.ptr 505002 0))), (sk 13, some (.v (.ptr 505003 0))), (sk 17, some (.v (.p (Kd.int .i64) p1))), (sk 20, some (.v (.p (Kd.int .i64) p2))), (sk 131, some (.v (.p Kd.bool p3))), (ek 505001, some (.box [.p (Kd.sl KI) p4])), (ek 505002, some (.box [.p (Kd.sl KI) p5])), (ek 505003, some (.box [.p (Kd.arr 2 (Kd.pair (Kd.sl KI) Kd.unit)) p6]))] := by
  unfold antiquarylaw44_ExchangeBearsLosses_l5 at h
  rcases br_inv h with ⟨h2114, h⟩ | ⟨h2114, h⟩
  · replace h := Option.some.inj h; subst h
    exact Abs.Good.path_ret hm [.cond true, .reg []] [] Tryd.func6 (cs := [_]) (by kernel_rfl) ⟨h2114, trivial⟩ (by kernel_rfl)
  · exact Abs.Good.path hm [.cond false, .reg [], .keep [sk 9, sk 11, sk 13, sk 17, sk 20, ek 505001, ek 505002, ek 505003], .ren [(505001, 504001), (505002, 504002), (505003, 504003)]] (cs := [_]) (by kernel_rfl) ⟨h2114, trivial⟩ (hs4 p1 (IntKind.i64.wrap (p2 + (1 : Int))) p4 p5 p6 r h)
theorem antiquarylaw44_ExchangeBearsLosses_l4_ok (s2 : Int → List It → List It → (List (List It × Unit)) → Option (Bool)) (hs2 : ∀ (p1 : Int) (p2 : List It) (p3 : List It) (p4 : List (List It × Unit)) (r : Bool), s2 p1 p2 p3 p4 = some r → Abs.Good P 6 Tryd.f6.ntmps [] [] (.v (.p Kd.bool r)) (pos Tryd.f6 [.r, .r, .r, .r, .c false, .r, .r, .r, .c false, .r, .r, .c false, .r, .c false, .r]) [(sk 9, some (.v (.ptr 502001 0))), (sk 11, some (.v (.ptr 502002 0))), (sk 13, some (.v (.ptr 502003 0))), (sk 17, some (.v (.p (Kd.int .i64) p1))), (ek 502001, some (.box [.p (Kd.sl KI) p2])), (ek 502002, some (.box [.p (Kd.sl KI) p3])), (ek 502003, some (.box [.p (Kd.arr 2 (Kd.pair (Kd.sl KI) Kd.unit)) p4]))]) (k : Nat) : ∀ (p1 : Int) (p2 : Int) (p3 : List It) (p4 : List It) (p5 : List (List It × Unit)) (r : Bool), antiquarylaw44_ExchangeBearsLosses_l4 s2 k p1 p2 p3 p4 p5 = some r →
    Abs.Good P 6 Tryd.f6.ntmps [] [] (.v (.p Kd.bool r)) (pos Tryd.f6 [.r, .r, .r, .r, .c false, .r, .r, .r, .c false, .r, .r, .c false, .r, .c false, .r, .r, .c true, .r, .r, .r, .c false, .r]) [(sk 9, some (.v (.ptr 504001 0))), (sk 11, some (.v (.ptr 504002 0))), (sk 13, some (.v (.ptr 504003 0))), (sk 17, some (.v (.p (Kd.int .i64) p1))), (sk 20, some (.v (.p (Kd.int .i64) p2))), (ek 504001, some (.box [.p (Kd.sl KI) p3])), (ek 504002, some (.box [.p (Kd.sl KI) p4])), (ek 504003, some (.box [.p (Kd.arr 2 (Kd.pair (Kd.sl KI) Kd.unit)) p5]))] := by
  induction k with
  | zero => intro p1 p2 p3 p4 p5 r h; cases h
  | succ k ih =>
    intro p1 p2 p3 p4 p5 r h
    unfold antiquarylaw44_ExchangeBearsLosses_l4 at h
    obtain ⟨h2106, h⟩ := gd_inv h
    rcases br_inv h with ⟨h2107, h⟩ | ⟨h2107, h⟩
    · obtain ⟨h2108, h⟩ := gd_inv h
      obtain ⟨x2109, h2110, h⟩ := bind_inv h
      rcases br_inv h with ⟨h2111, h⟩ | ⟨h2111, h⟩
      · obtain ⟨x2112, h2113, h⟩ := bind_inv h
        exact Abs.Good.path hm [.reg [], .cond true, .reg [(9, { call := some { lend := [], pass := [], res := .v (.p (Kd.int .i64) x2109), outs := [], back := [] } }), (12, { dec := some true }), (13, { dec := some true }), (14, { dec := some true }), (15, { dec := some true }), (16, { dec := some true }), (17, { dec := some true }), (18, { dec := some true }), (19, { dec := some true }), (20, { dec := some true }), (21, { dec := some true, call := some { lend := [], pass := [], res := .v (.p (Kd.int .i64) x2112), outs := [], back := [] } }), (22, { dec := some true }), (23, { pick := some true })], .keep [sk 9, sk 11, sk 13, sk 17, sk 20, sk 131, ek 504001, ek 504002, ek 504003], .ren [(504001, 505001), (504002, 505002), (504003, 505003)]] (cs := [_, _, _, _, _, _, _, _, _, _, _, _, _, _, _, _, _, _, _, _, _, _, _, _, _]) (by kernel_rfl) ⟨h2106.1, h2106.2, h2107, h2106.1, h2106.2, h2108.1, h2108.2, (antiquaryref44_Place_ok k p3 ((List.getD ((List.getD p5 (Int.toNat p1) (Kd.dflt (Kd.pair (Kd.sl KI) Kd.unit))).1) (Int.toNat p2) (Kd.dflt KI)).1) _ h2110), h2111, h2111, h2111, h2106.1, h2106.2, h2111, h2111, h2111, h2111, h2108.1, h2108.2, h2111, h2111, h2111, (antiquaryref44_Place_ok k p4 ((List.getD ((List.getD p5 (Int.toNat p1) (Kd.dflt (Kd.pair (Kd.sl KI) Kd.unit))).1) (Int.toNat p2) (Kd.dflt KI)).1) _ h2113), h2111, h2111, trivial⟩ (antiquarylaw44_ExchangeBearsLosses_l5_ok s2 hs2 (antiquarylaw44_ExchangeBearsLosses_l4 s2 k) ih k p1 p2 (decide (x2112 < (0 : Int))) p3 p4 p5 r h)
      · exact Abs.Good.path hm [.reg [], .cond true, .reg [(9, { call := some { lend := [], pass := [], res := .v (.p (Kd.int .i64) x2109), outs := [], back := [] } }), (12, { dec := some false }), (13, { dec := some false }), (14, { dec := some false }), (15, { dec := some false }), (16, { dec := some false }), (17, { dec := some false }), (18, { dec := some false }), (19, { dec := some false }), (20, { dec := some false }), (21, { dec := some false }), (22, { dec := some false }), (23, { pick := some false })], .keep [sk 9, sk 11, sk 13, sk 17, sk 20, sk 131, ek 504001, ek 504002, ek 504003], .ren [(504001, 505001), (504002, 505002), (504003, 505003)]] (cs := [_, _, _, _, _, _, _, _, _, _, _, _, _, _, _, _, _, _, _, _]) (by kernel_rfl) ⟨h2106.1, h2106.2, h2107, h2106.1, h2106.2, h2108.1, h2108.2, (antiquaryref44_Place_ok k p3 ((List.getD ((List.getD p5 (Int.toNat p1) (Kd.dflt (Kd.pair (Kd.sl KI) Kd.unit))).1) (Int.toNat p2) (Kd.dflt KI)).1) _ h2110), h2111, h2111, h2111, h2111, h2111, h2111, h2111, h2111, h2111, h2111, h2111, h2111, trivial⟩ (antiquarylaw44_ExchangeBearsLosses_l5_ok s2 hs2 (antiquarylaw44_ExchangeBearsLosses_l4 s2 k) ih k p1 p2 false p3 p4 p5 r h)
    · exact Abs.Good.path hm [.reg [], .cond false, .reg [], .keep [sk 9, sk 11, sk 13, sk 17, ek 504001, ek 504002, ek 504003], .ren [(504001, 502001), (504002, 502002), (504003, 502003)]] (cs := [_, _, _]) (by kernel_rfl) ⟨h2106.1, h2106.2, h2107, trivial⟩ (hs2 (IntKind.i64.wrap (p1 + (1 : Int))) p3 p4 p5 r h)
theorem antiquarylaw44_ExchangeBearsLosses_l3_ok (s2 : Int → List It → List It → (List (List It × Unit)) → Option (Bool)) (hs2 : ∀ (p1 : Int) (p2 : List It) (p3 : List It) (p4 : List (List It × Unit)) (r : Bool), s2 p1 p2 p3 p4 = some r → Abs.Good P 6 Tryd.f6.ntmps [] [] (.v (.p Kd.bool r)) (pos Tryd.f6 [.r, .r, .r, .r, .c false, .r, .r, .r, .c false, .r, .r, .c false, .r, .c false, .r]) [(sk 9, some (.v (.ptr 502001 0))), (sk 11, some (.v (.ptr 502002 0))), (sk 13, some (.v (.ptr 502003 0))), (sk 17, some (.v (.p (Kd.int .i64) p1))), (ek 502001, some (.box [.p (Kd.sl KI) p2])), (ek 502002, some (.box [.p (Kd.sl KI) p3])), (ek 502003, some (.box [.p (Kd.arr 2 (Kd.pair (Kd.sl KI) Kd.unit)) p4]))]) (k : Nat) : ∀ (p1 : Int) (p2 : Int) (p3 : List It) (p4 : List It) (p5 : List (List It × Unit)) (p6 : List It) (r : Bool), antiquarylaw44_ExchangeBearsLosses_l3 s2 k p1 p2 p3 p4 p5 p6 = some r →
    Abs.Good P 6 Tryd.f6.ntmps [] [] (.v (.p Kd.bool r)) (pos Tryd.f6 [.r, .r, .r, .r, .c false, .r, .r, .r, .c false, .r, .r, .c false, .r, .c false, .r, .r, .c true, .r, .r]) [(sk 9, some (.v (.ptr 503001 0))), (sk 11, some (.v (.ptr 503002 0))), (sk 13, some (.v (.ptr 503003 0))), (sk 17, some (.v (.p (Kd.int .i64) p1))), (sk 18, some (.v (.ptr 503004 0))), (sk 19, some (.v (.p (Kd.int .i64) p2))), (ek 503001, some (.box [.p (Kd.sl KI) p3])), (ek 503002, some (.box [.p (Kd.sl KI) p4])), (ek 503003, some (.box [.p (Kd.arr 2 (Kd.pair (Kd.sl KI) Kd.unit)) p5])), (ek 503004, some (.box [.p (Kd.sl KI) p6]))] := by
  induction k with
  | zero => intro p1 p2 p3 p4 p5 p6 r h; cases h
  | succ k ih =>
    intro p1 p2 p3 p4 p5 p6 r h
    unfold antiquarylaw44_ExchangeBearsLosses_l3 at h
    rcases br_inv h with ⟨h2100, h⟩ | ⟨h2100, h⟩
    · obtain ⟨h2101, h⟩ := gd_inv h
      obtain ⟨h2102, h⟩ := gd_inv h
      obtain ⟨x2103, h2104, h⟩ := bind_inv h
      rcases br_inv h with ⟨h2105, h⟩ | ⟨h2105, h⟩
      · replace h := Option.some.inj h; subst h
        exact Abs.Good.path_ret hm [.reg [], .cond true, .reg [(9, { call := some { lend := [], pass := [], res := .v (.p (Kd.int .i64) x2103), outs := [], back := [] } })], .cond true, .reg []] [] Tryd.func6 (cs := [_, _, _, _, _, _, _]) (by kernel_rfl) ⟨h2100, h2101.1, h2101.2, h2102.1, h2102.2, (antiquaryref44_Place_ok k ((List.getD p5 (Int.toNat p1) (Kd.dflt (Kd.pair (Kd.sl KI) Kd.unit))).1) ((List.getD p6 (Int.toNat p2) (Kd.dflt KI)).1) _ h2104), h2105, trivial⟩ (by kernel_rfl)
      · exact Abs.Good.path hm [.reg [], .cond true, .reg [(9, { call := some { lend := [], pass := [], res := .v (.p (Kd.int .i64) x2103), outs := [], back := [] } })], .cond false, .reg [], .keep [sk 9, sk 11, sk 13, sk 17, sk 18, sk 19, ek 503001, ek 503002, ek 503003, ek 503004]] (cs := [_, _, _, _, _, _, _]) (by kernel_rfl) ⟨h2100, h2101.1, h2101.2, h2102.1, h2102.2, (antiquaryref44_Place_ok k ((List.getD p5 (Int.toNat p1) (Kd.dflt (Kd.pair (Kd.sl KI) Kd.unit))).1) ((List.getD p6 (Int.toNat p2) (Kd.dflt KI)).1) _ h2104), h2105, trivial⟩ (ih p1 (IntKind.i64.wrap (p2 + (1 : Int))) p3 p4 p5 p6 r h)
    · exact Abs.Good.path hm [.reg [], .cond false, .reg [], .keep [sk 9, sk 11, sk 13, sk 17, sk 20, ek 503001, ek 503002, ek 503003], .ren [(503001, 504001), (503002, 504002), (503003, 504003)]] (cs := [_]) (by kernel_rfl) ⟨h2100, trivial⟩ (antiquarylaw44_ExchangeBearsLosses_l4_ok s2 hs2 k p1 (0 : Int) p3 p4 p5 r h)
theorem antiquarylaw44_ExchangeBearsLosses_l2_ok (k : Nat) : ∀ (p1 : Int) (p2 : List It) (p3 : List It) (p4 : List (List It × Unit)) (r : Bool), antiquarylaw44_ExchangeBearsLosses_l2 k p1 p2 p3 p4 = some r →
    Abs.Good P 6 Tryd.f6.ntmps [] [] (.v (.p Kd.bool r)) (pos Tryd.f6 [.r, .r, .r, .r, .c false, .r, .r, .r, .c false, .r, .r, .c false, .r, .c false, .r]) [(sk 9, some (.v (.ptr 502001 0))), (sk 11, some (.v (.ptr 502002 0))), (sk 13, some (.v (.ptr 502003 0))), (sk 17, some (.v (.p (Kd.int .i64) p1))), (ek 502001, some (.box [.p (Kd.sl KI) p2])), (ek 502002, some (.box [.p (Kd.sl KI) p3])), (ek 502003, some (.box [.p (Kd.arr 2 (Kd.pair (Kd.sl KI) Kd.unit)) p4]))] := by
  induction k with
  | zero => intro p1 p2 p3 p4 r h; cases h
  | succ k ih =>
    intro p1 p2 p3 p4 r h
    unfold antiquarylaw44_ExchangeBearsLosses_l2 at h
    rcases br_inv h with ⟨h2082, h⟩ | ⟨h2082, h⟩
    · obtain ⟨h2083, h⟩ := gd_inv h
      obtain ⟨h2084, h⟩ := gd_inv h
      exact Abs.Good.path hm [.reg [], .cond true, .reg [], .reg [], .keep [sk 9, sk 11, sk 13, sk 17, sk 18, sk 19, ek 502001, ek 502002, ek 502003, ek 18], .ren [(502001, 503001), (502002, 503002), (502003, 503003), (18, 503004)]] (cs := [_, _, _, _, _]) (by kernel_rfl) ⟨h2082, h2083.1, h2083.2.1, h2083.2.2, h2084, trivial⟩ (antiquarylaw44_ExchangeBearsLosses_l3_ok (antiquarylaw44_ExchangeBearsLosses_l2 k) ih k p1 (0 : Int) p2 p3 p4 ((List.getD ([(p2, ()), (p3, ())] : List (List It × Unit)) (Int.toNat p1) (Kd.dflt (Kd.pair (Kd.sl KI) Kd.unit))).1) r h)
    · obtain ⟨x2085, h2086, h⟩ := bind_inv h
      obtain ⟨x2087, h2088, h⟩ := bind_inv h
      rcases br_inv h with ⟨h2089, h⟩ | ⟨h2089, h⟩
      · rcases br_inv h with ⟨h2090, h⟩ | ⟨h2090, h⟩
        · rcases br_inv h with ⟨h2091, h⟩ | ⟨h2091, h⟩
          · replace h := Option.some.inj h; subst h
            exact Abs.Good.path_ret hm [.reg [], .cond false, .reg [(4, { call := some { lend := [], pass := [], res := .t [.p (Kd.arr 2 (Kd.pair (Kd.sl KI) Kd.unit)) x2085.1, .p (Kd.sl KSe) x2085.2.1, .p Kd.bool x2085.2.2.1, .p Kd.bool x2085.2.2.2], outs := [], back := [] } })], .reg [(0, { call := some { lend := [], pass := [], res := .v (.p Kd.bool x2087), outs := [], back := [] } }), (2, { dec := some true }), (3, { pick := some true }), (5, { dec := some true }), (6, { dec := some true }), (7, { dec := some true }), (8, { dec := some true }), (9, { dec := some true }), (10, { dec := some true }), (11, { dec := some true }), (12, { dec := some true }), (13, { dec := some true, pick := some true }), (14, { dec := some true }), (15, { dec := some true }), (16, { dec := some true }), (17, { dec := some true }), (18, { dec := some true }), (19, { dec := some true }), (20, { dec := some true, pick := some true }), (21, { dec := some true }), (22, { dec := some true }), (23, { dec := some true }), (24, { dec := some true }), (25, { dec := some true }), (26, { dec := some true }), (27, { dec := some true, pick := some true }), (28, { pick := some true })]] [] Tryd.func6 (cs := [_, _, _, _, _, _, _, _, _, _, _, _, _, _, _, _, _, _, _, _, _, _, _, _, _, _, _, _, _, _, _, _, _, _, _, _]) (by kernel_rfl) ⟨h2082, (by decide : 0 ≤ (0 : Int)), (by decide : (0 : Int) < (2 : Int)), (by decide : 0 ≤ (1 : Int)), (by decide : (1 : Int) < (2 : Int)), (antiquarylaw44_run_39_ok k ((List.getD p4 (0) (Kd.dflt (Kd.pair (Kd.sl KI) Kd.unit))).1) ((List.getD p4 (1) (Kd.dflt (Kd.pair (Kd.sl KI) Kd.unit))).1) false _ h2086), (antiquarylaw44_sanity_ok k  _ h2088), h2089, h2089, h2090, h2090, h2090, h2091, h2091, h2091, h2091, h2091, h2090, h2091, h2090, (rfl : true = true), (rfl : true = true), (rfl : true = true), (rfl : true = true), (rfl : true = true), h2090, (rfl : true = true), h2090, (rfl : true = true), (rfl : true = true), (rfl : true = true), (rfl : true = true), (rfl : true = true), h2090, (rfl : true = true), h2090, trivial⟩ (by kernel_rfl)
          · obtain ⟨x2092, h2093, h⟩ := bind_inv h
            rcases br_inv h with ⟨h2094, h⟩ | ⟨h2094, h⟩
            · replace h := Option.some.inj h; subst h
              exact Abs.Good.path_ret hm [.reg [], .cond false, .reg [(4, { call := some { lend := [], pass := [], res := .t [.p (Kd.arr 2 (Kd.pair (Kd.sl KI) Kd.unit)) x2085.1, .p (Kd.sl KSe) x2085.2.1, .p Kd.bool x2085.2.2.1, .p Kd.bool x2085.2.2.2], outs := [], back := [] } })], .reg [(0, { call := some { lend := [], pass := [], res := .v (.p Kd.bool x2087), outs := [], back := [] } }), (2, { dec := some true }), (3, { pick := some true }), (5, { dec := some true }), (6, { dec := some true }), (7, { dec := some true }), (8, { dec := some false }), (9, { dec := some false }), (10, { dec := some false }), (11, { dec := some false }), (12, { dec := some false, call := some { lend := [], pass := [], res := .v (.p Kd.bool x2092), outs := [], back := [] } }), (13, { dec := some true, pick := some false }), (14, { dec := some true }), (15, { dec := some true }), (16, { dec := some true }), (17, { dec := some true }), (18, { dec := some true }), (19, { dec := some true }), (20, { dec := some true, pick := some true }), (21, { dec := some true }), (22, { dec := some true }), (23, { dec := some true }), (24, { dec := some true }), (25, { dec := some true }), (26, { dec := some true }), (27, { dec := some true, pick := some true }), (28, { pick := some true })]] [] Tryd.func6 (cs := [_, _, _, _, _, _, _, _, _, _, _, _, _, _, _, _, _, _, _, _, _, _, _, _, _, _, _, _, _, _, _, _, _, _, _, _, _, _, _, _, _]) (by kernel_rfl) ⟨h2082, (by decide : 0 ≤ (0 : Int)), (by decide : (0 : Int) < (2 : Int)), (by decide : 0 ≤ (1 : Int)), (by decide : (1 : Int) < (2 : Int)), (antiquarylaw44_run_39_ok k ((List.getD p4 (0) (Kd.dflt (Kd.pair (Kd.sl KI) Kd.unit))).1) ((List.getD p4 (1) (Kd.dflt (Kd.pair (Kd.sl KI) Kd.unit))).1) false _ h2086), (antiquarylaw44_sanity_ok k  _ h2088), h2089, h2089, h2090, h2090, h2090, h2091, (by decide : 0 ≤ (0 : Int)), (by decide : (0 : Int) < (2 : Int)), h2091, h2091, (by decide : 0 ≤ (1 : Int)), (by decide : (1 : Int) < (2 : Int)), h2091, h2091, (antiquaryref44_Same_ok k ((List.getD x2085.1 (0) (Kd.dflt (Kd.pair (Kd.sl KI) Kd.unit))).1) ((List.getD x2085.1 (1) (Kd.dflt (Kd.pair (Kd.sl KI) Kd.unit))).1) _ h2093), h2090, h2091, h2090, h2094, h2094, h2094, h2094, h2094, h2090, h2094, h2090, (rfl : true = true), (rfl : true = true), (rfl : true = true), (rfl : true = true), (rfl : true = true), h2090, (rfl : true = true), h2090, trivial⟩ (by kernel_rfl)
            · obtain ⟨x2095, h2096, h⟩ := bind_inv h
              rcases br_inv h with ⟨h2097, h⟩ | ⟨h2097, h⟩
              · replace h := Option.some.inj h; subst h
                exact Abs.Good.path_ret hm [.reg [], .cond false, .reg [(4, { call := some { lend := [], pass := [], res := .t [.p (Kd.arr 2 (Kd.pair (Kd.sl KI) Kd.unit)) x2085.1, .p (Kd.sl KSe) x2085.2.1, .p Kd.bool x2085.2.2.1, .p Kd.bool x2085.2.2.2], outs := [], back := [] } })], .reg [(0, { call := some { lend := [], pass := [], res := .v (.p Kd.bool x2087), outs := [], back := [] } }), (2, { dec := some true }), (3, { pick := some true }), (5, { dec := some true }), (6, { dec := some true }), (7, { dec := some true }), (8, { dec := some false }), (9, { dec := some false }), (10, { dec := some false }), (11, { dec := some false }), (12, { dec := some false, call := some { lend := [], pass := [], res := .v (.p Kd.bool x2092), outs := [], back := [] } }), (13, { dec := some true, pick := some false }), (14, { dec := some true }), (15, { dec := some false }), (16, { dec := some false }), (17, { dec := some false }), (18, { dec := some false }), (19, { dec := some false, call := some { lend := [], pass := [], res := .v (.p Kd.bool x2095), outs := [], back := [] } }), (20, { dec := some true, pick := some false }), (21, { dec := some true }), (22, { dec := some true }), (23, { dec := some true }), (24, { dec := some true }), (25, { dec := some true }), (26, { dec := some true }), (27, { dec := some true, pick := some true }), (28, { pick := some true })]] [] Tryd.func6 (cs := [_, _, _, _, _, _, _, _, _, _, _, _, _, _, _, _, _, _, _, _, _, _, _, _, _, _, _, _, _, _, _, _, _, _, _, _, _, _, _, _, _, _, _, _, _, _]) (by kernel_rfl) ⟨h2082, (by decide : 0 ≤ (0 : Int)), (by decide : (0 : Int) < (2 : Int)), (by decide : 0 ≤ (1 : Int)), (by decide : (1 : Int) < (2 : Int)), (antiquarylaw44_run_39_ok k ((List.getD p4 (0) (Kd.dflt (Kd.pair (Kd.sl KI) Kd.unit))).1) ((List.getD p4 (1) (Kd.dflt (Kd.pair (Kd.sl KI) Kd.unit))).1) false _ h2086), (antiquarylaw44_sanity_ok k  _ h2088), h2089, h2089, h2090, h2090, h2090, h2091, (by decide : 0 ≤ (0 : Int)), (by decide : (0 : Int) < (2 : Int)), h2091, h2091, (by decide : 0 ≤ (1 : Int)), (by decide : (1 : Int) < (2 : Int)), h2091, h2091, (antiquaryref44_Same_ok k ((List.getD x2085.1 (0) (Kd.dflt (Kd.pair (Kd.sl KI) Kd.unit))).1) ((List.getD x2085.1 (1) (Kd.dflt (Kd.pair (Kd.sl KI) Kd.unit))).1) _ h2093), h2090, h2091, h2090, h2094, (by decide : 0 ≤ (0 : Int)), (by decide : (0 : Int) < (2 : Int)), h2094, h2094, (by decide : 0 ≤ (1 : Int)), (by decide : (1 : Int) < (2 : Int)), h2094, h2094, (antiquaryref44_Collides_ok k ((List.getD p4 (0) (Kd.dflt (Kd.pair (Kd.sl KI) Kd.unit))).1) ((List.getD p4 (1) (Kd.dflt (Kd.pair (Kd.sl KI) Kd.unit))).1) _ h2096), h2090, h2094, h2090, h2097, h2097, h2097, h2097, h2097, h2090, h2097, h2090, trivial⟩ (by kernel_rfl)
              · obtain ⟨x2098, h2099, h⟩ := bind_inv h
                replace h := Option.some.inj h; subst h
                exact Abs.Good.path_ret hm [.reg [], .cond false, .reg [(4, { call := some { lend := [], pass := [], res := .t [.p (Kd.arr 2 (Kd.pair (Kd.sl KI) Kd.unit)) x2085.1, .p (Kd.sl KSe) x2085.2.1, .p Kd.bool x2085.2.2.1, .p Kd.bool x2085.2.2.2], outs := [], back := [] } })], .reg [(0, { call := some { lend := [], pass := [], res := .v (.p Kd.bool x2087), outs := [], back := [] } }), (2, { dec := some true }), (3, { pick := some true }), (5, { dec := some true }), (6, { dec := some true }), (7, { dec := some true }), (8, { dec := some false }), (9, { dec := some false }), (10, { dec := some false }), (11, { dec := some false }), (12, { dec := some false, call := some { lend := [], pass := [], res := .v (.p Kd.bool x2092), outs := [], back := [] } }), (13, { dec := some true, pick := some false }), (14, { dec := some true }), (15, { dec := some false }), (16, { dec := some false }), (17, { dec := some false }), (18, { dec := some false }), (19, { dec := some false, call := some { lend := [], pass := [], res := .v (.p Kd.bool x2095), outs := [], back := [] } }), (20, { dec := some true, pick := some false }), (21, { dec := some true }), (22, { dec := some false }), (23, { dec := some false }), (24, { dec := some false }), (25, { dec := some false }), (26, { dec := some false, call := some { lend := [], pass := [], res := .v (.p Kd.bool x2098), outs := [], back := [] } }), (27, { dec := some true, pick := some false }), (28, { pick := some true })]] [] Tryd.func6 (cs := [_, _, _, _, _, _, _, _, _, _, _, _, _, _, _, _, _, _, _, _, _, _, _, _, _, _, _, _, _, _, _, _, _, _, _, _, _, _, _, _, _, _, _, _, _, _, _, _, _, _, _]) (by kernel_rfl) ⟨h2082, (by decide : 0 ≤ (0 : Int)), (by decide : (0 : Int) < (2 : Int)), (by decide : 0 ≤ (1 : Int)), (by decide : (1 : Int) < (2 : Int)), (antiquarylaw44_run_39_ok k ((List.getD p4 (0) (Kd.dflt (Kd.pair (Kd.sl KI) Kd.unit))).1) ((List.getD p4 (1) (Kd.dflt (Kd.pair (Kd.sl KI) Kd.unit))).1) false _ h2086), (antiquarylaw44_sanity_ok k  _ h2088), h2089, h2089, h2090, h2090, h2090, h2091, (by decide : 0 ≤ (0 : Int)), (by decide : (0 : Int) < (2 : Int)), h2091, h2091, (by decide : 0 ≤ (1 : Int)), (by decide : (1 : Int) < (2 : Int)), h2091, h2091, (antiquaryref44_Same_ok k ((List.getD x2085.1 (0) (Kd.dflt (Kd.pair (Kd.sl KI) Kd.unit))).1) ((List.getD x2085.1 (1) (Kd.dflt (Kd.pair (Kd.sl KI) Kd.unit))).1) _ h2093), h2090, h2091, h2090, h2094, (by decide : 0 ≤ (0 : Int)), (by decide : (0 : Int) < (2 : Int)), h2094, h2094, (by decide : 0 ≤ (1 : Int)), (by decide : (1 : Int) < (2 : Int)), h2094, h2094, (antiquaryref44_Collides_ok k ((List.getD p4 (0) (Kd.dflt (Kd.pair (Kd.sl KI) Kd.unit))).1) ((List.getD p4 (1) (Kd.dflt (Kd.pair (Kd.sl KI) Kd.unit))).1) _ h2096), h2090, h2094, h2090, h2097, (by decide : 0 ≤ (1 : Int)), (by decide : (1 : Int) < (2 : Int)), h2097, h2097, (by decide : 0 ≤ (0 : Int)), (by decide : (0 : Int) < (2 : Int)), h2097, h2097, (antiquaryref44_Collides_ok k ((List.getD p4 (1) (Kd.dflt (Kd.pair (Kd.sl KI) Kd.unit))).1) ((List.getD p4 (0) (Kd.dflt (Kd.pair (Kd.sl KI) Kd.unit))).1) _ h2099), h2090, h2097, h2090, trivial⟩ (by kernel_rfl)
        · replace h := Option.some.inj h; subst h
          exact Abs.Good.path_ret hm [.reg [], .cond false, .reg [(4, { call := some { lend := [], pass := [], res := .t [.p (Kd.arr 2 (Kd.pair (Kd.sl KI) Kd.unit)) x2085.1, .p (Kd.sl KSe) x2085.2.1, .p Kd.bool x2085.2.2.1, .p Kd.bool x2085.2.2.2], outs := [], back := [] } })], .reg [(0, { call := some { lend := [], pass := [], res := .v (.p Kd.bool x2087), outs := [], back := [] } }), (2, { dec := some true }), (3, { pick := some true }), (5, { dec := some false }), (6, { dec := some false }), (7, { dec := some false }), (13, { dec := some false }), (14, { dec := some false }), (20, { dec := some false }), (21, { dec := some false }), (27, { dec := some false }), (28, { pick := some false })]] [] Tryd.func6 (cs := [_, _, _, _, _, _, _, _, _, _, _, _, _, _, _, _, _, _]) (by kernel_rfl) ⟨h2082, (by decide : 0 ≤ (0 : Int)), (by decide : (0 : Int) < (2 : Int)), (by decide : 0 ≤ (1 : Int)), (by decide : (1 : Int) < (2 : Int)), (antiquarylaw44_run_39_ok k ((List.getD p4 (0) (Kd.dflt (Kd.pair (Kd.sl KI) Kd.unit))).1) ((List.getD p4 (1) (Kd.dflt (Kd.pair (Kd.sl KI) Kd.unit))).1) false _ h2086), (antiquarylaw44_sanity_ok k  _ h2088), h2089, h2089, h2090, h2090, h2090, h2090, h2090, h2090, h2090, h2090, h2090, trivial⟩ (by kernel_rfl)
      · replace h := Option.some.inj h; subst h
        exact Abs.Good.path_ret hm [.reg [], .cond false, .reg [(4, { call := some { lend := [], pass := [], res := .t [.p (Kd.arr 2 (Kd.pair (Kd.sl KI) Kd.unit)) x2085.1, .p (Kd.sl KSe) x2085.2.1, .p Kd.bool x2085.2.2.1, .p Kd.bool x2085.2.2.2], outs := [], back := [] } })], .reg [(0, { call := some { lend := [], pass := [], res := .v (.p Kd.bool x2087), outs := [], back := [] } }), (2, { dec := some false }), (3, { pick := some false }), (5, { dec := some false }), (6, { dec := some false }), (7, { dec := some false }), (13, { dec := some false }), (14, { dec := some false }), (20, { dec := some false }), (21, { dec := some false }), (27, { dec := some false }), (28, { pick := some false })]] [] Tryd.func6 (cs := [_, _, _, _, _, _, _, _, _, _, _, _, _, _, _, _, _, _]) (by kernel_rfl) ⟨h2082, (by decide : 0 ≤ (0 : Int)), (by decide : (0 : Int) < (2 : Int)), (by decide : 0 ≤ (1 : Int)), (by decide : (1 : Int) < (2 : Int)), (antiquarylaw44_run_39_ok k ((List.getD p4 (0) (Kd.dflt (Kd.pair (Kd.sl KI) Kd.unit))).1) ((List.getD p4 (1) (Kd.dflt (Kd.pair (Kd.sl KI) Kd.unit))).1) false _ h2086), (antiquarylaw44_sanity_ok k  _ h2088), h2089, h2089, (rfl : false = false), (rfl : false = false), (rfl : false = false), (rfl : false = false), (rfl : false = false), (rfl : false = false), (rfl : false = false), (rfl : false = false), (rfl : false = false), trivial⟩ (by kernel_rfl)
theorem antiquarylaw44_ExchangeBearsLosses_l1_ok (k : Nat) (p1 : List Int) (p2 : Bool) (p3 : List It) (p4 : List It) (r : Bool) (h : antiquarylaw44_ExchangeBearsLosses_l1 k p1 p2 p3 p4 = some r) :
    Abs.Good P 6 Tryd.f6.ntmps [] [] (.v (.p Kd.bool r)) (pos Tryd.f6 [.r, .r, .r, .r, .c false, .r, .r, .r]) [(sk 2, some (.v (.p (Kd.sl (Kd.int .u8)) p1))), (sk 9, some (.v (.ptr 501001 0))), (sk 11, some (.v (.ptr 501002 0))), (sk 56, some (.v (.p Kd.bool p2))), (ek 501001, some (.box [.p (Kd.sl KI) p3])), (ek 501002, some (.box [.p (Kd.sl KI) p4]))] := by
  unfold antiquarylaw44_ExchangeBearsLosses_l1 at h
  rcases br_inv h with ⟨h2075, h⟩ | ⟨h2075, h⟩
  · replace h := Option.some.inj h; subst h
    exact Abs.Good.path_ret hm [.cond true, .reg []] [] Tryd.func6 (cs := [_]) (by kernel_rfl) ⟨h2075, trivial⟩ (by kernel_rfl)
  · obtain ⟨x2076, h2077, h⟩ := bind_inv h
    rcases br_inv h with ⟨h2078, h⟩ | ⟨h2078, h⟩
    · obtain ⟨x2079, h2080, h⟩ := bind_inv h
      replace h := Option.some.inj h; subst h
      exact Abs.Good.path_ret hm [.cond false, .reg [(3, { call := some { lend := [], pass := [], res := .t [.p (Kd.arr 2 (Kd.pair (Kd.sl KI) Kd.unit)) x2076.1, .p (Kd.sl KSe) x2076.2.1, .p Kd.bool x2076.2.2.1, .p Kd.bool x2076.2.2.2], outs := [], back := [] } })], .reg [], .cond true, .reg [(0, { call := some { lend := [], pass := [], res := .v (.p Kd.bool x2079), outs := [], back := [] } })]] [] Tryd.func6 (cs := [_, _, _, _]) (by kernel_rfl) ⟨h2075, (antiquarylaw44_run_ok k p3 p4 p1 true _ h2077), h2078, (antiquarylaw44_sanity_ok k  _ h2080), trivial⟩ (by kernel_rfl)
    · rcases br_inv h with ⟨h2081, h⟩ | ⟨h2081, h⟩
      · replace h := Option.some.inj h; subst h
        exact Abs.Good.path_ret hm [.cond false, .reg [(3, { call := some { lend := [], pass := [], res := .t [.p (Kd.arr 2 (Kd.pair (Kd.sl KI) Kd.unit)) x2076.1, .p (Kd.sl KSe) x2076.2.1, .p Kd.bool x2076.2.2.1, .p Kd.bool x2076.2.2.2], outs := [], back := [] } })], .reg [], .cond false, .reg [], .cond true, .reg []] [] Tryd.func6 (cs := [_, _, _, _]) (by kernel_rfl) ⟨h2075, (antiquarylaw44_run_ok k p3 p4 p1 true _ h2077), h2078, h2081, trivial⟩ (by kernel_rfl)
      · exact Abs.Good.path hm [.cond false, .reg [(3, { call := some { lend := [], pass := [], res := .t [.p (Kd.arr 2 (Kd.pair (Kd.sl KI) Kd.unit)) x2076.1, .p (Kd.sl KSe) x2076.2.1, .p Kd.bool x2076.2.2.1, .p Kd.bool x2076.2.2.2], outs := [], back := [] } })], .reg [], .cond false, .reg [], .cond false, .reg [], .keep [sk 9, sk 11, sk 13, sk 17, ek 501001, ek 501002, ek 13], .ren [(501001, 502001), (501002, 502002), (13, 502003)]] (cs := [_, _, _, _]) (by kernel_rfl) ⟨h2075, (antiquarylaw44_run_ok k p3 p4 p1 true _ h2077), h2078, h2081, trivial⟩ (antiquarylaw44_ExchangeBearsLosses_l2_ok k (0 : Int) p3 p4 x2076.1 r h)
theorem antiquarylaw44_ExchangeBearsLosses_l0_ok (k : Nat) (p1 : List ByteArray) (p2 : List ByteArray) (p3 : List Int) (p4 : Bool) (r : Bool) (h : antiquarylaw44_ExchangeBearsLosses_l0 k p1 p2 p3 p4 = some r) :
    Abs.Good P 6 Tryd.f6.ntmps [] [] (.v (.p Kd.bool r)) (pos Tryd.f6 [.r, .r, .r, .r]) [(sk 0, some (.v (.p (Kd.sl Kd.str) p1))), (sk 1, some (.v (.p (Kd.sl Kd.str) p2))), (sk 2, some (.v (.p (Kd.sl (Kd.int .u8)) p3))), (sk 39, some (.v (.p Kd.bool p4)))] := by
  unfold antiquarylaw44_ExchangeBearsLosses_l0 at h
  rcases br_inv h with ⟨h2067, h⟩ | ⟨h2067, h⟩
  · obtain ⟨x2068, h2069, h⟩ := bind_inv h
    replace h := Option.some.inj h; subst h
    exact Abs.Good.path_ret hm [.cond true, .reg [(0, { call := some { lend := [], pass := [], res := .v (.p Kd.bool x2068), outs := [], back := [] } })]] [] Tryd.func6 (cs := [_, _]) (by kernel_rfl) ⟨h2067, (antiquarylaw44_sanity_ok k  _ h2069), trivial⟩ (by kernel_rfl)
  · obtain ⟨x2070, h2071, h⟩ := bind_inv h
    obtain ⟨x2072, h2073, h⟩ := bind_inv h
    rcases br_inv h with ⟨h2074, h⟩ | ⟨h2074, h⟩
    · exact Abs.Good.path hm [.cond false, .reg [(1, { call := some { lend := [], pass := [], res := .t [.agg [.p (Kd.sl KI) x2070.1], .p Kd.bool x2070.2], outs := [], back := [] } })], .reg [(1, { call := some { lend := [], pass := [], res := .t [.agg [.p (Kd.sl KI) x2072.1], .p Kd.bool x2072.2], outs := [], back := [] } })], .reg [(3, { dec := some true }), (4, { dec := some true }), (5, { pick := some true })], .keep [sk 2, sk 9, sk 11, sk 56, ek 9, ek 11], .ren [(9, 501001), (11, 501002)]] (cs := [_, _, _, _, _, _]) (by kernel_rfl) ⟨h2067, (antiquarylaw44_of_ok k p1 _ h2071), (antiquarylaw44_of_ok k p2 _ h2073), h2074, h2074, h2074, trivial⟩ (antiquarylaw44_ExchangeBearsLosses_l1_ok k p3 true x2070.1 x2072.1 r h)
    · exact Abs.Good.path hm [.cond false, .reg [(1, { call := some { lend := [], pass := [], res := .t [.agg [.p (Kd.sl KI) x2070.1], .p Kd.bool x2070.2], outs := [], back := [] } })], .reg [(1, { call := some { lend := [], pass := [], res := .t [.agg [.p (Kd.sl KI) x2072.1], .p Kd.bool x2072.2], outs := [], back := [] } })], .reg [(3, { dec := some false }), (4, { dec := some false }), (5, { pick := some false })], .keep [sk 2, sk 9, sk 11, sk 56, ek 9, ek 11], .ren [(9, 501001), (11, 501002)]] (cs := [_, _, _, _, _, _]) (by kernel_rfl) ⟨h2067, (antiquarylaw44_of_ok k p1 _ h2071), (antiquarylaw44_of_ok k p2 _ h2073), h2074, h2074, h2074, trivial⟩ (antiquarylaw44_ExchangeBearsLosses_l1_ok k p3 (!x2072.2) x2070.1 x2072.1 r h)
theorem antiquarylaw44_ExchangeBearsLosses_ok (k : Nat) (a1 : List ByteArray) (a2 : List ByteArray) (a3 : List Int) (r : Bool) (h : antiquarylaw44_ExchangeBearsLosses k a1 a2 a3 = some r) : SpecOk P ⟨6, [.p (Kd.sl Kd.str) a1, .p (Kd.sl Kd.str) a2, .p (Kd.sl (Kd.int .u8)) a3], [], .v (.p Kd.bool r), []⟩ := by
  refine spec_at Tryd.func6 (by kernel_rfl) (Nat.le_of_ble_eq_true (by kernel_rfl)) ?_
  unfold antiquarylaw44_ExchangeBearsLosses at h
  obtain ⟨x2061, h2062, h⟩ := bind_inv h
  obtain ⟨x2063, h2064, h⟩ := bind_inv h
  rcases br_inv h with ⟨h2065, h⟩ | ⟨h2065, h⟩
  · exact Abs.Good.path hm [.reg [], .reg [(1, { call := some { lend := [], pass := [], res := .v (.p Kd.bool x2061), outs := [], back := [] } })], .reg [(1, { call := some { lend := [], pass := [], res := .v (.p Kd.bool x2063), outs := [], back := [] } })], .reg [(3, { dec := some true }), (4, { dec := some true }), (5, { pick := some true }), (7, { dec := some true }), (8, { dec := some true }), (9, { dec := some true }), (10, { pick := some true })], .keep [sk 0, sk 1, sk 2, sk 39]] (cs := [_, _, _, _, _, _, _, _, _]) (by kernel_rfl) ⟨(antiquaryref44_Few_ok k a1 (40 : Int) _ h2062), (antiquaryref44_Few_ok k a2 (40 : Int) _ h2064), h2065, h2065, h2065, (rfl : true = true), (rfl : true = true), (rfl : true = true), (rfl : true = true), trivial⟩ (antiquarylaw44_ExchangeBearsLosses_l0_ok k a1 a2 a3 true r h)
  · rcases br_inv h with ⟨h2066, h⟩ | ⟨h2066, h⟩
    · exact Abs.Good.path hm [.reg [], .reg [(1, { call := some { lend := [], pass := [], res := .v (.p Kd.bool x2061), outs := [], back := [] } })], .reg [(1, { call := some { lend := [], pass := [], res := .v (.p Kd.bool x2063), outs := [], back := [] } })], .reg [(3, { dec := some false }), (4, { dec := some false }), (5, { pick := some false }), (7, { dec := some true }), (8, { dec := some true }), (9, { dec := some true }), (10, { pick := some true })], .keep [sk 0, sk 1, sk 2, sk 39]] (cs := [_, _, _, _, _, _, _, _, _]) (by kernel_rfl) ⟨(antiquaryref44_Few_ok k a1 (40 : Int) _ h2062), (antiquaryref44_Few_ok k a2 (40 : Int) _ h2064), h2065, h2065, h2065, h2066, h2066, h2066, h2066, trivial⟩ (antiquarylaw44_ExchangeBearsLosses_l0_ok k a1 a2 a3 true r h)
    · exact Abs.Good.path hm [.reg [], .reg [(1, { call := some { lend := [], pass := [], res := .v (.p Kd.bool x2061), outs := [], back := [] } })], .reg [(1, { call := some { lend := [], pass := [], res := .v (.p Kd.bool x2063), outs := [], back := [] } })], .reg [(3, { dec := some false }), (4, { dec := some false }), (5, { pick := some false }), (7, { dec := some false }), (8, { dec := some false }), (9, { dec := some false }), (10, { pick := some false })], .keep [sk 0, sk 1, sk 2, sk 39]] (cs := [_, _, _, _, _, _, _, _, _]) (by kernel_rfl) ⟨(antiquaryref44_Few_ok k a1 (40 : Int) _ h2062), (antiquaryref44_Few_ok k a2 (40 : Int) _ h2064), h2065, h2065, h2065, h2066, h2066, h2066, h2066, trivial⟩ (antiquarylaw44_ExchangeBearsLosses_l0_ok k a1 a2 a3 (decide ((List.length a3 : Int) > (300 : Int))) r h)

def antiquaryref44_Name (k : Nat) (a1 : ByteArray) : Option (List Int) :=
  Option.bind (antiquaryref02_Of k (44 : Int) ([a1] : List ByteArray)) fun x2117 =>
  some (x2117)
theorem antiquaryref44_Name_ok (k : Nat) (a1 : ByteArray) (r : List Int) (h : antiquaryref44_Name k a1 = some r) : SpecOk P ⟨14, [.p Kd.str a1], [], .v (.p (Kd.arr 16 (Kd.int .u8)) r), []⟩ := by
  refine spec_at Tryd.func14 (by kernel_rfl) (Nat.le_of_ble_eq_true (by kernel_rfl)) ?_
  unfold antiquaryref44_Name at h
  obtain ⟨x2117, h2118, h⟩ := bind_inv h
  replace h := Option.some.inj h; subst h
  exact Abs.Good.path_ret hm [.reg [], .reg [(2, { call := some { lend := [(4, false)], pass := [], res := .v (.p (Kd.arr 16 (Kd.int .u8)) x2117), outs := [], back := [] } })]] [] Tryd.func14 (cs := [_, _]) (by kernel_rfl) ⟨(antiquaryref02_Of_ok k (44 : Int) ([a1] : List ByteArray) _ h2118), (rfl : 1 = List.length ([a1] : List ByteArray)), trivial⟩ (by kernel_rfl)

def antiquaryref44_Less_l0 : Nat → Int → List Int → List Int → Option (Bool)
  | 0, _, _, _ => none
  | k + 1, p1, p2, p3 =>
    if (decide (p1 < (16 : Int))) = true then
      if 0 ≤ p1 ∧ p1 < (16 : Int) then
        if ((List.getD p2 (Int.toNat p1) (Kd.dflt (Kd.int .u8))) != (List.getD p3 (Int.toNat p1) (Kd.dflt (Kd.int .u8)))) = true then
          some ((decide ((List.getD p2 (Int.toNat p1) (Kd.dflt (Kd.int .u8))) < (List.getD p3 (Int.toNat p1) (Kd.dflt (Kd.int .u8))))))
        else
          antiquaryref44_Less_l0 k (IntKind.i64.wrap (p1 + (1 : Int))) p2 p3
      else none
    else
      some (false)
def antiquaryref44_Less (k : Nat) (a1 : List Int) (a2 : List Int) : Option (Bool) :=
  antiquaryref44_Less_l0 k (0 : Int) a1 a2
theorem antiquaryref44_Less_l0_ok (k : Nat) : ∀ (p1 : Int) (p2 : List Int) (p3 : List Int) (r : Bool), antiquaryref44_Less_l0 k p1 p2 p3 = some r →
    Abs.Good P 42 Tryd.f42.ntmps [] [] (.v (.p Kd.bool r)) (pos Tryd.f42 [.r, .r]) [(sk 2, some (.v (.ptr 500001 0))), (sk 3, some (.v (.ptr 500002 0))), (sk 5, some (.v (.p (Kd.int .i64) p1))), (ek 500001, some (.box [.p (Kd.arr 16 (Kd.int .u8)) p2])), (ek 500002, some (.box [.p (Kd.arr 16 (Kd.int .u8)) p3]))] := by
  induction k with
  | zero => intro p1 p2 p3 r h; cases h
  | succ k ih =>
    intro p1 p2 p3 r h
    unfold antiquaryref44_Less_l0 at h
    rcases br_inv h with ⟨h2140, h⟩ | ⟨h2140, h⟩
    · obtain ⟨h2141, h⟩ := gd_inv h
      rcases br_inv h with ⟨h2142, h⟩ | ⟨h2142, h⟩
      · replace h := Option.some.inj h; subst h
        exact Abs.Good.path_ret hm [.reg [], .cond true, .reg [], .cond true, .reg []] [] Tryd.func42 (cs := [_, _, _, _, _, _, _, _, _, _]) (by kernel_rfl) ⟨h2140, h2141.1, h2141.2, h2141.1, h2141.2, h2142, h2141.1, h2141.2, h2141.1, h2141.2, trivial⟩ (by kernel_rfl)
      · exact Abs.Good.path hm [.reg [], .cond true, .reg [], .cond false, .reg [], .keep [sk 2, sk 3, sk 5, ek 500001, ek 500002]] (cs := [_, _, _, _, _, _]) (by kernel_rfl) ⟨h2140, h2141.1, h2141.2, h2141.1, h2141.2, h2142, trivial⟩ (ih (IntKind.i64.wrap (p1 + (1 : Int))) p2 p3 r h)
    · replace h := Option.some.inj h; subst h
      exact Abs.Good.path_ret hm [.reg [], .cond false, .reg []] [] Tryd.func42 (cs := [_]) (by kernel_rfl) ⟨h2140, trivial⟩ (by kernel_rfl)
theorem antiquaryref44_Less_ok (k : Nat) (a1 : List Int) (a2 : List Int) (r : Bool) (h : antiquaryref44_Less k a1 a2 = some r) : SpecOk P ⟨42, [.p (Kd.arr 16 (Kd.int .u8)) a1, .p (Kd.arr 16 (Kd.int .u8)) a2], [], .v (.p Kd.bool r), []⟩ := by
  refine spec_at Tryd.func42 (by kernel_rfl) (Nat.le_of_ble_eq_true (by kernel_rfl)) ?_
  unfold antiquaryref44_Less at h
  exact Abs.Good.path hm [.reg [], .reg [], .keep [sk 2, sk 3, sk 5, ek 2, ek 3], .ren [(2, 500001), (3, 500002)]] (cs := []) (by kernel_rfl) trivial (antiquaryref44_Less_l0_ok k (0 : Int) a1 a2 r h)

def antiquaryref44_Add_l2 (s0 : ByteArray → Bool → Int → List It → Int → List Int → List It → Option (List It × Int)) (k : Nat) (p1 : ByteArray) (p2 : Bool) (p3 : Int) (p4 : List It) (p5 : Int) (p6 : List Int) (p7 : List It) : Option (List It × Int) :=
  if 0 ≤ p3 ∧ p3 < (List.length p4 : Int) then
    if List.length p7 + List.length ([((List.getD p4 (Int.toNat p3) (Kd.dflt KI)).1, (((List.getD p4 (Int.toNat p3) (Kd.dflt KI)).2).1, ()))] : List It) ≤ 4398046511104 then
      s0 p1 p2 (IntKind.i64.wrap (p3 + (1 : Int))) p4 p5 p6 (p7 ++ ([((List.getD p4 (Int.toNat p3) (Kd.dflt KI)).1, (((List.getD p4 (Int.toNat p3) (Kd.dflt KI)).2).1, ()))] : List It))
    else none
  else none
def antiquaryref44_Add_l1 (s0 : ByteArray → Bool → Int → List It → Int → List Int → List It → Option (List It × Int)) (k : Nat) (p1 : ByteArray) (p2 : Bool) (p3 : Int) (p4 : Bool) (p5 : List It) (p6 : Int) (p7 : List Int) (p8 : List It) : Option (List It × Int) :=
  if p4 = true then
    if List.length p8 + List.length ([(p7, (p1, ()))] : List It) ≤ 4398046511104 then
      antiquaryref44_Add_l2 s0 k p1 true p3 p5 p6 p7 (p8 ++ ([(p7, (p1, ()))] : List It))
    else none
  else
    antiquaryref44_Add_l2 s0 k p1 p2 p3 p5 p6 p7 p8
def antiquaryref44_Add_l0 : Nat → ByteArray → Bool → Int → List It → Int → List Int → List It → Option (List It × Int)
  | 0, _, _, _, _, _, _, _ => none
  | k + 1, p1, p2, p3, p4, p5, p6, p7 =>
    if (decide (p3 < (List.length p4 : Int))) = true then
      if (!p2) = true then
        if 0 ≤ p3 ∧ p3 < (List.length p4 : Int) then
          Option.bind (antiquaryref44_Less k p6 ((List.getD p4 (Int.toNat p3) (Kd.dflt KI)).1)) fun x2201 =>
          antiquaryref44_Add_l1 (antiquaryref44_Add_l0 k) k p1 p2 p3 x2201 p4 p5 p6 p7
        else none
      else
        antiquaryref44_Add_l1 (antiquaryref44_Add_l0 k) k p1 p2 p3 false p4 p5 p6 p7
    else
      if (!p2) = true then
        if List.length p7 + List.length ([(p6, (p1, ()))] : List It) ≤ 4398046511104 then
          some ((p7 ++ ([(p6, (p1, ()))] : List It)), (0 : Int))
        else none
      else
        some (p7, (0 : Int))
def antiquaryref44_Add (k : Nat) (a1 : List It) (a2 : ByteArray) : Option (List It × Int) :=
  if (decide ((ByteArray.size a2 : Int) > (1048576 : Int))) = true then
    some (a1, (1 : Int))
  else
    Option.bind (antiquaryref44_Name k a2) fun x2192 =>
    Option.bind (antiquaryref44_Place k a1 x2192) fun x2194 =>
    if (decide (x2194 ≥ (0 : Int))) = true then
      some (a1, (6 : Int))
    else
      if (decide ((List.length a1 : Int) ≥ (65536 : Int))) = true then
        some (a1, (2 : Int))
      else
        antiquaryref44_Add_l0 k a2 false (0 : Int) a1 (0 : Int) x2192 ([] : List It)
theorem antiquaryref44_Add_l2_ok (s0 : ByteArray → Bool → Int → List It → Int → List Int → List It → Option (List It × Int)) (hs0 : ∀ (p1 : ByteArray) (p2 : Bool) (p3 : Int) (p4 : List It) (p5 : Int) (p6 : List Int) (p7 : List It) (r : List It × Int), s0 p1 p2 p3 p4 p5 p6 p7 = some r → Abs.Good P 19 Tryd.f19.ntmps [] [] (.v (.agg [.p (Kd.sl KI) r.1, .nilsl, .p (Kd.int .i64) r.2])) (pos Tryd.f19 [.r, .r, .c false, .r, .r, .c false, .r, .c false, .r, .r, .r]) [(sk 1, some (.v (.p Kd.str p1))), (sk 2, some (.v (.ptr 500001 0))), (sk 4, some (.v (.ptr 500002 0))), (sk 5, some (.v (.ptr 500003 0))), (sk 6, some (.v (.ptr 500004 0))), (sk 7, some (.v (.p Kd.bool p2))), (sk 8, some (.v (.p (Kd.int .i64) p3))), (ek 500001, some (.box [.p (Kd.sl KI) p4])), (ek 500002, some (.box [.nilsl, .nilsl, .p (Kd.int .i64) p5])), (ek 500003, some (.box [.p (Kd.arr 16 (Kd.int .u8)) p6])), (ek 500004, some (.box [.row 500005 (List.length p7)])), (ek 500005, some (.row KI 50 p7))]) (k : Nat) (p1 : ByteArray) (p2 : Bool) (p3 : Int) (p4 : List It) (p5 : Int) (p6 : List Int) (p7 : List It) (r : List It × Int) (h : antiquaryref44_Add_l2 s0 k p1 p2 p3 p4 p5 p6 p7 = some r) :
    Abs.Good P 19 Tryd.f19.ntmps [] [] (.v (.agg [.p (Kd.sl KI) r.1, .nilsl, .p (Kd.int .i64) r.2])) (pos Tryd.f19 [.r, .r, .c false, .r, .r, .c false, .r, .c false, .r, .r, .r, .r, .c true, .r, .c false]) [(sk 1, some (.v (.p Kd.str p1))), (sk 2, some (.v (.ptr 502001 0))), (sk 4, some (.v (.ptr 502002 0))), (sk 5, some (.v (.ptr 502003 0))), (sk 6, some (.v (.ptr 502004 0))), (sk 7, some (.v (.p Kd.bool p2))), (sk 8, some (.v (.p (Kd.int .i64) p3))), (ek 502001, some (.box [.p (Kd.sl KI) p4])), (ek 502002, some (.box [.nilsl, .nilsl, .p (Kd.int .i64) p5])), (ek 502003, some (.box [.p (Kd.arr 16 (Kd.int .u8)) p6])), (ek 502004, some (.box [.row 502005 (List.length p7)])), (ek 502005, some (.row KI 50 p7))] := by
  unfold antiquaryref44_Add_l2 at h
  obtain ⟨h2207, h⟩ := gd_inv h
  obtain ⟨h2208, h⟩ := gd_inv h
  exact Abs.Good.path hm [.reg [], .reg [], .keep [sk 1, sk 2, sk 4, sk 5, sk 6, sk 7, sk 8, ek 502001, ek 502002, ek 502003, ek 502004, ek 63], .ren [(502001, 500001), (502002, 500002), (502003, 500003), (502004, 500004), (63, 500005)]] (cs := [_, _, _, _, _]) (by kernel_rfl) ⟨h2207.1, h2207.2, (rfl : (List.length p7) = List.length p7), (appBound (P := P) (et := 50) (b := 32) (by kernel_rfl) (by decide) h2208), (rfl : 1 = List.length ([((List.getD p4 (Int.toNat p3) (Kd.dflt KI)).1, (((List.getD p4 (Int.toNat p3) (Kd.dflt KI)).2).1, ()))] : List It)), trivial⟩ (hs0 p1 p2 (IntKind.i64.wrap (p3 + (1 : Int))) p4 p5 p6 (p7 ++ ([((List.getD p4 (Int.toNat p3) (Kd.dflt KI)).1, (((List.getD p4 (Int.toNat p3) (Kd.dflt KI)).2).1, ()))] : List It)) r h)
theorem antiquaryref44_Add_l1_ok (s0 : ByteArray → Bool → Int → List It → Int → List Int → List It → Option (List It × Int)) (hs0 : ∀ (p1 : ByteArray) (p2 : Bool) (p3 : Int) (p4 : List It) (p5 : Int) (p6 : List Int) (p7 : List It) (r : List It × Int), s0 p1 p2 p3 p4 p5 p6 p7 = some r → Abs.Good P 19 Tryd.f19.ntmps [] [] (.v (.agg [.p (Kd.sl KI) r.1, .nilsl, .p (Kd.int .i64) r.2])) (pos Tryd.f19 [.r, .r, .c false, .r, .r, .c false, .r, .c false, .r, .r, .r]) [(sk 1, some (.v (.p Kd.str p1))), (sk 2, some (.v (.ptr 500001 0))), (sk 4, some (.v (.ptr 500002 0))), (sk 5, some (.v (.ptr 500003 0))), (sk 6, some (.v (.ptr 500004 0))), (sk 7, some (.v (.p Kd.bool p2))), (sk 8, some (.v (.p (Kd.int .i64) p3))), (ek 500001, some (.box [.p (Kd.sl KI) p4])), (ek 500002, some (.box [.nilsl, .nilsl, .p (Kd.int .i64) p5])), (ek 500003, some (.box [.p (Kd.arr 16 (Kd.int .u8)) p6])), (ek 500004, some (.box [.row 500005 (List.length p7)])), (ek 500005, some (.row KI 50 p7))]) (k : Nat) (p1 : ByteArray) (p2 : Bool) (p3 : Int) (p4 : Bool) (p5 : List It) (p6 : Int) (p7 : List Int) (p8 : List It) (r : List It × Int) (h : antiquaryref44_Add_l1 s0 k p1 p2 p3 p4 p5 p6 p7 p8 = some r) :
    Abs.Good P 19 Tryd.f19.ntmps [] [] (.v (.agg [.p (Kd.sl KI) r.1, .nilsl, .p (Kd.int .i64) r.2])) (pos Tryd.f19 [.r, .r, .c false, .r, .r, .c false, .r, .c false, .r, .r, .r, .r, .c true, .r]) [(sk 1, some (.v (.p Kd.str p1))), (sk 2, some (.v (.ptr 501001 0))), (sk 4, some (.v (.ptr 501002 0))), (sk 5, some (.v (.ptr 501003 0))), (sk 6, some (.v (.ptr 501004 0))), (sk 7, some (.v (.p Kd.bool p2))), (sk 8, some (.v (.p (Kd.int .i64) p3))), (sk 46, some (.v (.p Kd.bool p4))), (ek 501001, some (.box [.p (Kd.sl KI) p5])), (ek 501002, some (.box [.nilsl, .nilsl, .p (Kd.int .i64) p6])), (ek 501003, some (.box [.p (Kd.arr 16 (Kd.int .u8)) p7])), (ek 501004, some (.box [.row 501005 (List.length p8)])), (ek 501005, some (.row KI 50 p8))] := by
  unfold antiquaryref44_Add_l1 at h
  rcases br_inv h with ⟨h2205, h⟩ | ⟨h2205, h⟩
  · obtain ⟨h2206, h⟩ := gd_inv h
    exact Abs.Good.path hm [.cond true, .reg [], .reg [], .keep [sk 1, sk 2, sk 4, sk 5, sk 6, sk 7, sk 8, ek 501001, ek 501002, ek 501003, ek 501004, ek 53], .ren [(501001, 502001), (501002, 502002), (501003, 502003), (501004, 502004), (53, 502005)]] (cs := [_, _, _, _]) (by kernel_rfl) ⟨h2205, (rfl : (List.length p8) = List.length p8), (appBound (P := P) (et := 50) (b := 32) (by kernel_rfl) (by decide) h2206), (rfl : 1 = List.length ([(p7, (p1, ()))] : List It)), trivial⟩ (antiquaryref44_Add_l2_ok s0 hs0 k p1 true p3 p5 p6 p7 (p8 ++ ([(p7, (p1, ()))] : List It)) r h)
  · exact Abs.Good.path hm [.cond false, .keep [sk 1, sk 2, sk 4, sk 5, sk 6, sk 7, sk 8, ek 501001, ek 501002, ek 501003, ek 501004, ek 501005], .ren [(501001, 502001), (501002, 502002), (501003, 502003), (501004, 502004), (501005, 502005)]] (cs := [_]) (by kernel_rfl) ⟨h2205, trivial⟩ (antiquaryref44_Add_l2_ok s0 hs0 k p1 p2 p3 p5 p6 p7 p8 r h)
theorem antiquaryref44_Add_l0_ok (k : Nat) : ∀ (p1 : ByteArray) (p2 : Bool) (p3 : Int) (p4 : List It) (p5 : Int) (p6 : List Int) (p7 : List It) (r : List It × Int), antiquaryref44_Add_l0 k p1 p2 p3 p4 p5 p6 p7 = some r →
    Abs.Good P 19 Tryd.f19.ntmps [] [] (.v (.agg [.p (Kd.sl KI) r.1, .nilsl, .p (Kd.int .i64) r.2])) (pos Tryd.f19 [.r, .r, .c false, .r, .r, .c false, .r, .c false, .r, .r, .r]) [(sk 1, some (.v (.p Kd.str p1))), (sk 2, some (.v (.ptr 500001 0))), (sk 4, some (.v (.ptr 500002 0))), (sk 5, some (.v (.ptr 500003 0))), (sk 6, some (.v (.ptr 500004 0))), (sk 7, some (.v (.p Kd.bool p2))), (sk 8, some (.v (.p (Kd.int .i64) p3))), (ek 500001, some (.box [.p (Kd.sl KI) p4])), (ek 500002, some (.box [.nilsl, .nilsl, .p (Kd.int .i64) p5])), (ek 500003, some (.box [.p (Kd.arr 16 (Kd.int .u8)) p6])), (ek 500004, some (.box [.row 500005 (List.length p7)])), (ek 500005, some (.row KI 50 p7))] := by
  induction k with
  | zero => intro p1 p2 p3 p4 p5 p6 p7 r h; cases h
  | succ k ih =>
    intro p1 p2 p3 p4 p5 p6 p7 r h
    unfold antiquaryref44_Add_l0 at h
    rcases br_inv h with ⟨h2198, h⟩ | ⟨h2198, h⟩
    · rcases br_inv h with ⟨h2199, h⟩ | ⟨h2199, h⟩
      · obtain ⟨h2200, h⟩ := gd_inv h
        obtain ⟨x2201, h2202, h⟩ := bind_inv h
        exact Abs.Good.path hm [.reg [], .cond true, .reg [(3, { dec := some true }), (4, { dec := some true }), (5, { dec := some true }), (6, { dec := some true }), (7, { dec := some true }), (8, { dec := some true }), (9, { dec := some true }), (10, { dec := some true, call := some { lend := [], pass := [], res := .v (.p Kd.bool x2201), outs := [], back := [] } }), (11, { pick := some true })], .keep [sk 1, sk 2, sk 4, sk 5, sk 6, sk 7, sk 8, sk 46, ek 500001, ek 500002, ek 500003, ek 500004, ek 500005], .ren [(500001, 501001), (500002, 501002), (500003, 501003), (500004, 501004), (500005, 501005)]] (cs := [_, _, _, _, _, _, _, _, _, _, _, _, _]) (by kernel_rfl) ⟨h2198, h2199, h2199, h2199, h2199, h2199, h2200.1, h2200.2, h2199, h2199, h2199, (antiquaryref44_Less_ok k p6 ((List.getD p4 (Int.toNat p3) (Kd.dflt KI)).1) _ h2202), h2199, trivial⟩ (antiquaryref44_Add_l1_ok (antiquaryref44_Add_l0 k) ih k p1 p2 p3 x2201 p4 p5 p6 p7 r h)
      · exact Abs.Good.path hm [.reg [], .cond true, .reg [(3, { dec := some false }), (4, { dec := some false }), (5, { dec := some false }), (6, { dec := some false }), (7, { dec := some false }), (8, { dec := some false }), (9, { dec := some false }), (10, { dec := some false }), (11, { pick := some false })], .keep [sk 1, sk 2, sk 4, sk 5, sk 6, sk 7, sk 8, sk 46, ek 500001, ek 500002, ek 500003, ek 500004, ek 500005], .ren [(500001, 501001), (500002, 501002), (500003, 501003), (500004, 501004), (500005, 501005)]] (cs := [_, _, _, _, _, _, _, _, _, _]) (by kernel_rfl) ⟨h2198, h2199, h2199, h2199, h2199, h2199, h2199, h2199, h2199, h2199, trivial⟩ (antiquaryref44_Add_l1_ok (antiquaryref44_Add_l0 k) ih k p1 p2 p3 false p4 p5 p6 p7 r h)
    · rcases br_inv h with ⟨h2203, h⟩ | ⟨h2203, h⟩
      · obtain ⟨h2204, h⟩ := gd_inv h
        replace h := Option.some.inj h; subst h
        exact Abs.Good.path_ret hm [.reg [], .cond false, .reg [], .cond true, .reg [], .reg []] [73] Tryd.func19 (cs := [_, _, _, _, _, _]) (by kernel_rfl) ⟨h2198, h2203, (rfl : (List.length p7) = List.length p7), (appBound (P := P) (et := 50) (b := 32) (by kernel_rfl) (by decide) h2204), (rfl : 1 = List.length ([(p6, (p1, ()))] : List It)), (rfl : (List.length (p7 ++ ([(p6, (p1, ()))] : List It))) = List.length (p7 ++ ([(p6, (p1, ()))] : List It))), trivial⟩ (by kernel_rfl)
      · replace h := Option.some.inj h; subst h
        exact Abs.Good.path_ret hm [.reg [], .cond false, .reg [], .cond false, .reg []] [500005] Tryd.func19 (cs := [_, _, _]) (by kernel_rfl) ⟨h2198, h2203, (rfl : (List.length p7) = List.length p7), trivial⟩ (by kernel_rfl)
theorem antiquaryref44_Add_ok (k : Nat) (a1 : List It) (a2 : ByteArray) (r : List It × Int) (h : antiquaryref44_Add k a1 a2 = some r) : SpecOk P ⟨19, [.agg [.p (Kd.sl KI) a1], .p Kd.str a2], [], .v (.agg [.p (Kd.sl KI) r.1, .nilsl, .p (Kd.int .i64) r.2]), []⟩ := by
  refine spec_at Tryd.func19 (by kernel_rfl) (Nat.le_of_ble_eq_true (by kernel_rfl)) ?_
  unfold antiquaryref44_Add at h
  rcases br_inv h with ⟨h2191, h⟩ | ⟨h2191, h⟩
  · replace h := Option.some.inj h; subst h
    exact Abs.Good.path_ret hm [.reg [], .reg [], .cond true, .reg []] [] Tryd.func19 (cs := [_]) (by kernel_rfl) ⟨h2191, trivial⟩ (by kernel_rfl)
  · obtain ⟨x2192, h2193, h⟩ := bind_inv h
    obtain ⟨x2194, h2195, h⟩ := bind_inv h
    rcases br_inv h with ⟨h2196, h⟩ | ⟨h2196, h⟩
    · replace h := Option.some.inj h; subst h
      exact Abs.Good.path_ret hm [.reg [], .reg [], .cond false, .reg [(1, { call := some { lend := [], pass := [], res := .v (.p (Kd.arr 16 (Kd.int .u8)) x2192), outs := [], back := [] } })], .reg [(2, { call := some { lend := [], pass := [], res := .v (.p (Kd.int .i64) x2194), outs := [], back := [] } })], .cond true, .reg []] [] Tryd.func19 (cs := [_, _, _, _]) (by kernel_rfl) ⟨h2191, (antiquaryref44_Name_ok k a2 _ h2193), (antiquaryref44_Place_ok k a1 x2192 _ h2195), h2196, trivial⟩ (by kernel_rfl)
    · rcases br_inv h with ⟨h2197, h⟩ | ⟨h2197, h⟩
      · replace h := Option.some.inj h; subst h
        exact Abs.Good.path_ret hm [.reg [], .reg [], .cond false, .reg [(1, { call := some { lend := [], pass := [], res := .v (.p (Kd.arr 16 (Kd.int .u8)) x2192), outs := [], back := [] } })], .reg [(2, { call := some { lend := [], pass := [], res := .v (.p (Kd.int .i64) x2194), outs := [], back := [] } })], .cond false, .reg [], .cond true, .reg []] [] Tryd.func19 (cs := [_, _, _, _, _]) (by kernel_rfl) ⟨h2191, (antiquaryref44_Name_ok k a2 _ h2193), (antiquaryref44_Place_ok k a1 x2192 _ h2195), h2196, h2197, trivial⟩ (by kernel_rfl)
      · exact Abs.Good.path hm [.reg [], .reg [], .cond false, .reg [(1, { call := some { lend := [], pass := [], res := .v (.p (Kd.arr 16 (Kd.int .u8)) x2192), outs := [], back := [] } })], .reg [(2, { call := some { lend := [], pass := [], res := .v (.p (Kd.int .i64) x2194), outs := [], back := [] } })], .cond false, .reg [], .cond false, .reg [], .reg [], .reg [], .co (ek 6) 0 (.mk 900001 KI 50), .keep [sk 1, sk 2, sk 4, sk 5, sk 6, sk 7, sk 8, ek 2, ek 4, ek 5, ek 6, ek 900001], .ren [(2, 500001), (4, 500002), (5, 500003), (6, 500004), (900001, 500005)]] (cs := [_, _, _, _, _]) (by kernel_rfl) ⟨h2191, (antiquaryref44_Name_ok k a2 _ h2193), (antiquaryref44_Place_ok k a1 x2192 _ h2195), h2196, h2197, trivial⟩ (antiquaryref44_Add_l0_ok k a2 false (0 : Int) a1 (0 : Int) x2192 ([] : List It) r h)


end Go.Proofs.G44
