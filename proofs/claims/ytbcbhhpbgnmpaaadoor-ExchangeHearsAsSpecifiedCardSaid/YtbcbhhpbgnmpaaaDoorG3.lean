/- The walks: each function of the program that the law reaches computes the Lean function that is printed beside it. No condition but that the Lean function has a result. -/
import Derived.Test.YtbcbhhpbgnmpaaaDoorG2
set_option linter.unusedVariables false
namespace Go.Proofs.G44
open Go.Abs
set_option maxRecDepth 10000
open Go.Proofs.K1
theorem eq26 : Go.Abs.StructEq P 26 (Kd.arr 16 (Kd.int .u8)) := structEq_of (by kernel_rfl)
theorem eq28 : Go.Abs.StructEq P 28 KX := structEq_of (by kernel_rfl)
theorem eq50 : Go.Abs.StructEq P 50 KI := structEq_of (by kernel_rfl)
def antiquarylaw44_few_l1 (s0 : Int → List It → Option (Bool)) (k : Nat) (p1 : Int) (p2 : Bool) (p3 : List It) : Option (Bool) :=
  if p2 = true then
    if 0 ≤ p1 ∧ p1 < (List.length p3 : Int) then
      if (decide ((ByteArray.size (((List.getD p3 (Int.toNat p1) (Kd.dflt KI)).2).1) : Int) > (200 : Int))) = true then
        some (false)
      else
        s0 (IntKind.i64.wrap (p1 + (1 : Int))) p3
    else none
  else
    some ((decide ((List.length p3 : Int) ≤ (60 : Int))))
def antiquarylaw44_few_l0 : Nat → Int → List It → Option (Bool)
  | 0, _, _ => none
  | k + 1, p1, p2 =>
    if (decide (p1 < (List.length p2 : Int))) = true then
      antiquarylaw44_few_l1 (antiquarylaw44_few_l0 k) k p1 (decide (p1 < (61 : Int))) p2
    else
      antiquarylaw44_few_l1 (antiquarylaw44_few_l0 k) k p1 false p2
def antiquarylaw44_few (k : Nat) (a1 : List It) : Option (Bool) :=
  antiquarylaw44_few_l0 k (0 : Int) a1
theorem antiquarylaw44_few_l1_ok (s0 : Int → List It → Option (Bool)) (hs0 : ∀ (p1 : Int) (p2 : List It) (r : Bool), s0 p1 p2 = some r → Abs.Good P 9 Tryd.f9.ntmps [] [] (.v (.p Kd.bool r)) (pos Tryd.f9 [.r, .r]) [(sk 1, some (.v (.ptr 500001 0))), (sk 3, some (.v (.p (Kd.int .i64) p1))), (ek 500001, some (.box [.p (Kd.sl KI) p2]))]) (k : Nat) (p1 : Int) (p2 : Bool) (p3 : List It) (r : Bool) (h : antiquarylaw44_few_l1 s0 k p1 p2 p3 = some r) :
    Abs.Good P 9 Tryd.f9.ntmps [] [] (.v (.p Kd.bool r)) (pos Tryd.f9 [.r, .r, .r]) [(sk 1, some (.v (.ptr 501001 0))), (sk 3, some (.v (.p (Kd.int .i64) p1))), (sk 12, some (.v (.p Kd.bool p2))), (ek 501001, some (.box [.p (Kd.sl KI) p3]))] := by
  unfold antiquarylaw44_few_l1 at h
  rcases br_inv h with ⟨h7, h⟩ | ⟨h7, h⟩
  · obtain ⟨h8, h⟩ := gd_inv h
    rcases br_inv h with ⟨h9, h⟩ | ⟨h9, h⟩
    · replace h := Option.some.inj h; subst h
      exact Abs.Good.path_ret hm [.cond true, .reg [], .cond true, .reg []] [] Tryd.func9 (cs := [_, _, _, _]) (by kernel_rfl) ⟨h7, h8.1, h8.2, h9, trivial⟩ (by kernel_rfl)
    · exact Abs.Good.path hm [.cond true, .reg [], .cond false, .reg [], .keep [sk 1, sk 3, ek 501001], .ren [(501001, 500001)]] (cs := [_, _, _, _]) (by kernel_rfl) ⟨h7, h8.1, h8.2, h9, trivial⟩ (hs0 (IntKind.i64.wrap (p1 + (1 : Int))) p3 r h)
  · replace h := Option.some.inj h; subst h
    exact Abs.Good.path_ret hm [.cond false, .reg []] [] Tryd.func9 (cs := [_]) (by kernel_rfl) ⟨h7, trivial⟩ (by kernel_rfl)
theorem antiquarylaw44_few_l0_ok (k : Nat) : ∀ (p1 : Int) (p2 : List It) (r : Bool), antiquarylaw44_few_l0 k p1 p2 = some r →
    Abs.Good P 9 Tryd.f9.ntmps [] [] (.v (.p Kd.bool r)) (pos Tryd.f9 [.r, .r]) [(sk 1, some (.v (.ptr 500001 0))), (sk 3, some (.v (.p (Kd.int .i64) p1))), (ek 500001, some (.box [.p (Kd.sl KI) p2]))] := by
  induction k with
  | zero => intro p1 p2 r h; cases h
  | succ k ih =>
    intro p1 p2 r h
    unfold antiquarylaw44_few_l0 at h
    rcases br_inv h with ⟨h6, h⟩ | ⟨h6, h⟩
    · exact Abs.Good.path hm [.reg [(6, { dec := some true }), (7, { dec := some true }), (8, { pick := some true })], .keep [sk 1, sk 3, sk 12, ek 500001], .ren [(500001, 501001)]] (cs := [_, _, _]) (by kernel_rfl) ⟨h6, h6, h6, trivial⟩ (antiquarylaw44_few_l1_ok (antiquarylaw44_few_l0 k) ih k p1 (decide (p1 < (61 : Int))) p2 r h)
    · exact Abs.Good.path hm [.reg [(6, { dec := some false }), (7, { dec := some false }), (8, { pick := some false })], .keep [sk 1, sk 3, sk 12, ek 500001], .ren [(500001, 501001)]] (cs := [_, _, _]) (by kernel_rfl) ⟨h6, h6, h6, trivial⟩ (antiquarylaw44_few_l1_ok (antiquarylaw44_few_l0 k) ih k p1 false p2 r h)
theorem antiquarylaw44_few_ok (k : Nat) (a1 : List It) (r : Bool) (h : antiquarylaw44_few k a1 = some r) : SpecOk P ⟨9, [.agg [.p (Kd.sl KI) a1]], [], .v (.p Kd.bool r), []⟩ := by
  refine spec_at Tryd.func9 (by kernel_rfl) (Nat.le_of_ble_eq_true (by kernel_rfl)) ?_
  unfold antiquarylaw44_few at h
  exact Abs.Good.path hm [.reg [], .reg [], .keep [sk 1, sk 3, ek 1], .ren [(1, 500001)]] (cs := []) (by kernel_rfl) trivial (antiquarylaw44_few_l0_ok k (0 : Int) a1 r h)

def antiquaryref01_Int_l1 : Nat → Int → List Int → Option (List Int)
  | 0, _, _ => none
  | k + 1, p1, p2 =>
    if (decide (p1 ≥ (128 : Int))) = true then
      if List.length p2 + List.length ([(IntKind.u8.wrap ((IntKind.u8.wrap (Int.tmod p1 (128 : Int))) + (128 : Int)))] : List Int) ≤ 140737488355328 then
        antiquaryref01_Int_l1 k (IntKind.u64.wrap (Int.tdiv p1 (128 : Int))) (p2 ++ ([(IntKind.u8.wrap ((IntKind.u8.wrap (Int.tmod p1 (128 : Int))) + (128 : Int)))] : List Int))
      else none
    else
      if List.length p2 + List.length ([(IntKind.u8.wrap p1)] : List Int) ≤ 140737488355328 then
        some ((p2 ++ ([(IntKind.u8.wrap p1)] : List Int)))
      else none
def antiquaryref01_Int_l0 (k : Nat) (p1 : Int) : Option (List Int) :=
  antiquaryref01_Int_l1 k p1 ([] : List Int)
def antiquaryref01_Int (k : Nat) (a1 : Int) : Option (List Int) :=
  if (decide (a1 < (0 : Int))) = true then
    antiquaryref01_Int_l0 k (IntKind.u64.wrap ((IntKind.u64.wrap ((IntKind.u64.wrap (IntKind.i64.wrap ((-1 : Int) - a1))) * (2 : Int))) + (1 : Int)))
  else
    antiquaryref01_Int_l0 k (IntKind.u64.wrap ((IntKind.u64.wrap a1) * (2 : Int)))
theorem antiquaryref01_Int_l1_ok (k : Nat) : ∀ (p1 : Int) (p2 : List Int) (r : List Int), antiquaryref01_Int_l1 k p1 p2 = some r →
    Abs.Good P 87 Tryd.f87.ntmps [] [(700001, .row (Kd.int .u8) 5 r)] (.v (.row 700001 (List.length r))) (pos Tryd.f87 [.r, .r, .r, .c false, .r]) [(sk 3, some (.v (.p (Kd.int .u64) p1))), (sk 4, some (.v (.row 501001 (List.length p2)))), (ek 501001, some (.row (Kd.int .u8) 5 p2))] := by
  induction k with
  | zero => intro p1 p2 r h; cases h
  | succ k ih =>
    intro p1 p2 r h
    unfold antiquaryref01_Int_l1 at h
    rcases br_inv h with ⟨h31, h⟩ | ⟨h31, h⟩
    · obtain ⟨h32, h⟩ := gd_inv h
      exact Abs.Good.path hm [.reg [], .cond true, .reg [], .reg [], .keep [sk 3, sk 4, ek 23], .ren [(23, 501001)]] (cs := [_, _, _, _, _, _]) (by kernel_rfl) ⟨h31, (by decide : (128 : Int) ≠ 0), (rfl : (List.length p2) = List.length p2), (appBound (P := P) (et := 5) (b := 1) (by kernel_rfl) (by decide) h32), (rfl : 1 = List.length ([(IntKind.u8.wrap ((IntKind.u8.wrap (Int.tmod p1 (128 : Int))) + (128 : Int)))] : List Int)), (by decide : (128 : Int) ≠ 0), trivial⟩ (ih (IntKind.u64.wrap (Int.tdiv p1 (128 : Int))) (p2 ++ ([(IntKind.u8.wrap ((IntKind.u8.wrap (Int.tmod p1 (128 : Int))) + (128 : Int)))] : List Int)) r h)
    · obtain ⟨h33, h⟩ := gd_inv h
      replace h := Option.some.inj h; subst h
      exact Abs.Good.path_ret hm [.reg [], .cond false, .reg [], .keep [sk 2, ek 30], .ren [(30, 700001)]] [] Tryd.func87 (cs := [_, _, _, _]) (by kernel_rfl) ⟨h31, (rfl : (List.length p2) = List.length p2), (appBound (P := P) (et := 5) (b := 1) (by kernel_rfl) (by decide) h33), (rfl : 1 = List.length ([(IntKind.u8.wrap p1)] : List Int)), trivial⟩ (by kernel_rfl)
theorem antiquaryref01_Int_l0_ok (k : Nat) (p1 : Int) (r : List Int) (h : antiquaryref01_Int_l0 k p1 = some r) :
    Abs.Good P 87 Tryd.f87.ntmps [] [(700001, .row (Kd.int .u8) 5 r)] (.v (.row 700001 (List.length r))) (pos Tryd.f87 [.r, .r, .r, .c false]) [(sk 3, some (.v (.p (Kd.int .u64) p1)))] := by
  unfold antiquaryref01_Int_l0 at h
  exact Abs.Good.path hm [.reg [], .co (sk 4) 0 (.mk 900001 (Kd.int .u8) 5), .keep [sk 3, sk 4, ek 900001], .ren [(900001, 501001)]] (cs := []) (by kernel_rfl) trivial (antiquaryref01_Int_l1_ok k p1 ([] : List Int) r h)
theorem antiquaryref01_Int_ok (k : Nat) (a1 : Int) (r : List Int) (h : antiquaryref01_Int k a1 = some r) : SpecOk P ⟨87, [.p (Kd.int .i64) a1], [], .v (.row 700001 (List.length r)), [(700001, .row (Kd.int .u8) 5 r)]⟩ := by
  refine spec_at Tryd.func87 (by kernel_rfl) (Nat.le_of_ble_eq_true (by kernel_rfl)) ?_
  unfold antiquaryref01_Int at h
  rcases br_inv h with ⟨h30, h⟩ | ⟨h30, h⟩
  · exact Abs.Good.path hm [.reg [], .reg [], .reg [], .cond true, .reg [], .keep [sk 3]] (cs := [_]) (by kernel_rfl) ⟨h30, trivial⟩ (antiquaryref01_Int_l0_ok k (IntKind.u64.wrap ((IntKind.u64.wrap ((IntKind.u64.wrap (IntKind.i64.wrap ((-1 : Int) - a1))) * (2 : Int))) + (1 : Int))) r h)
  · exact Abs.Good.path hm [.reg [], .reg [], .reg [], .cond false, .keep [sk 3]] (cs := [_]) (by kernel_rfl) ⟨h30, trivial⟩ (antiquaryref01_Int_l0_ok k (IntKind.u64.wrap ((IntKind.u64.wrap a1) * (2 : Int))) r h)

def antiquaryref01_Bytes (k : Nat) (a1 : ByteArray) : Option (List Int) :=
  Option.bind (antiquaryref01_Int k (ByteArray.size a1 : Int)) fun x37 =>
  if List.length x37 + List.length (bytesOf a1) ≤ 140737488355328 then
    some ((x37 ++ (bytesOf a1)))
  else none
theorem antiquaryref01_Bytes_ok (k : Nat) (a1 : ByteArray) (r : List Int) (h : antiquaryref01_Bytes k a1 = some r) : SpecOk P ⟨80, [.p Kd.str a1], [], .v (.p (Kd.sl (Kd.int .u8)) r), []⟩ := by
  refine spec_at Tryd.func80 (by kernel_rfl) (Nat.le_of_ble_eq_true (by kernel_rfl)) ?_
  unfold antiquaryref01_Bytes at h
  obtain ⟨x37, h38, h⟩ := bind_inv h
  obtain ⟨h39, h⟩ := gd_inv h
  replace h := Option.some.inj h; subst h
  exact Abs.Good.path_ret hm [.reg [], .reg [(2, { call := some { lend := [], pass := [], res := .v (.row 700001 (List.length x37)), outs := [(700001, .row (Kd.int .u8) 5 x37)], back := [(700001, 2000040)] } })]] [7] Tryd.func80 (cs := [_, _, _, _]) (by kernel_rfl) ⟨(antiquaryref01_Int_ok k (ByteArray.size a1 : Int) _ h38), (rfl : (List.length x37) = List.length x37), (appBound (P := P) (et := 5) (b := 1) (by kernel_rfl) (by decide) h39), (rfl : (List.length (x37 ++ (bytesOf a1))) = List.length (x37 ++ (bytesOf a1))), trivial⟩ (by kernel_rfl)

def antiquaryref02_Input_l0 : Nat → List ByteArray → Int → List Int → Option (List Int)
  | 0, _, _, _ => none
  | k + 1, p1, p2, p3 =>
    if (decide (p2 < (List.length p1 : Int))) = true then
      if 0 ≤ p2 ∧ p2 < (List.length p1 : Int) then
        Option.bind (antiquaryref01_Bytes k (List.getD p1 (Int.toNat p2) (Kd.dflt Kd.str))) fun x45 =>
        if List.length p3 + List.length x45 ≤ 140737488355328 then
          antiquaryref02_Input_l0 k p1 (IntKind.i64.wrap (p2 + (1 : Int))) (p3 ++ x45)
        else none
      else none
    else
      some (p3)
def antiquaryref02_Input (k : Nat) (a1 : Int) (a2 : List ByteArray) : Option (List Int) :=
  antiquaryref02_Input_l0 k a2 (0 : Int) ([(IntKind.u8.wrap a1)] : List Int)
theorem antiquaryref02_Input_l0_ok (k : Nat) : ∀ (p1 : List ByteArray) (p2 : Int) (p3 : List Int) (r : List Int), antiquaryref02_Input_l0 k p1 p2 p3 = some r →
    Abs.Good P 66 Tryd.f66.ntmps [] [] (.v (.p (Kd.sl (Kd.int .u8)) r)) (pos Tryd.f66 [.r, .r, .r]) [(sk 1, some (.v (.p (Kd.sl Kd.str) p1))), (sk 5, some (.v (.row 500001 (List.length p3)))), (sk 6, some (.v (.p (Kd.int .i64) p2))), (ek 500001, some (.row (Kd.int .u8) 5 p3))] := by
  induction k with
  | zero => intro p1 p2 p3 r h; cases h
  | succ k ih =>
    intro p1 p2 p3 r h
    unfold antiquaryref02_Input_l0 at h
    rcases br_inv h with ⟨h43, h⟩ | ⟨h43, h⟩
    · obtain ⟨h44, h⟩ := gd_inv h
      obtain ⟨x45, h46, h⟩ := bind_inv h
      obtain ⟨h47, h⟩ := gd_inv h
      exact Abs.Good.path hm [.reg [], .cond true, .reg [(5, { call := some { lend := [], pass := [], res := .v (.p (Kd.sl (Kd.int .u8)) x45), outs := [], back := [] } })], .reg [], .keep [sk 1, sk 5, sk 6, ek 22], .ren [(22, 500001)]] (cs := [_, _, _, _, _, _]) (by kernel_rfl) ⟨h43, h44.1, h44.2, (antiquaryref01_Bytes_ok k (List.getD p1 (Int.toNat p2) (Kd.dflt Kd.str)) _ h46), (rfl : (List.length p3) = List.length p3), (appBound (P := P) (et := 5) (b := 1) (by kernel_rfl) (by decide) h47), trivial⟩ (ih p1 (IntKind.i64.wrap (p2 + (1 : Int))) (p3 ++ x45) r h)
    · replace h := Option.some.inj h; subst h
      exact Abs.Good.path_ret hm [.reg [], .cond false, .reg []] [500001] Tryd.func66 (cs := [_, _]) (by kernel_rfl) ⟨h43, (rfl : (List.length p3) = List.length p3), trivial⟩ (by kernel_rfl)
theorem antiquaryref02_Input_ok (k : Nat) (a1 : Int) (a2 : List ByteArray) (r : List Int) (h : antiquaryref02_Input k a1 a2 = some r) : SpecOk P ⟨66, [.p (Kd.int .i64) a1, .p (Kd.sl Kd.str) a2], [], .v (.p (Kd.sl (Kd.int .u8)) r), []⟩ := by
  refine spec_at Tryd.func66 (by kernel_rfl) (Nat.le_of_ble_eq_true (by kernel_rfl)) ?_
  unfold antiquaryref02_Input at h
  exact Abs.Good.path hm [.reg [], .reg [], .reg [], .keep [sk 1, sk 5, sk 6, ek 9], .ren [(9, 500001)]] (cs := []) (by kernel_rfl) trivial (antiquaryref02_Input_l0_ok k a2 (0 : Int) ([(IntKind.u8.wrap a1)] : List Int) r h)

def antiquaryref02_padded_l1 : Nat → Int → Int → List Int → Option (List Int)
  | 0, _, _, _ => none
  | k + 1, p1, p2, p3 =>
    if (decide (p2 < (8 : Int))) = true then
      if 0 ≤ (IntKind.i64.wrap ((56 : Int) - (IntKind.i64.wrap ((8 : Int) * p2)))) then
        if List.length p3 + List.length ([(IntKind.u8.wrap (Int.fdiv p1 (2 ^ (min (Int.toNat (IntKind.i64.wrap ((56 : Int) - (IntKind.i64.wrap ((8 : Int) * p2))))) (IntKind.bits .u64)))))] : List Int) ≤ 140737488355328 then
          antiquaryref02_padded_l1 k p1 (IntKind.i64.wrap (p2 + (1 : Int))) (p3 ++ ([(IntKind.u8.wrap (Int.fdiv p1 (2 ^ (min (Int.toNat (IntKind.i64.wrap ((56 : Int) - (IntKind.i64.wrap ((8 : Int) * p2))))) (IntKind.bits .u64)))))] : List Int))
        else none
      else none
    else
      some (p3)
def antiquaryref02_padded_l0 : Nat → List Int → List Int → Option (List Int)
  | 0, _, _ => none
  | k + 1, p1, p2 =>
    if ((Int.tmod ((List.length p2) : Int) (64 : Int)) != (56 : Int)) = true then
      if List.length p2 + List.length ([(0 : Int)] : List Int) ≤ 140737488355328 then
        antiquaryref02_padded_l0 k p1 (p2 ++ ([(0 : Int)] : List Int))
      else none
    else
      antiquaryref02_padded_l1 k (IntKind.u64.wrap ((8 : Int) * (IntKind.u64.wrap (List.length p1 : Int)))) (0 : Int) p2
def antiquaryref02_padded (k : Nat) (a1 : List Int) : Option (List Int) :=
  if List.length ([] : List Int) + List.length a1 ≤ 140737488355328 then
    if List.length (([] : List Int) ++ a1) + List.length ([(128 : Int)] : List Int) ≤ 140737488355328 then
      antiquaryref02_padded_l0 k a1 ((([] : List Int) ++ a1) ++ ([(128 : Int)] : List Int))
    else none
  else none
theorem antiquaryref02_padded_l1_ok (k : Nat) : ∀ (p1 : Int) (p2 : Int) (p3 : List Int) (r : List Int), antiquaryref02_padded_l1 k p1 p2 p3 = some r →
    Abs.Good P 84 Tryd.f84.ntmps [] [] (.v (.p (Kd.sl (Kd.int .u8)) r)) (pos Tryd.f84 [.r, .r, .r, .r, .c false, .r, .r]) [(sk 3, some (.v (.row 501001 (List.length p3)))), (sk 4, some (.v (.p (Kd.int .u64) p1))), (sk 5, some (.v (.p (Kd.int .i64) p2))), (ek 501001, some (.row (Kd.int .u8) 5 p3))] := by
  induction k with
  | zero => intro p1 p2 p3 r h; cases h
  | succ k ih =>
    intro p1 p2 p3 r h
    unfold antiquaryref02_padded_l1 at h
    rcases br_inv h with ⟨h67, h⟩ | ⟨h67, h⟩
    · obtain ⟨h68, h⟩ := gd_inv h
      obtain ⟨h69, h⟩ := gd_inv h
      exact Abs.Good.path hm [.reg [], .cond true, .reg [], .reg [], .keep [sk 3, sk 4, sk 5, ek 35], .ren [(35, 501001)]] (cs := [_, _, _, _, _]) (by kernel_rfl) ⟨h67, h68, (rfl : (List.length p3) = List.length p3), (appBound (P := P) (et := 5) (b := 1) (by kernel_rfl) (by decide) h69), (rfl : 1 = List.length ([(IntKind.u8.wrap (Int.fdiv p1 (2 ^ (min (Int.toNat (IntKind.i64.wrap ((56 : Int) - (IntKind.i64.wrap ((8 : Int) * p2))))) (IntKind.bits .u64)))))] : List Int)), trivial⟩ (ih p1 (IntKind.i64.wrap (p2 + (1 : Int))) (p3 ++ ([(IntKind.u8.wrap (Int.fdiv p1 (2 ^ (min (Int.toNat (IntKind.i64.wrap ((56 : Int) - (IntKind.i64.wrap ((8 : Int) * p2))))) (IntKind.bits .u64)))))] : List Int)) r h)
    · replace h := Option.some.inj h; subst h
      exact Abs.Good.path_ret hm [.reg [], .cond false, .reg []] [501001] Tryd.func84 (cs := [_, _]) (by kernel_rfl) ⟨h67, (rfl : (List.length p3) = List.length p3), trivial⟩ (by kernel_rfl)
theorem antiquaryref02_padded_l0_ok (k : Nat) : ∀ (p1 : List Int) (p2 : List Int) (r : List Int), antiquaryref02_padded_l0 k p1 p2 = some r →
    Abs.Good P 84 Tryd.f84.ntmps [] [] (.v (.p (Kd.sl (Kd.int .u8)) r)) (pos Tryd.f84 [.r, .r, .r]) [(sk 0, some (.v (.p (Kd.sl (Kd.int .u8)) p1))), (sk 3, some (.v (.row 500001 (List.length p2)))), (ek 500001, some (.row (Kd.int .u8) 5 p2))] := by
  induction k with
  | zero => intro p1 p2 r h; cases h
  | succ k ih =>
    intro p1 p2 r h
    unfold antiquaryref02_padded_l0 at h
    rcases br_inv h with ⟨h65, h⟩ | ⟨h65, h⟩
    · obtain ⟨h66, h⟩ := gd_inv h
      exact Abs.Good.path hm [.reg [], .cond true, .reg [], .keep [sk 0, sk 3, ek 18], .ren [(18, 500001)]] (cs := [_, _, _, _, _]) (by kernel_rfl) ⟨(by decide : (64 : Int) ≠ 0), h65, (rfl : (List.length p2) = List.length p2), (appBound (P := P) (et := 5) (b := 1) (by kernel_rfl) (by decide) h66), (rfl : 1 = List.length ([(0 : Int)] : List Int)), trivial⟩ (ih p1 (p2 ++ ([(0 : Int)] : List Int)) r h)
    · exact Abs.Good.path hm [.reg [], .cond false, .reg [], .reg [], .keep [sk 3, sk 4, sk 5, ek 500001], .ren [(500001, 501001)]] (cs := [_, _]) (by kernel_rfl) ⟨(by decide : (64 : Int) ≠ 0), h65, trivial⟩ (antiquaryref02_padded_l1_ok k (IntKind.u64.wrap ((8 : Int) * (IntKind.u64.wrap (List.length p1 : Int)))) (0 : Int) p2 r h)
theorem antiquaryref02_padded_ok (k : Nat) (a1 : List Int) (r : List Int) (h : antiquaryref02_padded k a1 = some r) : SpecOk P ⟨84, [.p (Kd.sl (Kd.int .u8)) a1], [], .v (.p (Kd.sl (Kd.int .u8)) r), []⟩ := by
  refine spec_at Tryd.func84 (by kernel_rfl) (Nat.le_of_ble_eq_true (by kernel_rfl)) ?_
  unfold antiquaryref02_padded at h
  obtain ⟨h63, h⟩ := gd_inv h
  obtain ⟨h64, h⟩ := gd_inv h
  exact Abs.Good.path hm [.reg [], .reg [], .reg [], .keep [sk 0, sk 3, ek 11], .ren [(11, 500001)]] (cs := [_, _, _, _, _]) (by kernel_rfl) ⟨(rfl : 0 = List.length ([] : List Int)), (appBound (P := P) (et := 5) (b := 1) (by kernel_rfl) (by decide) h63), (rfl : (List.length (([] : List Int) ++ a1)) = List.length (([] : List Int) ++ a1)), (appBound (P := P) (et := 5) (b := 1) (by kernel_rfl) (by decide) h64), (rfl : 1 = List.length ([(128 : Int)] : List Int)), trivial⟩ (antiquaryref02_padded_l0_ok k a1 ((([] : List Int) ++ a1) ++ ([(128 : Int)] : List Int)) r h)

def antiquaryref02_rotr (k : Nat) (a1 : Int) (a2 : Int) : Option (Int) :=
  if 0 ≤ a2 then
    if 0 ≤ (IntKind.i64.wrap ((32 : Int) - a2)) then
      some ((IntKind.u32.wrap (((BitVec.ofInt (IntKind.bits .u32) (Int.fdiv a1 (2 ^ (min (Int.toNat a2) (IntKind.bits .u32))))) ||| (BitVec.ofInt (IntKind.bits .u32) (IntKind.u32.wrap (a1 * 2 ^ (min (Int.toNat (IntKind.i64.wrap ((32 : Int) - a2))) (IntKind.bits .u32)))))).toNat : Int)))
    else none
  else none
theorem antiquaryref02_rotr_ok (k : Nat) (a1 : Int) (a2 : Int) (r : Int) (h : antiquaryref02_rotr k a1 a2 = some r) : SpecOk P ⟨86, [.p (Kd.int .u32) a1, .p (Kd.int .i64) a2], [], .v (.p (Kd.int .u32) r), []⟩ := by
  refine spec_at Tryd.func86 (by kernel_rfl) (Nat.le_of_ble_eq_true (by kernel_rfl)) ?_
  unfold antiquaryref02_rotr at h
  obtain ⟨h92, h⟩ := gd_inv h
  obtain ⟨h93, h⟩ := gd_inv h
  replace h := Option.some.inj h; subst h
  exact Abs.Good.path_ret hm [.reg [], .reg []] [] Tryd.func86 (cs := [_, _]) (by kernel_rfl) ⟨h92, h93, trivial⟩ (by kernel_rfl)

def antiquaryref02_words_l1 : Nat → Int → List Int → List Int → Option (List Int)
  | 0, _, _, _ => none
  | k + 1, p1, p2, p3 =>
    if (decide (p1 < (64 : Int))) = true then
      if 0 ≤ (IntKind.i64.wrap (p1 - (15 : Int))) ∧ (IntKind.i64.wrap (p1 - (15 : Int))) < (64 : Int) then
        Option.bind (antiquaryref02_rotr k (List.getD p3 (Int.toNat (IntKind.i64.wrap (p1 - (15 : Int)))) (Kd.dflt (Kd.int .u32))) (7 : Int)) fun x114 =>
        Option.bind (antiquaryref02_rotr k (List.getD p3 (Int.toNat (IntKind.i64.wrap (p1 - (15 : Int)))) (Kd.dflt (Kd.int .u32))) (18 : Int)) fun x116 =>
        if 0 ≤ (IntKind.i64.wrap (p1 - (2 : Int))) ∧ (IntKind.i64.wrap (p1 - (2 : Int))) < (64 : Int) then
          Option.bind (antiquaryref02_rotr k (List.getD p3 (Int.toNat (IntKind.i64.wrap (p1 - (2 : Int)))) (Kd.dflt (Kd.int .u32))) (17 : Int)) fun x119 =>
          Option.bind (antiquaryref02_rotr k (List.getD p3 (Int.toNat (IntKind.i64.wrap (p1 - (2 : Int)))) (Kd.dflt (Kd.int .u32))) (19 : Int)) fun x121 =>
          if 0 ≤ (IntKind.i64.wrap (p1 - (16 : Int))) ∧ (IntKind.i64.wrap (p1 - (16 : Int))) < (64 : Int) then
            if 0 ≤ (IntKind.i64.wrap (p1 - (7 : Int))) ∧ (IntKind.i64.wrap (p1 - (7 : Int))) < (64 : Int) then
              if 0 ≤ p1 ∧ p1 < (64 : Int) then
                antiquaryref02_words_l1 k (IntKind.i64.wrap (p1 + (1 : Int))) p2 (List.set p3 (Int.toNat p1) (IntKind.u32.wrap ((IntKind.u32.wrap ((IntKind.u32.wrap ((List.getD p3 (Int.toNat (IntKind.i64.wrap (p1 - (16 : Int)))) (Kd.dflt (Kd.int .u32))) + (IntKind.u32.wrap (((BitVec.ofInt (IntKind.bits .u32) (IntKind.u32.wrap (((BitVec.ofInt (IntKind.bits .u32) x114) ^^^ (BitVec.ofInt (IntKind.bits .u32) x116)).toNat : Int))) ^^^ (BitVec.ofInt (IntKind.bits .u32) (Int.fdiv (List.getD p3 (Int.toNat (IntKind.i64.wrap (p1 - (15 : Int)))) (Kd.dflt (Kd.int .u32))) (2 ^ (min (Int.toNat (3 : Int)) (IntKind.bits .u32)))))).toNat : Int)))) + (List.getD p3 (Int.toNat (IntKind.i64.wrap (p1 - (7 : Int)))) (Kd.dflt (Kd.int .u32))))) + (IntKind.u32.wrap (((BitVec.ofInt (IntKind.bits .u32) (IntKind.u32.wrap (((BitVec.ofInt (IntKind.bits .u32) x119) ^^^ (BitVec.ofInt (IntKind.bits .u32) x121)).toNat : Int))) ^^^ (BitVec.ofInt (IntKind.bits .u32) (Int.fdiv (List.getD p3 (Int.toNat (IntKind.i64.wrap (p1 - (2 : Int)))) (Kd.dflt (Kd.int .u32))) (2 ^ (min (Int.toNat (10 : Int)) (IntKind.bits .u32)))))).toNat : Int)))))
              else none
            else none
          else none
        else none
      else none
    else
      some (p3)
def antiquaryref02_words_l0 : Nat → List Int → Int → List Int → List Int → Option (List Int)
  | 0, _, _, _, _ => none
  | k + 1, p1, p2, p3, p4 =>
    if (decide (p2 < (16 : Int))) = true then
      if 0 ≤ (IntKind.i64.wrap ((4 : Int) * p2)) ∧ (IntKind.i64.wrap ((4 : Int) * p2)) < (List.length p1 : Int) then
        if 0 ≤ (IntKind.i64.wrap ((IntKind.i64.wrap ((4 : Int) * p2)) + (1 : Int))) ∧ (IntKind.i64.wrap ((IntKind.i64.wrap ((4 : Int) * p2)) + (1 : Int))) < (List.length p1 : Int) then
          if 0 ≤ (IntKind.i64.wrap ((IntKind.i64.wrap ((4 : Int) * p2)) + (2 : Int))) ∧ (IntKind.i64.wrap ((IntKind.i64.wrap ((4 : Int) * p2)) + (2 : Int))) < (List.length p1 : Int) then
            if 0 ≤ (IntKind.i64.wrap ((IntKind.i64.wrap ((4 : Int) * p2)) + (3 : Int))) ∧ (IntKind.i64.wrap ((IntKind.i64.wrap ((4 : Int) * p2)) + (3 : Int))) < (List.length p1 : Int) then
              if 0 ≤ p2 ∧ p2 < (64 : Int) then
                antiquaryref02_words_l0 k p1 (IntKind.i64.wrap (p2 + (1 : Int))) p3 (List.set p4 (Int.toNat p2) (IntKind.u32.wrap (((BitVec.ofInt (IntKind.bits .u32) (IntKind.u32.wrap (((BitVec.ofInt (IntKind.bits .u32) (IntKind.u32.wrap (((BitVec.ofInt (IntKind.bits .u32) (IntKind.u32.wrap ((IntKind.u32.wrap (List.getD p1 (Int.toNat (IntKind.i64.wrap ((4 : Int) * p2))) (Kd.dflt (Kd.int .u8)))) * 2 ^ (min (Int.toNat (24 : Int)) (IntKind.bits .u32))))) ||| (BitVec.ofInt (IntKind.bits .u32) (IntKind.u32.wrap ((IntKind.u32.wrap (List.getD p1 (Int.toNat (IntKind.i64.wrap ((IntKind.i64.wrap ((4 : Int) * p2)) + (1 : Int)))) (Kd.dflt (Kd.int .u8)))) * 2 ^ (min (Int.toNat (16 : Int)) (IntKind.bits .u32)))))).toNat : Int))) ||| (BitVec.ofInt (IntKind.bits .u32) (IntKind.u32.wrap ((IntKind.u32.wrap (List.getD p1 (Int.toNat (IntKind.i64.wrap ((IntKind.i64.wrap ((4 : Int) * p2)) + (2 : Int)))) (Kd.dflt (Kd.int .u8)))) * 2 ^ (min (Int.toNat (8 : Int)) (IntKind.bits .u32)))))).toNat : Int))) ||| (BitVec.ofInt (IntKind.bits .u32) (IntKind.u32.wrap (List.getD p1 (Int.toNat (IntKind.i64.wrap ((IntKind.i64.wrap ((4 : Int) * p2)) + (3 : Int)))) (Kd.dflt (Kd.int .u8)))))).toNat : Int)))
              else none
            else none
          else none
        else none
      else none
    else
      antiquaryref02_words_l1 k (16 : Int) p3 p4
def antiquaryref02_words (k : Nat) (a1 : List Int) : Option (List Int) :=
  antiquaryref02_words_l0 k a1 (0 : Int) (Kd.dflt (Kd.arr 64 (Kd.int .u32))) (Kd.dflt (Kd.arr 64 (Kd.int .u32)))
theorem antiquaryref02_words_l1_ok (k : Nat) : ∀ (p1 : Int) (p2 : List Int) (p3 : List Int) (r : List Int), antiquaryref02_words_l1 k p1 p2 p3 = some r →
    Abs.Good P 85 Tryd.f85.ntmps [] [] (.v (.p (Kd.arr 64 (Kd.int .u32)) r)) (pos Tryd.f85 [.r, .r, .r, .r, .c false, .r]) [(sk 2, some (.v (.ptr 501001 0))), (sk 3, some (.v (.ptr 501002 0))), (sk 5, some (.v (.p (Kd.int .i64) p1))), (ek 501001, some (.box [.p (Kd.arr 64 (Kd.int .u32)) p2])), (ek 501002, some (.box [.p (Kd.arr 64 (Kd.int .u32)) p3]))] := by
  induction k with
  | zero => intro p1 p2 p3 r h; cases h
  | succ k ih =>
    intro p1 p2 p3 r h
    unfold antiquaryref02_words_l1 at h
    rcases br_inv h with ⟨h112, h⟩ | ⟨h112, h⟩
    · obtain ⟨h113, h⟩ := gd_inv h
      obtain ⟨x114, h115, h⟩ := bind_inv h
      obtain ⟨x116, h117, h⟩ := bind_inv h
      obtain ⟨h118, h⟩ := gd_inv h
      obtain ⟨x119, h120, h⟩ := bind_inv h
      obtain ⟨x121, h122, h⟩ := bind_inv h
      obtain ⟨h123, h⟩ := gd_inv h
      obtain ⟨h124, h⟩ := gd_inv h
      obtain ⟨h125, h⟩ := gd_inv h
      exact Abs.Good.path hm [.reg [], .cond true, .reg [(4, { call := some { lend := [], pass := [], res := .v (.p (Kd.int .u32) x114), outs := [], back := [] } }), (9, { call := some { lend := [], pass := [], res := .v (.p (Kd.int .u32) x116), outs := [], back := [] } })], .reg [(4, { call := some { lend := [], pass := [], res := .v (.p (Kd.int .u32) x119), outs := [], back := [] } }), (9, { call := some { lend := [], pass := [], res := .v (.p (Kd.int .u32) x121), outs := [], back := [] } })], .reg [], .reg [], .keep [sk 2, sk 3, sk 5, ek 501001, ek 501002]] (cs := [_, _, _, _, _, _, _, _, _, _, _, _, _, _, _, _, _, _, _, _, _, _, _, _, _]) (by kernel_rfl) ⟨h112, h113.1, h113.2, (antiquaryref02_rotr_ok k (List.getD p3 (Int.toNat (IntKind.i64.wrap (p1 - (15 : Int)))) (Kd.dflt (Kd.int .u32))) (7 : Int) _ h115), h113.1, h113.2, (antiquaryref02_rotr_ok k (List.getD p3 (Int.toNat (IntKind.i64.wrap (p1 - (15 : Int)))) (Kd.dflt (Kd.int .u32))) (18 : Int) _ h117), h113.1, h113.2, (by decide : 0 ≤ (3 : Int)), h118.1, h118.2, (antiquaryref02_rotr_ok k (List.getD p3 (Int.toNat (IntKind.i64.wrap (p1 - (2 : Int)))) (Kd.dflt (Kd.int .u32))) (17 : Int) _ h120), h118.1, h118.2, (antiquaryref02_rotr_ok k (List.getD p3 (Int.toNat (IntKind.i64.wrap (p1 - (2 : Int)))) (Kd.dflt (Kd.int .u32))) (19 : Int) _ h122), h118.1, h118.2, (by decide : 0 ≤ (10 : Int)), h123.1, h123.2, h124.1, h124.2, h125.1, h125.2, trivial⟩ (ih (IntKind.i64.wrap (p1 + (1 : Int))) p2 (List.set p3 (Int.toNat p1) (IntKind.u32.wrap ((IntKind.u32.wrap ((IntKind.u32.wrap ((List.getD p3 (Int.toNat (IntKind.i64.wrap (p1 - (16 : Int)))) (Kd.dflt (Kd.int .u32))) + (IntKind.u32.wrap (((BitVec.ofInt (IntKind.bits .u32) (IntKind.u32.wrap (((BitVec.ofInt (IntKind.bits .u32) x114) ^^^ (BitVec.ofInt (IntKind.bits .u32) x116)).toNat : Int))) ^^^ (BitVec.ofInt (IntKind.bits .u32) (Int.fdiv (List.getD p3 (Int.toNat (IntKind.i64.wrap (p1 - (15 : Int)))) (Kd.dflt (Kd.int .u32))) (2 ^ (min (Int.toNat (3 : Int)) (IntKind.bits .u32)))))).toNat : Int)))) + (List.getD p3 (Int.toNat (IntKind.i64.wrap (p1 - (7 : Int)))) (Kd.dflt (Kd.int .u32))))) + (IntKind.u32.wrap (((BitVec.ofInt (IntKind.bits .u32) (IntKind.u32.wrap (((BitVec.ofInt (IntKind.bits .u32) x119) ^^^ (BitVec.ofInt (IntKind.bits .u32) x121)).toNat : Int))) ^^^ (BitVec.ofInt (IntKind.bits .u32) (Int.fdiv (List.getD p3 (Int.toNat (IntKind.i64.wrap (p1 - (2 : Int)))) (Kd.dflt (Kd.int .u32))) (2 ^ (min (Int.toNat (10 : Int)) (IntKind.bits .u32)))))).toNat : Int))))) r h)
    · replace h := Option.some.inj h; subst h
      exact Abs.Good.path_ret hm [.reg [], .cond false, .reg []] [] Tryd.func85 (cs := [_]) (by kernel_rfl) ⟨h112, trivial⟩ (by kernel_rfl)
theorem antiquaryref02_words_l0_ok (k : Nat) : ∀ (p1 : List Int) (p2 : Int) (p3 : List Int) (p4 : List Int) (r : List Int), antiquaryref02_words_l0 k p1 p2 p3 p4 = some r →
    Abs.Good P 85 Tryd.f85.ntmps [] [] (.v (.p (Kd.arr 64 (Kd.int .u32)) r)) (pos Tryd.f85 [.r, .r, .r]) [(sk 0, some (.v (.p (Kd.sl (Kd.int .u8)) p1))), (sk 2, some (.v (.ptr 500001 0))), (sk 3, some (.v (.ptr 500002 0))), (sk 4, some (.v (.p (Kd.int .i64) p2))), (ek 500001, some (.box [.p (Kd.arr 64 (Kd.int .u32)) p3])), (ek 500002, some (.box [.p (Kd.arr 64 (Kd.int .u32)) p4]))] := by
  induction k with
  | zero => intro p1 p2 p3 p4 r h; cases h
  | succ k ih =>
    intro p1 p2 p3 p4 r h
    unfold antiquaryref02_words_l0 at h
    rcases br_inv h with ⟨h106, h⟩ | ⟨h106, h⟩
    · obtain ⟨h107, h⟩ := gd_inv h
      obtain ⟨h108, h⟩ := gd_inv h
      obtain ⟨h109, h⟩ := gd_inv h
      obtain ⟨h110, h⟩ := gd_inv h
      obtain ⟨h111, h⟩ := gd_inv h
      exact Abs.Good.path hm [.reg [], .cond true, .reg [], .reg [], .keep [sk 0, sk 2, sk 3, sk 4, ek 500001, ek 500002]] (cs := [_, _, _, _, _, _, _, _, _, _, _, _, _, _]) (by kernel_rfl) ⟨h106, h107.1, h107.2, (by decide : 0 ≤ (24 : Int)), h108.1, h108.2, (by decide : 0 ≤ (16 : Int)), h109.1, h109.2, (by decide : 0 ≤ (8 : Int)), h110.1, h110.2, h111.1, h111.2, trivial⟩ (ih p1 (IntKind.i64.wrap (p2 + (1 : Int))) p3 (List.set p4 (Int.toNat p2) (IntKind.u32.wrap (((BitVec.ofInt (IntKind.bits .u32) (IntKind.u32.wrap (((BitVec.ofInt (IntKind.bits .u32) (IntKind.u32.wrap (((BitVec.ofInt (IntKind.bits .u32) (IntKind.u32.wrap ((IntKind.u32.wrap (List.getD p1 (Int.toNat (IntKind.i64.wrap ((4 : Int) * p2))) (Kd.dflt (Kd.int .u8)))) * 2 ^ (min (Int.toNat (24 : Int)) (IntKind.bits .u32))))) ||| (BitVec.ofInt (IntKind.bits .u32) (IntKind.u32.wrap ((IntKind.u32.wrap (List.getD p1 (Int.toNat (IntKind.i64.wrap ((IntKind.i64.wrap ((4 : Int) * p2)) + (1 : Int)))) (Kd.dflt (Kd.int .u8)))) * 2 ^ (min (Int.toNat (16 : Int)) (IntKind.bits .u32)))))).toNat : Int))) ||| (BitVec.ofInt (IntKind.bits .u32) (IntKind.u32.wrap ((IntKind.u32.wrap (List.getD p1 (Int.toNat (IntKind.i64.wrap ((IntKind.i64.wrap ((4 : Int) * p2)) + (2 : Int)))) (Kd.dflt (Kd.int .u8)))) * 2 ^ (min (Int.toNat (8 : Int)) (IntKind.bits .u32)))))).toNat : Int))) ||| (BitVec.ofInt (IntKind.bits .u32) (IntKind.u32.wrap (List.getD p1 (Int.toNat (IntKind.i64.wrap ((IntKind.i64.wrap ((4 : Int) * p2)) + (3 : Int)))) (Kd.dflt (Kd.int .u8)))))).toNat : Int))) r h)
    · exact Abs.Good.path hm [.reg [], .cond false, .reg [], .keep [sk 2, sk 3, sk 5, ek 500001, ek 500002], .ren [(500001, 501001), (500002, 501002)]] (cs := [_]) (by kernel_rfl) ⟨h106, trivial⟩ (antiquaryref02_words_l1_ok k (16 : Int) p3 p4 r h)
theorem antiquaryref02_words_ok (k : Nat) (a1 : List Int) (r : List Int) (h : antiquaryref02_words k a1 = some r) : SpecOk P ⟨85, [.p (Kd.sl (Kd.int .u8)) a1], [], .v (.p (Kd.arr 64 (Kd.int .u32)) r), []⟩ := by
  refine spec_at Tryd.func85 (by kernel_rfl) (Nat.le_of_ble_eq_true (by kernel_rfl)) ?_
  unfold antiquaryref02_words at h
  exact Abs.Good.path hm [.reg [], .reg [], .reg [], .keep [sk 0, sk 2, sk 3, sk 4, ek 2, ek 3], .ren [(2, 500001), (3, 500002)]] (cs := []) (by kernel_rfl) trivial (antiquaryref02_words_l0_ok k a1 (0 : Int) (Kd.dflt (Kd.arr 64 (Kd.int .u32))) (Kd.dflt (Kd.arr 64 (Kd.int .u32))) r h)

def antiquaryref02_Sum_l2 : Nat → Int → List Int → List Int → List Int → Option (List Int)
  | 0, _, _, _, _ => none
  | k + 1, p1, p2, p3, p4 =>
    if (decide (p1 < (32 : Int))) = true then
      if 0 ≤ (IntKind.i64.wrap (Int.tdiv p1 (4 : Int))) ∧ (IntKind.i64.wrap (Int.tdiv p1 (4 : Int))) < (8 : Int) then
        if 0 ≤ (IntKind.i64.wrap ((24 : Int) - (IntKind.i64.wrap ((8 : Int) * (Int.tmod p1 (4 : Int)))))) then
          if 0 ≤ p1 ∧ p1 < (32 : Int) then
            antiquaryref02_Sum_l2 k (IntKind.i64.wrap (p1 + (1 : Int))) p2 p3 (List.set p4 (Int.toNat p1) (IntKind.u8.wrap (Int.fdiv (List.getD p3 (Int.toNat (IntKind.i64.wrap (Int.tdiv p1 (4 : Int)))) (Kd.dflt (Kd.int .u32))) (2 ^ (min (Int.toNat (IntKind.i64.wrap ((24 : Int) - (IntKind.i64.wrap ((8 : Int) * (Int.tmod p1 (4 : Int))))))) (IntKind.bits .u32))))))
          else none
        else none
      else none
    else
      some (p4)
def antiquaryref02_Sum_l3 (s0 : List Int → Int → List Int → List Int → Option (List Int)) : Nat → List Int → Int → Int → List Int → List Int → List Int → Option (List Int)
  | 0, _, _, _, _, _, _ => none
  | k + 1, p1, p2, p3, p4, p5, p6 =>
    if (decide (p3 < (8 : Int))) = true then
      if 0 ≤ p3 ∧ p3 < (8 : Int) then
        antiquaryref02_Sum_l3 s0 k p1 p2 (IntKind.i64.wrap (p3 + (1 : Int))) p4 (List.set p5 (Int.toNat p3) (IntKind.u32.wrap ((List.getD p5 (Int.toNat p3) (Kd.dflt (Kd.int .u32))) + (List.getD p6 (Int.toNat p3) (Kd.dflt (Kd.int .u32)))))) p6
      else none
    else
      s0 p1 (IntKind.i64.wrap (p2 + (64 : Int))) p4 p5
def antiquaryref02_Sum_l1 (s0 : List Int → Int → List Int → List Int → Option (List Int)) : Nat → List Int → Int → Int → List Int → List Int → List Int → List Int → Option (List Int)
  | 0, _, _, _, _, _, _, _ => none
  | k + 1, p1, p2, p3, p4, p5, p6, p7 =>
    if (decide (p3 < (64 : Int))) = true then
      Option.bind (antiquaryref02_rotr k (List.getD p7 (4) (Kd.dflt (Kd.int .u32))) (6 : Int)) fun x185 =>
      Option.bind (antiquaryref02_rotr k (List.getD p7 (4) (Kd.dflt (Kd.int .u32))) (11 : Int)) fun x187 =>
      Option.bind (antiquaryref02_rotr k (List.getD p7 (4) (Kd.dflt (Kd.int .u32))) (25 : Int)) fun x189 =>
      if 0 ≤ p3 ∧ p3 < (64 : Int) then
        Option.bind (antiquaryref02_rotr k (List.getD p7 (0) (Kd.dflt (Kd.int .u32))) (2 : Int)) fun x192 =>
        Option.bind (antiquaryref02_rotr k (List.getD p7 (0) (Kd.dflt (Kd.int .u32))) (13 : Int)) fun x194 =>
        Option.bind (antiquaryref02_rotr k (List.getD p7 (0) (Kd.dflt (Kd.int .u32))) (22 : Int)) fun x196 =>
        antiquaryref02_Sum_l1 s0 k p1 p2 (IntKind.i64.wrap (p3 + (1 : Int))) p4 p5 p6 ([(IntKind.u32.wrap ((IntKind.u32.wrap ((IntKind.u32.wrap ((IntKind.u32.wrap ((IntKind.u32.wrap ((List.getD p7 (7) (Kd.dflt (Kd.int .u32))) + (IntKind.u32.wrap (((BitVec.ofInt (IntKind.bits .u32) (IntKind.u32.wrap (((BitVec.ofInt (IntKind.bits .u32) x185) ^^^ (BitVec.ofInt (IntKind.bits .u32) x187)).toNat : Int))) ^^^ (BitVec.ofInt (IntKind.bits .u32) x189)).toNat : Int)))) + (IntKind.u32.wrap (((BitVec.ofInt (IntKind.bits .u32) (IntKind.u32.wrap (((BitVec.ofInt (IntKind.bits .u32) (List.getD p7 (4) (Kd.dflt (Kd.int .u32)))) &&& (BitVec.ofInt (IntKind.bits .u32) (List.getD p7 (5) (Kd.dflt (Kd.int .u32))))).toNat : Int))) ^^^ (BitVec.ofInt (IntKind.bits .u32) (IntKind.u32.wrap (((BitVec.ofInt (IntKind.bits .u32) (IntKind.u32.wrap (((BitVec.ofInt (IntKind.bits .u32) (List.getD p7 (4) (Kd.dflt (Kd.int .u32)))) ^^^ (BitVec.ofInt (IntKind.bits .u32) (4294967295 : Int))).toNat : Int))) &&& (BitVec.ofInt (IntKind.bits .u32) (List.getD p7 (6) (Kd.dflt (Kd.int .u32))))).toNat : Int)))).toNat : Int)))) + (List.getD gK2 (Int.toNat p3) (Kd.dflt (Kd.int .u32))))) + (List.getD p6 (Int.toNat p3) (Kd.dflt (Kd.int .u32))))) + (IntKind.u32.wrap ((IntKind.u32.wrap (((BitVec.ofInt (IntKind.bits .u32) (IntKind.u32.wrap (((BitVec.ofInt (IntKind.bits .u32) x192) ^^^ (BitVec.ofInt (IntKind.bits .u32) x194)).toNat : Int))) ^^^ (BitVec.ofInt (IntKind.bits .u32) x196)).toNat : Int)) + (IntKind.u32.wrap (((BitVec.ofInt (IntKind.bits .u32) (IntKind.u32.wrap (((BitVec.ofInt (IntKind.bits .u32) (IntKind.u32.wrap (((BitVec.ofInt (IntKind.bits .u32) (List.getD p7 (0) (Kd.dflt (Kd.int .u32)))) &&& (BitVec.ofInt (IntKind.bits .u32) (List.getD p7 (1) (Kd.dflt (Kd.int .u32))))).toNat : Int))) ^^^ (BitVec.ofInt (IntKind.bits .u32) (IntKind.u32.wrap (((BitVec.ofInt (IntKind.bits .u32) (List.getD p7 (0) (Kd.dflt (Kd.int .u32)))) &&& (BitVec.ofInt (IntKind.bits .u32) (List.getD p7 (2) (Kd.dflt (Kd.int .u32))))).toNat : Int)))).toNat : Int))) ^^^ (BitVec.ofInt (IntKind.bits .u32) (IntKind.u32.wrap (((BitVec.ofInt (IntKind.bits .u32) (List.getD p7 (1) (Kd.dflt (Kd.int .u32)))) &&& (BitVec.ofInt (IntKind.bits .u32) (List.getD p7 (2) (Kd.dflt (Kd.int .u32))))).toNat : Int)))).toNat : Int)))))), (List.getD p7 (0) (Kd.dflt (Kd.int .u32))), (List.getD p7 (1) (Kd.dflt (Kd.int .u32))), (List.getD p7 (2) (Kd.dflt (Kd.int .u32))), (IntKind.u32.wrap ((List.getD p7 (3) (Kd.dflt (Kd.int .u32))) + (IntKind.u32.wrap ((IntKind.u32.wrap ((IntKind.u32.wrap ((IntKind.u32.wrap ((List.getD p7 (7) (Kd.dflt (Kd.int .u32))) + (IntKind.u32.wrap (((BitVec.ofInt (IntKind.bits .u32) (IntKind.u32.wrap (((BitVec.ofInt (IntKind.bits .u32) x185) ^^^ (BitVec.ofInt (IntKind.bits .u32) x187)).toNat : Int))) ^^^ (BitVec.ofInt (IntKind.bits .u32) x189)).toNat : Int)))) + (IntKind.u32.wrap (((BitVec.ofInt (IntKind.bits .u32) (IntKind.u32.wrap (((BitVec.ofInt (IntKind.bits .u32) (List.getD p7 (4) (Kd.dflt (Kd.int .u32)))) &&& (BitVec.ofInt (IntKind.bits .u32) (List.getD p7 (5) (Kd.dflt (Kd.int .u32))))).toNat : Int))) ^^^ (BitVec.ofInt (IntKind.bits .u32) (IntKind.u32.wrap (((BitVec.ofInt (IntKind.bits .u32) (IntKind.u32.wrap (((BitVec.ofInt (IntKind.bits .u32) (List.getD p7 (4) (Kd.dflt (Kd.int .u32)))) ^^^ (BitVec.ofInt (IntKind.bits .u32) (4294967295 : Int))).toNat : Int))) &&& (BitVec.ofInt (IntKind.bits .u32) (List.getD p7 (6) (Kd.dflt (Kd.int .u32))))).toNat : Int)))).toNat : Int)))) + (List.getD gK2 (Int.toNat p3) (Kd.dflt (Kd.int .u32))))) + (List.getD p6 (Int.toNat p3) (Kd.dflt (Kd.int .u32))))))), (List.getD p7 (4) (Kd.dflt (Kd.int .u32))), (List.getD p7 (5) (Kd.dflt (Kd.int .u32))), (List.getD p7 (6) (Kd.dflt (Kd.int .u32)))] : List Int)
      else none
    else
      antiquaryref02_Sum_l3 s0 k p1 p2 (0 : Int) p4 p5 p7
def antiquaryref02_Sum_l0 : Nat → List Int → Int → List Int → List Int → Option (List Int)
  | 0, _, _, _, _ => none
  | k + 1, p1, p2, p3, p4 =>
    if (decide (p2 < (List.length p1 : Int))) = true then
      if 0 ≤ (IntKind.i64.wrap (p2 + (64 : Int))) ∧ (IntKind.i64.wrap (p2 + (64 : Int))) ≤ (List.length p1 : Int) ∧ 0 ≤ p2 ∧ p2 ≤ (IntKind.i64.wrap (p2 + (64 : Int))) then
        Option.bind (antiquaryref02_words k (List.drop (Int.toNat p2) (List.take (Int.toNat (IntKind.i64.wrap (p2 + (64 : Int)))) p1))) fun x182 =>
        antiquaryref02_Sum_l1 (antiquaryref02_Sum_l0 k) k p1 p2 (0 : Int) p3 p4 x182 p4
      else none
    else
      antiquaryref02_Sum_l2 k (0 : Int) p3 p4 (Kd.dflt (Kd.arr 32 (Kd.int .u8)))
def antiquaryref02_Sum (k : Nat) (a1 : List Int) : Option (List Int) :=
  Option.bind (antiquaryref02_padded k a1) fun x178 =>
  antiquaryref02_Sum_l0 k x178 (0 : Int) (Kd.dflt (Kd.arr 32 (Kd.int .u8))) ([(1779033703 : Int), (3144134277 : Int), (1013904242 : Int), (2773480762 : Int), (1359893119 : Int), (2600822924 : Int), (528734635 : Int), (1541459225 : Int)] : List Int)
theorem antiquaryref02_Sum_l2_ok (k : Nat) : ∀ (p1 : Int) (p2 : List Int) (p3 : List Int) (p4 : List Int) (r : List Int), antiquaryref02_Sum_l2 k p1 p2 p3 p4 = some r →
    Abs.Good P 79 Tryd.f79.ntmps [] [] (.v (.p (Kd.arr 32 (Kd.int .u8)) r)) (pos Tryd.f79 [.r, .r, .r, .r, .r, .c false, .r, .r]) [(sk 2, some (.v (.ptr 502001 0))), (sk 3, some (.v (.ptr 502002 0))), (sk 12, some (.v (.ptr 502003 0))), (sk 13, some (.v (.p (Kd.int .i64) p1))), (ek 502001, some (.box [.p (Kd.arr 32 (Kd.int .u8)) p2])), (ek 502002, some (.box [.p (Kd.arr 8 (Kd.int .u32)) p3])), (ek 502003, some (.box [.p (Kd.arr 32 (Kd.int .u8)) p4]))] := by
  induction k with
  | zero => intro p1 p2 p3 p4 r h; cases h
  | succ k ih =>
    intro p1 p2 p3 p4 r h
    unfold antiquaryref02_Sum_l2 at h
    rcases br_inv h with ⟨h198, h⟩ | ⟨h198, h⟩
    · obtain ⟨h199, h⟩ := gd_inv h
      obtain ⟨h200, h⟩ := gd_inv h
      obtain ⟨h201, h⟩ := gd_inv h
      exact Abs.Good.path hm [.reg [], .cond true, .reg [], .reg [], .keep [sk 2, sk 3, sk 12, sk 13, ek 502001, ek 502002, ek 502003]] (cs := [_, _, _, _, _, _, _, _]) (by kernel_rfl) ⟨h198, (by decide : (4 : Int) ≠ 0), h199.1, h199.2, (by decide : (4 : Int) ≠ 0), h200, h201.1, h201.2, trivial⟩ (ih (IntKind.i64.wrap (p1 + (1 : Int))) p2 p3 (List.set p4 (Int.toNat p1) (IntKind.u8.wrap (Int.fdiv (List.getD p3 (Int.toNat (IntKind.i64.wrap (Int.tdiv p1 (4 : Int)))) (Kd.dflt (Kd.int .u32))) (2 ^ (min (Int.toNat (IntKind.i64.wrap ((24 : Int) - (IntKind.i64.wrap ((8 : Int) * (Int.tmod p1 (4 : Int))))))) (IntKind.bits .u32)))))) r h)
    · replace h := Option.some.inj h; subst h
      exact Abs.Good.path_ret hm [.reg [], .cond false, .reg []] [] Tryd.func79 (cs := [_]) (by kernel_rfl) ⟨h198, trivial⟩ (by kernel_rfl)
theorem antiquaryref02_Sum_l3_ok (s0 : List Int → Int → List Int → List Int → Option (List Int)) (hs0 : ∀ (p1 : List Int) (p2 : Int) (p3 : List Int) (p4 : List Int) (r : List Int), s0 p1 p2 p3 p4 = some r → Abs.Good P 79 Tryd.f79.ntmps [] [] (.v (.p (Kd.arr 32 (Kd.int .u8)) r)) (pos Tryd.f79 [.r, .r, .r, .r]) [(sk 2, some (.v (.ptr 500001 0))), (sk 3, some (.v (.ptr 500002 0))), (sk 4, some (.v (.p (Kd.sl (Kd.int .u8)) p1))), (sk 5, some (.v (.p (Kd.int .i64) p2))), (ek 500001, some (.box [.p (Kd.arr 32 (Kd.int .u8)) p3])), (ek 500002, some (.box [.p (Kd.arr 8 (Kd.int .u32)) p4]))]) (k : Nat) : ∀ (p1 : List Int) (p2 : Int) (p3 : Int) (p4 : List Int) (p5 : List Int) (p6 : List Int) (r : List Int), antiquaryref02_Sum_l3 s0 k p1 p2 p3 p4 p5 p6 = some r →
    Abs.Good P 79 Tryd.f79.ntmps [] [] (.v (.p (Kd.arr 32 (Kd.int .u8)) r)) (pos Tryd.f79 [.r, .r, .r, .r, .r, .c true, .r, .r, .r, .r, .c false, .r]) [(sk 2, some (.v (.ptr 503001 0))), (sk 3, some (.v (.ptr 503002 0))), (sk 4, some (.v (.p (Kd.sl (Kd.int .u8)) p1))), (sk 5, some (.v (.p (Kd.int .i64) p2))), (sk 7, some (.v (.ptr 503003 0))), (sk 11, some (.v (.p (Kd.int .i64) p3))), (ek 503001, some (.box [.p (Kd.arr 32 (Kd.int .u8)) p4])), (ek 503002, some (.box [.p (Kd.arr 8 (Kd.int .u32)) p5])), (ek 503003, some (.box [.p (Kd.arr 8 (Kd.int .u32)) p6]))] := by
  induction k with
  | zero => intro p1 p2 p3 p4 p5 p6 r h; cases h
  | succ k ih =>
    intro p1 p2 p3 p4 p5 p6 r h
    unfold antiquaryref02_Sum_l3 at h
    rcases br_inv h with ⟨h202, h⟩ | ⟨h202, h⟩
    · obtain ⟨h203, h⟩ := gd_inv h
      exact Abs.Good.path hm [.reg [], .cond true, .reg [], .reg [], .keep [sk 2, sk 3, sk 4, sk 5, sk 7, sk 11, ek 503001, ek 503002, ek 503003]] (cs := [_, _, _, _, _, _, _]) (by kernel_rfl) ⟨h202, h203.1, h203.2, h203.1, h203.2, h203.1, h203.2, trivial⟩ (ih p1 p2 (IntKind.i64.wrap (p3 + (1 : Int))) p4 (List.set p5 (Int.toNat p3) (IntKind.u32.wrap ((List.getD p5 (Int.toNat p3) (Kd.dflt (Kd.int .u32))) + (List.getD p6 (Int.toNat p3) (Kd.dflt (Kd.int .u32)))))) p6 r h)
    · exact Abs.Good.path hm [.reg [], .cond false, .reg [], .keep [sk 2, sk 3, sk 4, sk 5, ek 503001, ek 503002], .ren [(503001, 500001), (503002, 500002)]] (cs := [_]) (by kernel_rfl) ⟨h202, trivial⟩ (hs0 p1 (IntKind.i64.wrap (p2 + (64 : Int))) p4 p5 r h)
theorem antiquaryref02_Sum_l1_ok (s0 : List Int → Int → List Int → List Int → Option (List Int)) (hs0 : ∀ (p1 : List Int) (p2 : Int) (p3 : List Int) (p4 : List Int) (r : List Int), s0 p1 p2 p3 p4 = some r → Abs.Good P 79 Tryd.f79.ntmps [] [] (.v (.p (Kd.arr 32 (Kd.int .u8)) r)) (pos Tryd.f79 [.r, .r, .r, .r]) [(sk 2, some (.v (.ptr 500001 0))), (sk 3, some (.v (.ptr 500002 0))), (sk 4, some (.v (.p (Kd.sl (Kd.int .u8)) p1))), (sk 5, some (.v (.p (Kd.int .i64) p2))), (ek 500001, some (.box [.p (Kd.arr 32 (Kd.int .u8)) p3])), (ek 500002, some (.box [.p (Kd.arr 8 (Kd.int .u32)) p4]))]) (k : Nat) : ∀ (p1 : List Int) (p2 : Int) (p3 : Int) (p4 : List Int) (p5 : List Int) (p6 : List Int) (p7 : List Int) (r : List Int), antiquaryref02_Sum_l1 s0 k p1 p2 p3 p4 p5 p6 p7 = some r →
    Abs.Good P 79 Tryd.f79.ntmps [] [] (.v (.p (Kd.arr 32 (Kd.int .u8)) r)) (pos Tryd.f79 [.r, .r, .r, .r, .r, .c true, .r, .r, .r]) [(sk 2, some (.v (.ptr 501001 0))), (sk 3, some (.v (.ptr 501002 0))), (sk 4, some (.v (.p (Kd.sl (Kd.int .u8)) p1))), (sk 5, some (.v (.p (Kd.int .i64) p2))), (sk 6, some (.v (.ptr 501003 0))), (sk 7, some (.v (.ptr 501004 0))), (sk 8, some (.v (.p (Kd.int .i64) p3))), (ek 501001, some (.box [.p (Kd.arr 32 (Kd.int .u8)) p4])), (ek 501002, some (.box [.p (Kd.arr 8 (Kd.int .u32)) p5])), (ek 501003, some (.box [.p (Kd.arr 64 (Kd.int .u32)) p6])), (ek 501004, some (.box [.p (Kd.arr 8 (Kd.int .u32)) p7]))] := by
  induction k with
  | zero => intro p1 p2 p3 p4 p5 p6 p7 r h; cases h
  | succ k ih =>
    intro p1 p2 p3 p4 p5 p6 p7 r h
    unfold antiquaryref02_Sum_l1 at h
    rcases br_inv h with ⟨h184, h⟩ | ⟨h184, h⟩
    · obtain ⟨x185, h186, h⟩ := bind_inv h
      obtain ⟨x187, h188, h⟩ := bind_inv h
      obtain ⟨x189, h190, h⟩ := bind_inv h
      obtain ⟨h191, h⟩ := gd_inv h
      obtain ⟨x192, h193, h⟩ := bind_inv h
      obtain ⟨x194, h195, h⟩ := bind_inv h
      obtain ⟨x196, h197, h⟩ := bind_inv h
      exact Abs.Good.path hm [.reg [], .cond true, .reg [(4, { call := some { lend := [], pass := [], res := .v (.p (Kd.int .u32) x185), outs := [], back := [] } }), (7, { call := some { lend := [], pass := [], res := .v (.p (Kd.int .u32) x187), outs := [], back := [] } }), (11, { call := some { lend := [], pass := [], res := .v (.p (Kd.int .u32) x189), outs := [], back := [] } })], .reg [(2, { call := some { lend := [], pass := [], res := .v (.p (Kd.int .u32) x192), outs := [], back := [] } }), (5, { call := some { lend := [], pass := [], res := .v (.p (Kd.int .u32) x194), outs := [], back := [] } }), (9, { call := some { lend := [], pass := [], res := .v (.p (Kd.int .u32) x196), outs := [], back := [] } })], .reg [], .reg [], .keep [sk 2, sk 3, sk 4, sk 5, sk 6, sk 7, sk 8, ek 501001, ek 501002, ek 501003, ek 501004]] (cs := [_, _, _, _, _, _, _, _, _, _, _, _, _, _, _, _, _, _, _, _, _, _, _, _, _, _, _, _, _, _, _, _, _, _, _, _, _, _, _, _, _, _, _, _, _, _, _, _, _, _, _, _, _, _, _, _, _, _, _]) (by kernel_rfl) ⟨h184, (by decide : 0 ≤ (7 : Int)), (by decide : (7 : Int) < (8 : Int)), (by decide : 0 ≤ (4 : Int)), (by decide : (4 : Int) < (8 : Int)), (antiquaryref02_rotr_ok k (List.getD p7 (4) (Kd.dflt (Kd.int .u32))) (6 : Int) _ h186), (by decide : 0 ≤ (4 : Int)), (by decide : (4 : Int) < (8 : Int)), (antiquaryref02_rotr_ok k (List.getD p7 (4) (Kd.dflt (Kd.int .u32))) (11 : Int) _ h188), (by decide : 0 ≤ (4 : Int)), (by decide : (4 : Int) < (8 : Int)), (antiquaryref02_rotr_ok k (List.getD p7 (4) (Kd.dflt (Kd.int .u32))) (25 : Int) _ h190), (by decide : 0 ≤ (4 : Int)), (by decide : (4 : Int) < (8 : Int)), (by decide : 0 ≤ (5 : Int)), (by decide : (5 : Int) < (8 : Int)), (by decide : 0 ≤ (4 : Int)), (by decide : (4 : Int) < (8 : Int)), (by decide : 0 ≤ (6 : Int)), (by decide : (6 : Int) < (8 : Int)), h191.1, h191.2, h191.1, h191.2, (by decide : 0 ≤ (0 : Int)), (by decide : (0 : Int) < (8 : Int)), (antiquaryref02_rotr_ok k (List.getD p7 (0) (Kd.dflt (Kd.int .u32))) (2 : Int) _ h193), (by decide : 0 ≤ (0 : Int)), (by decide : (0 : Int) < (8 : Int)), (antiquaryref02_rotr_ok k (List.getD p7 (0) (Kd.dflt (Kd.int .u32))) (13 : Int) _ h195), (by decide : 0 ≤ (0 : Int)), (by decide : (0 : Int) < (8 : Int)), (antiquaryref02_rotr_ok k (List.getD p7 (0) (Kd.dflt (Kd.int .u32))) (22 : Int) _ h197), (by decide : 0 ≤ (0 : Int)), (by decide : (0 : Int) < (8 : Int)), (by decide : 0 ≤ (1 : Int)), (by decide : (1 : Int) < (8 : Int)), (by decide : 0 ≤ (0 : Int)), (by decide : (0 : Int) < (8 : Int)), (by decide : 0 ≤ (2 : Int)), (by decide : (2 : Int) < (8 : Int)), (by decide : 0 ≤ (1 : Int)), (by decide : (1 : Int) < (8 : Int)), (by decide : 0 ≤ (2 : Int)), (by decide : (2 : Int) < (8 : Int)), (by decide : 0 ≤ (0 : Int)), (by decide : (0 : Int) < (8 : Int)), (by decide : 0 ≤ (1 : Int)), (by decide : (1 : Int) < (8 : Int)), (by decide : 0 ≤ (2 : Int)), (by decide : (2 : Int) < (8 : Int)), (by decide : 0 ≤ (3 : Int)), (by decide : (3 : Int) < (8 : Int)), (by decide : 0 ≤ (4 : Int)), (by decide : (4 : Int) < (8 : Int)), (by decide : 0 ≤ (5 : Int)), (by decide : (5 : Int) < (8 : Int)), (by decide : 0 ≤ (6 : Int)), (by decide : (6 : Int) < (8 : Int)), trivial⟩ (ih p1 p2 (IntKind.i64.wrap (p3 + (1 : Int))) p4 p5 p6 ([(IntKind.u32.wrap ((IntKind.u32.wrap ((IntKind.u32.wrap ((IntKind.u32.wrap ((IntKind.u32.wrap ((List.getD p7 (7) (Kd.dflt (Kd.int .u32))) + (IntKind.u32.wrap (((BitVec.ofInt (IntKind.bits .u32) (IntKind.u32.wrap (((BitVec.ofInt (IntKind.bits .u32) x185) ^^^ (BitVec.ofInt (IntKind.bits .u32) x187)).toNat : Int))) ^^^ (BitVec.ofInt (IntKind.bits .u32) x189)).toNat : Int)))) + (IntKind.u32.wrap (((BitVec.ofInt (IntKind.bits .u32) (IntKind.u32.wrap (((BitVec.ofInt (IntKind.bits .u32) (List.getD p7 (4) (Kd.dflt (Kd.int .u32)))) &&& (BitVec.ofInt (IntKind.bits .u32) (List.getD p7 (5) (Kd.dflt (Kd.int .u32))))).toNat : Int))) ^^^ (BitVec.ofInt (IntKind.bits .u32) (IntKind.u32.wrap (((BitVec.ofInt (IntKind.bits .u32) (IntKind.u32.wrap (((BitVec.ofInt (IntKind.bits .u32) (List.getD p7 (4) (Kd.dflt (Kd.int .u32)))) ^^^ (BitVec.ofInt (IntKind.bits .u32) (4294967295 : Int))).toNat : Int))) &&& (BitVec.ofInt (IntKind.bits .u32) (List.getD p7 (6) (Kd.dflt (Kd.int .u32))))).toNat : Int)))).toNat : Int)))) + (List.getD gK2 (Int.toNat p3) (Kd.dflt (Kd.int .u32))))) + (List.getD p6 (Int.toNat p3) (Kd.dflt (Kd.int .u32))))) + (IntKind.u32.wrap ((IntKind.u32.wrap (((BitVec.ofInt (IntKind.bits .u32) (IntKind.u32.wrap (((BitVec.ofInt (IntKind.bits .u32) x192) ^^^ (BitVec.ofInt (IntKind.bits .u32) x194)).toNat : Int))) ^^^ (BitVec.ofInt (IntKind.bits .u32) x196)).toNat : Int)) + (IntKind.u32.wrap (((BitVec.ofInt (IntKind.bits .u32) (IntKind.u32.wrap (((BitVec.ofInt (IntKind.bits .u32) (IntKind.u32.wrap (((BitVec.ofInt (IntKind.bits .u32) (List.getD p7 (0) (Kd.dflt (Kd.int .u32)))) &&& (BitVec.ofInt (IntKind.bits .u32) (List.getD p7 (1) (Kd.dflt (Kd.int .u32))))).toNat : Int))) ^^^ (BitVec.ofInt (IntKind.bits .u32) (IntKind.u32.wrap (((BitVec.ofInt (IntKind.bits .u32) (List.getD p7 (0) (Kd.dflt (Kd.int .u32)))) &&& (BitVec.ofInt (IntKind.bits .u32) (List.getD p7 (2) (Kd.dflt (Kd.int .u32))))).toNat : Int)))).toNat : Int))) ^^^ (BitVec.ofInt (IntKind.bits .u32) (IntKind.u32.wrap (((BitVec.ofInt (IntKind.bits .u32) (List.getD p7 (1) (Kd.dflt (Kd.int .u32)))) &&& (BitVec.ofInt (IntKind.bits .u32) (List.getD p7 (2) (Kd.dflt (Kd.int .u32))))).toNat : Int)))).toNat : Int)))))), (List.getD p7 (0) (Kd.dflt (Kd.int .u32))), (List.getD p7 (1) (Kd.dflt (Kd.int .u32))), (List.getD p7 (2) (Kd.dflt (Kd.int .u32))), (IntKind.u32.wrap ((List.getD p7 (3) (Kd.dflt (Kd.int .u32))) + (IntKind.u32.wrap ((IntKind.u32.wrap ((IntKind.u32.wrap ((IntKind.u32.wrap ((List.getD p7 (7) (Kd.dflt (Kd.int .u32))) + (IntKind.u32.wrap (((BitVec.ofInt (IntKind.bits .u32) (IntKind.u32.wrap (((BitVec.ofInt (IntKind.bits .u32) x185) ^^^ (BitVec.ofInt (IntKind.bits .u32) x187)).toNat : Int))) ^^^ (BitVec.ofInt (IntKind.bits .u32) x189)).toNat : Int)))) + (IntKind.u32.wrap (((BitVec.ofInt (IntKind.bits .u32) (IntKind.u32.wrap (((BitVec.ofInt (IntKind.bits .u32) (List.getD p7 (4) (Kd.dflt (Kd.int .u32)))) &&& (BitVec.ofInt (IntKind.bits .u32) (List.getD p7 (5) (Kd.dflt (Kd.int .u32))))).toNat : Int))) ^^^ (BitVec.ofInt (IntKind.bits .u32) (IntKind.u32.wrap (((BitVec.ofInt (IntKind.bits .u32) (IntKind.u32.wrap (((BitVec.ofInt (IntKind.bits .u32) (List.getD p7 (4) (Kd.dflt (Kd.int .u32)))) ^^^ (BitVec.ofInt (IntKind.bits .u32) (4294967295 : Int))).toNat : Int))) &&& (BitVec.ofInt (IntKind.bits .u32) (List.getD p7 (6) (Kd.dflt (Kd.int .u32))))).toNat : Int)))).toNat : Int)))) + (List.getD gK2 (Int.toNat p3) (Kd.dflt (Kd.int .u32))))) + (List.getD p6 (Int.toNat p3) (Kd.dflt (Kd.int .u32))))))), (List.getD p7 (4) (Kd.dflt (Kd.int .u32))), (List.getD p7 (5) (Kd.dflt (Kd.int .u32))), (List.getD p7 (6) (Kd.dflt (Kd.int .u32)))] : List Int) r h)
    · exact Abs.Good.path hm [.reg [], .cond false, .reg [], .keep [sk 2, sk 3, sk 4, sk 5, sk 7, sk 11, ek 501001, ek 501002, ek 501004], .ren [(501001, 503001), (501002, 503002), (501004, 503003)]] (cs := [_]) (by kernel_rfl) ⟨h184, trivial⟩ (antiquaryref02_Sum_l3_ok s0 hs0 k p1 p2 (0 : Int) p4 p5 p7 r h)
theorem antiquaryref02_Sum_l0_ok (k : Nat) : ∀ (p1 : List Int) (p2 : Int) (p3 : List Int) (p4 : List Int) (r : List Int), antiquaryref02_Sum_l0 k p1 p2 p3 p4 = some r →
    Abs.Good P 79 Tryd.f79.ntmps [] [] (.v (.p (Kd.arr 32 (Kd.int .u8)) r)) (pos Tryd.f79 [.r, .r, .r, .r]) [(sk 2, some (.v (.ptr 500001 0))), (sk 3, some (.v (.ptr 500002 0))), (sk 4, some (.v (.p (Kd.sl (Kd.int .u8)) p1))), (sk 5, some (.v (.p (Kd.int .i64) p2))), (ek 500001, some (.box [.p (Kd.arr 32 (Kd.int .u8)) p3])), (ek 500002, some (.box [.p (Kd.arr 8 (Kd.int .u32)) p4]))] := by
  induction k with
  | zero => intro p1 p2 p3 p4 r h; cases h
  | succ k ih =>
    intro p1 p2 p3 p4 r h
    unfold antiquaryref02_Sum_l0 at h
    rcases br_inv h with ⟨h180, h⟩ | ⟨h180, h⟩
    · obtain ⟨h181, h⟩ := gd_inv h
      obtain ⟨x182, h183, h⟩ := bind_inv h
      exact Abs.Good.path hm [.reg [], .cond true, .reg [(5, { call := some { lend := [], pass := [], res := .v (.p (Kd.arr 64 (Kd.int .u32)) x182), outs := [], back := [] } })], .reg [], .reg [], .keep [sk 2, sk 3, sk 4, sk 5, sk 6, sk 7, sk 8, ek 500001, ek 500002, ek 6, ek 7], .ren [(500001, 501001), (500002, 501002), (6, 501003), (7, 501004)]] (cs := [_, _, _, _, _, _]) (by kernel_rfl) ⟨h180, h181.1, h181.2.1, h181.2.2.1, h181.2.2.2, (antiquaryref02_words_ok k (List.drop (Int.toNat p2) (List.take (Int.toNat (IntKind.i64.wrap (p2 + (64 : Int)))) p1)) _ h183), trivial⟩ (antiquaryref02_Sum_l1_ok (antiquaryref02_Sum_l0 k) ih k p1 p2 (0 : Int) p3 p4 x182 p4 r h)
    · exact Abs.Good.path hm [.reg [], .cond false, .reg [], .reg [], .keep [sk 2, sk 3, sk 12, sk 13, ek 500001, ek 500002, ek 12], .ren [(500001, 502001), (500002, 502002), (12, 502003)]] (cs := [_]) (by kernel_rfl) ⟨h180, trivial⟩ (antiquaryref02_Sum_l2_ok k (0 : Int) p3 p4 (Kd.dflt (Kd.arr 32 (Kd.int .u8))) r h)
theorem antiquaryref02_Sum_ok (k : Nat) (a1 : List Int) (r : List Int) (h : antiquaryref02_Sum k a1 = some r) : SpecOk P ⟨79, [.p (Kd.sl (Kd.int .u8)) a1], [], .v (.p (Kd.arr 32 (Kd.int .u8)) r), []⟩ := by
  refine spec_at Tryd.func79 (by kernel_rfl) (Nat.le_of_ble_eq_true (by kernel_rfl)) ?_
  unfold antiquaryref02_Sum at h
  obtain ⟨x178, h179, h⟩ := bind_inv h
  exact Abs.Good.path hm [.reg [], .reg [], .reg [(1, { call := some { lend := [], pass := [], res := .v (.p (Kd.sl (Kd.int .u8)) x178), outs := [], back := [] } })], .reg [], .keep [sk 2, sk 3, sk 4, sk 5, ek 2, ek 3], .ren [(2, 500001), (3, 500002)]] (cs := [_]) (by kernel_rfl) ⟨(antiquaryref02_padded_ok k a1 _ h179), trivial⟩ (antiquaryref02_Sum_l0_ok k x178 (0 : Int) (Kd.dflt (Kd.arr 32 (Kd.int .u8))) ([(1779033703 : Int), (3144134277 : Int), (1013904242 : Int), (2773480762 : Int), (1359893119 : Int), (2600822924 : Int), (528734635 : Int), (1541459225 : Int)] : List Int) r h)

def antiquaryref02_Short_l0 : Nat → Int → List Int → List Int → List Int → Option (List Int)
  | 0, _, _, _, _ => none
  | k + 1, p1, p2, p3, p4 =>
    if (decide (p1 < (16 : Int))) = true then
      if 0 ≤ p1 ∧ p1 < (32 : Int) then
        if p1 < (16 : Int) then
          antiquaryref02_Short_l0 k (IntKind.i64.wrap (p1 + (1 : Int))) p2 p3 (List.set p4 (Int.toNat p1) (List.getD p3 (Int.toNat p1) (Kd.dflt (Kd.int .u8))))
        else none
      else none
    else
      some (p4)
def antiquaryref02_Short (k : Nat) (a1 : List Int) : Option (List Int) :=
  Option.bind (antiquaryref02_Sum k a1) fun x211 =>
  antiquaryref02_Short_l0 k (0 : Int) (Kd.dflt (Kd.arr 16 (Kd.int .u8))) x211 ([(Kd.dflt (Kd.int .u8)), (Kd.dflt (Kd.int .u8)), (Kd.dflt (Kd.int .u8)), (Kd.dflt (Kd.int .u8)), (Kd.dflt (Kd.int .u8)), (Kd.dflt (Kd.int .u8)), (Kd.dflt (Kd.int .u8)), (Kd.dflt (Kd.int .u8)), (Kd.dflt (Kd.int .u8)), (Kd.dflt (Kd.int .u8)), (Kd.dflt (Kd.int .u8)), (Kd.dflt (Kd.int .u8)), (Kd.dflt (Kd.int .u8)), (Kd.dflt (Kd.int .u8)), (Kd.dflt (Kd.int .u8)), (Kd.dflt (Kd.int .u8))] : List Int)
theorem antiquaryref02_Short_l0_ok (k : Nat) : ∀ (p1 : Int) (p2 : List Int) (p3 : List Int) (p4 : List Int) (r : List Int), antiquaryref02_Short_l0 k p1 p2 p3 p4 = some r →
    Abs.Good P 65 Tryd.f65.ntmps [] [] (.v (.p (Kd.arr 16 (Kd.int .u8)) r)) (pos Tryd.f65 [.r, .r, .r, .r]) [(sk 2, some (.v (.ptr 500001 0))), (sk 3, some (.v (.ptr 500002 0))), (sk 4, some (.v (.ptr 500003 0))), (sk 5, some (.v (.p (Kd.int .i64) p1))), (ek 500001, some (.box [.p (Kd.arr 16 (Kd.int .u8)) p2])), (ek 500002, some (.box [.p (Kd.arr 32 (Kd.int .u8)) p3])), (ek 500003, some (.box [.p (Kd.arr 16 (Kd.int .u8)) p4]))] := by
  induction k with
  | zero => intro p1 p2 p3 p4 r h; cases h
  | succ k ih =>
    intro p1 p2 p3 p4 r h
    unfold antiquaryref02_Short_l0 at h
    rcases br_inv h with ⟨h213, h⟩ | ⟨h213, h⟩
    · obtain ⟨h214, h⟩ := gd_inv h
      obtain ⟨h215, h⟩ := gd_inv h
      exact Abs.Good.path hm [.reg [], .cond true, .reg [], .reg [], .keep [sk 2, sk 3, sk 4, sk 5, ek 500001, ek 500002, ek 500003]] (cs := [_, _, _, _, _]) (by kernel_rfl) ⟨h213, h214.1, h214.2, h214.1, h215, trivial⟩ (ih (IntKind.i64.wrap (p1 + (1 : Int))) p2 p3 (List.set p4 (Int.toNat p1) (List.getD p3 (Int.toNat p1) (Kd.dflt (Kd.int .u8)))) r h)
    · replace h := Option.some.inj h; subst h
      exact Abs.Good.path_ret hm [.reg [], .cond false, .reg []] [] Tryd.func65 (cs := [_]) (by kernel_rfl) ⟨h213, trivial⟩ (by kernel_rfl)
theorem antiquaryref02_Short_ok (k : Nat) (a1 : List Int) (r : List Int) (h : antiquaryref02_Short k a1 = some r) : SpecOk P ⟨65, [.p (Kd.sl (Kd.int .u8)) a1], [], .v (.p (Kd.arr 16 (Kd.int .u8)) r), []⟩ := by
  refine spec_at Tryd.func65 (by kernel_rfl) (Nat.le_of_ble_eq_true (by kernel_rfl)) ?_
  unfold antiquaryref02_Short at h
  obtain ⟨x211, h212, h⟩ := bind_inv h
  exact Abs.Good.path hm [.reg [], .reg [(1, { call := some { lend := [], pass := [], res := .v (.p (Kd.arr 32 (Kd.int .u8)) x211), outs := [], back := [] } })], .reg [], .reg [], .keep [sk 2, sk 3, sk 4, sk 5, ek 2, ek 3, ek 4], .ren [(2, 500001), (3, 500002), (4, 500003)]] (cs := [_]) (by kernel_rfl) ⟨(antiquaryref02_Sum_ok k a1 _ h212), trivial⟩ (antiquaryref02_Short_l0_ok k (0 : Int) (Kd.dflt (Kd.arr 16 (Kd.int .u8))) x211 ([(Kd.dflt (Kd.int .u8)), (Kd.dflt (Kd.int .u8)), (Kd.dflt (Kd.int .u8)), (Kd.dflt (Kd.int .u8)), (Kd.dflt (Kd.int .u8)), (Kd.dflt (Kd.int .u8)), (Kd.dflt (Kd.int .u8)), (Kd.dflt (Kd.int .u8)), (Kd.dflt (Kd.int .u8)), (Kd.dflt (Kd.int .u8)), (Kd.dflt (Kd.int .u8)), (Kd.dflt (Kd.int .u8)), (Kd.dflt (Kd.int .u8)), (Kd.dflt (Kd.int .u8)), (Kd.dflt (Kd.int .u8)), (Kd.dflt (Kd.int .u8))] : List Int) r h)

def antiquaryref02_Of (k : Nat) (a1 : Int) (a2 : List ByteArray) : Option (List Int) :=
  Option.bind (antiquaryref02_Input k a1 a2) fun x218 =>
  Option.bind (antiquaryref02_Short k x218) fun x220 =>
  some (x220)
theorem antiquaryref02_Of_ok (k : Nat) (a1 : Int) (a2 : List ByteArray) (r : List Int) (h : antiquaryref02_Of k a1 a2 = some r) : SpecOk P ⟨44, [.p (Kd.int .i64) a1, .p (Kd.sl Kd.str) a2], [], .v (.p (Kd.arr 16 (Kd.int .u8)) r), []⟩ := by
  refine spec_at Tryd.func44 (by kernel_rfl) (Nat.le_of_ble_eq_true (by kernel_rfl)) ?_
  unfold antiquaryref02_Of at h
  obtain ⟨x218, h219, h⟩ := bind_inv h
  obtain ⟨x220, h221, h⟩ := bind_inv h
  replace h := Option.some.inj h; subst h
  exact Abs.Good.path_ret hm [.reg [], .reg [(2, { call := some { lend := [], pass := [], res := .v (.p (Kd.sl (Kd.int .u8)) x218), outs := [], back := [] } }), (3, { call := some { lend := [], pass := [], res := .v (.p (Kd.arr 16 (Kd.int .u8)) x220), outs := [], back := [] } })]] [] Tryd.func44 (cs := [_, _]) (by kernel_rfl) ⟨(antiquaryref02_Input_ok k a1 a2 _ h219), (antiquaryref02_Short_ok k x218 _ h221), trivial⟩ (by kernel_rfl)

def antiquaryref44_Name (k : Nat) (a1 : ByteArray) : Option (List Int) :=
  Option.bind (antiquaryref02_Of k (44 : Int) ([a1] : List ByteArray)) fun x224 =>
  some (x224)
theorem antiquaryref44_Name_ok (k : Nat) (a1 : ByteArray) (r : List Int) (h : antiquaryref44_Name k a1 = some r) : SpecOk P ⟨14, [.p Kd.str a1], [], .v (.p (Kd.arr 16 (Kd.int .u8)) r), []⟩ := by
  refine spec_at Tryd.func14 (by kernel_rfl) (Nat.le_of_ble_eq_true (by kernel_rfl)) ?_
  unfold antiquaryref44_Name at h
  obtain ⟨x224, h225, h⟩ := bind_inv h
  replace h := Option.some.inj h; subst h
  exact Abs.Good.path_ret hm [.reg [], .reg [(2, { call := some { lend := [(4, false)], pass := [], res := .v (.p (Kd.arr 16 (Kd.int .u8)) x224), outs := [], back := [] } })]] [] Tryd.func14 (cs := [_, _]) (by kernel_rfl) ⟨(antiquaryref02_Of_ok k (44 : Int) ([a1] : List ByteArray) _ h225), (rfl : 1 = List.length ([a1] : List ByteArray)), trivial⟩ (by kernel_rfl)

def antiquaryref44_Less_l0 : Nat → Int → List Int → List Int → Option (Bool)
  | 0, _, _, _ => none
  | k + 1, p1, p2, p3 =>
    if (decide (p1 < (16 : Int))) = true then
      if 0 ≤ p1 ∧ p1 < (16 : Int) then
        if ((List.getD p2 (Int.toNat p1) (Kd.dflt (Kd.int .u8))) != (List.getD p3 (Int.toNat p1) (Kd.dflt (Kd.int .u8)))) = true then
          some ((decide ((List.getD p2 (Int.toNat p1) (Kd.dflt (Kd.int .u8))) < (List.getD p3 (Int.toNat p1) (Kd.dflt (Kd.int .u8))))))
        else
          antiquaryref44_Less_l0 k (IntKind.i64.wrap (p1 + (1 : Int))) p2 p3
      else none
    else
      some (false)
def antiquaryref44_Less (k : Nat) (a1 : List Int) (a2 : List Int) : Option (Bool) :=
  antiquaryref44_Less_l0 k (0 : Int) a1 a2
theorem antiquaryref44_Less_l0_ok (k : Nat) : ∀ (p1 : Int) (p2 : List Int) (p3 : List Int) (r : Bool), antiquaryref44_Less_l0 k p1 p2 p3 = some r →
    Abs.Good P 42 Tryd.f42.ntmps [] [] (.v (.p Kd.bool r)) (pos Tryd.f42 [.r, .r]) [(sk 2, some (.v (.ptr 500001 0))), (sk 3, some (.v (.ptr 500002 0))), (sk 5, some (.v (.p (Kd.int .i64) p1))), (ek 500001, some (.box [.p (Kd.arr 16 (Kd.int .u8)) p2])), (ek 500002, some (.box [.p (Kd.arr 16 (Kd.int .u8)) p3]))] := by
  induction k with
  | zero => intro p1 p2 p3 r h; cases h
  | succ k ih =>
    intro p1 p2 p3 r h
    unfold antiquaryref44_Less_l0 at h
    rcases br_inv h with ⟨h234, h⟩ | ⟨h234, h⟩
    · obtain ⟨h235, h⟩ := gd_inv h
      rcases br_inv h with ⟨h236, h⟩ | ⟨h236, h⟩
      · replace h := Option.some.inj h; subst h
        exact Abs.Good.path_ret hm [.reg [], .cond true, .reg [], .cond true, .reg []] [] Tryd.func42 (cs := [_, _, _, _, _, _, _, _, _, _]) (by kernel_rfl) ⟨h234, h235.1, h235.2, h235.1, h235.2, h236, h235.1, h235.2, h235.1, h235.2, trivial⟩ (by kernel_rfl)
      · exact Abs.Good.path hm [.reg [], .cond true, .reg [], .cond false, .reg [], .keep [sk 2, sk 3, sk 5, ek 500001, ek 500002]] (cs := [_, _, _, _, _, _]) (by kernel_rfl) ⟨h234, h235.1, h235.2, h235.1, h235.2, h236, trivial⟩ (ih (IntKind.i64.wrap (p1 + (1 : Int))) p2 p3 r h)
    · replace h := Option.some.inj h; subst h
      exact Abs.Good.path_ret hm [.reg [], .cond false, .reg []] [] Tryd.func42 (cs := [_]) (by kernel_rfl) ⟨h234, trivial⟩ (by kernel_rfl)
theorem antiquaryref44_Less_ok (k : Nat) (a1 : List Int) (a2 : List Int) (r : Bool) (h : antiquaryref44_Less k a1 a2 = some r) : SpecOk P ⟨42, [.p (Kd.arr 16 (Kd.int .u8)) a1, .p (Kd.arr 16 (Kd.int .u8)) a2], [], .v (.p Kd.bool r), []⟩ := by
  refine spec_at Tryd.func42 (by kernel_rfl) (Nat.le_of_ble_eq_true (by kernel_rfl)) ?_
  unfold antiquaryref44_Less at h
  exact Abs.Good.path hm [.reg [], .reg [], .keep [sk 2, sk 3, sk 5, ek 2, ek 3], .ren [(2, 500001), (3, 500002)]] (cs := []) (by kernel_rfl) trivial (antiquaryref44_Less_l0_ok k (0 : Int) a1 a2 r h)

def antiquaryref44_Valid_l1 (s0 : Int → List It → Option (Bool)) (k : Nat) (p1 : Int) (p2 : Bool) (p3 : List It) : Option (Bool) :=
  if p2 = true then
    some (false)
  else
    s0 (IntKind.i64.wrap (p1 + (1 : Int))) p3
def antiquaryref44_Valid_l0 : Nat → Int → List It → Option (Bool)
  | 0, _, _ => none
  | k + 1, p1, p2 =>
    if (decide (p1 < (List.length p2 : Int))) = true then
      if 0 ≤ p1 ∧ p1 < (List.length p2 : Int) then
        if (decide ((ByteArray.size (((List.getD p2 (Int.toNat p1) (Kd.dflt KI)).2).1) : Int) > (1048576 : Int))) = true then
          antiquaryref44_Valid_l1 (antiquaryref44_Valid_l0 k) k p1 true p2
        else
          Option.bind (antiquaryref44_Name k (((List.getD p2 (Int.toNat p1) (Kd.dflt KI)).2).1)) fun x242 =>
          if (!(Kd.eqb (Kd.arr 16 (Kd.int .u8)) x242 ((List.getD p2 (Int.toNat p1) (Kd.dflt KI)).1))) = true then
            antiquaryref44_Valid_l1 (antiquaryref44_Valid_l0 k) k p1 true p2
          else
            if (decide (p1 > (0 : Int))) = true then
              if 0 ≤ (IntKind.i64.wrap (p1 - (1 : Int))) ∧ (IntKind.i64.wrap (p1 - (1 : Int))) < (List.length p2 : Int) then
                Option.bind (antiquaryref44_Less k ((List.getD p2 (Int.toNat (IntKind.i64.wrap (p1 - (1 : Int)))) (Kd.dflt KI)).1) ((List.getD p2 (Int.toNat p1) (Kd.dflt KI)).1)) fun x247 =>
                antiquaryref44_Valid_l1 (antiquaryref44_Valid_l0 k) k p1 (!x247) p2
              else none
            else
              antiquaryref44_Valid_l1 (antiquaryref44_Valid_l0 k) k p1 false p2
      else none
    else
      some ((decide ((List.length p2 : Int) ≤ (65536 : Int))))
def antiquaryref44_Valid (k : Nat) (a1 : List It) : Option (Bool) :=
  antiquaryref44_Valid_l0 k (0 : Int) a1
theorem antiquaryref44_Valid_l1_ok (s0 : Int → List It → Option (Bool)) (hs0 : ∀ (p1 : Int) (p2 : List It) (r : Bool), s0 p1 p2 = some r → Abs.Good P 12 Tryd.f12.ntmps [] [] (.v (.p Kd.bool r)) (pos Tryd.f12 [.r, .r]) [(sk 1, some (.v (.ptr 500001 0))), (sk 3, some (.v (.p (Kd.int .i64) p1))), (ek 500001, some (.box [.p (Kd.sl KI) p2]))]) (k : Nat) (p1 : Int) (p2 : Bool) (p3 : List It) (r : Bool) (h : antiquaryref44_Valid_l1 s0 k p1 p2 p3 = some r) :
    Abs.Good P 12 Tryd.f12.ntmps [] [] (.v (.p Kd.bool r)) (pos Tryd.f12 [.r, .r, .r, .c true, .r]) [(sk 1, some (.v (.ptr 501001 0))), (sk 3, some (.v (.p (Kd.int .i64) p1))), (sk 55, some (.v (.p Kd.bool p2))), (ek 501001, some (.box [.p (Kd.sl KI) p3]))] := by
  unfold antiquaryref44_Valid_l1 at h
  rcases br_inv h with ⟨h249, h⟩ | ⟨h249, h⟩
  · replace h := Option.some.inj h; subst h
    exact Abs.Good.path_ret hm [.cond true, .reg []] [] Tryd.func12 (cs := [_]) (by kernel_rfl) ⟨h249, trivial⟩ (by kernel_rfl)
  · exact Abs.Good.path hm [.cond false, .reg [], .keep [sk 1, sk 3, ek 501001], .ren [(501001, 500001)]] (cs := [_]) (by kernel_rfl) ⟨h249, trivial⟩ (hs0 (IntKind.i64.wrap (p1 + (1 : Int))) p3 r h)
theorem antiquaryref44_Valid_l0_ok (k : Nat) : ∀ (p1 : Int) (p2 : List It) (r : Bool), antiquaryref44_Valid_l0 k p1 p2 = some r →
    Abs.Good P 12 Tryd.f12.ntmps [] [] (.v (.p Kd.bool r)) (pos Tryd.f12 [.r, .r]) [(sk 1, some (.v (.ptr 500001 0))), (sk 3, some (.v (.p (Kd.int .i64) p1))), (ek 500001, some (.box [.p (Kd.sl KI) p2]))] := by
  induction k with
  | zero => intro p1 p2 r h; cases h
  | succ k ih =>
    intro p1 p2 r h
    unfold antiquaryref44_Valid_l0 at h
    rcases br_inv h with ⟨h239, h⟩ | ⟨h239, h⟩
    · obtain ⟨h240, h⟩ := gd_inv h
      rcases br_inv h with ⟨h241, h⟩ | ⟨h241, h⟩
      · exact Abs.Good.path hm [.reg [], .cond true, .reg [(9, { dec := some true }), (10, { dec := some true }), (11, { dec := some true }), (12, { dec := some true }), (13, { dec := some true }), (14, { dec := some true }), (15, { dec := some true }), (16, { dec := some true }), (17, { dec := some true }), (18, { dec := some true }), (19, { dec := some true }), (20, { dec := some true }), (21, { dec := some true }), (22, { dec := some true }), (23, { pick := some true }), (25, { dec := some true }), (26, { dec := some true }), (27, { dec := some true }), (43, { dec := some true }), (44, { pick := some true })], .keep [sk 1, sk 3, sk 55, ek 500001], .ren [(500001, 501001)]] (cs := [_, _, _, _, _, _, _, _, _, _, _, _, _, _, _, _, _, _, _, _, _, _, _]) (by kernel_rfl) ⟨h239, h240.1, h240.2, h241, h241, h241, h241, h241, h241, h241, h241, h241, h241, h241, h241, h241, h241, h241, (rfl : true = true), (rfl : true = true), (rfl : true = true), (rfl : true = true), (rfl : true = true), trivial⟩ (antiquaryref44_Valid_l1_ok (antiquaryref44_Valid_l0 k) ih k p1 true p2 r h)
      · obtain ⟨x242, h243, h⟩ := bind_inv h
        rcases br_inv h with ⟨h244, h⟩ | ⟨h244, h⟩
        · exact Abs.Good.path hm [.reg [], .cond true, .reg [(9, { dec := some false }), (10, { dec := some false }), (11, { dec := some false }), (12, { dec := some false }), (13, { dec := some false }), (14, { dec := some false }), (15, { dec := some false, call := some { lend := [], pass := [], res := .v (.p (Kd.arr 16 (Kd.int .u8)) x242), outs := [], back := [] } }), (16, { dec := some false }), (17, { dec := some false }), (18, { dec := some false }), (19, { dec := some false }), (20, { dec := some false }), (21, { dec := some false }), (22, { dec := some false }), (23, { pick := some false }), (25, { dec := some true }), (26, { dec := some true }), (27, { dec := some true }), (43, { dec := some true }), (44, { pick := some true })], .keep [sk 1, sk 3, sk 55, ek 500001], .ren [(500001, 501001)]] (cs := [_, _, _, _, _, _, _, _, _, _, _, _, _, _, _, _, _, _, _, _, _, _, _, _, _, _, _, _, _]) (by kernel_rfl) ⟨h239, h240.1, h240.2, h241, h241, h241, h241, h240.1, h240.2, h241, h241, h241, (antiquaryref44_Name_ok k (((List.getD p2 (Int.toNat p1) (Kd.dflt KI)).2).1) _ h243), h241, h241, h241, h241, h240.1, h240.2, h241, h241, h241, eq26, h241, h244, h244, h244, h244, h244, trivial⟩ (antiquaryref44_Valid_l1_ok (antiquaryref44_Valid_l0 k) ih k p1 true p2 r h)
        · rcases br_inv h with ⟨h245, h⟩ | ⟨h245, h⟩
          · obtain ⟨h246, h⟩ := gd_inv h
            obtain ⟨x247, h248, h⟩ := bind_inv h
            exact Abs.Good.path hm [.reg [], .cond true, .reg [(9, { dec := some false }), (10, { dec := some false }), (11, { dec := some false }), (12, { dec := some false }), (13, { dec := some false }), (14, { dec := some false }), (15, { dec := some false, call := some { lend := [], pass := [], res := .v (.p (Kd.arr 16 (Kd.int .u8)) x242), outs := [], back := [] } }), (16, { dec := some false }), (17, { dec := some false }), (18, { dec := some false }), (19, { dec := some false }), (20, { dec := some false }), (21, { dec := some false }), (22, { dec := some false }), (23, { pick := some false }), (25, { dec := some false }), (26, { dec := some false }), (27, { dec := some false }), (28, { dec := some true }), (29, { dec := some true }), (30, { dec := some true }), (31, { dec := some true }), (32, { dec := some true }), (33, { dec := some true }), (34, { dec := some true }), (35, { dec := some true }), (36, { dec := some true }), (37, { dec := some true }), (38, { dec := some true }), (39, { dec := some true }), (40, { dec := some true }), (41, { dec := some true, call := some { lend := [], pass := [], res := .v (.p Kd.bool x247), outs := [], back := [] } }), (42, { dec := some true }), (43, { dec := some false, pick := some true }), (44, { pick := some false })], .keep [sk 1, sk 3, sk 55, ek 500001], .ren [(500001, 501001)]] (cs := [_, _, _, _, _, _, _, _, _, _, _, _, _, _, _, _, _, _, _, _, _, _, _, _, _, _, _, _, _, _, _, _, _, _, _, _, _, _, _, _, _, _, _, _, _, _, _, _, _, _]) (by kernel_rfl) ⟨h239, h240.1, h240.2, h241, h241, h241, h241, h240.1, h240.2, h241, h241, h241, (antiquaryref44_Name_ok k (((List.getD p2 (Int.toNat p1) (Kd.dflt KI)).2).1) _ h243), h241, h241, h241, h241, h240.1, h240.2, h241, h241, h241, eq26, h241, h244, h244, h244, h245, h245, h245, h245, h245, h246.1, h246.2, h245, h245, h245, h245, h245, h245, h240.1, h240.2, h245, h245, h245, (antiquaryref44_Less_ok k ((List.getD p2 (Int.toNat (IntKind.i64.wrap (p1 - (1 : Int)))) (Kd.dflt KI)).1) ((List.getD p2 (Int.toNat p1) (Kd.dflt KI)).1) _ h248), h245, h244, h245, h244, trivial⟩ (antiquaryref44_Valid_l1_ok (antiquaryref44_Valid_l0 k) ih k p1 (!x247) p2 r h)
          · exact Abs.Good.path hm [.reg [], .cond true, .reg [(9, { dec := some false }), (10, { dec := some false }), (11, { dec := some false }), (12, { dec := some false }), (13, { dec := some false }), (14, { dec := some false }), (15, { dec := some false, call := some { lend := [], pass := [], res := .v (.p (Kd.arr 16 (Kd.int .u8)) x242), outs := [], back := [] } }), (16, { dec := some false }), (17, { dec := some false }), (18, { dec := some false }), (19, { dec := some false }), (20, { dec := some false }), (21, { dec := some false }), (22, { dec := some false }), (23, { pick := some false }), (25, { dec := some false }), (26, { dec := some false }), (27, { dec := some false }), (28, { dec := some false }), (29, { dec := some false }), (30, { dec := some false }), (31, { dec := some false }), (32, { dec := some false }), (33, { dec := some false }), (34, { dec := some false }), (35, { dec := some false }), (36, { dec := some false }), (37, { dec := some false }), (38, { dec := some false }), (39, { dec := some false }), (40, { dec := some false }), (41, { dec := some false }), (42, { dec := some false }), (43, { dec := some false, pick := some false }), (44, { pick := some false })], .keep [sk 1, sk 3, sk 55, ek 500001], .ren [(500001, 501001)]] (cs := [_, _, _, _, _, _, _, _, _, _, _, _, _, _, _, _, _, _, _, _, _, _, _, _, _, _, _, _, _, _, _, _, _, _, _, _, _, _, _, _, _, _, _, _, _]) (by kernel_rfl) ⟨h239, h240.1, h240.2, h241, h241, h241, h241, h240.1, h240.2, h241, h241, h241, (antiquaryref44_Name_ok k (((List.getD p2 (Int.toNat p1) (Kd.dflt KI)).2).1) _ h243), h241, h241, h241, h241, h240.1, h240.2, h241, h241, h241, eq26, h241, h244, h244, h244, h245, h245, h245, h245, h245, h245, h245, h245, h245, h245, h245, h245, h245, h245, h245, h244, h245, h244, trivial⟩ (antiquaryref44_Valid_l1_ok (antiquaryref44_Valid_l0 k) ih k p1 false p2 r h)
    · replace h := Option.some.inj h; subst h
      exact Abs.Good.path_ret hm [.reg [], .cond false, .reg []] [] Tryd.func12 (cs := [_]) (by kernel_rfl) ⟨h239, trivial⟩ (by kernel_rfl)
theorem antiquaryref44_Valid_ok (k : Nat) (a1 : List It) (r : Bool) (h : antiquaryref44_Valid k a1 = some r) : SpecOk P ⟨12, [.agg [.p (Kd.sl KI) a1]], [], .v (.p Kd.bool r), []⟩ := by
  refine spec_at Tryd.func12 (by kernel_rfl) (Nat.le_of_ble_eq_true (by kernel_rfl)) ?_
  unfold antiquaryref44_Valid at h
  exact Abs.Good.path hm [.reg [], .reg [], .keep [sk 1, sk 3, ek 1], .ren [(1, 500001)]] (cs := []) (by kernel_rfl) trivial (antiquaryref44_Valid_l0_ok k (0 : Int) a1 r h)

def antiquarylaw44_valid (k : Nat) (a1 : List It) : Option (Bool) :=
  Option.bind (antiquarylaw44_few k a1) fun x252 =>
  if x252 = true then
    Option.bind (antiquaryref44_Valid k a1) fun x255 =>
    some (x255)
  else
    some (false)
theorem antiquarylaw44_valid_ok (k : Nat) (a1 : List It) (r : Bool) (h : antiquarylaw44_valid k a1 = some r) : SpecOk P ⟨32, [.agg [.p (Kd.sl KI) a1]], [], .v (.p Kd.bool r), []⟩ := by
  refine spec_at Tryd.func32 (by kernel_rfl) (Nat.le_of_ble_eq_true (by kernel_rfl)) ?_
  unfold antiquarylaw44_valid at h
  obtain ⟨x252, h253, h⟩ := bind_inv h
  rcases br_inv h with ⟨h254, h⟩ | ⟨h254, h⟩
  · obtain ⟨x255, h256, h⟩ := bind_inv h
    replace h := Option.some.inj h; subst h
    exact Abs.Good.path_ret hm [.reg [], .reg [(1, { call := some { lend := [], pass := [], res := .v (.p Kd.bool x252), outs := [], back := [] } })], .reg [(2, { dec := some true }), (3, { dec := some true, call := some { lend := [], pass := [], res := .v (.p Kd.bool x255), outs := [], back := [] } }), (4, { pick := some true })]] [] Tryd.func32 (cs := [_, _, _, _, _]) (by kernel_rfl) ⟨(antiquarylaw44_few_ok k a1 _ h253), h254, h254, (antiquaryref44_Valid_ok k a1 _ h256), h254, trivial⟩ (by kernel_rfl)
  · replace h := Option.some.inj h; subst h
    exact Abs.Good.path_ret hm [.reg [], .reg [(1, { call := some { lend := [], pass := [], res := .v (.p Kd.bool x252), outs := [], back := [] } })], .reg [(2, { dec := some false }), (3, { dec := some false }), (4, { pick := some false })]] [] Tryd.func32 (cs := [_, _, _, _]) (by kernel_rfl) ⟨(antiquarylaw44_few_ok k a1 _ h253), h254, h254, h254, trivial⟩ (by kernel_rfl)

def hash_Begin (k : Nat) : Option (List Int × List Int × Int) :=
  some (([(1779033703 : Int), (3144134277 : Int), (1013904242 : Int), (2773480762 : Int), (1359893119 : Int), (2600822924 : Int), (528734635 : Int), (1541459225 : Int)] : List Int), (Kd.dflt (Kd.arr 64 (Kd.int .u8))), (0 : Int))
theorem hash_Begin_ok (k : Nat) (r : List Int × List Int × Int) (h : hash_Begin k = some r) : SpecOk P ⟨61, [], [], .v (.agg [.p (Kd.arr 8 (Kd.int .u32)) r.1, .p (Kd.arr 64 (Kd.int .u8)) r.2.1, .p (Kd.int .u64) r.2.2]), []⟩ := by
  refine spec_at Tryd.func61 (by kernel_rfl) (Nat.le_of_ble_eq_true (by kernel_rfl)) ?_
  unfold hash_Begin at h
  replace h := Option.some.inj h; subst h
  exact Abs.Good.path_ret hm [.reg [], .reg []] [] Tryd.func61 (cs := []) (by kernel_rfl) trivial (by kernel_rfl)

def bits_RotateLeft32 (k : Nat) (a1 : Int) (a2 : Int) : Option (Int) :=
  if 0 ≤ (IntKind.u64.wrap (((BitVec.ofInt (IntKind.bits .u64) (IntKind.u64.wrap a2)) &&& (BitVec.ofInt (IntKind.bits .u64) (31 : Int))).toNat : Int)) then
    if 0 ≤ (IntKind.u64.wrap ((32 : Int) - (IntKind.u64.wrap (((BitVec.ofInt (IntKind.bits .u64) (IntKind.u64.wrap a2)) &&& (BitVec.ofInt (IntKind.bits .u64) (31 : Int))).toNat : Int)))) then
      some ((IntKind.u32.wrap (((BitVec.ofInt (IntKind.bits .u32) (IntKind.u32.wrap (a1 * 2 ^ (min (Int.toNat (IntKind.u64.wrap (((BitVec.ofInt (IntKind.bits .u64) (IntKind.u64.wrap a2)) &&& (BitVec.ofInt (IntKind.bits .u64) (31 : Int))).toNat : Int))) (IntKind.bits .u32))))) ||| (BitVec.ofInt (IntKind.bits .u32) (Int.fdiv a1 (2 ^ (min (Int.toNat (IntKind.u64.wrap ((32 : Int) - (IntKind.u64.wrap (((BitVec.ofInt (IntKind.bits .u64) (IntKind.u64.wrap a2)) &&& (BitVec.ofInt (IntKind.bits .u64) (31 : Int))).toNat : Int))))) (IntKind.bits .u32)))))).toNat : Int)))
    else none
  else none
theorem bits_RotateLeft32_ok (k : Nat) (a1 : Int) (a2 : Int) (r : Int) (h : bits_RotateLeft32 k a1 a2 = some r) : SpecOk P ⟨89, [.p (Kd.int .u32) a1, .p (Kd.int .i64) a2], [], .v (.p (Kd.int .u32) r), []⟩ := by
  refine spec_at Tryd.func89 (by kernel_rfl) (Nat.le_of_ble_eq_true (by kernel_rfl)) ?_
  unfold bits_RotateLeft32 at h
  obtain ⟨h285, h⟩ := gd_inv h
  obtain ⟨h286, h⟩ := gd_inv h
  replace h := Option.some.inj h; subst h
  exact Abs.Good.path_ret hm [.reg [], .reg [], .reg []] [] Tryd.func89 (cs := [_, _]) (by kernel_rfl) ⟨h285, h286, trivial⟩ (by kernel_rfl)

def hash_schedule_l2 (s0 : List Int → Int → List Int → List Int → Option (List Int)) (k : Nat) (p1 : List Int) (p2 : Int) (p3 : List Int) (p4 : List Int) : Option (List Int) :=
  s0 p1 (IntKind.i64.wrap (p2 + (1 : Int))) p3 p4
def hash_schedule_l1 (s0 : List Int → Int → List Int → List Int → Option (List Int)) : Nat → List Int → Int → Int → List Int → Int → Int → List Int → List Int → Option (List Int)
  | 0, _, _, _, _, _, _, _, _ => none
  | k + 1, p1, p2, p3, p4, p5, p6, p7, p8 =>
    if (decide (p6 < p5)) = true then
      if 0 ≤ p6 ∧ p6 < (List.length p4 : Int) then
        if 0 ≤ p2 ∧ p2 < (64 : Int) then
          hash_schedule_l1 s0 k p1 p2 p3 p4 p5 (IntKind.i64.wrap (p6 + (1 : Int))) p7 (List.set p8 (Int.toNat p2) (IntKind.u32.wrap (((BitVec.ofInt (IntKind.bits .u32) (IntKind.u32.wrap ((List.getD p8 (Int.toNat p2) (Kd.dflt (Kd.int .u32))) * 2 ^ (min (Int.toNat (8 : Int)) (IntKind.bits .u32))))) ||| (BitVec.ofInt (IntKind.bits .u32) (IntKind.u32.wrap (List.getD p4 (Int.toNat p6) (Kd.dflt (Kd.int .u8)))))).toNat : Int)))
        else none
      else none
    else
      hash_schedule_l2 s0 k p1 p3 p7 p8
def hash_schedule_l0 : Nat → List Int → Int → List Int → List Int → Option (List Int)
  | 0, _, _, _, _ => none
  | k + 1, p1, p2, p3, p4 =>
    if (decide (p2 < (64 : Int))) = true then
      if (decide (p2 < (16 : Int))) = true then
        if 0 ≤ (IntKind.i64.wrap ((IntKind.i64.wrap ((4 : Int) * p2)) + (4 : Int))) ∧ (IntKind.i64.wrap ((IntKind.i64.wrap ((4 : Int) * p2)) + (4 : Int))) ≤ (List.length p1 : Int) ∧ 0 ≤ (IntKind.i64.wrap ((4 : Int) * p2)) ∧ (IntKind.i64.wrap ((4 : Int) * p2)) ≤ (IntKind.i64.wrap ((IntKind.i64.wrap ((4 : Int) * p2)) + (4 : Int))) then
          hash_schedule_l1 (hash_schedule_l0 k) k p1 p2 p2 (List.drop (Int.toNat (IntKind.i64.wrap ((4 : Int) * p2))) (List.take (Int.toNat (IntKind.i64.wrap ((IntKind.i64.wrap ((4 : Int) * p2)) + (4 : Int)))) p1)) (List.length (List.drop (Int.toNat (IntKind.i64.wrap ((4 : Int) * p2))) (List.take (Int.toNat (IntKind.i64.wrap ((IntKind.i64.wrap ((4 : Int) * p2)) + (4 : Int)))) p1)) : Int) (0 : Int) p3 p4
        else none
      else
        if 0 ≤ (IntKind.i64.wrap (p2 - (15 : Int))) ∧ (IntKind.i64.wrap (p2 - (15 : Int))) < (64 : Int) then
          if 0 ≤ (IntKind.i64.wrap (p2 - (2 : Int))) ∧ (IntKind.i64.wrap (p2 - (2 : Int))) < (64 : Int) then
            Option.bind (bits_RotateLeft32 k (List.getD p4 (Int.toNat (IntKind.i64.wrap (p2 - (15 : Int)))) (Kd.dflt (Kd.int .u32))) (-7 : Int)) fun x319 =>
            Option.bind (bits_RotateLeft32 k (List.getD p4 (Int.toNat (IntKind.i64.wrap (p2 - (15 : Int)))) (Kd.dflt (Kd.int .u32))) (-18 : Int)) fun x321 =>
            Option.bind (bits_RotateLeft32 k (List.getD p4 (Int.toNat (IntKind.i64.wrap (p2 - (2 : Int)))) (Kd.dflt (Kd.int .u32))) (-17 : Int)) fun x323 =>
            Option.bind (bits_RotateLeft32 k (List.getD p4 (Int.toNat (IntKind.i64.wrap (p2 - (2 : Int)))) (Kd.dflt (Kd.int .u32))) (-19 : Int)) fun x325 =>
            if 0 ≤ (IntKind.i64.wrap (p2 - (16 : Int))) ∧ (IntKind.i64.wrap (p2 - (16 : Int))) < (64 : Int) then
              if 0 ≤ (IntKind.i64.wrap (p2 - (7 : Int))) ∧ (IntKind.i64.wrap (p2 - (7 : Int))) < (64 : Int) then
                if 0 ≤ p2 ∧ p2 < (64 : Int) then
                  hash_schedule_l2 (hash_schedule_l0 k) k p1 p2 p3 (List.set p4 (Int.toNat p2) (IntKind.u32.wrap ((IntKind.u32.wrap ((IntKind.u32.wrap ((List.getD p4 (Int.toNat (IntKind.i64.wrap (p2 - (16 : Int)))) (Kd.dflt (Kd.int .u32))) + (IntKind.u32.wrap (((BitVec.ofInt (IntKind.bits .u32) (IntKind.u32.wrap (((BitVec.ofInt (IntKind.bits .u32) x319) ^^^ (BitVec.ofInt (IntKind.bits .u32) x321)).toNat : Int))) ^^^ (BitVec.ofInt (IntKind.bits .u32) (Int.fdiv (List.getD p4 (Int.toNat (IntKind.i64.wrap (p2 - (15 : Int)))) (Kd.dflt (Kd.int .u32))) (2 ^ (min (Int.toNat (3 : Int)) (IntKind.bits .u32)))))).toNat : Int)))) + (List.getD p4 (Int.toNat (IntKind.i64.wrap (p2 - (7 : Int)))) (Kd.dflt (Kd.int .u32))))) + (IntKind.u32.wrap (((BitVec.ofInt (IntKind.bits .u32) (IntKind.u32.wrap (((BitVec.ofInt (IntKind.bits .u32) x323) ^^^ (BitVec.ofInt (IntKind.bits .u32) x325)).toNat : Int))) ^^^ (BitVec.ofInt (IntKind.bits .u32) (Int.fdiv (List.getD p4 (Int.toNat (IntKind.i64.wrap (p2 - (2 : Int)))) (Kd.dflt (Kd.int .u32))) (2 ^ (min (Int.toNat (10 : Int)) (IntKind.bits .u32)))))).toNat : Int)))))
                else none
              else none
            else none
          else none
        else none
    else
      some (p4)
def hash_schedule (k : Nat) (a1 : List Int) : Option (List Int) :=
  hash_schedule_l0 k a1 (0 : Int) (Kd.dflt (Kd.arr 64 (Kd.int .u32))) (Kd.dflt (Kd.arr 64 (Kd.int .u32)))
theorem hash_schedule_l2_ok (s0 : List Int → Int → List Int → List Int → Option (List Int)) (hs0 : ∀ (p1 : List Int) (p2 : Int) (p3 : List Int) (p4 : List Int) (r : List Int), s0 p1 p2 p3 p4 = some r → Abs.Good P 82 Tryd.f82.ntmps [] [] (.v (.p (Kd.arr 64 (Kd.int .u32)) r)) (pos Tryd.f82 [.r, .r, .r]) [(sk 0, some (.v (.p (Kd.sl (Kd.int .u8)) p1))), (sk 2, some (.v (.ptr 500001 0))), (sk 3, some (.v (.ptr 500002 0))), (sk 11, some (.v (.p (Kd.int .i64) p2))), (ek 500001, some (.box [.p (Kd.arr 64 (Kd.int .u32)) p3])), (ek 500002, some (.box [.p (Kd.arr 64 (Kd.int .u32)) p4]))]) (k : Nat) (p1 : List Int) (p2 : Int) (p3 : List Int) (p4 : List Int) (r : List Int) (h : hash_schedule_l2 s0 k p1 p2 p3 p4 = some r) :
    Abs.Good P 82 Tryd.f82.ntmps [] [] (.v (.p (Kd.arr 64 (Kd.int .u32)) r)) (pos Tryd.f82 [.r, .r, .r, .r, .c true, .r, .r, .c true, .r, .r, .c false]) [(sk 0, some (.v (.p (Kd.sl (Kd.int .u8)) p1))), (sk 2, some (.v (.ptr 502001 0))), (sk 3, some (.v (.ptr 502002 0))), (sk 11, some (.v (.p (Kd.int .i64) p2))), (ek 502001, some (.box [.p (Kd.arr 64 (Kd.int .u32)) p3])), (ek 502002, some (.box [.p (Kd.arr 64 (Kd.int .u32)) p4]))] := by
  unfold hash_schedule_l2 at h
  exact Abs.Good.path hm [.reg [], .keep [sk 0, sk 2, sk 3, sk 11, ek 502001, ek 502002], .ren [(502001, 500001), (502002, 500002)]] (cs := []) (by kernel_rfl) trivial (hs0 p1 (IntKind.i64.wrap (p2 + (1 : Int))) p3 p4 r h)
theorem hash_schedule_l1_ok (s0 : List Int → Int → List Int → List Int → Option (List Int)) (hs0 : ∀ (p1 : List Int) (p2 : Int) (p3 : List Int) (p4 : List Int) (r : List Int), s0 p1 p2 p3 p4 = some r → Abs.Good P 82 Tryd.f82.ntmps [] [] (.v (.p (Kd.arr 64 (Kd.int .u32)) r)) (pos Tryd.f82 [.r, .r, .r]) [(sk 0, some (.v (.p (Kd.sl (Kd.int .u8)) p1))), (sk 2, some (.v (.ptr 500001 0))), (sk 3, some (.v (.ptr 500002 0))), (sk 11, some (.v (.p (Kd.int .i64) p2))), (ek 500001, some (.box [.p (Kd.arr 64 (Kd.int .u32)) p3])), (ek 500002, some (.box [.p (Kd.arr 64 (Kd.int .u32)) p4]))]) (k : Nat) : ∀ (p1 : List Int) (p2 : Int) (p3 : Int) (p4 : List Int) (p5 : Int) (p6 : Int) (p7 : List Int) (p8 : List Int) (r : List Int), hash_schedule_l1 s0 k p1 p2 p3 p4 p5 p6 p7 p8 = some r →
    Abs.Good P 82 Tryd.f82.ntmps [] [] (.v (.p (Kd.arr 64 (Kd.int .u32)) r)) (pos Tryd.f82 [.r, .r, .r, .r, .c true, .r, .r, .c true, .r]) [(sk 0, some (.v (.p (Kd.sl (Kd.int .u8)) p1))), (sk 2, some (.v (.ptr 501001 0))), (sk 3, some (.v (.ptr 501002 0))), (sk 4, some (.v (.p (Kd.int .i64) p2))), (sk 11, some (.v (.p (Kd.int .i64) p3))), (sk 22, some (.v (.p (Kd.sl (Kd.int .u8)) p4))), (sk 23, some (.v (.p (Kd.int .i64) p5))), (sk 24, some (.v (.p (Kd.int .i64) p6))), (ek 501001, some (.box [.p (Kd.arr 64 (Kd.int .u32)) p7])), (ek 501002, some (.box [.p (Kd.arr 64 (Kd.int .u32)) p8]))] := by
  induction k with
  | zero => intro p1 p2 p3 p4 p5 p6 p7 p8 r h; cases h
  | succ k ih =>
    intro p1 p2 p3 p4 p5 p6 p7 p8 r h
    unfold hash_schedule_l1 at h
    rcases br_inv h with ⟨h330, h⟩ | ⟨h330, h⟩
    · obtain ⟨h331, h⟩ := gd_inv h
      obtain ⟨h332, h⟩ := gd_inv h
      exact Abs.Good.path hm [.reg [], .cond true, .reg [], .reg [], .reg [], .keep [sk 0, sk 2, sk 3, sk 4, sk 11, sk 22, sk 23, sk 24, ek 501001, ek 501002]] (cs := [_, _, _, _, _, _, _, _]) (by kernel_rfl) ⟨h330, h331.1, h331.2, h332.1, h332.2, (by decide : 0 ≤ (8 : Int)), h332.1, h332.2, trivial⟩ (ih p1 p2 p3 p4 p5 (IntKind.i64.wrap (p6 + (1 : Int))) p7 (List.set p8 (Int.toNat p2) (IntKind.u32.wrap (((BitVec.ofInt (IntKind.bits .u32) (IntKind.u32.wrap ((List.getD p8 (Int.toNat p2) (Kd.dflt (Kd.int .u32))) * 2 ^ (min (Int.toNat (8 : Int)) (IntKind.bits .u32))))) ||| (BitVec.ofInt (IntKind.bits .u32) (IntKind.u32.wrap (List.getD p4 (Int.toNat p6) (Kd.dflt (Kd.int .u8)))))).toNat : Int))) r h)
    · exact Abs.Good.path hm [.reg [], .cond false, .keep [sk 0, sk 2, sk 3, sk 11, ek 501001, ek 501002], .ren [(501001, 502001), (501002, 502002)]] (cs := [_]) (by kernel_rfl) ⟨h330, trivial⟩ (hash_schedule_l2_ok s0 hs0 k p1 p3 p7 p8 r h)
theorem hash_schedule_l0_ok (k : Nat) : ∀ (p1 : List Int) (p2 : Int) (p3 : List Int) (p4 : List Int) (r : List Int), hash_schedule_l0 k p1 p2 p3 p4 = some r →
    Abs.Good P 82 Tryd.f82.ntmps [] [] (.v (.p (Kd.arr 64 (Kd.int .u32)) r)) (pos Tryd.f82 [.r, .r, .r]) [(sk 0, some (.v (.p (Kd.sl (Kd.int .u8)) p1))), (sk 2, some (.v (.ptr 500001 0))), (sk 3, some (.v (.ptr 500002 0))), (sk 11, some (.v (.p (Kd.int .i64) p2))), (ek 500001, some (.box [.p (Kd.arr 64 (Kd.int .u32)) p3])), (ek 500002, some (.box [.p (Kd.arr 64 (Kd.int .u32)) p4]))] := by
  induction k with
  | zero => intro p1 p2 p3 p4 r h; cases h
  | succ k ih =>
    intro p1 p2 p3 p4 r h
    unfold hash_schedule_l0 at h
    rcases br_inv h with ⟨h314, h⟩ | ⟨h314, h⟩
    · rcases br_inv h with ⟨h315, h⟩ | ⟨h315, h⟩
      · obtain ⟨h316, h⟩ := gd_inv h
        exact Abs.Good.path hm [.reg [], .cond true, .reg [], .reg [], .cond true, .reg [], .keep [sk 0, sk 2, sk 3, sk 4, sk 11, sk 22, sk 23, sk 24, ek 500001, ek 500002], .ren [(500001, 501001), (500002, 501002)]] (cs := [_, _, _, _, _, _]) (by kernel_rfl) ⟨h314, h315, h316.1, h316.2.1, h316.2.2.1, h316.2.2.2, trivial⟩ (hash_schedule_l1_ok (hash_schedule_l0 k) ih k p1 p2 p2 (List.drop (Int.toNat (IntKind.i64.wrap ((4 : Int) * p2))) (List.take (Int.toNat (IntKind.i64.wrap ((IntKind.i64.wrap ((4 : Int) * p2)) + (4 : Int)))) p1)) (List.length (List.drop (Int.toNat (IntKind.i64.wrap ((4 : Int) * p2))) (List.take (Int.toNat (IntKind.i64.wrap ((IntKind.i64.wrap ((4 : Int) * p2)) + (4 : Int)))) p1)) : Int) (0 : Int) p3 p4 r h)
      · obtain ⟨h317, h⟩ := gd_inv h
        obtain ⟨h318, h⟩ := gd_inv h
        obtain ⟨x319, h320, h⟩ := bind_inv h
        obtain ⟨x321, h322, h⟩ := bind_inv h
        obtain ⟨x323, h324, h⟩ := bind_inv h
        obtain ⟨x325, h326, h⟩ := bind_inv h
        obtain ⟨h327, h⟩ := gd_inv h
        obtain ⟨h328, h⟩ := gd_inv h
        obtain ⟨h329, h⟩ := gd_inv h
        exact Abs.Good.path hm [.reg [], .cond true, .reg [], .reg [], .cond false, .reg [], .reg [(1, { call := some { lend := [], pass := [], res := .v (.p (Kd.int .u32) x319), outs := [], back := [] } }), (3, { call := some { lend := [], pass := [], res := .v (.p (Kd.int .u32) x321), outs := [], back := [] } })], .reg [(1, { call := some { lend := [], pass := [], res := .v (.p (Kd.int .u32) x323), outs := [], back := [] } }), (3, { call := some { lend := [], pass := [], res := .v (.p (Kd.int .u32) x325), outs := [], back := [] } })], .reg [], .keep [sk 0, sk 2, sk 3, sk 11, ek 500001, ek 500002], .ren [(500001, 502001), (500002, 502002)]] (cs := [_, _, _, _, _, _, _, _, _, _, _, _, _, _, _, _, _, _]) (by kernel_rfl) ⟨h314, h315, h317.1, h317.2, h318.1, h318.2, (bits_RotateLeft32_ok k (List.getD p4 (Int.toNat (IntKind.i64.wrap (p2 - (15 : Int)))) (Kd.dflt (Kd.int .u32))) (-7 : Int) _ h320), (bits_RotateLeft32_ok k (List.getD p4 (Int.toNat (IntKind.i64.wrap (p2 - (15 : Int)))) (Kd.dflt (Kd.int .u32))) (-18 : Int) _ h322), (by decide : 0 ≤ (3 : Int)), (bits_RotateLeft32_ok k (List.getD p4 (Int.toNat (IntKind.i64.wrap (p2 - (2 : Int)))) (Kd.dflt (Kd.int .u32))) (-17 : Int) _ h324), (bits_RotateLeft32_ok k (List.getD p4 (Int.toNat (IntKind.i64.wrap (p2 - (2 : Int)))) (Kd.dflt (Kd.int .u32))) (-19 : Int) _ h326), (by decide : 0 ≤ (10 : Int)), h327.1, h327.2, h328.1, h328.2, h329.1, h329.2, trivial⟩ (hash_schedule_l2_ok (hash_schedule_l0 k) ih k p1 p2 p3 (List.set p4 (Int.toNat p2) (IntKind.u32.wrap ((IntKind.u32.wrap ((IntKind.u32.wrap ((List.getD p4 (Int.toNat (IntKind.i64.wrap (p2 - (16 : Int)))) (Kd.dflt (Kd.int .u32))) + (IntKind.u32.wrap (((BitVec.ofInt (IntKind.bits .u32) (IntKind.u32.wrap (((BitVec.ofInt (IntKind.bits .u32) x319) ^^^ (BitVec.ofInt (IntKind.bits .u32) x321)).toNat : Int))) ^^^ (BitVec.ofInt (IntKind.bits .u32) (Int.fdiv (List.getD p4 (Int.toNat (IntKind.i64.wrap (p2 - (15 : Int)))) (Kd.dflt (Kd.int .u32))) (2 ^ (min (Int.toNat (3 : Int)) (IntKind.bits .u32)))))).toNat : Int)))) + (List.getD p4 (Int.toNat (IntKind.i64.wrap (p2 - (7 : Int)))) (Kd.dflt (Kd.int .u32))))) + (IntKind.u32.wrap (((BitVec.ofInt (IntKind.bits .u32) (IntKind.u32.wrap (((BitVec.ofInt (IntKind.bits .u32) x323) ^^^ (BitVec.ofInt (IntKind.bits .u32) x325)).toNat : Int))) ^^^ (BitVec.ofInt (IntKind.bits .u32) (Int.fdiv (List.getD p4 (Int.toNat (IntKind.i64.wrap (p2 - (2 : Int)))) (Kd.dflt (Kd.int .u32))) (2 ^ (min (Int.toNat (10 : Int)) (IntKind.bits .u32)))))).toNat : Int))))) r h)
    · replace h := Option.some.inj h; subst h
      exact Abs.Good.path_ret hm [.reg [], .cond false, .reg []] [] Tryd.func82 (cs := [_]) (by kernel_rfl) ⟨h314, trivial⟩ (by kernel_rfl)
theorem hash_schedule_ok (k : Nat) (a1 : List Int) (r : List Int) (h : hash_schedule k a1 = some r) : SpecOk P ⟨82, [.p (Kd.sl (Kd.int .u8)) a1], [], .v (.p (Kd.arr 64 (Kd.int .u32)) r), []⟩ := by
  refine spec_at Tryd.func82 (by kernel_rfl) (Nat.le_of_ble_eq_true (by kernel_rfl)) ?_
  unfold hash_schedule at h
  exact Abs.Good.path hm [.reg [], .reg [], .reg [], .keep [sk 0, sk 2, sk 3, sk 11, ek 2, ek 3], .ren [(2, 500001), (3, 500002)]] (cs := []) (by kernel_rfl) trivial (hash_schedule_l0_ok k a1 (0 : Int) (Kd.dflt (Kd.arr 64 (Kd.int .u32))) (Kd.dflt (Kd.arr 64 (Kd.int .u32))) r h)

def hash_mix (k : Nat) (a1 : Int) (a2 : Int) (a3 : Int) (a4 : Int) : Option (Int) :=
  Option.bind (bits_RotateLeft32 k a1 (IntKind.i64.wrap (0 - a2))) fun x345 =>
  Option.bind (bits_RotateLeft32 k a1 (IntKind.i64.wrap (0 - a3))) fun x347 =>
  Option.bind (bits_RotateLeft32 k a1 (IntKind.i64.wrap (0 - a4))) fun x349 =>
  some ((IntKind.u32.wrap (((BitVec.ofInt (IntKind.bits .u32) (IntKind.u32.wrap (((BitVec.ofInt (IntKind.bits .u32) x345) ^^^ (BitVec.ofInt (IntKind.bits .u32) x347)).toNat : Int))) ^^^ (BitVec.ofInt (IntKind.bits .u32) x349)).toNat : Int)))
theorem hash_mix_ok (k : Nat) (a1 : Int) (a2 : Int) (a3 : Int) (a4 : Int) (r : Int) (h : hash_mix k a1 a2 a3 a4 = some r) : SpecOk P ⟨83, [.p (Kd.int .u32) a1, .p (Kd.int .i64) a2, .p (Kd.int .i64) a3, .p (Kd.int .i64) a4], [], .v (.p (Kd.int .u32) r), []⟩ := by
  refine spec_at Tryd.func83 (by kernel_rfl) (Nat.le_of_ble_eq_true (by kernel_rfl)) ?_
  unfold hash_mix at h
  obtain ⟨x345, h346, h⟩ := bind_inv h
  obtain ⟨x347, h348, h⟩ := bind_inv h
  obtain ⟨x349, h350, h⟩ := bind_inv h
  replace h := Option.some.inj h; subst h
  exact Abs.Good.path_ret hm [.reg [], .reg [(3, { call := some { lend := [], pass := [], res := .v (.p (Kd.int .u32) x345), outs := [], back := [] } }), (7, { call := some { lend := [], pass := [], res := .v (.p (Kd.int .u32) x347), outs := [], back := [] } }), (12, { call := some { lend := [], pass := [], res := .v (.p (Kd.int .u32) x349), outs := [], back := [] } })]] [] Tryd.func83 (cs := [_, _, _]) (by kernel_rfl) ⟨(bits_RotateLeft32_ok k a1 (IntKind.i64.wrap (0 - a2)) _ h346), (bits_RotateLeft32_ok k a1 (IntKind.i64.wrap (0 - a3)) _ h348), (bits_RotateLeft32_ok k a1 (IntKind.i64.wrap (0 - a4)) _ h350), trivial⟩ (by kernel_rfl)

def hash_compress_l1 : Nat → Int → List Int → List Int → List Int → List Int → Option (List Int)
  | 0, _, _, _, _, _ => none
  | k + 1, p1, p2, p3, p4, p5 =>
    if (decide (p1 < (4 : Int))) = true then
      if 0 ≤ p1 ∧ p1 < (8 : Int) then
        if p1 < (4 : Int) then
          if 0 ≤ (IntKind.i64.wrap (p1 + (4 : Int))) ∧ (IntKind.i64.wrap (p1 + (4 : Int))) < (8 : Int) then
            hash_compress_l1 k (IntKind.i64.wrap (p1 + (1 : Int))) (List.set (List.set p2 (Int.toNat p1) (IntKind.u32.wrap ((List.getD p2 (Int.toNat p1) (Kd.dflt (Kd.int .u32))) + (List.getD p4 (Int.toNat p1) (Kd.dflt (Kd.int .u32)))))) (Int.toNat (IntKind.i64.wrap (p1 + (4 : Int)))) (IntKind.u32.wrap ((List.getD (List.set p2 (Int.toNat p1) (IntKind.u32.wrap ((List.getD p2 (Int.toNat p1) (Kd.dflt (Kd.int .u32))) + (List.getD p4 (Int.toNat p1) (Kd.dflt (Kd.int .u32)))))) (Int.toNat (IntKind.i64.wrap (p1 + (4 : Int)))) (Kd.dflt (Kd.int .u32))) + (List.getD p5 (Int.toNat p1) (Kd.dflt (Kd.int .u32)))))) p3 p4 p5
          else none
        else none
      else none
    else
      some (p2)
def hash_compress_l0 : Nat → List Int → Int → List Int → List Int → List Int → List Int → List Int → Option (List Int)
  | 0, _, _, _, _, _, _, _ => none
  | k + 1, p1, p2, p3, p4, p5, p6, p7 =>
    if (decide (p2 < (64 : Int))) = true then
      if 0 ≤ p2 ∧ p2 < (64 : Int) then
        Option.bind (hash_mix k (List.getD p7 (0) (Kd.dflt (Kd.int .u32))) (6 : Int) (11 : Int) (25 : Int)) fun x371 =>
        Option.bind (hash_mix k (List.getD p6 (0) (Kd.dflt (Kd.int .u32))) (2 : Int) (13 : Int) (22 : Int)) fun x373 =>
        hash_compress_l0 k p1 (IntKind.i64.wrap (p2 + (1 : Int))) p3 p4 p5 ([(IntKind.u32.wrap ((IntKind.u32.wrap ((IntKind.u32.wrap ((IntKind.u32.wrap ((IntKind.u32.wrap ((List.getD p7 (3) (Kd.dflt (Kd.int .u32))) + x371)) + (IntKind.u32.wrap (((BitVec.ofInt (IntKind.bits .u32) (IntKind.u32.wrap (((BitVec.ofInt (IntKind.bits .u32) (List.getD p7 (0) (Kd.dflt (Kd.int .u32)))) &&& (BitVec.ofInt (IntKind.bits .u32) (List.getD p7 (1) (Kd.dflt (Kd.int .u32))))).toNat : Int))) ^^^ (BitVec.ofInt (IntKind.bits .u32) (IntKind.u32.wrap (((BitVec.ofInt (IntKind.bits .u32) (IntKind.u32.wrap ((BitVec.ofInt (IntKind.bits .u32) (if (IntKind.signed .u32) then -1 else IntKind.max .u32) ^^^ BitVec.ofInt (IntKind.bits .u32) (List.getD p7 (0) (Kd.dflt (Kd.int .u32)))).toNat : Int))) &&& (BitVec.ofInt (IntKind.bits .u32) (List.getD p7 (2) (Kd.dflt (Kd.int .u32))))).toNat : Int)))).toNat : Int)))) + (List.getD p1 (Int.toNat p2) (Kd.dflt (Kd.int .u32))))) + (List.getD p5 (Int.toNat p2) (Kd.dflt (Kd.int .u32))))) + (IntKind.u32.wrap (x373 + (IntKind.u32.wrap (((BitVec.ofInt (IntKind.bits .u32) (IntKind.u32.wrap (((BitVec.ofInt (IntKind.bits .u32) (IntKind.u32.wrap (((BitVec.ofInt (IntKind.bits .u32) (List.getD p6 (0) (Kd.dflt (Kd.int .u32)))) &&& (BitVec.ofInt (IntKind.bits .u32) (List.getD p6 (1) (Kd.dflt (Kd.int .u32))))).toNat : Int))) ^^^ (BitVec.ofInt (IntKind.bits .u32) (IntKind.u32.wrap (((BitVec.ofInt (IntKind.bits .u32) (List.getD p6 (0) (Kd.dflt (Kd.int .u32)))) &&& (BitVec.ofInt (IntKind.bits .u32) (List.getD p6 (2) (Kd.dflt (Kd.int .u32))))).toNat : Int)))).toNat : Int))) ^^^ (BitVec.ofInt (IntKind.bits .u32) (IntKind.u32.wrap (((BitVec.ofInt (IntKind.bits .u32) (List.getD p6 (1) (Kd.dflt (Kd.int .u32)))) &&& (BitVec.ofInt (IntKind.bits .u32) (List.getD p6 (2) (Kd.dflt (Kd.int .u32))))).toNat : Int)))).toNat : Int)))))), (List.getD p6 (0) (Kd.dflt (Kd.int .u32))), (List.getD p6 (1) (Kd.dflt (Kd.int .u32))), (List.getD p6 (2) (Kd.dflt (Kd.int .u32)))] : List Int) ([(IntKind.u32.wrap ((List.getD p6 (3) (Kd.dflt (Kd.int .u32))) + (IntKind.u32.wrap ((IntKind.u32.wrap ((IntKind.u32.wrap ((IntKind.u32.wrap ((List.getD p7 (3) (Kd.dflt (Kd.int .u32))) + x371)) + (IntKind.u32.wrap (((BitVec.ofInt (IntKind.bits .u32) (IntKind.u32.wrap (((BitVec.ofInt (IntKind.bits .u32) (List.getD p7 (0) (Kd.dflt (Kd.int .u32)))) &&& (BitVec.ofInt (IntKind.bits .u32) (List.getD p7 (1) (Kd.dflt (Kd.int .u32))))).toNat : Int))) ^^^ (BitVec.ofInt (IntKind.bits .u32) (IntKind.u32.wrap (((BitVec.ofInt (IntKind.bits .u32) (IntKind.u32.wrap ((BitVec.ofInt (IntKind.bits .u32) (if (IntKind.signed .u32) then -1 else IntKind.max .u32) ^^^ BitVec.ofInt (IntKind.bits .u32) (List.getD p7 (0) (Kd.dflt (Kd.int .u32)))).toNat : Int))) &&& (BitVec.ofInt (IntKind.bits .u32) (List.getD p7 (2) (Kd.dflt (Kd.int .u32))))).toNat : Int)))).toNat : Int)))) + (List.getD p1 (Int.toNat p2) (Kd.dflt (Kd.int .u32))))) + (List.getD p5 (Int.toNat p2) (Kd.dflt (Kd.int .u32))))))), (List.getD p7 (0) (Kd.dflt (Kd.int .u32))), (List.getD p7 (1) (Kd.dflt (Kd.int .u32))), (List.getD p7 (2) (Kd.dflt (Kd.int .u32)))] : List Int)
      else none
    else
      hash_compress_l1 k (0 : Int) p3 p4 p6 p7
def hash_compress (k : Nat) (a1 : List Int) (a2 : List Int) : Option (List Int) :=
  Option.bind (hash_schedule k a2) fun x367 =>
  hash_compress_l0 k gK1 (0 : Int) a1 (Kd.dflt (Kd.arr 8 (Kd.int .u32))) x367 (List.take 4 (List.drop 0 a1)) (List.take 4 (List.drop 4 a1))
theorem hash_compress_l1_ok (k : Nat) : ∀ (p1 : Int) (p2 : List Int) (p3 : List Int) (p4 : List Int) (p5 : List Int) (r : List Int), hash_compress_l1 k p1 p2 p3 p4 p5 = some r →
    Abs.Good P 77 Tryd.f77.ntmps [] [] (.v (.p (Kd.arr 8 (Kd.int .u32)) r)) (pos Tryd.f77 [.r, .r, .r, .r, .r, .c false, .r]) [(sk 2, some (.v (.ptr 501001 0))), (sk 4, some (.v (.ptr 501002 0))), (sk 6, some (.v (.ptr 501003 0))), (sk 7, some (.v (.ptr 501004 0))), (sk 94, some (.v (.p (Kd.int .i64) p1))), (ek 501001, some (.box [.p (Kd.arr 8 (Kd.int .u32)) p2])), (ek 501002, some (.box [.p (Kd.arr 8 (Kd.int .u32)) p3])), (ek 501003, some (.box [.p (Kd.arr 4 (Kd.int .u32)) p4])), (ek 501004, some (.box [.p (Kd.arr 4 (Kd.int .u32)) p5]))] := by
  induction k with
  | zero => intro p1 p2 p3 p4 p5 r h; cases h
  | succ k ih =>
    intro p1 p2 p3 p4 p5 r h
    unfold hash_compress_l1 at h
    rcases br_inv h with ⟨h375, h⟩ | ⟨h375, h⟩
    · obtain ⟨h376, h⟩ := gd_inv h
      obtain ⟨h377, h⟩ := gd_inv h
      obtain ⟨h378, h⟩ := gd_inv h
      exact Abs.Good.path hm [.reg [], .cond true, .reg [], .reg [], .reg [], .reg [], .keep [sk 2, sk 4, sk 6, sk 7, sk 94, ek 501001, ek 501002, ek 501003, ek 501004]] (cs := [_, _, _, _, _, _, _, _, _, _, _, _, _]) (by kernel_rfl) ⟨h375, h376.1, h376.2, h376.1, h377, h376.1, h376.2, h378.1, h378.2, h376.1, h377, h378.1, h378.2, trivial⟩ (ih (IntKind.i64.wrap (p1 + (1 : Int))) (List.set (List.set p2 (Int.toNat p1) (IntKind.u32.wrap ((List.getD p2 (Int.toNat p1) (Kd.dflt (Kd.int .u32))) + (List.getD p4 (Int.toNat p1) (Kd.dflt (Kd.int .u32)))))) (Int.toNat (IntKind.i64.wrap (p1 + (4 : Int)))) (IntKind.u32.wrap ((List.getD (List.set p2 (Int.toNat p1) (IntKind.u32.wrap ((List.getD p2 (Int.toNat p1) (Kd.dflt (Kd.int .u32))) + (List.getD p4 (Int.toNat p1) (Kd.dflt (Kd.int .u32)))))) (Int.toNat (IntKind.i64.wrap (p1 + (4 : Int)))) (Kd.dflt (Kd.int .u32))) + (List.getD p5 (Int.toNat p1) (Kd.dflt (Kd.int .u32)))))) p3 p4 p5 r h)
    · replace h := Option.some.inj h; subst h
      exact Abs.Good.path_ret hm [.reg [], .cond false, .reg []] [] Tryd.func77 (cs := [_]) (by kernel_rfl) ⟨h375, trivial⟩ (by kernel_rfl)
theorem hash_compress_l0_ok (k : Nat) : ∀ (p1 : List Int) (p2 : Int) (p3 : List Int) (p4 : List Int) (p5 : List Int) (p6 : List Int) (p7 : List Int) (r : List Int), hash_compress_l0 k p1 p2 p3 p4 p5 p6 p7 = some r →
    Abs.Good P 77 Tryd.f77.ntmps [] [] (.v (.p (Kd.arr 8 (Kd.int .u32)) r)) (pos Tryd.f77 [.r, .r, .r, .r]) [(sk 2, some (.v (.ptr 500001 0))), (sk 4, some (.v (.ptr 500002 0))), (sk 5, some (.v (.ptr 500003 0))), (sk 6, some (.v (.ptr 500004 0))), (sk 7, some (.v (.ptr 500005 0))), (sk 21, some (.v (.p (Kd.arr 64 (Kd.int .u32)) p1))), (sk 22, some (.v (.p (Kd.int .i64) p2))), (ek 500001, some (.box [.p (Kd.arr 8 (Kd.int .u32)) p3])), (ek 500002, some (.box [.p (Kd.arr 8 (Kd.int .u32)) p4])), (ek 500003, some (.box [.p (Kd.arr 64 (Kd.int .u32)) p5])), (ek 500004, some (.box [.p (Kd.arr 4 (Kd.int .u32)) p6])), (ek 500005, some (.box [.p (Kd.arr 4 (Kd.int .u32)) p7]))] := by
  induction k with
  | zero => intro p1 p2 p3 p4 p5 p6 p7 r h; cases h
  | succ k ih =>
    intro p1 p2 p3 p4 p5 p6 p7 r h
    unfold hash_compress_l0 at h
    rcases br_inv h with ⟨h369, h⟩ | ⟨h369, h⟩
    · obtain ⟨h370, h⟩ := gd_inv h
      obtain ⟨x371, h372, h⟩ := bind_inv h
      obtain ⟨x373, h374, h⟩ := bind_inv h
      exact Abs.Good.path hm [.reg [], .cond true, .reg [], .reg [(4, { call := some { lend := [], pass := [], res := .v (.p (Kd.int .u32) x371), outs := [], back := [] } })], .reg [(2, { call := some { lend := [], pass := [], res := .v (.p (Kd.int .u32) x373), outs := [], back := [] } })], .reg [], .reg [], .reg [], .keep [sk 2, sk 4, sk 5, sk 6, sk 7, sk 21, sk 22, ek 500001, ek 500002, ek 500003, ek 500004, ek 500005]] (cs := [_, _, _, _, _, _, _, _, _, _, _, _, _, _, _, _, _, _, _, _, _, _, _, _, _, _, _, _, _, _, _, _, _, _, _, _, _, _, _, _, _, _, _, _, _, _, _]) (by kernel_rfl) ⟨h369, h370.1, h370.2, (by decide : 0 ≤ (3 : Int)), (by decide : (3 : Int) < (4 : Int)), (by decide : 0 ≤ (0 : Int)), (by decide : (0 : Int) < (4 : Int)), (hash_mix_ok k (List.getD p7 (0) (Kd.dflt (Kd.int .u32))) (6 : Int) (11 : Int) (25 : Int) _ h372), (by decide : 0 ≤ (0 : Int)), (by decide : (0 : Int) < (4 : Int)), (by decide : 0 ≤ (1 : Int)), (by decide : (1 : Int) < (4 : Int)), (by decide : 0 ≤ (0 : Int)), (by decide : (0 : Int) < (4 : Int)), (by decide : 0 ≤ (2 : Int)), (by decide : (2 : Int) < (4 : Int)), h370.1, h370.2, (by decide : 0 ≤ (0 : Int)), (by decide : (0 : Int) < (4 : Int)), (hash_mix_ok k (List.getD p6 (0) (Kd.dflt (Kd.int .u32))) (2 : Int) (13 : Int) (22 : Int) _ h374), (by decide : 0 ≤ (0 : Int)), (by decide : (0 : Int) < (4 : Int)), (by decide : 0 ≤ (1 : Int)), (by decide : (1 : Int) < (4 : Int)), (by decide : 0 ≤ (0 : Int)), (by decide : (0 : Int) < (4 : Int)), (by decide : 0 ≤ (2 : Int)), (by decide : (2 : Int) < (4 : Int)), (by decide : 0 ≤ (1 : Int)), (by decide : (1 : Int) < (4 : Int)), (by decide : 0 ≤ (2 : Int)), (by decide : (2 : Int) < (4 : Int)), (by decide : 0 ≤ (3 : Int)), (by decide : (3 : Int) < (4 : Int)), (by decide : 0 ≤ (0 : Int)), (by decide : (0 : Int) < (4 : Int)), (by decide : 0 ≤ (1 : Int)), (by decide : (1 : Int) < (4 : Int)), (by decide : 0 ≤ (2 : Int)), (by decide : (2 : Int) < (4 : Int)), (by decide : 0 ≤ (0 : Int)), (by decide : (0 : Int) < (4 : Int)), (by decide : 0 ≤ (1 : Int)), (by decide : (1 : Int) < (4 : Int)), (by decide : 0 ≤ (2 : Int)), (by decide : (2 : Int) < (4 : Int)), trivial⟩ (ih p1 (IntKind.i64.wrap (p2 + (1 : Int))) p3 p4 p5 ([(IntKind.u32.wrap ((IntKind.u32.wrap ((IntKind.u32.wrap ((IntKind.u32.wrap ((IntKind.u32.wrap ((List.getD p7 (3) (Kd.dflt (Kd.int .u32))) + x371)) + (IntKind.u32.wrap (((BitVec.ofInt (IntKind.bits .u32) (IntKind.u32.wrap (((BitVec.ofInt (IntKind.bits .u32) (List.getD p7 (0) (Kd.dflt (Kd.int .u32)))) &&& (BitVec.ofInt (IntKind.bits .u32) (List.getD p7 (1) (Kd.dflt (Kd.int .u32))))).toNat : Int))) ^^^ (BitVec.ofInt (IntKind.bits .u32) (IntKind.u32.wrap (((BitVec.ofInt (IntKind.bits .u32) (IntKind.u32.wrap ((BitVec.ofInt (IntKind.bits .u32) (if (IntKind.signed .u32) then -1 else IntKind.max .u32) ^^^ BitVec.ofInt (IntKind.bits .u32) (List.getD p7 (0) (Kd.dflt (Kd.int .u32)))).toNat : Int))) &&& (BitVec.ofInt (IntKind.bits .u32) (List.getD p7 (2) (Kd.dflt (Kd.int .u32))))).toNat : Int)))).toNat : Int)))) + (List.getD p1 (Int.toNat p2) (Kd.dflt (Kd.int .u32))))) + (List.getD p5 (Int.toNat p2) (Kd.dflt (Kd.int .u32))))) + (IntKind.u32.wrap (x373 + (IntKind.u32.wrap (((BitVec.ofInt (IntKind.bits .u32) (IntKind.u32.wrap (((BitVec.ofInt (IntKind.bits .u32) (IntKind.u32.wrap (((BitVec.ofInt (IntKind.bits .u32) (List.getD p6 (0) (Kd.dflt (Kd.int .u32)))) &&& (BitVec.ofInt (IntKind.bits .u32) (List.getD p6 (1) (Kd.dflt (Kd.int .u32))))).toNat : Int))) ^^^ (BitVec.ofInt (IntKind.bits .u32) (IntKind.u32.wrap (((BitVec.ofInt (IntKind.bits .u32) (List.getD p6 (0) (Kd.dflt (Kd.int .u32)))) &&& (BitVec.ofInt (IntKind.bits .u32) (List.getD p6 (2) (Kd.dflt (Kd.int .u32))))).toNat : Int)))).toNat : Int))) ^^^ (BitVec.ofInt (IntKind.bits .u32) (IntKind.u32.wrap (((BitVec.ofInt (IntKind.bits .u32) (List.getD p6 (1) (Kd.dflt (Kd.int .u32)))) &&& (BitVec.ofInt (IntKind.bits .u32) (List.getD p6 (2) (Kd.dflt (Kd.int .u32))))).toNat : Int)))).toNat : Int)))))), (List.getD p6 (0) (Kd.dflt (Kd.int .u32))), (List.getD p6 (1) (Kd.dflt (Kd.int .u32))), (List.getD p6 (2) (Kd.dflt (Kd.int .u32)))] : List Int) ([(IntKind.u32.wrap ((List.getD p6 (3) (Kd.dflt (Kd.int .u32))) + (IntKind.u32.wrap ((IntKind.u32.wrap ((IntKind.u32.wrap ((IntKind.u32.wrap ((List.getD p7 (3) (Kd.dflt (Kd.int .u32))) + x371)) + (IntKind.u32.wrap (((BitVec.ofInt (IntKind.bits .u32) (IntKind.u32.wrap (((BitVec.ofInt (IntKind.bits .u32) (List.getD p7 (0) (Kd.dflt (Kd.int .u32)))) &&& (BitVec.ofInt (IntKind.bits .u32) (List.getD p7 (1) (Kd.dflt (Kd.int .u32))))).toNat : Int))) ^^^ (BitVec.ofInt (IntKind.bits .u32) (IntKind.u32.wrap (((BitVec.ofInt (IntKind.bits .u32) (IntKind.u32.wrap ((BitVec.ofInt (IntKind.bits .u32) (if (IntKind.signed .u32) then -1 else IntKind.max .u32) ^^^ BitVec.ofInt (IntKind.bits .u32) (List.getD p7 (0) (Kd.dflt (Kd.int .u32)))).toNat : Int))) &&& (BitVec.ofInt (IntKind.bits .u32) (List.getD p7 (2) (Kd.dflt (Kd.int .u32))))).toNat : Int)))).toNat : Int)))) + (List.getD p1 (Int.toNat p2) (Kd.dflt (Kd.int .u32))))) + (List.getD p5 (Int.toNat p2) (Kd.dflt (Kd.int .u32))))))), (List.getD p7 (0) (Kd.dflt (Kd.int .u32))), (List.getD p7 (1) (Kd.dflt (Kd.int .u32))), (List.getD p7 (2) (Kd.dflt (Kd.int .u32)))] : List Int) r h)
    · exact Abs.Good.path hm [.reg [], .cond false, .reg [], .keep [sk 2, sk 4, sk 6, sk 7, sk 94, ek 500001, ek 500002, ek 500004, ek 500005], .ren [(500001, 501001), (500002, 501002), (500004, 501003), (500005, 501004)]] (cs := [_]) (by kernel_rfl) ⟨h369, trivial⟩ (hash_compress_l1_ok k (0 : Int) p3 p4 p6 p7 r h)
theorem hash_compress_ok (k : Nat) (a1 : List Int) (a2 : List Int) (r : List Int) (h : hash_compress k a1 a2 = some r) : SpecOk P ⟨77, [.p (Kd.arr 8 (Kd.int .u32)) a1, .p (Kd.sl (Kd.int .u8)) a2], [], .v (.p (Kd.arr 8 (Kd.int .u32)) r), []⟩ := by
  refine spec_at Tryd.func77 (by kernel_rfl) (Nat.le_of_ble_eq_true (by kernel_rfl)) ?_
  unfold hash_compress at h
  obtain ⟨x367, h368, h⟩ := bind_inv h
  exact Abs.Good.path hm [.reg [], .reg [(1, { call := some { lend := [], pass := [], res := .v (.p (Kd.arr 64 (Kd.int .u32)) x367), outs := [], back := [] } })], .reg [], .reg [], .keep [sk 2, sk 4, sk 5, sk 6, sk 7, sk 21, sk 22, ek 2, ek 4, ek 5, ek 6, ek 7], .ren [(2, 500001), (4, 500002), (5, 500003), (6, 500004), (7, 500005)]] (cs := [_, _, _, _, _, _, _]) (by kernel_rfl) ⟨(hash_schedule_ok k a2 _ h368), (by decide : 0 ≤ (4 : Int)), (by decide : (4 : Int) ≤ (8 : Int)), (by decide : 4 ≤ 4), (by decide : 0 ≤ (4 : Int)), (by decide : (4 : Int) ≤ (8 : Int)), (by decide : 4 ≤ 4), trivial⟩ (hash_compress_l0_ok k gK1 (0 : Int) a1 (Kd.dflt (Kd.arr 8 (Kd.int .u32))) x367 (List.take 4 (List.drop 0 a1)) (List.take 4 (List.drop 4 a1)) r h)

def hash_Stream_Add_l0 : Nat → ByteArray → List Int → List Int → Int → List Int → List Int → Int → Option (List Int × List Int × Int)
  | 0, _, _, _, _, _, _, _ => none
  | k + 1, p1, p2, p3, p4, p5, p6, p7 =>
    if (!(ByteArray.toList p1 == ByteArray.toList (⟨#[]⟩ : ByteArray))) = true then
      if 0 ≤ (IntKind.i64.wrap (Int.tmod p4 (64 : Int))) ∧ (IntKind.i64.wrap (Int.tmod p4 (64 : Int))) ≤ (64 : Int) then
        if 0 ≤ (((min (ByteArray.size p1) (64 - Int.toNat (IntKind.i64.wrap (Int.tmod p4 (64 : Int))))) : Nat) : Int) ∧ (((min (ByteArray.size p1) (64 - Int.toNat (IntKind.i64.wrap (Int.tmod p4 (64 : Int))))) : Nat) : Int) ≤ (ByteArray.size p1 : Int) then
          if ((IntKind.i64.wrap ((IntKind.i64.wrap (Int.tmod p4 (64 : Int))) + (((min (ByteArray.size p1) (64 - Int.toNat (IntKind.i64.wrap (Int.tmod p4 (64 : Int))))) : Nat) : Int))) == (64 : Int)) = true then
            Option.bind (hash_compress k p2 (List.take 64 (List.drop 0 (List.take (Int.toNat (IntKind.i64.wrap (Int.tmod p4 (64 : Int)))) p3 ++ List.take (64 - Int.toNat (IntKind.i64.wrap (Int.tmod p4 (64 : Int)))) (bytesOf p1) ++ List.drop (Int.toNat (IntKind.i64.wrap (Int.tmod p4 (64 : Int))) + (min (ByteArray.size p1) (64 - Int.toNat (IntKind.i64.wrap (Int.tmod p4 (64 : Int)))))) p3)))) fun x385 =>
            hash_Stream_Add_l0 k (ByteArray.extract p1 (Int.toNat (((min (ByteArray.size p1) (64 - Int.toNat (IntKind.i64.wrap (Int.tmod p4 (64 : Int))))) : Nat) : Int)) (ByteArray.size p1)) x385 (List.take (Int.toNat (IntKind.i64.wrap (Int.tmod p4 (64 : Int)))) p3 ++ List.take (64 - Int.toNat (IntKind.i64.wrap (Int.tmod p4 (64 : Int)))) (bytesOf p1) ++ List.drop (Int.toNat (IntKind.i64.wrap (Int.tmod p4 (64 : Int))) + (min (ByteArray.size p1) (64 - Int.toNat (IntKind.i64.wrap (Int.tmod p4 (64 : Int)))))) p3) (IntKind.u64.wrap (p4 + (IntKind.u64.wrap (((min (ByteArray.size p1) (64 - Int.toNat (IntKind.i64.wrap (Int.tmod p4 (64 : Int))))) : Nat) : Int)))) p5 p6 p7
          else
            hash_Stream_Add_l0 k (ByteArray.extract p1 (Int.toNat (((min (ByteArray.size p1) (64 - Int.toNat (IntKind.i64.wrap (Int.tmod p4 (64 : Int))))) : Nat) : Int)) (ByteArray.size p1)) p2 (List.take (Int.toNat (IntKind.i64.wrap (Int.tmod p4 (64 : Int)))) p3 ++ List.take (64 - Int.toNat (IntKind.i64.wrap (Int.tmod p4 (64 : Int)))) (bytesOf p1) ++ List.drop (Int.toNat (IntKind.i64.wrap (Int.tmod p4 (64 : Int))) + (min (ByteArray.size p1) (64 - Int.toNat (IntKind.i64.wrap (Int.tmod p4 (64 : Int)))))) p3) (IntKind.u64.wrap (p4 + (IntKind.u64.wrap (((min (ByteArray.size p1) (64 - Int.toNat (IntKind.i64.wrap (Int.tmod p4 (64 : Int))))) : Nat) : Int)))) p5 p6 p7
        else none
      else none
    else
      some (p2, p3, p4)
def hash_Stream_Add (k : Nat) (a1 : List Int) (a2 : List Int) (a3 : Int) (a4 : ByteArray) : Option (List Int × List Int × Int) :=
  hash_Stream_Add_l0 k a4 a1 a2 a3 (Kd.dflt (Kd.arr 8 (Kd.int .u32))) (Kd.dflt (Kd.arr 64 (Kd.int .u8))) (0 : Int)
theorem hash_Stream_Add_l0_ok (k : Nat) : ∀ (p1 : ByteArray) (p2 : List Int) (p3 : List Int) (p4 : Int) (p5 : List Int) (p6 : List Int) (p7 : Int) (r : List Int × List Int × Int), hash_Stream_Add_l0 k p1 p2 p3 p4 p5 p6 p7 = some r →
    Abs.Good P 62 Tryd.f62.ntmps [] [] (.v (.agg [.p (Kd.arr 8 (Kd.int .u32)) r.1, .p (Kd.arr 64 (Kd.int .u8)) r.2.1, .p (Kd.int .u64) r.2.2])) (pos Tryd.f62 [.r]) [(sk 1, some (.v (.p Kd.str p1))), (sk 2, some (.v (.ptr 500001 0))), (sk 4, some (.v (.ptr 500002 0))), (ek 500001, some (.box [.p (Kd.arr 8 (Kd.int .u32)) p2, .p (Kd.arr 64 (Kd.int .u8)) p3, .p (Kd.int .u64) p4])), (ek 500002, some (.box [.p (Kd.arr 8 (Kd.int .u32)) p5, .p (Kd.arr 64 (Kd.int .u8)) p6, .p (Kd.int .u64) p7]))] := by
  induction k with
  | zero => intro p1 p2 p3 p4 p5 p6 p7 r h; cases h
  | succ k ih =>
    intro p1 p2 p3 p4 p5 p6 p7 r h
    unfold hash_Stream_Add_l0 at h
    rcases br_inv h with ⟨h381, h⟩ | ⟨h381, h⟩
    · obtain ⟨h382, h⟩ := gd_inv h
      obtain ⟨h383, h⟩ := gd_inv h
      rcases br_inv h with ⟨h384, h⟩ | ⟨h384, h⟩
      · obtain ⟨x385, h386, h⟩ := bind_inv h
        exact Abs.Good.path hm [.reg [], .cond true, .reg [], .reg [], .reg [], .reg [], .reg [], .cond true, .reg [(4, { call := some { lend := [(500001, false)], pass := [], res := .v (.p (Kd.arr 8 (Kd.int .u32)) x385), outs := [], back := [] } })], .keep [sk 1, sk 2, sk 4, ek 500001, ek 500002]] (cs := [_, _, _, _, _, _, _, _]) (by kernel_rfl) ⟨h381, (by decide : (64 : Int) ≠ 0), h382.1, h382.2, h383.1, h383.2, h384, (hash_compress_ok k p2 (List.take 64 (List.drop 0 (List.take (Int.toNat (IntKind.i64.wrap (Int.tmod p4 (64 : Int)))) p3 ++ List.take (64 - Int.toNat (IntKind.i64.wrap (Int.tmod p4 (64 : Int)))) (bytesOf p1) ++ List.drop (Int.toNat (IntKind.i64.wrap (Int.tmod p4 (64 : Int))) + (min (ByteArray.size p1) (64 - Int.toNat (IntKind.i64.wrap (Int.tmod p4 (64 : Int)))))) p3))) _ h386), trivial⟩ (ih (ByteArray.extract p1 (Int.toNat (((min (ByteArray.size p1) (64 - Int.toNat (IntKind.i64.wrap (Int.tmod p4 (64 : Int))))) : Nat) : Int)) (ByteArray.size p1)) x385 (List.take (Int.toNat (IntKind.i64.wrap (Int.tmod p4 (64 : Int)))) p3 ++ List.take (64 - Int.toNat (IntKind.i64.wrap (Int.tmod p4 (64 : Int)))) (bytesOf p1) ++ List.drop (Int.toNat (IntKind.i64.wrap (Int.tmod p4 (64 : Int))) + (min (ByteArray.size p1) (64 - Int.toNat (IntKind.i64.wrap (Int.tmod p4 (64 : Int)))))) p3) (IntKind.u64.wrap (p4 + (IntKind.u64.wrap (((min (ByteArray.size p1) (64 - Int.toNat (IntKind.i64.wrap (Int.tmod p4 (64 : Int))))) : Nat) : Int)))) p5 p6 p7 r h)
      · exact Abs.Good.path hm [.reg [], .cond true, .reg [], .reg [], .reg [], .reg [], .reg [], .cond false, .keep [sk 1, sk 2, sk 4, ek 500001, ek 500002]] (cs := [_, _, _, _, _, _, _]) (by kernel_rfl) ⟨h381, (by decide : (64 : Int) ≠ 0), h382.1, h382.2, h383.1, h383.2, h384, trivial⟩ (ih (ByteArray.extract p1 (Int.toNat (((min (ByteArray.size p1) (64 - Int.toNat (IntKind.i64.wrap (Int.tmod p4 (64 : Int))))) : Nat) : Int)) (ByteArray.size p1)) p2 (List.take (Int.toNat (IntKind.i64.wrap (Int.tmod p4 (64 : Int)))) p3 ++ List.take (64 - Int.toNat (IntKind.i64.wrap (Int.tmod p4 (64 : Int)))) (bytesOf p1) ++ List.drop (Int.toNat (IntKind.i64.wrap (Int.tmod p4 (64 : Int))) + (min (ByteArray.size p1) (64 - Int.toNat (IntKind.i64.wrap (Int.tmod p4 (64 : Int)))))) p3) (IntKind.u64.wrap (p4 + (IntKind.u64.wrap (((min (ByteArray.size p1) (64 - Int.toNat (IntKind.i64.wrap (Int.tmod p4 (64 : Int))))) : Nat) : Int)))) p5 p6 p7 r h)
    · replace h := Option.some.inj h; subst h
      exact Abs.Good.path_ret hm [.reg [], .cond false, .reg []] [] Tryd.func62 (cs := [_]) (by kernel_rfl) ⟨h381, trivial⟩ (by kernel_rfl)
theorem hash_Stream_Add_ok (k : Nat) (a1 : List Int) (a2 : List Int) (a3 : Int) (a4 : ByteArray) (r : List Int × List Int × Int) (h : hash_Stream_Add k a1 a2 a3 a4 = some r) : SpecOk P ⟨62, [.agg [.p (Kd.arr 8 (Kd.int .u32)) a1, .p (Kd.arr 64 (Kd.int .u8)) a2, .p (Kd.int .u64) a3], .p Kd.str a4], [], .v (.agg [.p (Kd.arr 8 (Kd.int .u32)) r.1, .p (Kd.arr 64 (Kd.int .u8)) r.2.1, .p (Kd.int .u64) r.2.2]), []⟩ := by
  refine spec_at Tryd.func62 (by kernel_rfl) (Nat.le_of_ble_eq_true (by kernel_rfl)) ?_
  unfold hash_Stream_Add at h
  exact Abs.Good.path hm [.reg [], .keep [sk 1, sk 2, sk 4, ek 2, ek 4], .ren [(2, 500001), (4, 500002)]] (cs := []) (by kernel_rfl) trivial (hash_Stream_Add_l0_ok k a4 a1 a2 a3 (Kd.dflt (Kd.arr 8 (Kd.int .u32))) (Kd.dflt (Kd.arr 64 (Kd.int .u8))) (0 : Int) r h)

def wire_Int_l0 : Nat → Int → List Int → Option (List Int)
  | 0, _, _ => none
  | k + 1, p1, p2 =>
    if (decide (p1 > (127 : Int))) = true then
      if List.length p2 + List.length ([(IntKind.u8.wrap (((BitVec.ofInt (IntKind.bits .u8) (IntKind.u8.wrap p1)) ||| (BitVec.ofInt (IntKind.bits .u8) (128 : Int))).toNat : Int))] : List Int) ≤ 140737488355328 then
        wire_Int_l0 k (Int.fdiv p1 (2 ^ (min (Int.toNat (7 : Int)) (IntKind.bits .u64)))) (p2 ++ ([(IntKind.u8.wrap (((BitVec.ofInt (IntKind.bits .u8) (IntKind.u8.wrap p1)) ||| (BitVec.ofInt (IntKind.bits .u8) (128 : Int))).toNat : Int))] : List Int))
      else none
    else
      if List.length p2 + List.length ([(IntKind.u8.wrap p1)] : List Int) ≤ 140737488355328 then
        some ((p2 ++ ([(IntKind.u8.wrap p1)] : List Int)))
      else none
def wire_Int (k : Nat) (a1 : Int) : Option (List Int) :=
  wire_Int_l0 k (IntKind.u64.wrap (((BitVec.ofInt (IntKind.bits .u64) (IntKind.u64.wrap ((IntKind.u64.wrap a1) * 2 ^ (min (Int.toNat (1 : Int)) (IntKind.bits .u64))))) ^^^ (BitVec.ofInt (IntKind.bits .u64) (IntKind.u64.wrap (Int.fdiv a1 (2 ^ (min (Int.toNat (63 : Int)) (IntKind.bits .i64))))))).toNat : Int)) ([] : List Int)
theorem wire_Int_l0_ok (k : Nat) : ∀ (p1 : Int) (p2 : List Int) (r : List Int), wire_Int_l0 k p1 p2 = some r →
    Abs.Good P 78 Tryd.f78.ntmps [] [(700001, .row (Kd.int .u8) 5 r)] (.v (.row 700001 (List.length r))) (pos Tryd.f78 [.r, .r, .r]) [(sk 3, some (.v (.p (Kd.int .u64) p1))), (sk 4, some (.v (.row 500001 (List.length p2)))), (ek 500001, some (.row (Kd.int .u8) 5 p2))] := by
  induction k with
  | zero => intro p1 p2 r h; cases h
  | succ k ih =>
    intro p1 p2 r h
    unfold wire_Int_l0 at h
    rcases br_inv h with ⟨h400, h⟩ | ⟨h400, h⟩
    · obtain ⟨h401, h⟩ := gd_inv h
      exact Abs.Good.path hm [.reg [], .cond true, .reg [], .reg [], .keep [sk 3, sk 4, ek 21], .ren [(21, 500001)]] (cs := [_, _, _, _, _]) (by kernel_rfl) ⟨h400, (rfl : (List.length p2) = List.length p2), (appBound (P := P) (et := 5) (b := 1) (by kernel_rfl) (by decide) h401), (rfl : 1 = List.length ([(IntKind.u8.wrap (((BitVec.ofInt (IntKind.bits .u8) (IntKind.u8.wrap p1)) ||| (BitVec.ofInt (IntKind.bits .u8) (128 : Int))).toNat : Int))] : List Int)), (by decide : 0 ≤ (7 : Int)), trivial⟩ (ih (Int.fdiv p1 (2 ^ (min (Int.toNat (7 : Int)) (IntKind.bits .u64)))) (p2 ++ ([(IntKind.u8.wrap (((BitVec.ofInt (IntKind.bits .u8) (IntKind.u8.wrap p1)) ||| (BitVec.ofInt (IntKind.bits .u8) (128 : Int))).toNat : Int))] : List Int)) r h)
    · obtain ⟨h402, h⟩ := gd_inv h
      replace h := Option.some.inj h; subst h
      exact Abs.Good.path_ret hm [.reg [], .cond false, .reg [], .keep [sk 2, ek 26], .ren [(26, 700001)]] [] Tryd.func78 (cs := [_, _, _, _]) (by kernel_rfl) ⟨h400, (rfl : (List.length p2) = List.length p2), (appBound (P := P) (et := 5) (b := 1) (by kernel_rfl) (by decide) h402), (rfl : 1 = List.length ([(IntKind.u8.wrap p1)] : List Int)), trivial⟩ (by kernel_rfl)
theorem wire_Int_ok (k : Nat) (a1 : Int) (r : List Int) (h : wire_Int k a1 = some r) : SpecOk P ⟨78, [.p (Kd.int .i64) a1], [], .v (.row 700001 (List.length r)), [(700001, .row (Kd.int .u8) 5 r)]⟩ := by
  refine spec_at Tryd.func78 (by kernel_rfl) (Nat.le_of_ble_eq_true (by kernel_rfl)) ?_
  unfold wire_Int at h
  exact Abs.Good.path hm [.reg [], .reg [], .reg [], .co (sk 4) 0 (.mk 900001 (Kd.int .u8) 5), .keep [sk 3, sk 4, ek 900001], .ren [(900001, 500001)]] (cs := [_, _]) (by kernel_rfl) ⟨(by decide : 0 ≤ (1 : Int)), (by decide : 0 ≤ (63 : Int)), trivial⟩ (wire_Int_l0_ok k (IntKind.u64.wrap (((BitVec.ofInt (IntKind.bits .u64) (IntKind.u64.wrap ((IntKind.u64.wrap a1) * 2 ^ (min (Int.toNat (1 : Int)) (IntKind.bits .u64))))) ^^^ (BitVec.ofInt (IntKind.bits .u64) (IntKind.u64.wrap (Int.fdiv a1 (2 ^ (min (Int.toNat (63 : Int)) (IntKind.bits .i64))))))).toNat : Int)) ([] : List Int) r h)

def wire_Bytes (k : Nat) (a1 : ByteArray) : Option (List Int) :=
  Option.bind (wire_Int k (ByteArray.size a1 : Int)) fun x406 =>
  if List.length x406 + List.length (bytesOf a1) ≤ 140737488355328 then
    some ((x406 ++ (bytesOf a1)))
  else none
theorem wire_Bytes_ok (k : Nat) (a1 : ByteArray) (r : List Int) (h : wire_Bytes k a1 = some r) : SpecOk P ⟨63, [.p Kd.str a1], [], .v (.p (Kd.sl (Kd.int .u8)) r), []⟩ := by
  refine spec_at Tryd.func63 (by kernel_rfl) (Nat.le_of_ble_eq_true (by kernel_rfl)) ?_
  unfold wire_Bytes at h
  obtain ⟨x406, h407, h⟩ := bind_inv h
  obtain ⟨h408, h⟩ := gd_inv h
  replace h := Option.some.inj h; subst h
  exact Abs.Good.path_ret hm [.reg [], .reg [(2, { call := some { lend := [], pass := [], res := .v (.row 700001 (List.length x406)), outs := [(700001, .row (Kd.int .u8) 5 x406)], back := [(700001, 2000040)] } })]] [7] Tryd.func63 (cs := [_, _, _, _]) (by kernel_rfl) ⟨(wire_Int_ok k (ByteArray.size a1 : Int) _ h407), (rfl : (List.length x406) = List.length x406), (appBound (P := P) (et := 5) (b := 1) (by kernel_rfl) (by decide) h408), (rfl : (List.length (x406 ++ (bytesOf a1))) = List.length (x406 ++ (bytesOf a1))), trivial⟩ (by kernel_rfl)

def hash_Stream_Sum_l2 : Nat → Int → List Int → List Int → Int → List Int → List Int → Option (List Int)
  | 0, _, _, _, _, _, _ => none
  | k + 1, p1, p2, p3, p4, p5, p6 =>
    if (decide (p1 < (32 : Int))) = true then
      if 0 ≤ (IntKind.i64.wrap (Int.tdiv p1 (4 : Int))) ∧ (IntKind.i64.wrap (Int.tdiv p1 (4 : Int))) < (8 : Int) then
        if 0 ≤ (IntKind.i64.wrap ((24 : Int) - (IntKind.i64.wrap ((8 : Int) * (Int.tmod p1 (4 : Int)))))) then
          if 0 ≤ p1 ∧ p1 < (32 : Int) then
            hash_Stream_Sum_l2 k (IntKind.i64.wrap (p1 + (1 : Int))) p2 p3 p4 p5 (List.set p6 (Int.toNat p1) (IntKind.u8.wrap (Int.fdiv (List.getD p2 (Int.toNat (IntKind.i64.wrap (Int.tdiv p1 (4 : Int)))) (Kd.dflt (Kd.int .u32))) (2 ^ (min (Int.toNat (IntKind.i64.wrap ((24 : Int) - (IntKind.i64.wrap ((8 : Int) * (Int.tmod p1 (4 : Int))))))) (IntKind.bits .u32))))))
          else none
        else none
      else none
    else
      some (p6)
def hash_Stream_Sum_l1 : Nat → Int → Int → List Int → List Int → Int → List Int → List Int → Option (List Int)
  | 0, _, _, _, _, _, _, _ => none
  | k + 1, p1, p2, p3, p4, p5, p6, p7 =>
    if (decide (p2 < (8 : Int))) = true then
      if 0 ≤ (IntKind.i64.wrap ((56 : Int) - (IntKind.i64.wrap ((8 : Int) * p2)))) then
        if List.length p7 + List.length ([(IntKind.u8.wrap (Int.fdiv p1 (2 ^ (min (Int.toNat (IntKind.i64.wrap ((56 : Int) - (IntKind.i64.wrap ((8 : Int) * p2))))) (IntKind.bits .u64)))))] : List Int) ≤ 140737488355328 then
          hash_Stream_Sum_l1 k p1 (IntKind.i64.wrap (p2 + (1 : Int))) p3 p4 p5 p6 (p7 ++ ([(IntKind.u8.wrap (Int.fdiv p1 (2 ^ (min (Int.toNat (IntKind.i64.wrap ((56 : Int) - (IntKind.i64.wrap ((8 : Int) * p2))))) (IntKind.bits .u64)))))] : List Int))
        else none
      else none
    else
      Option.bind (hash_Stream_Add k p3 p4 p5 (strOf (List.take (List.length p7) p7))) fun x438 =>
      hash_Stream_Sum_l2 k (0 : Int) x438.1 x438.2.1 x438.2.2 p6 (Kd.dflt (Kd.arr 32 (Kd.int .u8)))
def hash_Stream_Sum_l0 : Nat → Int → List Int → List Int → Int → List Int → List Int → Option (List Int)
  | 0, _, _, _, _, _, _ => none
  | k + 1, p1, p2, p3, p4, p5, p6 =>
    if ((Int.tmod (IntKind.i64.wrap ((IntKind.i64.wrap p4) + ((List.length p6) : Int))) (64 : Int)) != (56 : Int)) = true then
      if List.length p6 + List.length ([(0 : Int)] : List Int) ≤ 140737488355328 then
        hash_Stream_Sum_l0 k p1 p2 p3 p4 p5 (p6 ++ ([(0 : Int)] : List Int))
      else none
    else
      hash_Stream_Sum_l1 k p1 (0 : Int) p2 p3 p4 p5 p6
def hash_Stream_Sum (k : Nat) (a1 : List Int) (a2 : List Int) (a3 : Int) : Option (List Int) :=
  hash_Stream_Sum_l0 k (IntKind.u64.wrap ((8 : Int) * a3)) a1 a2 a3 (Kd.dflt (Kd.arr 32 (Kd.int .u8))) ([(128 : Int)] : List Int)
theorem hash_Stream_Sum_l2_ok (k : Nat) : ∀ (p1 : Int) (p2 : List Int) (p3 : List Int) (p4 : Int) (p5 : List Int) (p6 : List Int) (r : List Int), hash_Stream_Sum_l2 k p1 p2 p3 p4 p5 p6 = some r →
    Abs.Good P 64 Tryd.f64.ntmps [] [] (.v (.p (Kd.arr 32 (Kd.int .u8)) r)) (pos Tryd.f64 [.r, .r, .r, .r, .c false, .r, .r, .c false, .r, .r, .r]) [(sk 1, some (.v (.ptr 502001 0))), (sk 2, some (.v (.ptr 502002 0))), (sk 6, some (.v (.ptr 502003 0))), (sk 40, some (.v (.p (Kd.int .i64) p1))), (ek 502001, some (.box [.p (Kd.arr 8 (Kd.int .u32)) p2, .p (Kd.arr 64 (Kd.int .u8)) p3, .p (Kd.int .u64) p4])), (ek 502002, some (.box [.p (Kd.arr 32 (Kd.int .u8)) p5])), (ek 502003, some (.box [.p (Kd.arr 32 (Kd.int .u8)) p6]))] := by
  induction k with
  | zero => intro p1 p2 p3 p4 p5 p6 r h; cases h
  | succ k ih =>
    intro p1 p2 p3 p4 p5 p6 r h
    unfold hash_Stream_Sum_l2 at h
    rcases br_inv h with ⟨h440, h⟩ | ⟨h440, h⟩
    · obtain ⟨h441, h⟩ := gd_inv h
      obtain ⟨h442, h⟩ := gd_inv h
      obtain ⟨h443, h⟩ := gd_inv h
      exact Abs.Good.path hm [.reg [], .cond true, .reg [], .reg [], .reg [], .keep [sk 1, sk 2, sk 6, sk 40, ek 502001, ek 502002, ek 502003]] (cs := [_, _, _, _, _, _, _, _]) (by kernel_rfl) ⟨h440, (by decide : (4 : Int) ≠ 0), h441.1, h441.2, (by decide : (4 : Int) ≠ 0), h442, h443.1, h443.2, trivial⟩ (ih (IntKind.i64.wrap (p1 + (1 : Int))) p2 p3 p4 p5 (List.set p6 (Int.toNat p1) (IntKind.u8.wrap (Int.fdiv (List.getD p2 (Int.toNat (IntKind.i64.wrap (Int.tdiv p1 (4 : Int)))) (Kd.dflt (Kd.int .u32))) (2 ^ (min (Int.toNat (IntKind.i64.wrap ((24 : Int) - (IntKind.i64.wrap ((8 : Int) * (Int.tmod p1 (4 : Int))))))) (IntKind.bits .u32)))))) r h)
    · replace h := Option.some.inj h; subst h
      exact Abs.Good.path_ret hm [.reg [], .cond false, .reg []] [] Tryd.func64 (cs := [_]) (by kernel_rfl) ⟨h440, trivial⟩ (by kernel_rfl)
theorem hash_Stream_Sum_l1_ok (k : Nat) : ∀ (p1 : Int) (p2 : Int) (p3 : List Int) (p4 : List Int) (p5 : Int) (p6 : List Int) (p7 : List Int) (r : List Int), hash_Stream_Sum_l1 k p1 p2 p3 p4 p5 p6 p7 = some r →
    Abs.Good P 64 Tryd.f64.ntmps [] [] (.v (.p (Kd.arr 32 (Kd.int .u8)) r)) (pos Tryd.f64 [.r, .r, .r, .r, .c false, .r]) [(sk 1, some (.v (.ptr 501001 0))), (sk 2, some (.v (.ptr 501002 0))), (sk 3, some (.v (.p (Kd.int .u64) p1))), (sk 4, some (.v (.row 501003 (List.length p7)))), (sk 23, some (.v (.p (Kd.int .i64) p2))), (ek 501001, some (.box [.p (Kd.arr 8 (Kd.int .u32)) p3, .p (Kd.arr 64 (Kd.int .u8)) p4, .p (Kd.int .u64) p5])), (ek 501002, some (.box [.p (Kd.arr 32 (Kd.int .u8)) p6])), (ek 501003, some (.row (Kd.int .u8) 5 p7))] := by
  induction k with
  | zero => intro p1 p2 p3 p4 p5 p6 p7 r h; cases h
  | succ k ih =>
    intro p1 p2 p3 p4 p5 p6 p7 r h
    unfold hash_Stream_Sum_l1 at h
    rcases br_inv h with ⟨h435, h⟩ | ⟨h435, h⟩
    · obtain ⟨h436, h⟩ := gd_inv h
      obtain ⟨h437, h⟩ := gd_inv h
      exact Abs.Good.path hm [.reg [], .cond true, .reg [], .reg [], .reg [], .keep [sk 1, sk 2, sk 3, sk 4, sk 23, ek 501001, ek 501002, ek 34], .ren [(501001, 501001), (501002, 501002), (34, 501003)]] (cs := [_, _, _, _, _]) (by kernel_rfl) ⟨h435, h436, (rfl : (List.length p7) = List.length p7), (appBound (P := P) (et := 5) (b := 1) (by kernel_rfl) (by decide) h437), (rfl : 1 = List.length ([(IntKind.u8.wrap (Int.fdiv p1 (2 ^ (min (Int.toNat (IntKind.i64.wrap ((56 : Int) - (IntKind.i64.wrap ((8 : Int) * p2))))) (IntKind.bits .u64)))))] : List Int)), trivial⟩ (ih p1 (IntKind.i64.wrap (p2 + (1 : Int))) p3 p4 p5 p6 (p7 ++ ([(IntKind.u8.wrap (Int.fdiv p1 (2 ^ (min (Int.toNat (IntKind.i64.wrap ((56 : Int) - (IntKind.i64.wrap ((8 : Int) * p2))))) (IntKind.bits .u64)))))] : List Int)) r h)
    · obtain ⟨x438, h439, h⟩ := bind_inv h
      exact Abs.Good.path hm [.reg [], .cond false, .reg [(3, { call := some { lend := [], pass := [], res := .v (.agg [.p (Kd.arr 8 (Kd.int .u32)) x438.1, .p (Kd.arr 64 (Kd.int .u8)) x438.2.1, .p (Kd.int .u64) x438.2.2]), outs := [], back := [] } })], .reg [], .reg [], .keep [sk 1, sk 2, sk 6, sk 40, ek 501001, ek 501002, ek 6], .ren [(501001, 502001), (501002, 502002), (6, 502003)]] (cs := [_, _]) (by kernel_rfl) ⟨h435, (hash_Stream_Add_ok k p3 p4 p5 (strOf (List.take (List.length p7) p7)) _ h439), trivial⟩ (hash_Stream_Sum_l2_ok k (0 : Int) x438.1 x438.2.1 x438.2.2 p6 (Kd.dflt (Kd.arr 32 (Kd.int .u8))) r h)
theorem hash_Stream_Sum_l0_ok (k : Nat) : ∀ (p1 : Int) (p2 : List Int) (p3 : List Int) (p4 : Int) (p5 : List Int) (p6 : List Int) (r : List Int), hash_Stream_Sum_l0 k p1 p2 p3 p4 p5 p6 = some r →
    Abs.Good P 64 Tryd.f64.ntmps [] [] (.v (.p (Kd.arr 32 (Kd.int .u8)) r)) (pos Tryd.f64 [.r, .r, .r]) [(sk 1, some (.v (.ptr 500001 0))), (sk 2, some (.v (.ptr 500002 0))), (sk 3, some (.v (.p (Kd.int .u64) p1))), (sk 4, some (.v (.row 500003 (List.length p6)))), (ek 500001, some (.box [.p (Kd.arr 8 (Kd.int .u32)) p2, .p (Kd.arr 64 (Kd.int .u8)) p3, .p (Kd.int .u64) p4])), (ek 500002, some (.box [.p (Kd.arr 32 (Kd.int .u8)) p5])), (ek 500003, some (.row (Kd.int .u8) 5 p6))] := by
  induction k with
  | zero => intro p1 p2 p3 p4 p5 p6 r h; cases h
  | succ k ih =>
    intro p1 p2 p3 p4 p5 p6 r h
    unfold hash_Stream_Sum_l0 at h
    rcases br_inv h with ⟨h433, h⟩ | ⟨h433, h⟩
    · obtain ⟨h434, h⟩ := gd_inv h
      exact Abs.Good.path hm [.reg [], .cond true, .reg [], .keep [sk 1, sk 2, sk 3, sk 4, ek 500001, ek 500002, ek 22], .ren [(500001, 500001), (500002, 500002), (22, 500003)]] (cs := [_, _, _, _, _]) (by kernel_rfl) ⟨(by decide : (64 : Int) ≠ 0), h433, (rfl : (List.length p6) = List.length p6), (appBound (P := P) (et := 5) (b := 1) (by kernel_rfl) (by decide) h434), (rfl : 1 = List.length ([(0 : Int)] : List Int)), trivial⟩ (ih p1 p2 p3 p4 p5 (p6 ++ ([(0 : Int)] : List Int)) r h)
    · exact Abs.Good.path hm [.reg [], .cond false, .reg [], .keep [sk 1, sk 2, sk 3, sk 4, sk 23, ek 500001, ek 500002, ek 500003], .ren [(500001, 501001), (500002, 501002), (500003, 501003)]] (cs := [_, _]) (by kernel_rfl) ⟨(by decide : (64 : Int) ≠ 0), h433, trivial⟩ (hash_Stream_Sum_l1_ok k p1 (0 : Int) p2 p3 p4 p5 p6 r h)
theorem hash_Stream_Sum_ok (k : Nat) (a1 : List Int) (a2 : List Int) (a3 : Int) (r : List Int) (h : hash_Stream_Sum k a1 a2 a3 = some r) : SpecOk P ⟨64, [.agg [.p (Kd.arr 8 (Kd.int .u32)) a1, .p (Kd.arr 64 (Kd.int .u8)) a2, .p (Kd.int .u64) a3]], [], .v (.p (Kd.arr 32 (Kd.int .u8)) r), []⟩ := by
  refine spec_at Tryd.func64 (by kernel_rfl) (Nat.le_of_ble_eq_true (by kernel_rfl)) ?_
  unfold hash_Stream_Sum at h
  exact Abs.Good.path hm [.reg [], .reg [], .reg [], .keep [sk 1, sk 2, sk 3, sk 4, ek 1, ek 2, ek 11], .ren [(1, 500001), (2, 500002), (11, 500003)]] (cs := []) (by kernel_rfl) trivial (hash_Stream_Sum_l0_ok k (IntKind.u64.wrap ((8 : Int) * a3)) a1 a2 a3 (Kd.dflt (Kd.arr 32 (Kd.int .u8))) ([(128 : Int)] : List Int) r h)

def hash_Of_l0 : Nat → List ByteArray → Int → Int → List Int → List Int → List Int → Int → Option (List Int)
  | 0, _, _, _, _, _, _, _ => none
  | k + 1, p1, p2, p3, p4, p5, p6, p7 =>
    if (decide (p3 < p2)) = true then
      if 0 ≤ p3 ∧ p3 < (List.length p1 : Int) then
        Option.bind (wire_Bytes k (List.getD p1 (Int.toNat p3) (Kd.dflt Kd.str))) fun x452 =>
        Option.bind (hash_Stream_Add k p5 p6 p7 (strOf x452)) fun x454 =>
        hash_Of_l0 k p1 p2 (IntKind.i64.wrap (p3 + (1 : Int))) p4 x454.1 x454.2.1 x454.2.2
      else none
    else
      Option.bind (hash_Stream_Sum k p5 p6 p7) fun x456 =>
      some ((List.take 16 (List.drop 0 x456)))
def hash_Of (k : Nat) (a1 : Int) (a2 : List ByteArray) : Option (List Int) :=
  Option.bind (hash_Begin k) fun x446 =>
  Option.bind (hash_Stream_Add k x446.1 x446.2.1 x446.2.2 (strOf (List.take 1 ([(IntKind.u8.wrap a1)] : List Int)))) fun x448 =>
  hash_Of_l0 k a2 (List.length a2 : Int) (0 : Int) (Kd.dflt (Kd.arr 16 (Kd.int .u8))) x448.1 x448.2.1 x448.2.2
theorem hash_Of_l0_ok (k : Nat) : ∀ (p1 : List ByteArray) (p2 : Int) (p3 : Int) (p4 : List Int) (p5 : List Int) (p6 : List Int) (p7 : Int) (r : List Int), hash_Of_l0 k p1 p2 p3 p4 p5 p6 p7 = some r →
    Abs.Good P 43 Tryd.f43.ntmps [] [] (.v (.p (Kd.arr 16 (Kd.int .u8)) r)) (pos Tryd.f43 [.r, .r, .r]) [(sk 4, some (.v (.ptr 500001 0))), (sk 5, some (.v (.ptr 500002 0))), (sk 15, some (.v (.p (Kd.sl Kd.str) p1))), (sk 16, some (.v (.p (Kd.int .i64) p2))), (sk 17, some (.v (.p (Kd.int .i64) p3))), (ek 500001, some (.box [.p (Kd.arr 16 (Kd.int .u8)) p4])), (ek 500002, some (.box [.p (Kd.arr 8 (Kd.int .u32)) p5, .p (Kd.arr 64 (Kd.int .u8)) p6, .p (Kd.int .u64) p7]))] := by
  induction k with
  | zero => intro p1 p2 p3 p4 p5 p6 p7 r h; cases h
  | succ k ih =>
    intro p1 p2 p3 p4 p5 p6 p7 r h
    unfold hash_Of_l0 at h
    rcases br_inv h with ⟨h450, h⟩ | ⟨h450, h⟩
    · obtain ⟨h451, h⟩ := gd_inv h
      obtain ⟨x452, h453, h⟩ := bind_inv h
      obtain ⟨x454, h455, h⟩ := bind_inv h
      exact Abs.Good.path hm [.reg [], .cond true, .reg [], .reg [(2, { call := some { lend := [], pass := [], res := .v (.p (Kd.sl (Kd.int .u8)) x452), outs := [], back := [] } }), (4, { call := some { lend := [], pass := [], res := .v (.agg [.p (Kd.arr 8 (Kd.int .u32)) x454.1, .p (Kd.arr 64 (Kd.int .u8)) x454.2.1, .p (Kd.int .u64) x454.2.2]), outs := [], back := [] } })], .reg [], .keep [sk 4, sk 5, sk 15, sk 16, sk 17, ek 500001, ek 500002]] (cs := [_, _, _, _, _]) (by kernel_rfl) ⟨h450, h451.1, h451.2, (wire_Bytes_ok k (List.getD p1 (Int.toNat p3) (Kd.dflt Kd.str)) _ h453), (hash_Stream_Add_ok k p5 p6 p7 (strOf x452) _ h455), trivial⟩ (ih p1 p2 (IntKind.i64.wrap (p3 + (1 : Int))) p4 x454.1 x454.2.1 x454.2.2 r h)
    · obtain ⟨x456, h457, h⟩ := bind_inv h
      replace h := Option.some.inj h; subst h
      exact Abs.Good.path_ret hm [.reg [], .cond false, .reg [(1, { call := some { lend := [], pass := [], res := .v (.p (Kd.arr 32 (Kd.int .u8)) x456), outs := [], back := [] } })], .reg []] [] Tryd.func43 (cs := [_, _, _, _, _]) (by kernel_rfl) ⟨h450, (hash_Stream_Sum_ok k p5 p6 p7 _ h457), (by decide : 0 ≤ (16 : Int)), (by decide : (16 : Int) ≤ (32 : Int)), (by decide : 16 ≤ 16), trivial⟩ (by kernel_rfl)
theorem hash_Of_ok (k : Nat) (a1 : Int) (a2 : List ByteArray) (r : List Int) (h : hash_Of k a1 a2 = some r) : SpecOk P ⟨43, [.p (Kd.int .i64) a1, .p (Kd.sl Kd.str) a2], [], .v (.p (Kd.arr 16 (Kd.int .u8)) r), []⟩ := by
  refine spec_at Tryd.func43 (by kernel_rfl) (Nat.le_of_ble_eq_true (by kernel_rfl)) ?_
  unfold hash_Of at h
  obtain ⟨x446, h447, h⟩ := bind_inv h
  obtain ⟨x448, h449, h⟩ := bind_inv h
  exact Abs.Good.path hm [.reg [], .reg [(0, { call := some { lend := [], pass := [], res := .v (.agg [.p (Kd.arr 8 (Kd.int .u32)) x446.1, .p (Kd.arr 64 (Kd.int .u8)) x446.2.1, .p (Kd.int .u64) x446.2.2]), outs := [], back := [] } }), (5, { call := some { lend := [], pass := [], res := .v (.agg [.p (Kd.arr 8 (Kd.int .u32)) x448.1, .p (Kd.arr 64 (Kd.int .u8)) x448.2.1, .p (Kd.int .u64) x448.2.2]), outs := [], back := [] } })], .reg [], .keep [sk 4, sk 5, sk 15, sk 16, sk 17, ek 4, ek 5], .ren [(4, 500001), (5, 500002)]] (cs := [_, _]) (by kernel_rfl) ⟨(hash_Begin_ok k  _ h447), (hash_Stream_Add_ok k x446.1 x446.2.1 x446.2.2 (strOf (List.take 1 ([(IntKind.u8.wrap a1)] : List Int))) _ h449), trivial⟩ (hash_Of_l0_ok k a2 (List.length a2 : Int) (0 : Int) (Kd.dflt (Kd.arr 16 (Kd.int .u8))) x448.1 x448.2.1 x448.2.2 r h)

def exchange_Name (k : Nat) (a1 : ByteArray) : Option (List Int) :=
  Option.bind (hash_Of k (44 : Int) ([a1] : List ByteArray)) fun x460 =>
  some (x460)
theorem exchange_Name_ok (k : Nat) (a1 : ByteArray) (r : List Int) (h : exchange_Name k a1 = some r) : SpecOk P ⟨13, [.p Kd.str a1], [], .v (.p (Kd.arr 16 (Kd.int .u8)) r), []⟩ := by
  refine spec_at Tryd.func13 (by kernel_rfl) (Nat.le_of_ble_eq_true (by kernel_rfl)) ?_
  unfold exchange_Name at h
  obtain ⟨x460, h461, h⟩ := bind_inv h
  replace h := Option.some.inj h; subst h
  exact Abs.Good.path_ret hm [.reg [], .reg [(2, { call := some { lend := [(4, false)], pass := [], res := .v (.p (Kd.arr 16 (Kd.int .u8)) x460), outs := [], back := [] } })]] [] Tryd.func13 (cs := [_, _]) (by kernel_rfl) ⟨(hash_Of_ok k (44 : Int) ([a1] : List ByteArray) _ h461), (rfl : 1 = List.length ([a1] : List ByteArray)), trivial⟩ (by kernel_rfl)

def exchange_order (k : Nat) (a1 : List Int) (a2 : List Int) : Option (Int) :=
  some ((cmpB (List.take 16 (List.drop 0 a1)) (List.take 16 (List.drop 0 a2))))
theorem exchange_order_ok (k : Nat) (a1 : List Int) (a2 : List Int) (r : Int) (h : exchange_order k a1 a2 = some r) : SpecOk P ⟨41, [.p (Kd.arr 16 (Kd.int .u8)) a1, .p (Kd.arr 16 (Kd.int .u8)) a2], [], .v (.p (Kd.int .i64) r), []⟩ := by
  refine spec_at Tryd.func41 (by kernel_rfl) (Nat.le_of_ble_eq_true (by kernel_rfl)) ?_
  unfold exchange_order at h
  replace h := Option.some.inj h; subst h
  exact Abs.Good.path_ret hm [.reg [], .reg [(2, { call := some { lend := [(2, false), (3, false)], pass := [], res := .v (.p (Kd.int .i64) (cmpB (List.take 16 (List.drop 0 a1)) (List.take 16 (List.drop 0 a2)))), outs := [], back := [] } })]] [] Tryd.func41 (cs := [_]) (by kernel_rfl) ⟨(cmp60_ok (List.take 16 (List.drop 0 a1)) (List.take 16 (List.drop 0 a2))), trivial⟩ (by kernel_rfl)

def exchange_find_1 (k : Nat) (a1 : List Int) (a2 : ByteArray) (a3 : List Int) : Option (Int) :=
  Option.bind (exchange_order k a1 a3) fun x472 =>
  some (x472)
theorem exchange_find_1_ok (k : Nat) (a1 : List Int) (a2 : ByteArray) (a3 : List Int) (r : Int) (h : exchange_find_1 k a1 a2 a3 = some r) : SpecOk P ⟨68, [.agg [.p (Kd.arr 16 (Kd.int .u8)) a1, .p Kd.str a2], .p (Kd.arr 16 (Kd.int .u8)) a3], [], .v (.p (Kd.int .i64) r), []⟩ := by
  refine spec_at Tryd.func68 (by kernel_rfl) (Nat.le_of_ble_eq_true (by kernel_rfl)) ?_
  unfold exchange_find_1 at h
  obtain ⟨x472, h473, h⟩ := bind_inv h
  replace h := Option.some.inj h; subst h
  exact Abs.Good.path_ret hm [.reg [], .reg [(3, { call := some { lend := [], pass := [], res := .v (.p (Kd.int .i64) x472), outs := [], back := [] } })]] [] Tryd.func68 (cs := [_]) (by kernel_rfl) ⟨(exchange_order_ok k a1 a3 _ h473), trivial⟩ (by kernel_rfl)

def slices_BinarySearchFunc_l0 : Nat → List It → Int → Int → Int → List Int → Option (Int × Bool)
  | 0, _, _, _, _, _ => none
  | k + 1, p1, p2, p3, p4, p5 =>
    if (decide (p3 < p4)) = true then
      if 0 ≤ (IntKind.i64.wrap (Int.fdiv (IntKind.u64.wrap (IntKind.i64.wrap (p3 + p4))) (2 ^ (min (Int.toNat (1 : Int)) (IntKind.bits .u64))))) ∧ (IntKind.i64.wrap (Int.fdiv (IntKind.u64.wrap (IntKind.i64.wrap (p3 + p4))) (2 ^ (min (Int.toNat (1 : Int)) (IntKind.bits .u64))))) < (List.length p1 : Int) then
        Option.bind (exchange_find_1 k ((List.getD p1 (Int.toNat (IntKind.i64.wrap (Int.fdiv (IntKind.u64.wrap (IntKind.i64.wrap (p3 + p4))) (2 ^ (min (Int.toNat (1 : Int)) (IntKind.bits .u64)))))) (Kd.dflt KI)).1) (((List.getD p1 (Int.toNat (IntKind.i64.wrap (Int.fdiv (IntKind.u64.wrap (IntKind.i64.wrap (p3 + p4))) (2 ^ (min (Int.toNat (1 : Int)) (IntKind.bits .u64)))))) (Kd.dflt KI)).2).1) p5) fun x483 =>
        if (decide (x483 < (0 : Int))) = true then
          slices_BinarySearchFunc_l0 k p1 p2 (IntKind.i64.wrap ((IntKind.i64.wrap (Int.fdiv (IntKind.u64.wrap (IntKind.i64.wrap (p3 + p4))) (2 ^ (min (Int.toNat (1 : Int)) (IntKind.bits .u64))))) + (1 : Int))) p4 p5
        else
          slices_BinarySearchFunc_l0 k p1 p2 p3 (IntKind.i64.wrap (Int.fdiv (IntKind.u64.wrap (IntKind.i64.wrap (p3 + p4))) (2 ^ (min (Int.toNat (1 : Int)) (IntKind.bits .u64))))) p5
      else none
    else
      if (decide (p3 < p2)) = true then
        if 0 ≤ p3 ∧ p3 < (List.length p1 : Int) then
          Option.bind (exchange_find_1 k ((List.getD p1 (Int.toNat p3) (Kd.dflt KI)).1) (((List.getD p1 (Int.toNat p3) (Kd.dflt KI)).2).1) p5) fun x488 =>
          some (p3, (x488 == (0 : Int)))
        else none
      else
        some (p3, false)
def slices_BinarySearchFunc (k : Nat) (a1 : List It) (a2 : List Int) : Option (Int × Bool) :=
  slices_BinarySearchFunc_l0 k a1 (List.length a1 : Int) (0 : Int) (List.length a1 : Int) a2
theorem slices_BinarySearchFunc_l0_ok (k : Nat) : ∀ (p1 : List It) (p2 : Int) (p3 : Int) (p4 : Int) (p5 : List Int) (r : Int × Bool), slices_BinarySearchFunc_l0 k p1 p2 p3 p4 p5 = some r →
    Abs.Good P 67 Tryd.f67.ntmps [] [] (.t [.p (Kd.int .i64) r.1, .p Kd.bool r.2]) (pos Tryd.f67 [.r, .r, .r]) [(sk 0, some (.v (.p (Kd.sl KI) p1))), (sk 2, some (.v (.fn 68 []))), (sk 4, some (.v (.ptr 500001 0))), (sk 8, some (.v (.p (Kd.int .i64) p2))), (sk 9, some (.v (.p (Kd.int .i64) p3))), (sk 10, some (.v (.p (Kd.int .i64) p4))), (ek 500001, some (.box [.p (Kd.arr 16 (Kd.int .u8)) p5]))] := by
  induction k with
  | zero => intro p1 p2 p3 p4 p5 r h; cases h
  | succ k ih =>
    intro p1 p2 p3 p4 p5 r h
    unfold slices_BinarySearchFunc_l0 at h
    rcases br_inv h with ⟨h481, h⟩ | ⟨h481, h⟩
    · obtain ⟨h482, h⟩ := gd_inv h
      obtain ⟨x483, h484, h⟩ := bind_inv h
      rcases br_inv h with ⟨h485, h⟩ | ⟨h485, h⟩
      · exact Abs.Good.path hm [.reg [], .cond true, .reg [], .reg [(6, { call := some { lend := [], pass := [], res := .v (.p (Kd.int .i64) x483), outs := [], back := [] } })], .cond true, .reg [], .keep [sk 0, sk 2, sk 4, sk 8, sk 9, sk 10, ek 500001]] (cs := [_, _, _, _, _, _]) (by kernel_rfl) ⟨h481, (by decide : 0 ≤ (1 : Int)), h482.1, h482.2, (exchange_find_1_ok k ((List.getD p1 (Int.toNat (IntKind.i64.wrap (Int.fdiv (IntKind.u64.wrap (IntKind.i64.wrap (p3 + p4))) (2 ^ (min (Int.toNat (1 : Int)) (IntKind.bits .u64)))))) (Kd.dflt KI)).1) (((List.getD p1 (Int.toNat (IntKind.i64.wrap (Int.fdiv (IntKind.u64.wrap (IntKind.i64.wrap (p3 + p4))) (2 ^ (min (Int.toNat (1 : Int)) (IntKind.bits .u64)))))) (Kd.dflt KI)).2).1) p5 _ h484), h485, trivial⟩ (ih p1 p2 (IntKind.i64.wrap ((IntKind.i64.wrap (Int.fdiv (IntKind.u64.wrap (IntKind.i64.wrap (p3 + p4))) (2 ^ (min (Int.toNat (1 : Int)) (IntKind.bits .u64))))) + (1 : Int))) p4 p5 r h)
      · exact Abs.Good.path hm [.reg [], .cond true, .reg [], .reg [(6, { call := some { lend := [], pass := [], res := .v (.p (Kd.int .i64) x483), outs := [], back := [] } })], .cond false, .reg [], .keep [sk 0, sk 2, sk 4, sk 8, sk 9, sk 10, ek 500001]] (cs := [_, _, _, _, _, _]) (by kernel_rfl) ⟨h481, (by decide : 0 ≤ (1 : Int)), h482.1, h482.2, (exchange_find_1_ok k ((List.getD p1 (Int.toNat (IntKind.i64.wrap (Int.fdiv (IntKind.u64.wrap (IntKind.i64.wrap (p3 + p4))) (2 ^ (min (Int.toNat (1 : Int)) (IntKind.bits .u64)))))) (Kd.dflt KI)).1) (((List.getD p1 (Int.toNat (IntKind.i64.wrap (Int.fdiv (IntKind.u64.wrap (IntKind.i64.wrap (p3 + p4))) (2 ^ (min (Int.toNat (1 : Int)) (IntKind.bits .u64)))))) (Kd.dflt KI)).2).1) p5 _ h484), h485, trivial⟩ (ih p1 p2 p3 (IntKind.i64.wrap (Int.fdiv (IntKind.u64.wrap (IntKind.i64.wrap (p3 + p4))) (2 ^ (min (Int.toNat (1 : Int)) (IntKind.bits .u64))))) p5 r h)
    · rcases br_inv h with ⟨h486, h⟩ | ⟨h486, h⟩
      · obtain ⟨h487, h⟩ := gd_inv h
        obtain ⟨x488, h489, h⟩ := bind_inv h
        replace h := Option.some.inj h; subst h
        exact Abs.Good.path_ret hm [.reg [], .cond false, .reg [(5, { dec := some true }), (6, { dec := some true }), (7, { dec := some true }), (8, { dec := some true }), (9, { dec := some true }), (10, { dec := some true }), (11, { dec := some true, call := some { lend := [], pass := [], res := .v (.p (Kd.int .i64) x488), outs := [], back := [] } }), (12, { dec := some true }), (13, { pick := some true })]] [] Tryd.func67 (cs := [_, _, _, _, _, _, _, _, _, _, _, _, _]) (by kernel_rfl) ⟨h481, h486, h486, h486, h486, h487.1, h487.2, h486, h486, h486, (exchange_find_1_ok k ((List.getD p1 (Int.toNat p3) (Kd.dflt KI)).1) (((List.getD p1 (Int.toNat p3) (Kd.dflt KI)).2).1) p5 _ h489), h486, h486, trivial⟩ (by kernel_rfl)
      · replace h := Option.some.inj h; subst h
        exact Abs.Good.path_ret hm [.reg [], .cond false, .reg [(5, { dec := some false }), (6, { dec := some false }), (7, { dec := some false }), (8, { dec := some false }), (9, { dec := some false }), (10, { dec := some false }), (11, { dec := some false }), (12, { dec := some false }), (13, { pick := some false })]] [] Tryd.func67 (cs := [_, _, _, _, _, _, _, _, _, _]) (by kernel_rfl) ⟨h481, h486, h486, h486, h486, h486, h486, h486, h486, h486, trivial⟩ (by kernel_rfl)
theorem slices_BinarySearchFunc_ok (k : Nat) (a1 : List It) (a2 : List Int) (r : Int × Bool) (h : slices_BinarySearchFunc k a1 a2 = some r) : SpecOk P ⟨67, [.p (Kd.sl KI) a1, .p (Kd.arr 16 (Kd.int .u8)) a2, .fn 68 []], [], .t [.p (Kd.int .i64) r.1, .p Kd.bool r.2], []⟩ := by
  refine spec_at Tryd.func67 (by kernel_rfl) (Nat.le_of_ble_eq_true (by kernel_rfl)) ?_
  unfold slices_BinarySearchFunc at h
  exact Abs.Good.path hm [.reg [], .reg [], .reg [], .keep [sk 0, sk 2, sk 4, sk 8, sk 9, sk 10, ek 4], .ren [(4, 500001)]] (cs := []) (by kernel_rfl) trivial (slices_BinarySearchFunc_l0_ok k a1 (List.length a1 : Int) (0 : Int) (List.length a1 : Int) a2 r h)

def exchange_find (k : Nat) (a1 : List It) (a2 : List Int) : Option (Int × Bool) :=
  Option.bind (slices_BinarySearchFunc k a1 a2) fun x492 =>
  some (x492.1, x492.2)
theorem exchange_find_ok (k : Nat) (a1 : List It) (a2 : List Int) (r : Int × Bool) (h : exchange_find k a1 a2 = some r) : SpecOk P ⟨46, [.agg [.p (Kd.sl KI) a1], .p (Kd.arr 16 (Kd.int .u8)) a2], [], .t [.p (Kd.int .i64) r.1, .p Kd.bool r.2], []⟩ := by
  refine spec_at Tryd.func46 (by kernel_rfl) (Nat.le_of_ble_eq_true (by kernel_rfl)) ?_
  unfold exchange_find at h
  obtain ⟨x492, h493, h⟩ := bind_inv h
  replace h := Option.some.inj h; subst h
  exact Abs.Good.path_ret hm [.reg [], .reg [(3, { call := some { lend := [], pass := [], res := .t [.p (Kd.int .i64) x492.1, .p Kd.bool x492.2], outs := [], back := [] } })]] [] Tryd.func46 (cs := [_]) (by kernel_rfl) ⟨(slices_BinarySearchFunc_ok k a1 a2 _ h493), trivial⟩ (by kernel_rfl)

theorem clone48_ok (x : List It) (h : 0 + List.length x ≤ 4398046511104) : SpecOk P ⟨48, [.p (.sl KI) x], [], .v (.row 700001 (List.length x)), [(700001, .row KI 50 x)]⟩ := by
  refine spec_at Tryd.func48 (by kernel_rfl) (Nat.le_of_ble_eq_true (by kernel_rfl)) ?_
  refine Abs.Good.nilsplit (i := 0) (e := KI) (x := x) rfl (fun hs => ?_) ?_
  · subst hs
    exact Abs.Good.path_ret hm [.reg [], .reg [], .cond true, .reg [], .co (sk 2) 0 (.mk 700001 KI 50)] [] Tryd.func48 (cs := [_]) (by kernel_rfl) ⟨(rfl : true = true), trivial⟩ (by kernel_rfl)
  · exact Abs.Good.path_ret hm [.reg [], .reg [], .cond false, .co (sk 0) 0 .unn, .reg [], .keep [sk 2, ek 7], .ren [(7, 700001)]] [] Tryd.func48 (cs := [_, _, _]) (by kernel_rfl) ⟨(rfl : false = false), (rfl : 0 = 0), (appBound (P := P) (et := 50) (b := 32) (by kernel_rfl) (by decide) h), trivial⟩ (by kernel_rfl)

def exchange_Add (k : Nat) (a1 : List It) (a2 : ByteArray) : Option (List It × Int) :=
  if (decide ((ByteArray.size a2 : Int) > (1048576 : Int))) = true then
    some (a1, (1 : Int))
  else
    Option.bind (exchange_Name k a2) fun x462 =>
    Option.bind (exchange_find k a1 x462) fun x494 =>
    if x494.2 = true then
      some (a1, (6 : Int))
    else
      if (decide ((List.length a1 : Int) ≥ (65536 : Int))) = true then
        some (a1, (2 : Int))
      else
        if 0 + List.length a1 ≤ 4398046511104 then
          if 0 ≤ x494.1 ∧ x494.1 ≤ (List.length a1 : Int) ∧ 0 < List.length ([(x462, (a2, ()))] : List It) ∧ List.length a1 + List.length ([(x462, (a2, ()))] : List It) ≤ 4398046511104 then
            some ((List.take (Int.toNat x494.1) a1 ++ ([(x462, (a2, ()))] : List It) ++ List.drop (Int.toNat x494.1) a1), (0 : Int))
          else none
        else none
theorem exchange_Add_ok (k : Nat) (a1 : List It) (a2 : ByteArray) (r : List It × Int) (h : exchange_Add k a1 a2 = some r) : SpecOk P ⟨18, [.agg [.p (Kd.sl KI) a1], .p Kd.str a2], [], .t [.agg [.p (Kd.sl KI) r.1], .p (Kd.int .i64) r.2], []⟩ := by
  refine spec_at Tryd.func18 (by kernel_rfl) (Nat.le_of_ble_eq_true (by kernel_rfl)) ?_
  unfold exchange_Add at h
  rcases br_inv h with ⟨h268, h⟩ | ⟨h268, h⟩
  · replace h := Option.some.inj h; subst h
    exact Abs.Good.path_ret hm [.reg [], .reg [], .cond true, .reg []] [] Tryd.func18 (cs := [_]) (by kernel_rfl) ⟨h268, trivial⟩ (by kernel_rfl)
  · obtain ⟨x462, h463, h⟩ := bind_inv h
    obtain ⟨x494, h495, h⟩ := bind_inv h
    rcases br_inv h with ⟨h496, h⟩ | ⟨h496, h⟩
    · replace h := Option.some.inj h; subst h
      exact Abs.Good.path_ret hm [.reg [], .reg [], .cond false, .reg [(1, { call := some { lend := [], pass := [], res := .v (.p (Kd.arr 16 (Kd.int .u8)) x462), outs := [], back := [] } })], .reg [(2, { call := some { lend := [], pass := [], res := .t [.p (Kd.int .i64) x494.1, .p Kd.bool x494.2], outs := [], back := [] } })], .reg [], .cond true, .reg []] [] Tryd.func18 (cs := [_, _, _, _]) (by kernel_rfl) ⟨h268, (exchange_Name_ok k a2 _ h463), (exchange_find_ok k a1 x462 _ h495), h496, trivial⟩ (by kernel_rfl)
    · rcases br_inv h with ⟨h497, h⟩ | ⟨h497, h⟩
      · replace h := Option.some.inj h; subst h
        exact Abs.Good.path_ret hm [.reg [], .reg [], .cond false, .reg [(1, { call := some { lend := [], pass := [], res := .v (.p (Kd.arr 16 (Kd.int .u8)) x462), outs := [], back := [] } })], .reg [(2, { call := some { lend := [], pass := [], res := .t [.p (Kd.int .i64) x494.1, .p Kd.bool x494.2], outs := [], back := [] } })], .reg [], .cond false, .reg [], .cond true, .reg []] [] Tryd.func18 (cs := [_, _, _, _, _]) (by kernel_rfl) ⟨h268, (exchange_Name_ok k a2 _ h463), (exchange_find_ok k a1 x462 _ h495), h496, h497, trivial⟩ (by kernel_rfl)
      · obtain ⟨h500, h⟩ := gd_inv h
        obtain ⟨h503, h⟩ := gd_inv h
        replace h := Option.some.inj h; subst h
        exact Abs.Good.path_ret hm [.reg [], .reg [], .cond false, .reg [(1, { call := some { lend := [], pass := [], res := .v (.p (Kd.arr 16 (Kd.int .u8)) x462), outs := [], back := [] } })], .reg [(2, { call := some { lend := [], pass := [], res := .t [.p (Kd.int .i64) x494.1, .p Kd.bool x494.2], outs := [], back := [] } })], .reg [], .cond false, .reg [], .cond false, .reg [(2, { call := some { lend := [], pass := [], res := .v (.row 700001 (List.length a1)), outs := [(700001, .row KI 50 a1)], back := [(700001, 2000256)] } }), (8, { call := some { lend := [], pass := [(2000256, 1000001), (37, 1000002)], res := .v (.row 700001 (List.length (List.take (Int.toNat x494.1) a1 ++ ([(x462, (a2, ()))] : List It) ++ List.drop (Int.toNat x494.1) a1))), outs := [(700001, .row KI 50 (List.take (Int.toNat x494.1) a1 ++ ([(x462, (a2, ()))] : List It) ++ List.drop (Int.toNat x494.1) a1))], back := [(700001, 2000304)] } })]] [2000304] Tryd.func18 (cs := [_, _, _, _, _, _, _, _]) (by kernel_rfl) ⟨h268, (exchange_Name_ok k a2 _ h463), (exchange_find_ok k a1 x462 _ h495), h496, h497, (clone48_ok a1 h500), (insert47_ok a1 x494.1 ([(x462, (a2, ()))] : List It) h503.1 h503.2.1 h503.2.2.1 h503.2.2.2), (rfl : (List.length (List.take (Int.toNat x494.1) a1 ++ ([(x462, (a2, ()))] : List It) ++ List.drop (Int.toNat x494.1) a1)) = List.length (List.take (Int.toNat x494.1) a1 ++ ([(x462, (a2, ()))] : List It) ++ List.drop (Int.toNat x494.1) a1)), trivial⟩ (by kernel_rfl)

def antiquarylaw44_of_l1 (s0 : List ByteArray → Int → List It → List It → Option (List It × Bool)) (k : Nat) (p1 : List ByteArray) (p2 : Int) (p3 : Bool) (p4 : List It) (p5 : List It) (p6 : List It) : Option (List It × Bool) :=
  if p3 = true then
    some (p5, false)
  else
    s0 p1 (IntKind.i64.wrap (p2 + (1 : Int))) p4 p6
def antiquarylaw44_of_l0 : Nat → List ByteArray → Int → List It → List It → Option (List It × Bool)
  | 0, _, _, _, _ => none
  | k + 1, p1, p2, p3, p4 =>
    if (decide (p2 < (List.length p1 : Int))) = true then
      if 0 ≤ p2 ∧ p2 < (List.length p1 : Int) then
        Option.bind (exchange_Add k p4 (List.getD p1 (Int.toNat p2) (Kd.dflt Kd.str))) fun x514 =>
        if (x514.2 != (0 : Int)) = true then
          antiquarylaw44_of_l1 (antiquarylaw44_of_l0 k) k p1 p2 (x514.2 != (6 : Int)) p3 p4 x514.1
        else
          antiquarylaw44_of_l1 (antiquarylaw44_of_l0 k) k p1 p2 false p3 p4 x514.1
      else none
    else
      some (p4, true)
def antiquarylaw44_of (k : Nat) (a1 : List ByteArray) : Option (List It × Bool) :=
  antiquarylaw44_of_l0 k a1 (0 : Int) ([] : List It) ([] : List It)
theorem antiquarylaw44_of_l1_ok (s0 : List ByteArray → Int → List It → List It → Option (List It × Bool)) (hs0 : ∀ (p1 : List ByteArray) (p2 : Int) (p3 : List It) (p4 : List It) (r : List It × Bool), s0 p1 p2 p3 p4 = some r → Abs.Good P 38 Tryd.f38.ntmps [] [] (.t [.agg [.p (Kd.sl KI) r.1], .p Kd.bool r.2]) (pos Tryd.f38 [.r, .r, .r]) [(sk 0, some (.v (.p (Kd.sl Kd.str) p1))), (sk 2, some (.v (.ptr 500001 0))), (sk 4, some (.v (.ptr 500002 0))), (sk 5, some (.v (.p (Kd.int .i64) p2))), (ek 500001, some (.box [.p (Kd.sl KI) p3])), (ek 500002, some (.box [.p (Kd.sl KI) p4]))]) (k : Nat) (p1 : List ByteArray) (p2 : Int) (p3 : Bool) (p4 : List It) (p5 : List It) (p6 : List It) (r : List It × Bool) (h : antiquarylaw44_of_l1 s0 k p1 p2 p3 p4 p5 p6 = some r) :
    Abs.Good P 38 Tryd.f38.ntmps [] [] (.t [.agg [.p (Kd.sl KI) r.1], .p Kd.bool r.2]) (pos Tryd.f38 [.r, .r, .r, .r, .c true, .r, .r]) [(sk 0, some (.v (.p (Kd.sl Kd.str) p1))), (sk 2, some (.v (.ptr 501001 0))), (sk 4, some (.v (.ptr 501002 0))), (sk 5, some (.v (.p (Kd.int .i64) p2))), (sk 6, some (.v (.ptr 501003 0))), (sk 28, some (.v (.p Kd.bool p3))), (ek 501001, some (.box [.p (Kd.sl KI) p4])), (ek 501002, some (.box [.p (Kd.sl KI) p5])), (ek 501003, some (.box [.p (Kd.sl KI) p6]))] := by
  unfold antiquarylaw44_of_l1 at h
  rcases br_inv h with ⟨h517, h⟩ | ⟨h517, h⟩
  · replace h := Option.some.inj h; subst h
    exact Abs.Good.path_ret hm [.cond true, .reg []] [] Tryd.func38 (cs := [_]) (by kernel_rfl) ⟨h517, trivial⟩ (by kernel_rfl)
  · exact Abs.Good.path hm [.cond false, .reg [], .reg [], .keep [sk 0, sk 2, sk 4, sk 5, ek 501001, ek 501002], .ren [(501001, 500001), (501002, 500002)]] (cs := [_]) (by kernel_rfl) ⟨h517, trivial⟩ (hs0 p1 (IntKind.i64.wrap (p2 + (1 : Int))) p4 p6 r h)
theorem antiquarylaw44_of_l0_ok (k : Nat) : ∀ (p1 : List ByteArray) (p2 : Int) (p3 : List It) (p4 : List It) (r : List It × Bool), antiquarylaw44_of_l0 k p1 p2 p3 p4 = some r →
    Abs.Good P 38 Tryd.f38.ntmps [] [] (.t [.agg [.p (Kd.sl KI) r.1], .p Kd.bool r.2]) (pos Tryd.f38 [.r, .r, .r]) [(sk 0, some (.v (.p (Kd.sl Kd.str) p1))), (sk 2, some (.v (.ptr 500001 0))), (sk 4, some (.v (.ptr 500002 0))), (sk 5, some (.v (.p (Kd.int .i64) p2))), (ek 500001, some (.box [.p (Kd.sl KI) p3])), (ek 500002, some (.box [.p (Kd.sl KI) p4]))] := by
  induction k with
  | zero => intro p1 p2 p3 p4 r h; cases h
  | succ k ih =>
    intro p1 p2 p3 p4 r h
    unfold antiquarylaw44_of_l0 at h
    rcases br_inv h with ⟨h512, h⟩ | ⟨h512, h⟩
    · obtain ⟨h513, h⟩ := gd_inv h
      obtain ⟨x514, h515, h⟩ := bind_inv h
      rcases br_inv h with ⟨h516, h⟩ | ⟨h516, h⟩
      · exact Abs.Good.path hm [.reg [], .cond true, .reg [(5, { call := some { lend := [], pass := [], res := .t [.agg [.p (Kd.sl KI) x514.1], .p (Kd.int .i64) x514.2], outs := [], back := [] } })], .reg [(3, { dec := some true }), (4, { dec := some true }), (5, { pick := some true })], .keep [sk 0, sk 2, sk 4, sk 5, sk 6, sk 28, ek 500001, ek 500002, ek 6], .ren [(500001, 501001), (500002, 501002), (6, 501003)]] (cs := [_, _, _, _, _, _, _]) (by kernel_rfl) ⟨h512, h513.1, h513.2, (exchange_Add_ok k p4 (List.getD p1 (Int.toNat p2) (Kd.dflt Kd.str)) _ h515), h516, h516, h516, trivial⟩ (antiquarylaw44_of_l1_ok (antiquarylaw44_of_l0 k) ih k p1 p2 (x514.2 != (6 : Int)) p3 p4 x514.1 r h)
      · exact Abs.Good.path hm [.reg [], .cond true, .reg [(5, { call := some { lend := [], pass := [], res := .t [.agg [.p (Kd.sl KI) x514.1], .p (Kd.int .i64) x514.2], outs := [], back := [] } })], .reg [(3, { dec := some false }), (4, { dec := some false }), (5, { pick := some false })], .keep [sk 0, sk 2, sk 4, sk 5, sk 6, sk 28, ek 500001, ek 500002, ek 6], .ren [(500001, 501001), (500002, 501002), (6, 501003)]] (cs := [_, _, _, _, _, _, _]) (by kernel_rfl) ⟨h512, h513.1, h513.2, (exchange_Add_ok k p4 (List.getD p1 (Int.toNat p2) (Kd.dflt Kd.str)) _ h515), h516, h516, h516, trivial⟩ (antiquarylaw44_of_l1_ok (antiquarylaw44_of_l0 k) ih k p1 p2 false p3 p4 x514.1 r h)
    · replace h := Option.some.inj h; subst h
      exact Abs.Good.path_ret hm [.reg [], .cond false, .reg []] [] Tryd.func38 (cs := [_]) (by kernel_rfl) ⟨h512, trivial⟩ (by kernel_rfl)
theorem antiquarylaw44_of_ok (k : Nat) (a1 : List ByteArray) (r : List It × Bool) (h : antiquarylaw44_of k a1 = some r) : SpecOk P ⟨38, [.p (Kd.sl Kd.str) a1], [], .t [.agg [.p (Kd.sl KI) r.1], .p Kd.bool r.2], []⟩ := by
  refine spec_at Tryd.func38 (by kernel_rfl) (Nat.le_of_ble_eq_true (by kernel_rfl)) ?_
  unfold antiquarylaw44_of at h
  exact Abs.Good.path hm [.reg [], .co (ek 2) 0 (.nsl KI), .reg [], .co (ek 4) 0 (.nsl KI), .reg [], .keep [sk 0, sk 2, sk 4, sk 5, ek 2, ek 4], .ren [(2, 500001), (4, 500002)]] (cs := []) (by kernel_rfl) trivial (antiquarylaw44_of_l0_ok k a1 (0 : Int) ([] : List It) ([] : List It) r h)

def exchange_Valid_l1 (s0 : List It → Int → Int → List It → Option (Bool)) (k : Nat) (p1 : List It) (p2 : Int) (p3 : Int) (p4 : Bool) (p5 : List It) : Option (Bool) :=
  if p4 = true then
    some (false)
  else
    s0 p1 p2 (IntKind.i64.wrap (p3 + (1 : Int))) p5
def exchange_Valid_l0 : Nat → List It → Int → Int → List It → Option (Bool)
  | 0, _, _, _, _ => none
  | k + 1, p1, p2, p3, p4 =>
    if (decide (p3 < p2)) = true then
      if 0 ≤ p3 ∧ p3 < (List.length p1 : Int) then
        if (decide ((ByteArray.size (((List.getD p1 (Int.toNat p3) (Kd.dflt KI)).2).1) : Int) > (1048576 : Int))) = true then
          exchange_Valid_l1 (exchange_Valid_l0 k) k p1 p2 p3 true p4
        else
          Option.bind (exchange_Name k (((List.getD p1 (Int.toNat p3) (Kd.dflt KI)).2).1)) fun x546 =>
          if (!(Kd.eqb (Kd.arr 16 (Kd.int .u8)) ((List.getD p1 (Int.toNat p3) (Kd.dflt KI)).1) x546)) = true then
            exchange_Valid_l1 (exchange_Valid_l0 k) k p1 p2 p3 true p4
          else
            if (decide (p3 > (0 : Int))) = true then
              if 0 ≤ (IntKind.i64.wrap (p3 - (1 : Int))) ∧ (IntKind.i64.wrap (p3 - (1 : Int))) < (List.length p4 : Int) then
                Option.bind (exchange_order k ((List.getD p4 (Int.toNat (IntKind.i64.wrap (p3 - (1 : Int)))) (Kd.dflt KI)).1) ((List.getD p1 (Int.toNat p3) (Kd.dflt KI)).1)) fun x551 =>
                exchange_Valid_l1 (exchange_Valid_l0 k) k p1 p2 p3 (decide (x551 ≥ (0 : Int))) p4
              else none
            else
              exchange_Valid_l1 (exchange_Valid_l0 k) k p1 p2 p3 false p4
      else none
    else
      some ((decide ((List.length p4 : Int) ≤ (65536 : Int))))
def exchange_Valid (k : Nat) (a1 : List It) : Option (Bool) :=
  exchange_Valid_l0 k a1 (List.length a1 : Int) (0 : Int) a1
theorem exchange_Valid_l1_ok (s0 : List It → Int → Int → List It → Option (Bool)) (hs0 : ∀ (p1 : List It) (p2 : Int) (p3 : Int) (p4 : List It) (r : Bool), s0 p1 p2 p3 p4 = some r → Abs.Good P 11 Tryd.f11.ntmps [] [] (.v (.p Kd.bool r)) (pos Tryd.f11 [.r, .r]) [(sk 1, some (.v (.ptr 500001 0))), (sk 6, some (.v (.p (Kd.sl KI) p1))), (sk 7, some (.v (.p (Kd.int .i64) p2))), (sk 8, some (.v (.p (Kd.int .i64) p3))), (ek 500001, some (.box [.p (Kd.sl KI) p4]))]) (k : Nat) (p1 : List It) (p2 : Int) (p3 : Int) (p4 : Bool) (p5 : List It) (r : Bool) (h : exchange_Valid_l1 s0 k p1 p2 p3 p4 p5 = some r) :
    Abs.Good P 11 Tryd.f11.ntmps [] [] (.v (.p Kd.bool r)) (pos Tryd.f11 [.r, .r, .r, .c true, .r, .r]) [(sk 1, some (.v (.ptr 501001 0))), (sk 6, some (.v (.p (Kd.sl KI) p1))), (sk 7, some (.v (.p (Kd.int .i64) p2))), (sk 8, some (.v (.p (Kd.int .i64) p3))), (sk 41, some (.v (.p Kd.bool p4))), (ek 501001, some (.box [.p (Kd.sl KI) p5]))] := by
  unfold exchange_Valid_l1 at h
  rcases br_inv h with ⟨h553, h⟩ | ⟨h553, h⟩
  · replace h := Option.some.inj h; subst h
    exact Abs.Good.path_ret hm [.cond true, .reg []] [] Tryd.func11 (cs := [_]) (by kernel_rfl) ⟨h553, trivial⟩ (by kernel_rfl)
  · exact Abs.Good.path hm [.cond false, .reg [], .keep [sk 1, sk 6, sk 7, sk 8, ek 501001], .ren [(501001, 500001)]] (cs := [_]) (by kernel_rfl) ⟨h553, trivial⟩ (hs0 p1 p2 (IntKind.i64.wrap (p3 + (1 : Int))) p5 r h)
theorem exchange_Valid_l0_ok (k : Nat) : ∀ (p1 : List It) (p2 : Int) (p3 : Int) (p4 : List It) (r : Bool), exchange_Valid_l0 k p1 p2 p3 p4 = some r →
    Abs.Good P 11 Tryd.f11.ntmps [] [] (.v (.p Kd.bool r)) (pos Tryd.f11 [.r, .r]) [(sk 1, some (.v (.ptr 500001 0))), (sk 6, some (.v (.p (Kd.sl KI) p1))), (sk 7, some (.v (.p (Kd.int .i64) p2))), (sk 8, some (.v (.p (Kd.int .i64) p3))), (ek 500001, some (.box [.p (Kd.sl KI) p4]))] := by
  induction k with
  | zero => intro p1 p2 p3 p4 r h; cases h
  | succ k ih =>
    intro p1 p2 p3 p4 r h
    unfold exchange_Valid_l0 at h
    rcases br_inv h with ⟨h543, h⟩ | ⟨h543, h⟩
    · obtain ⟨h544, h⟩ := gd_inv h
      rcases br_inv h with ⟨h545, h⟩ | ⟨h545, h⟩
      · exact Abs.Good.path hm [.reg [], .cond true, .reg [], .reg [(5, { dec := some true }), (6, { dec := some true }), (7, { dec := some true }), (8, { dec := some true }), (9, { dec := some true }), (10, { dec := some true }), (11, { pick := some true }), (13, { dec := some true }), (14, { dec := some true }), (15, { dec := some true }), (27, { dec := some true }), (28, { pick := some true })], .keep [sk 1, sk 6, sk 7, sk 8, sk 41, ek 500001], .ren [(500001, 501001)]] (cs := [_, _, _, _, _, _, _, _, _, _, _, _, _, _, _]) (by kernel_rfl) ⟨h543, h544.1, h544.2, h545, h545, h545, h545, h545, h545, h545, (rfl : true = true), (rfl : true = true), (rfl : true = true), (rfl : true = true), (rfl : true = true), trivial⟩ (exchange_Valid_l1_ok (exchange_Valid_l0 k) ih k p1 p2 p3 true p4 r h)
      · obtain ⟨x546, h547, h⟩ := bind_inv h
        rcases br_inv h with ⟨h548, h⟩ | ⟨h548, h⟩
        · exact Abs.Good.path hm [.reg [], .cond true, .reg [], .reg [(5, { dec := some false }), (6, { dec := some false }), (7, { dec := some false }), (8, { dec := some false }), (9, { dec := some false, call := some { lend := [], pass := [], res := .v (.p (Kd.arr 16 (Kd.int .u8)) x546), outs := [], back := [] } }), (10, { dec := some false }), (11, { pick := some false }), (13, { dec := some true }), (14, { dec := some true }), (15, { dec := some true }), (27, { dec := some true }), (28, { pick := some true })], .keep [sk 1, sk 6, sk 7, sk 8, sk 41, ek 500001], .ren [(500001, 501001)]] (cs := [_, _, _, _, _, _, _, _, _, _, _, _, _, _, _, _, _]) (by kernel_rfl) ⟨h543, h544.1, h544.2, h545, h545, h545, h545, h545, (exchange_Name_ok k (((List.getD p1 (Int.toNat p3) (Kd.dflt KI)).2).1) _ h547), h545, eq26, h545, h548, h548, h548, h548, h548, trivial⟩ (exchange_Valid_l1_ok (exchange_Valid_l0 k) ih k p1 p2 p3 true p4 r h)
        · rcases br_inv h with ⟨h549, h⟩ | ⟨h549, h⟩
          · obtain ⟨h550, h⟩ := gd_inv h
            obtain ⟨x551, h552, h⟩ := bind_inv h
            exact Abs.Good.path hm [.reg [], .cond true, .reg [], .reg [(5, { dec := some false }), (6, { dec := some false }), (7, { dec := some false }), (8, { dec := some false }), (9, { dec := some false, call := some { lend := [], pass := [], res := .v (.p (Kd.arr 16 (Kd.int .u8)) x546), outs := [], back := [] } }), (10, { dec := some false }), (11, { pick := some false }), (13, { dec := some false }), (14, { dec := some false }), (15, { dec := some false }), (16, { dec := some true }), (17, { dec := some true }), (18, { dec := some true }), (19, { dec := some true }), (20, { dec := some true }), (21, { dec := some true }), (22, { dec := some true }), (23, { dec := some true }), (24, { dec := some true }), (25, { dec := some true, call := some { lend := [], pass := [], res := .v (.p (Kd.int .i64) x551), outs := [], back := [] } }), (26, { dec := some true }), (27, { dec := some false, pick := some true }), (28, { pick := some false })], .keep [sk 1, sk 6, sk 7, sk 8, sk 41, ek 500001], .ren [(500001, 501001)]] (cs := [_, _, _, _, _, _, _, _, _, _, _, _, _, _, _, _, _, _, _, _, _, _, _, _, _, _, _, _, _, _, _, _]) (by kernel_rfl) ⟨h543, h544.1, h544.2, h545, h545, h545, h545, h545, (exchange_Name_ok k (((List.getD p1 (Int.toNat p3) (Kd.dflt KI)).2).1) _ h547), h545, eq26, h545, h548, h548, h548, h549, h549, h549, h549, h549, h550.1, h550.2, h549, h549, h549, h549, h549, (exchange_order_ok k ((List.getD p4 (Int.toNat (IntKind.i64.wrap (p3 - (1 : Int)))) (Kd.dflt KI)).1) ((List.getD p1 (Int.toNat p3) (Kd.dflt KI)).1) _ h552), h549, h548, h549, h548, trivial⟩ (exchange_Valid_l1_ok (exchange_Valid_l0 k) ih k p1 p2 p3 (decide (x551 ≥ (0 : Int))) p4 r h)
          · exact Abs.Good.path hm [.reg [], .cond true, .reg [], .reg [(5, { dec := some false }), (6, { dec := some false }), (7, { dec := some false }), (8, { dec := some false }), (9, { dec := some false, call := some { lend := [], pass := [], res := .v (.p (Kd.arr 16 (Kd.int .u8)) x546), outs := [], back := [] } }), (10, { dec := some false }), (11, { pick := some false }), (13, { dec := some false }), (14, { dec := some false }), (15, { dec := some false }), (16, { dec := some false }), (17, { dec := some false }), (18, { dec := some false }), (19, { dec := some false }), (20, { dec := some false }), (21, { dec := some false }), (22, { dec := some false }), (23, { dec := some false }), (24, { dec := some false }), (25, { dec := some false }), (26, { dec := some false }), (27, { dec := some false, pick := some false }), (28, { pick := some false })], .keep [sk 1, sk 6, sk 7, sk 8, sk 41, ek 500001], .ren [(500001, 501001)]] (cs := [_, _, _, _, _, _, _, _, _, _, _, _, _, _, _, _, _, _, _, _, _, _, _, _, _, _, _, _, _]) (by kernel_rfl) ⟨h543, h544.1, h544.2, h545, h545, h545, h545, h545, (exchange_Name_ok k (((List.getD p1 (Int.toNat p3) (Kd.dflt KI)).2).1) _ h547), h545, eq26, h545, h548, h548, h548, h549, h549, h549, h549, h549, h549, h549, h549, h549, h549, h549, h548, h549, h548, trivial⟩ (exchange_Valid_l1_ok (exchange_Valid_l0 k) ih k p1 p2 p3 false p4 r h)
    · replace h := Option.some.inj h; subst h
      exact Abs.Good.path_ret hm [.reg [], .cond false, .reg []] [] Tryd.func11 (cs := [_]) (by kernel_rfl) ⟨h543, trivial⟩ (by kernel_rfl)
theorem exchange_Valid_ok (k : Nat) (a1 : List It) (r : Bool) (h : exchange_Valid k a1 = some r) : SpecOk P ⟨11, [.agg [.p (Kd.sl KI) a1]], [], .v (.p Kd.bool r), []⟩ := by
  refine spec_at Tryd.func11 (by kernel_rfl) (Nat.le_of_ble_eq_true (by kernel_rfl)) ?_
  unfold exchange_Valid at h
  exact Abs.Good.path hm [.reg [], .reg [], .keep [sk 1, sk 6, sk 7, sk 8, ek 1], .ren [(1, 500001)]] (cs := []) (by kernel_rfl) trivial (exchange_Valid_l0_ok k a1 (List.length a1 : Int) (0 : Int) a1 r h)

def exchange_under_1 (k : Nat) (a1 : Int) (a2 : List It) (a3 : List Int) (a4 : Int) : Option (Bool) :=
  if 0 ≤ a1 ∧ a1 < (List.length a2 : Int) then
    Option.bind (exchange_order k ((List.getD a2 (Int.toNat a1) (Kd.dflt KI)).1) a3) fun x572 =>
    some ((decide (x572 ≥ (0 : Int))))
  else none
theorem exchange_under_1_ok (k : Nat) (a1 : Int) (a2 : List It) (a3 : List Int) (a4 : Int) (r : Bool) (h : exchange_under_1 k a1 a2 a3 a4 = some r) : SpecOk P ⟨72, [.p (Kd.int .i64) a1, .ptr 1000001 0, .ptr 1000002 0], [(1000001, .box [.p (Kd.sl KI) a2]), (1000002, .box [.p (Kd.arr 16 (Kd.int .u8)) a3, .p (Kd.int .i64) a4])], .v (.p Kd.bool r), [(1000001, .box [.p (Kd.sl KI) a2]), (1000002, .box [.p (Kd.arr 16 (Kd.int .u8)) a3, .p (Kd.int .i64) a4])]⟩ := by
  refine spec_at Tryd.func72 (by kernel_rfl) (Nat.le_of_ble_eq_true (by kernel_rfl)) ?_
  unfold exchange_under_1 at h
  obtain ⟨h571, h⟩ := gd_inv h
  obtain ⟨x572, h573, h⟩ := bind_inv h
  replace h := Option.some.inj h; subst h
  exact Abs.Good.path_ret hm [.reg [], .reg [(8, { call := some { lend := [], pass := [], res := .v (.p (Kd.int .i64) x572), outs := [], back := [] } })]] [] Tryd.func72 (cs := [_, _, _]) (by kernel_rfl) ⟨h571.1, h571.2, (exchange_order_ok k ((List.getD a2 (Int.toNat a1) (Kd.dflt KI)).1) a3 _ h573), trivial⟩ (by kernel_rfl)

def sort_Search_l0 : Nat → Int → Int → List It → List Int → Int → Option (Int)
  | 0, _, _, _, _, _ => none
  | k + 1, p1, p2, p3, p4, p5 =>
    if (decide (p1 < p2)) = true then
      Option.bind (exchange_under_1 k (IntKind.i64.wrap (Int.fdiv (IntKind.u64.wrap (IntKind.i64.wrap (p1 + p2))) (2 ^ (min (Int.toNat (1 : Int)) (IntKind.bits .u64))))) p3 p4 p5) fun x578 =>
      if (!x578) = true then
        sort_Search_l0 k (IntKind.i64.wrap ((IntKind.i64.wrap (Int.fdiv (IntKind.u64.wrap (IntKind.i64.wrap (p1 + p2))) (2 ^ (min (Int.toNat (1 : Int)) (IntKind.bits .u64))))) + (1 : Int))) p2 p3 p4 p5
      else
        sort_Search_l0 k p1 (IntKind.i64.wrap (Int.fdiv (IntKind.u64.wrap (IntKind.i64.wrap (p1 + p2))) (2 ^ (min (Int.toNat (1 : Int)) (IntKind.bits .u64))))) p3 p4 p5
    else
      some (p1)
def sort_Search (k : Nat) (a1 : Int) (a2 : List It) (a3 : List Int) (a4 : Int) : Option (Int) :=
  sort_Search_l0 k (0 : Int) a1 a2 a3 a4
theorem sort_Search_l0_ok (k : Nat) : ∀ (p1 : Int) (p2 : Int) (p3 : List It) (p4 : List Int) (p5 : Int) (r : Int), sort_Search_l0 k p1 p2 p3 p4 p5 = some r →
    Abs.Good P 71 Tryd.f71.ntmps [1000001, 1000002] [(1000001, .box [.p (Kd.sl KI) p3]), (1000002, .box [.p (Kd.arr 16 (Kd.int .u8)) p4, .p (Kd.int .i64) p5])] (.v (.p (Kd.int .i64) r)) (pos Tryd.f71 [.r, .r]) [(sk 1, some (.v (.fn 72 [.ptr 1000001 0, .ptr 1000002 0]))), (sk 5, some (.v (.p (Kd.int .i64) p1))), (sk 6, some (.v (.p (Kd.int .i64) p2))), (ek 1000001, some (.box [.p (Kd.sl KI) p3])), (ek 1000002, some (.box [.p (Kd.arr 16 (Kd.int .u8)) p4, .p (Kd.int .i64) p5]))] := by
  induction k with
  | zero => intro p1 p2 p3 p4 p5 r h; cases h
  | succ k ih =>
    intro p1 p2 p3 p4 p5 r h
    unfold sort_Search_l0 at h
    rcases br_inv h with ⟨h577, h⟩ | ⟨h577, h⟩
    · obtain ⟨x578, h579, h⟩ := bind_inv h
      rcases br_inv h with ⟨h580, h⟩ | ⟨h580, h⟩
      · exact Abs.Good.path hm [.reg [], .cond true, .reg [], .reg [(2, { call := some { lend := [], pass := [(1000001, 1000001), (1000002, 1000002)], res := .v (.p Kd.bool x578), outs := [(1000001, .box [.p (Kd.sl KI) p3]), (1000002, .box [.p (Kd.arr 16 (Kd.int .u8)) p4, .p (Kd.int .i64) p5])], back := [(1000001, 1000001), (1000002, 1000002)], same := [1000001, 1000002] } })], .cond true, .reg [], .keep [sk 1, sk 5, sk 6, ek 1000001, ek 1000002]] (cs := [_, _, _, _, _, _]) (by kernel_rfl) ⟨h577, (by decide : 0 ≤ (1 : Int)), (rfl : (.box [.p (Kd.arr 16 (Kd.int .u8)) p4, .p (Kd.int .i64) p5] : Val) = .box [.p (Kd.arr 16 (Kd.int .u8)) p4, .p (Kd.int .i64) p5]), (rfl : (.box [.p (Kd.sl KI) p3] : Val) = .box [.p (Kd.sl KI) p3]), (exchange_under_1_ok k (IntKind.i64.wrap (Int.fdiv (IntKind.u64.wrap (IntKind.i64.wrap (p1 + p2))) (2 ^ (min (Int.toNat (1 : Int)) (IntKind.bits .u64))))) p3 p4 p5 _ h579), h580, trivial⟩ (ih (IntKind.i64.wrap ((IntKind.i64.wrap (Int.fdiv (IntKind.u64.wrap (IntKind.i64.wrap (p1 + p2))) (2 ^ (min (Int.toNat (1 : Int)) (IntKind.bits .u64))))) + (1 : Int))) p2 p3 p4 p5 r h)
      · exact Abs.Good.path hm [.reg [], .cond true, .reg [], .reg [(2, { call := some { lend := [], pass := [(1000001, 1000001), (1000002, 1000002)], res := .v (.p Kd.bool x578), outs := [(1000001, .box [.p (Kd.sl KI) p3]), (1000002, .box [.p (Kd.arr 16 (Kd.int .u8)) p4, .p (Kd.int .i64) p5])], back := [(1000001, 1000001), (1000002, 1000002)], same := [1000001, 1000002] } })], .cond false, .reg [], .keep [sk 1, sk 5, sk 6, ek 1000001, ek 1000002]] (cs := [_, _, _, _, _, _]) (by kernel_rfl) ⟨h577, (by decide : 0 ≤ (1 : Int)), (rfl : (.box [.p (Kd.arr 16 (Kd.int .u8)) p4, .p (Kd.int .i64) p5] : Val) = .box [.p (Kd.arr 16 (Kd.int .u8)) p4, .p (Kd.int .i64) p5]), (rfl : (.box [.p (Kd.sl KI) p3] : Val) = .box [.p (Kd.sl KI) p3]), (exchange_under_1_ok k (IntKind.i64.wrap (Int.fdiv (IntKind.u64.wrap (IntKind.i64.wrap (p1 + p2))) (2 ^ (min (Int.toNat (1 : Int)) (IntKind.bits .u64))))) p3 p4 p5 _ h579), h580, trivial⟩ (ih p1 (IntKind.i64.wrap (Int.fdiv (IntKind.u64.wrap (IntKind.i64.wrap (p1 + p2))) (2 ^ (min (Int.toNat (1 : Int)) (IntKind.bits .u64))))) p3 p4 p5 r h)
    · replace h := Option.some.inj h; subst h
      exact Abs.Good.path_ret hm [.reg [], .cond false, .reg []] [] Tryd.func71 (cs := [_]) (by kernel_rfl) ⟨h577, trivial⟩ (by kernel_rfl)
theorem sort_Search_ok (k : Nat) (a1 : Int) (a2 : List It) (a3 : List Int) (a4 : Int) (r : Int) (h : sort_Search k a1 a2 a3 a4 = some r) : SpecOk P ⟨71, [.p (Kd.int .i64) a1, .fn 72 [.ptr 1000001 0, .ptr 1000002 0]], [(1000001, .box [.p (Kd.sl KI) a2]), (1000002, .box [.p (Kd.arr 16 (Kd.int .u8)) a3, .p (Kd.int .i64) a4])], .v (.p (Kd.int .i64) r), [(1000001, .box [.p (Kd.sl KI) a2]), (1000002, .box [.p (Kd.arr 16 (Kd.int .u8)) a3, .p (Kd.int .i64) a4])]⟩ := by
  refine spec_at Tryd.func71 (by kernel_rfl) (Nat.le_of_ble_eq_true (by kernel_rfl)) ?_
  unfold sort_Search at h
  exact Abs.Good.path hm [.reg [], .reg [], .keep [sk 1, sk 5, sk 6, ek 1000001, ek 1000002]] (cs := []) (by kernel_rfl) trivial (sort_Search_l0_ok k (0 : Int) a1 a2 a3 a4 r h)

def exchange_mask_l1 (s0 : Int → Int → List Int → List Int → Option (List Int)) (k : Nat) (p1 : Int) (p2 : Int) (p3 : List Int) (p4 : List Int) : Option (List Int) :=
  s0 p1 (IntKind.i64.wrap (p2 + (1 : Int))) p3 p4
def exchange_mask_l0 : Nat → Int → Int → List Int → List Int → Option (List Int)
  | 0, _, _, _, _ => none
  | k + 1, p1, p2, p3, p4 =>
    if (decide (p2 < (16 : Int))) = true then
      if (decide ((mm false (mm true (IntKind.i64.wrap (p1 - (IntKind.i64.wrap ((8 : Int) * p2)))) (0 : Int)) (8 : Int)) < (8 : Int))) = true then
        if 0 ≤ p2 ∧ p2 < (16 : Int) then
          if 0 ≤ (mm false (mm true (IntKind.i64.wrap (p1 - (IntKind.i64.wrap ((8 : Int) * p2)))) (0 : Int)) (8 : Int)) then
            exchange_mask_l1 (exchange_mask_l0 k) k p1 p2 (List.set p3 (Int.toNat p2) (IntKind.u8.wrap (((BitVec.ofInt (IntKind.bits .u8) (List.getD p3 (Int.toNat p2) (Kd.dflt (Kd.int .u8)))) &&& (BitVec.ofInt (IntKind.bits .u8) (IntKind.u8.wrap ((BitVec.ofInt (IntKind.bits .u8) (if (IntKind.signed .u8) then -1 else IntKind.max .u8) ^^^ BitVec.ofInt (IntKind.bits .u8) (Int.fdiv (255 : Int) (2 ^ (min (Int.toNat (mm false (mm true (IntKind.i64.wrap (p1 - (IntKind.i64.wrap ((8 : Int) * p2)))) (0 : Int)) (8 : Int))) (IntKind.bits .u8))))).toNat : Int)))).toNat : Int))) p4
          else none
        else none
      else
        exchange_mask_l1 (exchange_mask_l0 k) k p1 p2 p3 p4
    else
      some (p3)
def exchange_mask (k : Nat) (a1 : List Int) (a2 : Int) : Option (List Int) :=
  exchange_mask_l0 k a2 (0 : Int) a1 (Kd.dflt (Kd.arr 16 (Kd.int .u8)))
theorem exchange_mask_l1_ok (s0 : Int → Int → List Int → List Int → Option (List Int)) (hs0 : ∀ (p1 : Int) (p2 : Int) (p3 : List Int) (p4 : List Int) (r : List Int), s0 p1 p2 p3 p4 = some r → Abs.Good P 51 Tryd.f51.ntmps [] [] (.v (.p (Kd.arr 16 (Kd.int .u8)) r)) (pos Tryd.f51 [.r, .r]) [(sk 1, some (.v (.p (Kd.int .i64) p1))), (sk 2, some (.v (.ptr 500001 0))), (sk 4, some (.v (.ptr 500002 0))), (sk 7, some (.v (.p (Kd.int .i64) p2))), (ek 500001, some (.box [.p (Kd.arr 16 (Kd.int .u8)) p3])), (ek 500002, some (.box [.p (Kd.arr 16 (Kd.int .u8)) p4]))]) (k : Nat) (p1 : Int) (p2 : Int) (p3 : List Int) (p4 : List Int) (r : List Int) (h : exchange_mask_l1 s0 k p1 p2 p3 p4 = some r) :
    Abs.Good P 51 Tryd.f51.ntmps [] [] (.v (.p (Kd.arr 16 (Kd.int .u8)) r)) (pos Tryd.f51 [.r, .r, .r, .c true, .r, .r, .r, .c false]) [(sk 1, some (.v (.p (Kd.int .i64) p1))), (sk 2, some (.v (.ptr 501001 0))), (sk 4, some (.v (.ptr 501002 0))), (sk 7, some (.v (.p (Kd.int .i64) p2))), (ek 501001, some (.box [.p (Kd.arr 16 (Kd.int .u8)) p3])), (ek 501002, some (.box [.p (Kd.arr 16 (Kd.int .u8)) p4]))] := by
  unfold exchange_mask_l1 at h
  exact Abs.Good.path hm [.reg [], .keep [sk 1, sk 2, sk 4, sk 7, ek 501001, ek 501002], .ren [(501001, 500001), (501002, 500002)]] (cs := []) (by kernel_rfl) trivial (hs0 p1 (IntKind.i64.wrap (p2 + (1 : Int))) p3 p4 r h)
theorem exchange_mask_l0_ok (k : Nat) : ∀ (p1 : Int) (p2 : Int) (p3 : List Int) (p4 : List Int) (r : List Int), exchange_mask_l0 k p1 p2 p3 p4 = some r →
    Abs.Good P 51 Tryd.f51.ntmps [] [] (.v (.p (Kd.arr 16 (Kd.int .u8)) r)) (pos Tryd.f51 [.r, .r]) [(sk 1, some (.v (.p (Kd.int .i64) p1))), (sk 2, some (.v (.ptr 500001 0))), (sk 4, some (.v (.ptr 500002 0))), (sk 7, some (.v (.p (Kd.int .i64) p2))), (ek 500001, some (.box [.p (Kd.arr 16 (Kd.int .u8)) p3])), (ek 500002, some (.box [.p (Kd.arr 16 (Kd.int .u8)) p4]))] := by
  induction k with
  | zero => intro p1 p2 p3 p4 r h; cases h
  | succ k ih =>
    intro p1 p2 p3 p4 r h
    unfold exchange_mask_l0 at h
    rcases br_inv h with ⟨h594, h⟩ | ⟨h594, h⟩
    · rcases br_inv h with ⟨h595, h⟩ | ⟨h595, h⟩
      · obtain ⟨h596, h⟩ := gd_inv h
        obtain ⟨h597, h⟩ := gd_inv h
        exact Abs.Good.path hm [.reg [], .cond true, .reg [], .reg [], .reg [], .cond true, .reg [], .keep [sk 1, sk 2, sk 4, sk 7, ek 500001, ek 500002], .ren [(500001, 501001), (500002, 501002)]] (cs := [_, _, _, _, _, _, _]) (by kernel_rfl) ⟨h594, h595, h596.1, h596.2, h597, h596.1, h596.2, trivial⟩ (exchange_mask_l1_ok (exchange_mask_l0 k) ih k p1 p2 (List.set p3 (Int.toNat p2) (IntKind.u8.wrap (((BitVec.ofInt (IntKind.bits .u8) (List.getD p3 (Int.toNat p2) (Kd.dflt (Kd.int .u8)))) &&& (BitVec.ofInt (IntKind.bits .u8) (IntKind.u8.wrap ((BitVec.ofInt (IntKind.bits .u8) (if (IntKind.signed .u8) then -1 else IntKind.max .u8) ^^^ BitVec.ofInt (IntKind.bits .u8) (Int.fdiv (255 : Int) (2 ^ (min (Int.toNat (mm false (mm true (IntKind.i64.wrap (p1 - (IntKind.i64.wrap ((8 : Int) * p2)))) (0 : Int)) (8 : Int))) (IntKind.bits .u8))))).toNat : Int)))).toNat : Int))) p4 r h)
      · exact Abs.Good.path hm [.reg [], .cond true, .reg [], .reg [], .reg [], .cond false, .keep [sk 1, sk 2, sk 4, sk 7, ek 500001, ek 500002], .ren [(500001, 501001), (500002, 501002)]] (cs := [_, _]) (by kernel_rfl) ⟨h594, h595, trivial⟩ (exchange_mask_l1_ok (exchange_mask_l0 k) ih k p1 p2 p3 p4 r h)
    · replace h := Option.some.inj h; subst h
      exact Abs.Good.path_ret hm [.reg [], .cond false, .reg []] [] Tryd.func51 (cs := [_]) (by kernel_rfl) ⟨h594, trivial⟩ (by kernel_rfl)
theorem exchange_mask_ok (k : Nat) (a1 : List Int) (a2 : Int) (r : List Int) (h : exchange_mask k a1 a2 = some r) : SpecOk P ⟨51, [.p (Kd.arr 16 (Kd.int .u8)) a1, .p (Kd.int .i64) a2], [], .v (.p (Kd.arr 16 (Kd.int .u8)) r), []⟩ := by
  refine spec_at Tryd.func51 (by kernel_rfl) (Nat.le_of_ble_eq_true (by kernel_rfl)) ?_
  unfold exchange_mask at h
  exact Abs.Good.path hm [.reg [], .reg [], .keep [sk 1, sk 2, sk 4, sk 7, ek 2, ek 4], .ren [(2, 500001), (4, 500002)]] (cs := []) (by kernel_rfl) trivial (exchange_mask_l0_ok k a2 (0 : Int) a1 (Kd.dflt (Kd.arr 16 (Kd.int .u8))) r h)

def exchange_Under (k : Nat) (a1 : List Int) (a2 : Int) (a3 : List Int) : Option (Bool) :=
  Option.bind (exchange_mask k a3 a2) fun x600 =>
  some ((Kd.eqb (Kd.arr 16 (Kd.int .u8)) x600 a1))
theorem exchange_Under_ok (k : Nat) (a1 : List Int) (a2 : Int) (a3 : List Int) (r : Bool) (h : exchange_Under k a1 a2 a3 = some r) : SpecOk P ⟨23, [.agg [.p (Kd.arr 16 (Kd.int .u8)) a1, .p (Kd.int .i64) a2], .p (Kd.arr 16 (Kd.int .u8)) a3], [], .v (.p Kd.bool r), []⟩ := by
  refine spec_at Tryd.func23 (by kernel_rfl) (Nat.le_of_ble_eq_true (by kernel_rfl)) ?_
  unfold exchange_Under at h
  obtain ⟨x600, h601, h⟩ := bind_inv h
  replace h := Option.some.inj h; subst h
  exact Abs.Good.path_ret hm [.reg [], .reg [(3, { call := some { lend := [], pass := [], res := .v (.p (Kd.arr 16 (Kd.int .u8)) x600), outs := [], back := [] } })]] [] Tryd.func23 (cs := [_, _]) (by kernel_rfl) ⟨(exchange_mask_ok k a3 a2 _ h601), eq26, trivial⟩ (by kernel_rfl)

def exchange_under_2 (k : Nat) (a1 : Int) (a2 : List Int) (a3 : Int) (a4 : List It) : Option (Bool) :=
  if 0 ≤ a1 ∧ a1 < (List.length a4 : Int) then
    Option.bind (exchange_Under k a2 a3 ((List.getD a4 (Int.toNat a1) (Kd.dflt KI)).1)) fun x605 =>
    some ((!x605))
  else none
theorem exchange_under_2_ok (k : Nat) (a1 : Int) (a2 : List Int) (a3 : Int) (a4 : List It) (r : Bool) (h : exchange_under_2 k a1 a2 a3 a4 = some r) : SpecOk P ⟨73, [.p (Kd.int .i64) a1, .ptr 1000001 0, .ptr 1000002 0], [(1000001, .box [.p (Kd.arr 16 (Kd.int .u8)) a2, .p (Kd.int .i64) a3]), (1000002, .box [.p (Kd.sl KI) a4])], .v (.p Kd.bool r), [(1000001, .box [.p (Kd.arr 16 (Kd.int .u8)) a2, .p (Kd.int .i64) a3]), (1000002, .box [.p (Kd.sl KI) a4])]⟩ := by
  refine spec_at Tryd.func73 (by kernel_rfl) (Nat.le_of_ble_eq_true (by kernel_rfl)) ?_
  unfold exchange_under_2 at h
  obtain ⟨h604, h⟩ := gd_inv h
  obtain ⟨x605, h606, h⟩ := bind_inv h
  replace h := Option.some.inj h; subst h
  exact Abs.Good.path_ret hm [.reg [], .reg [(6, { call := some { lend := [], pass := [], res := .v (.p Kd.bool x605), outs := [], back := [] } })]] [] Tryd.func73 (cs := [_, _, _]) (by kernel_rfl) ⟨h604.1, h604.2, (exchange_Under_ok k a2 a3 ((List.getD a4 (Int.toNat a1) (Kd.dflt KI)).1) _ h606), trivial⟩ (by kernel_rfl)

def sort_Search_71_l0 : Nat → Int → Int → List Int → Int → List It → Option (Int)
  | 0, _, _, _, _, _ => none
  | k + 1, p1, p2, p3, p4, p5 =>
    if (decide (p1 < p2)) = true then
      Option.bind (exchange_under_2 k (IntKind.i64.wrap (Int.fdiv (IntKind.u64.wrap (IntKind.i64.wrap (p1 + p2))) (2 ^ (min (Int.toNat (1 : Int)) (IntKind.bits .u64))))) p3 p4 p5) fun x611 =>
      if (!x611) = true then
        sort_Search_71_l0 k (IntKind.i64.wrap ((IntKind.i64.wrap (Int.fdiv (IntKind.u64.wrap (IntKind.i64.wrap (p1 + p2))) (2 ^ (min (Int.toNat (1 : Int)) (IntKind.bits .u64))))) + (1 : Int))) p2 p3 p4 p5
      else
        sort_Search_71_l0 k p1 (IntKind.i64.wrap (Int.fdiv (IntKind.u64.wrap (IntKind.i64.wrap (p1 + p2))) (2 ^ (min (Int.toNat (1 : Int)) (IntKind.bits .u64))))) p3 p4 p5
    else
      some (p1)
def sort_Search_71 (k : Nat) (a1 : Int) (a2 : List Int) (a3 : Int) (a4 : List It) : Option (Int) :=
  sort_Search_71_l0 k (0 : Int) a1 a2 a3 a4
theorem sort_Search_71_l0_ok (k : Nat) : ∀ (p1 : Int) (p2 : Int) (p3 : List Int) (p4 : Int) (p5 : List It) (r : Int), sort_Search_71_l0 k p1 p2 p3 p4 p5 = some r →
    Abs.Good P 71 Tryd.f71.ntmps [1000001, 1000002] [(1000001, .box [.p (Kd.arr 16 (Kd.int .u8)) p3, .p (Kd.int .i64) p4]), (1000002, .box [.p (Kd.sl KI) p5])] (.v (.p (Kd.int .i64) r)) (pos Tryd.f71 [.r, .r]) [(sk 1, some (.v (.fn 73 [.ptr 1000001 0, .ptr 1000002 0]))), (sk 5, some (.v (.p (Kd.int .i64) p1))), (sk 6, some (.v (.p (Kd.int .i64) p2))), (ek 1000001, some (.box [.p (Kd.arr 16 (Kd.int .u8)) p3, .p (Kd.int .i64) p4])), (ek 1000002, some (.box [.p (Kd.sl KI) p5]))] := by
  induction k with
  | zero => intro p1 p2 p3 p4 p5 r h; cases h
  | succ k ih =>
    intro p1 p2 p3 p4 p5 r h
    unfold sort_Search_71_l0 at h
    rcases br_inv h with ⟨h610, h⟩ | ⟨h610, h⟩
    · obtain ⟨x611, h612, h⟩ := bind_inv h
      rcases br_inv h with ⟨h613, h⟩ | ⟨h613, h⟩
      · exact Abs.Good.path hm [.reg [], .cond true, .reg [], .reg [(2, { call := some { lend := [], pass := [(1000001, 1000001), (1000002, 1000002)], res := .v (.p Kd.bool x611), outs := [(1000001, .box [.p (Kd.arr 16 (Kd.int .u8)) p3, .p (Kd.int .i64) p4]), (1000002, .box [.p (Kd.sl KI) p5])], back := [(1000001, 1000001), (1000002, 1000002)], same := [1000001, 1000002] } })], .cond true, .reg [], .keep [sk 1, sk 5, sk 6, ek 1000001, ek 1000002]] (cs := [_, _, _, _, _, _]) (by kernel_rfl) ⟨h610, (by decide : 0 ≤ (1 : Int)), (rfl : (.box [.p (Kd.sl KI) p5] : Val) = .box [.p (Kd.sl KI) p5]), (rfl : (.box [.p (Kd.arr 16 (Kd.int .u8)) p3, .p (Kd.int .i64) p4] : Val) = .box [.p (Kd.arr 16 (Kd.int .u8)) p3, .p (Kd.int .i64) p4]), (exchange_under_2_ok k (IntKind.i64.wrap (Int.fdiv (IntKind.u64.wrap (IntKind.i64.wrap (p1 + p2))) (2 ^ (min (Int.toNat (1 : Int)) (IntKind.bits .u64))))) p3 p4 p5 _ h612), h613, trivial⟩ (ih (IntKind.i64.wrap ((IntKind.i64.wrap (Int.fdiv (IntKind.u64.wrap (IntKind.i64.wrap (p1 + p2))) (2 ^ (min (Int.toNat (1 : Int)) (IntKind.bits .u64))))) + (1 : Int))) p2 p3 p4 p5 r h)
      · exact Abs.Good.path hm [.reg [], .cond true, .reg [], .reg [(2, { call := some { lend := [], pass := [(1000001, 1000001), (1000002, 1000002)], res := .v (.p Kd.bool x611), outs := [(1000001, .box [.p (Kd.arr 16 (Kd.int .u8)) p3, .p (Kd.int .i64) p4]), (1000002, .box [.p (Kd.sl KI) p5])], back := [(1000001, 1000001), (1000002, 1000002)], same := [1000001, 1000002] } })], .cond false, .reg [], .keep [sk 1, sk 5, sk 6, ek 1000001, ek 1000002]] (cs := [_, _, _, _, _, _]) (by kernel_rfl) ⟨h610, (by decide : 0 ≤ (1 : Int)), (rfl : (.box [.p (Kd.sl KI) p5] : Val) = .box [.p (Kd.sl KI) p5]), (rfl : (.box [.p (Kd.arr 16 (Kd.int .u8)) p3, .p (Kd.int .i64) p4] : Val) = .box [.p (Kd.arr 16 (Kd.int .u8)) p3, .p (Kd.int .i64) p4]), (exchange_under_2_ok k (IntKind.i64.wrap (Int.fdiv (IntKind.u64.wrap (IntKind.i64.wrap (p1 + p2))) (2 ^ (min (Int.toNat (1 : Int)) (IntKind.bits .u64))))) p3 p4 p5 _ h612), h613, trivial⟩ (ih p1 (IntKind.i64.wrap (Int.fdiv (IntKind.u64.wrap (IntKind.i64.wrap (p1 + p2))) (2 ^ (min (Int.toNat (1 : Int)) (IntKind.bits .u64))))) p3 p4 p5 r h)
    · replace h := Option.some.inj h; subst h
      exact Abs.Good.path_ret hm [.reg [], .cond false, .reg []] [] Tryd.func71 (cs := [_]) (by kernel_rfl) ⟨h610, trivial⟩ (by kernel_rfl)
theorem sort_Search_71_ok (k : Nat) (a1 : Int) (a2 : List Int) (a3 : Int) (a4 : List It) (r : Int) (h : sort_Search_71 k a1 a2 a3 a4 = some r) : SpecOk P ⟨71, [.p (Kd.int .i64) a1, .fn 73 [.ptr 1000001 0, .ptr 1000002 0]], [(1000001, .box [.p (Kd.arr 16 (Kd.int .u8)) a2, .p (Kd.int .i64) a3]), (1000002, .box [.p (Kd.sl KI) a4])], .v (.p (Kd.int .i64) r), [(1000001, .box [.p (Kd.arr 16 (Kd.int .u8)) a2, .p (Kd.int .i64) a3]), (1000002, .box [.p (Kd.sl KI) a4])]⟩ := by
  refine spec_at Tryd.func71 (by kernel_rfl) (Nat.le_of_ble_eq_true (by kernel_rfl)) ?_
  unfold sort_Search_71 at h
  exact Abs.Good.path hm [.reg [], .reg [], .keep [sk 1, sk 5, sk 6, ek 1000001, ek 1000002]] (cs := []) (by kernel_rfl) trivial (sort_Search_71_l0_ok k (0 : Int) a1 a2 a3 a4 r h)

def exchange_under (k : Nat) (a1 : List It) (a2 : List Int) (a3 : Int) : Option (List It) :=
  Option.bind (sort_Search k (List.length a1 : Int) a1 a2 a3) fun x617 =>
  if 0 ≤ x617 ∧ x617 ≤ (List.length a1 : Int) then
    Option.bind (sort_Search_71 k (List.length (List.drop (Int.toNat x617) a1) : Int) a2 a3 (List.drop (Int.toNat x617) a1)) fun x620 =>
    if 0 ≤ x620 ∧ x620 ≤ (List.length (List.drop (Int.toNat x617) a1) : Int) then
      some ((List.take (Int.toNat x620) (List.drop (Int.toNat x617) a1)))
    else none
  else none
theorem exchange_under_ok (k : Nat) (a1 : List It) (a2 : List Int) (a3 : Int) (r : List It) (h : exchange_under k a1 a2 a3 = some r) : SpecOk P ⟨49, [.agg [.p (Kd.sl KI) a1], .agg [.p (Kd.arr 16 (Kd.int .u8)) a2, .p (Kd.int .i64) a3]], [], .v (.p (Kd.sl KI) r), []⟩ := by
  refine spec_at Tryd.func49 (by kernel_rfl) (Nat.le_of_ble_eq_true (by kernel_rfl)) ?_
  unfold exchange_under at h
  obtain ⟨x617, h618, h⟩ := bind_inv h
  obtain ⟨h619, h⟩ := gd_inv h
  obtain ⟨x620, h621, h⟩ := bind_inv h
  obtain ⟨h622, h⟩ := gd_inv h
  replace h := Option.some.inj h; subst h
  exact Abs.Good.path_ret hm [.reg [], .reg [(4, { call := some { lend := [], pass := [(2, 1000001), (3, 1000002)], res := .v (.p (Kd.int .i64) x617), outs := [(1000001, .box [.p (Kd.sl KI) a1]), (1000002, .box [.p (Kd.arr 16 (Kd.int .u8)) a2, .p (Kd.int .i64) a3])], back := [(1000001, 2), (1000002, 3)], same := [2, 3] } })], .reg [], .reg [(4, { call := some { lend := [], pass := [(3, 1000001), (6, 1000002)], res := .v (.p (Kd.int .i64) x620), outs := [(1000001, .box [.p (Kd.arr 16 (Kd.int .u8)) a2, .p (Kd.int .i64) a3]), (1000002, .box [.p (Kd.sl KI) (List.drop (Int.toNat x617) a1)])], back := [(1000001, 3), (1000002, 6)], same := [3, 6] } })]] [] Tryd.func49 (cs := [_, _, _, _, _, _, _, _, _, _]) (by kernel_rfl) ⟨(rfl : (.box [.p (Kd.arr 16 (Kd.int .u8)) a2, .p (Kd.int .i64) a3] : Val) = .box [.p (Kd.arr 16 (Kd.int .u8)) a2, .p (Kd.int .i64) a3]), (rfl : (.box [.p (Kd.sl KI) a1] : Val) = .box [.p (Kd.sl KI) a1]), (sort_Search_ok k (List.length a1 : Int) a1 a2 a3 _ h618), h619.1, h619.2, (rfl : (.box [.p (Kd.sl KI) (List.drop (Int.toNat x617) a1)] : Val) = .box [.p (Kd.sl KI) (List.drop (Int.toNat x617) a1)]), (rfl : (.box [.p (Kd.arr 16 (Kd.int .u8)) a2, .p (Kd.int .i64) a3] : Val) = .box [.p (Kd.arr 16 (Kd.int .u8)) a2, .p (Kd.int .i64) a3]), (sort_Search_71_ok k (List.length (List.drop (Int.toNat x617) a1) : Int) a2 a3 (List.drop (Int.toNat x617) a1) _ h621), h622.1, h622.2, trivial⟩ (by kernel_rfl)

def exchange_Sum_l0 : Nat → List It → Int → Int → List Int → List ByteArray → Option (List Int × Int)
  | 0, _, _, _, _, _ => none
  | k + 1, p1, p2, p3, p4, p5 =>
    if (decide (p3 < p2)) = true then
      if 0 ≤ p3 ∧ p3 < (List.length p1 : Int) then
        if List.length p5 + List.length ([(strOf (List.take 16 (List.drop 0 ((List.getD p1 (Int.toNat p3) (Kd.dflt KI)).1))))] : List ByteArray) ≤ 8796093022208 then
          exchange_Sum_l0 k p1 p2 (IntKind.i64.wrap (p3 + (1 : Int))) p4 (p5 ++ ([(strOf (List.take 16 (List.drop 0 ((List.getD p1 (Int.toNat p3) (Kd.dflt KI)).1))))] : List ByteArray))
        else none
      else none
    else
      Option.bind (hash_Of k (45 : Int) p5) fun x642 =>
      some (x642, ((List.length p5) : Int))
def exchange_Sum (k : Nat) (a1 : List It) (a2 : List Int) (a3 : Int) : Option (List Int × Int) :=
  Option.bind (exchange_under k a1 a2 a3) fun x637 =>
  exchange_Sum_l0 k x637 (List.length x637 : Int) (0 : Int) (Kd.dflt (Kd.arr 16 (Kd.int .u8))) ([] : List ByteArray)
theorem exchange_Sum_l0_ok (k : Nat) : ∀ (p1 : List It) (p2 : Int) (p3 : Int) (p4 : List Int) (p5 : List ByteArray) (r : List Int × Int), exchange_Sum_l0 k p1 p2 p3 p4 p5 = some r →
    Abs.Good P 20 Tryd.f20.ntmps [] [] (.t [.p (Kd.arr 16 (Kd.int .u8)) r.1, .p (Kd.int .i64) r.2]) (pos Tryd.f20 [.r, .r, .r]) [(sk 4, some (.v (.ptr 500001 0))), (sk 6, some (.v (.row 500002 (List.length p5)))), (sk 11, some (.v (.p (Kd.sl KI) p1))), (sk 12, some (.v (.p (Kd.int .i64) p2))), (sk 13, some (.v (.p (Kd.int .i64) p3))), (ek 500001, some (.box [.p (Kd.arr 16 (Kd.int .u8)) p4])), (ek 500002, some (.row Kd.str 9 p5))] := by
  induction k with
  | zero => intro p1 p2 p3 p4 p5 r h; cases h
  | succ k ih =>
    intro p1 p2 p3 p4 p5 r h
    unfold exchange_Sum_l0 at h
    rcases br_inv h with ⟨h639, h⟩ | ⟨h639, h⟩
    · obtain ⟨h640, h⟩ := gd_inv h
      obtain ⟨h641, h⟩ := gd_inv h
      exact Abs.Good.path hm [.reg [], .cond true, .reg [], .reg [], .reg [], .keep [sk 4, sk 6, sk 11, sk 12, sk 13, ek 500001, ek 22], .ren [(500001, 500001), (22, 500002)]] (cs := [_, _, _, _, _, _]) (by kernel_rfl) ⟨h639, h640.1, h640.2, (rfl : (List.length p5) = List.length p5), (appBound (P := P) (et := 9) (b := 16) (by kernel_rfl) (by decide) h641), (rfl : 1 = List.length ([(strOf (List.take 16 (List.drop 0 ((List.getD p1 (Int.toNat p3) (Kd.dflt KI)).1))))] : List ByteArray)), trivial⟩ (ih p1 p2 (IntKind.i64.wrap (p3 + (1 : Int))) p4 (p5 ++ ([(strOf (List.take 16 (List.drop 0 ((List.getD p1 (Int.toNat p3) (Kd.dflt KI)).1))))] : List ByteArray)) r h)
    · obtain ⟨x642, h643, h⟩ := bind_inv h
      replace h := Option.some.inj h; subst h
      exact Abs.Good.path_ret hm [.reg [], .cond false, .reg [(1, { call := some { lend := [(500002, false)], pass := [], res := .v (.p (Kd.arr 16 (Kd.int .u8)) x642), outs := [], back := [] } })]] [] Tryd.func20 (cs := [_, _, _]) (by kernel_rfl) ⟨h639, (hash_Of_ok k (45 : Int) p5 _ h643), (rfl : (List.length p5) = List.length p5), trivial⟩ (by kernel_rfl)
theorem exchange_Sum_ok (k : Nat) (a1 : List It) (a2 : List Int) (a3 : Int) (r : List Int × Int) (h : exchange_Sum k a1 a2 a3 = some r) : SpecOk P ⟨20, [.agg [.p (Kd.sl KI) a1], .agg [.p (Kd.arr 16 (Kd.int .u8)) a2, .p (Kd.int .i64) a3]], [], .t [.p (Kd.arr 16 (Kd.int .u8)) r.1, .p (Kd.int .i64) r.2], []⟩ := by
  refine spec_at Tryd.func20 (by kernel_rfl) (Nat.le_of_ble_eq_true (by kernel_rfl)) ?_
  unfold exchange_Sum at h
  obtain ⟨x637, h638, h⟩ := bind_inv h
  exact Abs.Good.path hm [.reg [], .reg [], .reg [(2, { call := some { lend := [], pass := [], res := .v (.p (Kd.sl KI) x637), outs := [], back := [] } })], .co (sk 6) 0 (.mk 900001 Kd.str 9), .keep [sk 4, sk 6, sk 11, sk 12, sk 13, ek 4, ek 900001], .ren [(4, 500001), (900001, 500002)]] (cs := [_]) (by kernel_rfl) ⟨(exchange_under_ok k a1 a2 a3 _ h638), trivial⟩ (exchange_Sum_l0_ok k x637 (List.length x637 : Int) (0 : Int) (Kd.dflt (Kd.arr 16 (Kd.int .u8))) ([] : List ByteArray) r h)

def exchange_sum (k : Nat) (a1 : List It) (a2 : List Int) (a3 : Int) : Option (Int × List Int × Int × List Int × Int × ByteArray) :=
  Option.bind (exchange_Sum k a1 a2 a3) fun x646 =>
  some ((1 : Int), a2, a3, x646.1, x646.2, (⟨#[]⟩ : ByteArray))
theorem exchange_sum_ok (k : Nat) (a1 : List It) (a2 : List Int) (a3 : Int) (r : Int × List Int × Int × List Int × Int × ByteArray) (h : exchange_sum k a1 a2 a3 = some r) : SpecOk P ⟨52, [.agg [.p (Kd.sl KI) a1], .agg [.p (Kd.arr 16 (Kd.int .u8)) a2, .p (Kd.int .i64) a3]], [], .v (.agg [.p (Kd.int .i64) r.1, .p (Kd.arr 16 (Kd.int .u8)) r.2.1, .p (Kd.int .i64) r.2.2.1, .p (Kd.arr 16 (Kd.int .u8)) r.2.2.2.1, .p (Kd.int .i64) r.2.2.2.2.1, .nilsl, .p Kd.str r.2.2.2.2.2]), []⟩ := by
  refine spec_at Tryd.func52 (by kernel_rfl) (Nat.le_of_ble_eq_true (by kernel_rfl)) ?_
  unfold exchange_sum at h
  obtain ⟨x646, h647, h⟩ := bind_inv h
  replace h := Option.some.inj h; subst h
  exact Abs.Good.path_ret hm [.reg [], .reg [(2, { call := some { lend := [], pass := [], res := .t [.p (Kd.arr 16 (Kd.int .u8)) x646.1, .p (Kd.int .i64) x646.2], outs := [], back := [] } })], .reg []] [] Tryd.func52 (cs := [_]) (by kernel_rfl) ⟨(exchange_Sum_ok k a1 a2 a3 _ h647), trivial⟩ (by kernel_rfl)

def exchange_Open (k : Nat) (a1 : List It) : Option (Int × List Int × Int × List Int × Int × ByteArray) :=
  Option.bind (exchange_sum k a1 (Kd.dflt (Kd.arr 16 (Kd.int .u8))) (0 : Int)) fun x650 =>
  some (x650.1, x650.2.1, x650.2.2.1, x650.2.2.2.1, x650.2.2.2.2.1, x650.2.2.2.2.2)
theorem exchange_Open_ok (k : Nat) (a1 : List It) (r : Int × List Int × Int × List Int × Int × ByteArray) (h : exchange_Open k a1 = some r) : SpecOk P ⟨29, [.agg [.p (Kd.sl KI) a1]], [], .v (.agg [.p (Kd.int .i64) r.1, .p (Kd.arr 16 (Kd.int .u8)) r.2.1, .p (Kd.int .i64) r.2.2.1, .p (Kd.arr 16 (Kd.int .u8)) r.2.2.2.1, .p (Kd.int .i64) r.2.2.2.2.1, .nilsl, .p Kd.str r.2.2.2.2.2]), []⟩ := by
  refine spec_at Tryd.func29 (by kernel_rfl) (Nat.le_of_ble_eq_true (by kernel_rfl)) ?_
  unfold exchange_Open at h
  obtain ⟨x650, h651, h⟩ := bind_inv h
  replace h := Option.some.inj h; subst h
  exact Abs.Good.path_ret hm [.reg [], .reg [(2, { call := some { lend := [], pass := [], res := .v (.agg [.p (Kd.int .i64) x650.1, .p (Kd.arr 16 (Kd.int .u8)) x650.2.1, .p (Kd.int .i64) x650.2.2.1, .p (Kd.arr 16 (Kd.int .u8)) x650.2.2.2.1, .p (Kd.int .i64) x650.2.2.2.2.1, .nilsl, .p Kd.str x650.2.2.2.2.2]), outs := [], back := [] } })]] [] Tryd.func29 (cs := [_]) (by kernel_rfl) ⟨(exchange_sum_ok k a1 (Kd.dflt (Kd.arr 16 (Kd.int .u8))) (0 : Int) _ h651), trivial⟩ (by kernel_rfl)

def exchange_fields_l1 (k : Nat) (p1 : Bool) (p2 : Bool) (p3 : Int) (p4 : List Int) (p5 : Int) (p6 : List Int) (p7 : Int) (p8 : List (List Int)) (p9 : ByteArray) : Option (Bool) :=
  if p1 = true then
    if (p3 == (1 : Int)) = true then
      if p2 = true then
        if (p3 == (4 : Int)) = true then
          some (true)
        else
          some ((ByteArray.toList p9 == ByteArray.toList (⟨#[]⟩ : ByteArray)))
      else
        if ((List.length p8 : Int) == (0 : Int)) = true then
          if (p3 == (4 : Int)) = true then
            some (true)
          else
            some ((ByteArray.toList p9 == ByteArray.toList (⟨#[]⟩ : ByteArray)))
        else
          some (false)
    else
      if (Kd.eqb (Kd.arr 16 (Kd.int .u8)) p6 ([(Kd.dflt (Kd.int .u8)), (Kd.dflt (Kd.int .u8)), (Kd.dflt (Kd.int .u8)), (Kd.dflt (Kd.int .u8)), (Kd.dflt (Kd.int .u8)), (Kd.dflt (Kd.int .u8)), (Kd.dflt (Kd.int .u8)), (Kd.dflt (Kd.int .u8)), (Kd.dflt (Kd.int .u8)), (Kd.dflt (Kd.int .u8)), (Kd.dflt (Kd.int .u8)), (Kd.dflt (Kd.int .u8)), (Kd.dflt (Kd.int .u8)), (Kd.dflt (Kd.int .u8)), (Kd.dflt (Kd.int .u8)), (Kd.dflt (Kd.int .u8))] : List Int)) = true then
        if (p7 == (0 : Int)) = true then
          if p2 = true then
            if (p3 == (4 : Int)) = true then
              some (true)
            else
              some ((ByteArray.toList p9 == ByteArray.toList (⟨#[]⟩ : ByteArray)))
          else
            if ((List.length p8 : Int) == (0 : Int)) = true then
              if (p3 == (4 : Int)) = true then
                some (true)
              else
                some ((ByteArray.toList p9 == ByteArray.toList (⟨#[]⟩ : ByteArray)))
            else
              some (false)
        else
          some (false)
      else
        some (false)
  else
    if (Kd.eqb KX (p4, (p5, ())) ((Kd.dflt (Kd.arr 16 (Kd.int .u8))), ((0 : Int), ()))) = true then
      if (p3 == (1 : Int)) = true then
        if p2 = true then
          if (p3 == (4 : Int)) = true then
            some (true)
          else
            some ((ByteArray.toList p9 == ByteArray.toList (⟨#[]⟩ : ByteArray)))
        else
          if ((List.length p8 : Int) == (0 : Int)) = true then
            if (p3 == (4 : Int)) = true then
              some (true)
            else
              some ((ByteArray.toList p9 == ByteArray.toList (⟨#[]⟩ : ByteArray)))
          else
            some (false)
      else
        if (Kd.eqb (Kd.arr 16 (Kd.int .u8)) p6 ([(Kd.dflt (Kd.int .u8)), (Kd.dflt (Kd.int .u8)), (Kd.dflt (Kd.int .u8)), (Kd.dflt (Kd.int .u8)), (Kd.dflt (Kd.int .u8)), (Kd.dflt (Kd.int .u8)), (Kd.dflt (Kd.int .u8)), (Kd.dflt (Kd.int .u8)), (Kd.dflt (Kd.int .u8)), (Kd.dflt (Kd.int .u8)), (Kd.dflt (Kd.int .u8)), (Kd.dflt (Kd.int .u8)), (Kd.dflt (Kd.int .u8)), (Kd.dflt (Kd.int .u8)), (Kd.dflt (Kd.int .u8)), (Kd.dflt (Kd.int .u8))] : List Int)) = true then
          if (p7 == (0 : Int)) = true then
            if p2 = true then
              if (p3 == (4 : Int)) = true then
                some (true)
              else
                some ((ByteArray.toList p9 == ByteArray.toList (⟨#[]⟩ : ByteArray)))
            else
              if ((List.length p8 : Int) == (0 : Int)) = true then
                if (p3 == (4 : Int)) = true then
                  some (true)
                else
                  some ((ByteArray.toList p9 == ByteArray.toList (⟨#[]⟩ : ByteArray)))
              else
                some (false)
          else
            some (false)
        else
          some (false)
    else
      some (false)
def exchange_fields_l0 (k : Nat) (p1 : Bool) (p2 : Int) (p3 : List Int) (p4 : Int) (p5 : List Int) (p6 : Int) (p7 : List (List Int)) (p8 : ByteArray) : Option (Bool) :=
  if (p2 == (2 : Int)) = true then
    exchange_fields_l1 k p1 true p2 p3 p4 p5 p6 p7 p8
  else
    exchange_fields_l1 k p1 (p2 == (3 : Int)) p2 p3 p4 p5 p6 p7 p8
def exchange_fields (k : Nat) (a1 : Int) (a2 : List Int) (a3 : Int) (a4 : List Int) (a5 : Int) (a6 : List (List Int)) (a7 : ByteArray) : Option (Bool) :=
  if (a1 == (1 : Int)) = true then
    exchange_fields_l0 k true a1 a2 a3 a4 a5 a6 a7
  else
    exchange_fields_l0 k (a1 == (2 : Int)) a1 a2 a3 a4 a5 a6 a7
theorem exchange_fields_l1_ok (k : Nat) (p1 : Bool) (p2 : Bool) (p3 : Int) (p4 : List Int) (p5 : Int) (p6 : List Int) (p7 : Int) (p8 : List (List Int)) (p9 : ByteArray) (r : Bool) (h : exchange_fields_l1 k p1 p2 p3 p4 p5 p6 p7 p8 p9 = some r) :
    Abs.Good P 58 Tryd.f58.ntmps [] [] (.v (.p Kd.bool r)) (pos Tryd.f58 [.r, .r, .r]) [(sk 1, some (.v (.ptr 501001 0))), (sk 3, some (.v (.p Kd.bool p1))), (sk 4, some (.v (.p Kd.bool p2))), (ek 501001, some (.box [.p (Kd.int .i64) p3, .p (Kd.arr 16 (Kd.int .u8)) p4, .p (Kd.int .i64) p5, .p (Kd.arr 16 (Kd.int .u8)) p6, .p (Kd.int .i64) p7, .p (Kd.sl (Kd.arr 16 (Kd.int .u8))) p8, .p Kd.str p9]))] := by
  unfold exchange_fields_l1 at h
  rcases br_inv h with ⟨h670, h⟩ | ⟨h670, h⟩
  · rcases br_inv h with ⟨h671, h⟩ | ⟨h671, h⟩
    · rcases br_inv h with ⟨h672, h⟩ | ⟨h672, h⟩
      · rcases br_inv h with ⟨h673, h⟩ | ⟨h673, h⟩
        · replace h := Option.some.inj h; subst h
          exact Abs.Good.path_ret hm [.reg [(2, { dec := some true }), (3, { dec := some true }), (4, { dec := some true }), (5, { dec := some true }), (6, { pick := some true }), (8, { dec := some true }), (9, { dec := some true }), (10, { dec := some true }), (11, { dec := some true }), (12, { dec := some true }), (13, { dec := some true }), (14, { dec := some true }), (15, { dec := some true }), (16, { dec := some true }), (20, { dec := some true }), (21, { dec := some true, pick := some true }), (22, { pick := some true }), (24, { dec := some true }), (25, { dec := some true }), (26, { dec := some true }), (27, { dec := some true }), (28, { dec := some true }), (29, { dec := some true }), (30, { dec := some true, pick := some true }), (31, { pick := some true }), (33, { dec := some true }), (34, { dec := some true }), (35, { dec := some true }), (36, { dec := some true }), (37, { dec := some true }), (38, { dec := some true }), (39, { dec := some true }), (40, { dec := some true, pick := some true }), (41, { pick := some true })]] [] Tryd.func58 (cs := [_, _, _, _, _, _, _, _, _, _, _, _, _, _, _, _, _, _, _, _, _, _, _, _, _, _, _, _, _, _, _, _, _, _, _, _, _]) (by kernel_rfl) ⟨h670, h670, h670, h670, h670, (rfl : true = true), (rfl : true = true), (rfl : true = true), (rfl : true = true), h671, h671, h671, h671, h671, h671, (rfl : true = true), h671, (rfl : true = true), (rfl : true = true), (rfl : true = true), h672, h672, h672, h672, (rfl : true = true), h672, (rfl : true = true), (rfl : true = true), (rfl : true = true), (rfl : true = true), (rfl : true = true), h673, h673, h673, (rfl : true = true), h673, (rfl : true = true), trivial⟩ (by kernel_rfl)
        · replace h := Option.some.inj h; subst h
          exact Abs.Good.path_ret hm [.reg [(2, { dec := some true }), (3, { dec := some true }), (4, { dec := some true }), (5, { dec := some true }), (6, { pick := some true }), (8, { dec := some true }), (9, { dec := some true }), (10, { dec := some true }), (11, { dec := some true }), (12, { dec := some true }), (13, { dec := some true }), (14, { dec := some true }), (15, { dec := some true }), (16, { dec := some true }), (20, { dec := some true }), (21, { dec := some true, pick := some true }), (22, { pick := some true }), (24, { dec := some true }), (25, { dec := some true }), (26, { dec := some true }), (27, { dec := some true }), (28, { dec := some true }), (29, { dec := some true }), (30, { dec := some true, pick := some true }), (31, { pick := some true }), (33, { dec := some true }), (34, { dec := some true }), (35, { dec := some true }), (36, { dec := some true }), (37, { dec := some false }), (38, { dec := some false }), (39, { dec := some false }), (40, { dec := some true, pick := some false }), (41, { pick := some true })]] [] Tryd.func58 (cs := [_, _, _, _, _, _, _, _, _, _, _, _, _, _, _, _, _, _, _, _, _, _, _, _, _, _, _, _, _, _, _, _, _, _, _, _, _]) (by kernel_rfl) ⟨h670, h670, h670, h670, h670, (rfl : true = true), (rfl : true = true), (rfl : true = true), (rfl : true = true), h671, h671, h671, h671, h671, h671, (rfl : true = true), h671, (rfl : true = true), (rfl : true = true), (rfl : true = true), h672, h672, h672, h672, (rfl : true = true), h672, (rfl : true = true), (rfl : true = true), (rfl : true = true), (rfl : true = true), (rfl : true = true), h673, h673, h673, (rfl : true = true), h673, (rfl : true = true), trivial⟩ (by kernel_rfl)
      · rcases br_inv h with ⟨h674, h⟩ | ⟨h674, h⟩
        · rcases br_inv h with ⟨h675, h⟩ | ⟨h675, h⟩
          · replace h := Option.some.inj h; subst h
            exact Abs.Good.path_ret hm [.reg [(2, { dec := some true }), (3, { dec := some true }), (4, { dec := some true }), (5, { dec := some true }), (6, { pick := some true }), (8, { dec := some true }), (9, { dec := some true }), (10, { dec := some true }), (11, { dec := some true }), (12, { dec := some true }), (13, { dec := some true }), (14, { dec := some true }), (15, { dec := some true }), (16, { dec := some true }), (20, { dec := some true }), (21, { dec := some true, pick := some true }), (22, { pick := some true }), (24, { dec := some true }), (25, { dec := some true }), (26, { dec := some false }), (27, { dec := some false }), (28, { dec := some false }), (29, { dec := some false }), (30, { dec := some true, pick := some false }), (31, { pick := some true }), (33, { dec := some true }), (34, { dec := some true }), (35, { dec := some true }), (36, { dec := some true }), (37, { dec := some true }), (38, { dec := some true }), (39, { dec := some true }), (40, { dec := some true, pick := some true }), (41, { pick := some true })]] [] Tryd.func58 (cs := [_, _, _, _, _, _, _, _, _, _, _, _, _, _, _, _, _, _, _, _, _, _, _, _, _, _, _, _, _, _, _, _, _, _, _, _, _]) (by kernel_rfl) ⟨h670, h670, h670, h670, h670, (rfl : true = true), (rfl : true = true), (rfl : true = true), (rfl : true = true), h671, h671, h671, h671, h671, h671, (rfl : true = true), h671, (rfl : true = true), (rfl : true = true), (rfl : true = true), h672, h672, h672, h672, (rfl : true = true), h672, (rfl : true = true), h674, h674, h674, h674, h675, h675, h675, h674, h675, h674, trivial⟩ (by kernel_rfl)
          · replace h := Option.some.inj h; subst h
            exact Abs.Good.path_ret hm [.reg [(2, { dec := some true }), (3, { dec := some true }), (4, { dec := some true }), (5, { dec := some true }), (6, { pick := some true }), (8, { dec := some true }), (9, { dec := some true }), (10, { dec := some true }), (11, { dec := some true }), (12, { dec := some true }), (13, { dec := some true }), (14, { dec := some true }), (15, { dec := some true }), (16, { dec := some true }), (20, { dec := some true }), (21, { dec := some true, pick := some true }), (22, { pick := some true }), (24, { dec := some true }), (25, { dec := some true }), (26, { dec := some false }), (27, { dec := some false }), (28, { dec := some false }), (29, { dec := some false }), (30, { dec := some true, pick := some false }), (31, { pick := some true }), (33, { dec := some true }), (34, { dec := some true }), (35, { dec := some true }), (36, { dec := some true }), (37, { dec := some false }), (38, { dec := some false }), (39, { dec := some false }), (40, { dec := some true, pick := some false }), (41, { pick := some true })]] [] Tryd.func58 (cs := [_, _, _, _, _, _, _, _, _, _, _, _, _, _, _, _, _, _, _, _, _, _, _, _, _, _, _, _, _, _, _, _, _, _, _, _, _]) (by kernel_rfl) ⟨h670, h670, h670, h670, h670, (rfl : true = true), (rfl : true = true), (rfl : true = true), (rfl : true = true), h671, h671, h671, h671, h671, h671, (rfl : true = true), h671, (rfl : true = true), (rfl : true = true), (rfl : true = true), h672, h672, h672, h672, (rfl : true = true), h672, (rfl : true = true), h674, h674, h674, h674, h675, h675, h675, h674, h675, h674, trivial⟩ (by kernel_rfl)
        · replace h := Option.some.inj h; subst h
          exact Abs.Good.path_ret hm [.reg [(2, { dec := some true }), (3, { dec := some true }), (4, { dec := some true }), (5, { dec := some true }), (6, { pick := some true }), (8, { dec := some true }), (9, { dec := some true }), (10, { dec := some true }), (11, { dec := some true }), (12, { dec := some true }), (13, { dec := some true }), (14, { dec := some true }), (15, { dec := some true }), (16, { dec := some true }), (20, { dec := some true }), (21, { dec := some true, pick := some true }), (22, { pick := some true }), (24, { dec := some true }), (25, { dec := some true }), (26, { dec := some false }), (27, { dec := some false }), (28, { dec := some false }), (29, { dec := some false }), (30, { dec := some true, pick := some false }), (31, { pick := some true }), (33, { dec := some false }), (34, { dec := some false }), (35, { dec := some false }), (36, { dec := some false }), (40, { dec := some false }), (41, { pick := some false })]] [] Tryd.func58 (cs := [_, _, _, _, _, _, _, _, _, _, _, _, _, _, _, _, _, _, _, _, _, _, _, _, _, _, _, _, _, _, _, _, _]) (by kernel_rfl) ⟨h670, h670, h670, h670, h670, (rfl : true = true), (rfl : true = true), (rfl : true = true), (rfl : true = true), h671, h671, h671, h671, h671, h671, (rfl : true = true), h671, (rfl : true = true), (rfl : true = true), (rfl : true = true), h672, h672, h672, h672, (rfl : true = true), h672, (rfl : true = true), h674, h674, h674, h674, h674, h674, trivial⟩ (by kernel_rfl)
    · rcases br_inv h with ⟨h676, h⟩ | ⟨h676, h⟩
      · rcases br_inv h with ⟨h677, h⟩ | ⟨h677, h⟩
        · rcases br_inv h with ⟨h678, h⟩ | ⟨h678, h⟩
          · rcases br_inv h with ⟨h679, h⟩ | ⟨h679, h⟩
            · replace h := Option.some.inj h; subst h
              exact Abs.Good.path_ret hm [.reg [(2, { dec := some true }), (3, { dec := some true }), (4, { dec := some true }), (5, { dec := some true }), (6, { pick := some true }), (8, { dec := some true }), (9, { dec := some true }), (10, { dec := some true }), (11, { dec := some true }), (12, { dec := some false }), (13, { dec := some false }), (14, { dec := some false }), (15, { dec := some false }), (16, { dec := some false }), (17, { dec := some true }), (18, { dec := some true }), (19, { dec := some true }), (20, { dec := some false, pick := some true }), (21, { dec := some true, pick := some false }), (22, { pick := some true }), (24, { dec := some true }), (25, { dec := some true }), (26, { dec := some true }), (27, { dec := some true }), (28, { dec := some true }), (29, { dec := some true }), (30, { dec := some true, pick := some true }), (31, { pick := some true }), (33, { dec := some true }), (34, { dec := some true }), (35, { dec := some true }), (36, { dec := some true }), (37, { dec := some true }), (38, { dec := some true }), (39, { dec := some true }), (40, { dec := some true, pick := some true }), (41, { pick := some true })]] [] Tryd.func58 (cs := [_, _, _, _, _, _, _, _, _, _, _, _, _, _, _, _, _, _, _, _, _, _, _, _, _, _, _, _, _, _, _, _, _, _, _, _, _, _, _, _, _, _]) (by kernel_rfl) ⟨h670, h670, h670, h670, h670, (rfl : true = true), (rfl : true = true), (rfl : true = true), (rfl : true = true), h671, h671, h671, h671, eq26, h671, h676, h676, h676, h671, h676, (rfl : true = true), h671, (rfl : true = true), h677, h677, h678, h678, h678, h678, h677, h678, h677, (rfl : true = true), (rfl : true = true), (rfl : true = true), (rfl : true = true), h679, h679, h679, (rfl : true = true), h679, (rfl : true = true), trivial⟩ (by kernel_rfl)
            · replace h := Option.some.inj h; subst h
              exact Abs.Good.path_ret hm [.reg [(2, { dec := some true }), (3, { dec := some true }), (4, { dec := some true }), (5, { dec := some true }), (6, { pick := some true }), (8, { dec := some true }), (9, { dec := some true }), (10, { dec := some true }), (11, { dec := some true }), (12, { dec := some false }), (13, { dec := some false }), (14, { dec := some false }), (15, { dec := some false }), (16, { dec := some false }), (17, { dec := some true }), (18, { dec := some true }), (19, { dec := some true }), (20, { dec := some false, pick := some true }), (21, { dec := some true, pick := some false }), (22, { pick := some true }), (24, { dec := some true }), (25, { dec := some true }), (26, { dec := some true }), (27, { dec := some true }), (28, { dec := some true }), (29, { dec := some true }), (30, { dec := some true, pick := some true }), (31, { pick := some true }), (33, { dec := some true }), (34, { dec := some true }), (35, { dec := some true }), (36, { dec := some true }), (37, { dec := some false }), (38, { dec := some false }), (39, { dec := some false }), (40, { dec := some true, pick := some false }), (41, { pick := some true })]] [] Tryd.func58 (cs := [_, _, _, _, _, _, _, _, _, _, _, _, _, _, _, _, _, _, _, _, _, _, _, _, _, _, _, _, _, _, _, _, _, _, _, _, _, _, _, _, _, _]) (by kernel_rfl) ⟨h670, h670, h670, h670, h670, (rfl : true = true), (rfl : true = true), (rfl : true = true), (rfl : true = true), h671, h671, h671, h671, eq26, h671, h676, h676, h676, h671, h676, (rfl : true = true), h671, (rfl : true = true), h677, h677, h678, h678, h678, h678, h677, h678, h677, (rfl : true = true), (rfl : true = true), (rfl : true = true), (rfl : true = true), h679, h679, h679, (rfl : true = true), h679, (rfl : true = true), trivial⟩ (by kernel_rfl)
          · rcases br_inv h with ⟨h680, h⟩ | ⟨h680, h⟩
            · rcases br_inv h with ⟨h681, h⟩ | ⟨h681, h⟩
              · replace h := Option.some.inj h; subst h
                exact Abs.Good.path_ret hm [.reg [(2, { dec := some true }), (3, { dec := some true }), (4, { dec := some true }), (5, { dec := some true }), (6, { pick := some true }), (8, { dec := some true }), (9, { dec := some true }), (10, { dec := some true }), (11, { dec := some true }), (12, { dec := some false }), (13, { dec := some false }), (14, { dec := some false }), (15, { dec := some false }), (16, { dec := some false }), (17, { dec := some true }), (18, { dec := some true }), (19, { dec := some true }), (20, { dec := some false, pick := some true }), (21, { dec := some true, pick := some false }), (22, { pick := some true }), (24, { dec := some true }), (25, { dec := some true }), (26, { dec := some false }), (27, { dec := some false }), (28, { dec := some false }), (29, { dec := some false }), (30, { dec := some true, pick := some false }), (31, { pick := some true }), (33, { dec := some true }), (34, { dec := some true }), (35, { dec := some true }), (36, { dec := some true }), (37, { dec := some true }), (38, { dec := some true }), (39, { dec := some true }), (40, { dec := some true, pick := some true }), (41, { pick := some true })]] [] Tryd.func58 (cs := [_, _, _, _, _, _, _, _, _, _, _, _, _, _, _, _, _, _, _, _, _, _, _, _, _, _, _, _, _, _, _, _, _, _, _, _, _, _, _, _, _, _]) (by kernel_rfl) ⟨h670, h670, h670, h670, h670, (rfl : true = true), (rfl : true = true), (rfl : true = true), (rfl : true = true), h671, h671, h671, h671, eq26, h671, h676, h676, h676, h671, h676, (rfl : true = true), h671, (rfl : true = true), h677, h677, h678, h678, h678, h678, h677, h678, h677, h680, h680, h680, h680, h681, h681, h681, h680, h681, h680, trivial⟩ (by kernel_rfl)
              · replace h := Option.some.inj h; subst h
                exact Abs.Good.path_ret hm [.reg [(2, { dec := some true }), (3, { dec := some true }), (4, { dec := some true }), (5, { dec := some true }), (6, { pick := some true }), (8, { dec := some true }), (9, { dec := some true }), (10, { dec := some true }), (11, { dec := some true }), (12, { dec := some false }), (13, { dec := some false }), (14, { dec := some false }), (15, { dec := some false }), (16, { dec := some false }), (17, { dec := some true }), (18, { dec := some true }), (19, { dec := some true }), (20, { dec := some false, pick := some true }), (21, { dec := some true, pick := some false }), (22, { pick := some true }), (24, { dec := some true }), (25, { dec := some true }), (26, { dec := some false }), (27, { dec := some false }), (28, { dec := some false }), (29, { dec := some false }), (30, { dec := some true, pick := some false }), (31, { pick := some true }), (33, { dec := some true }), (34, { dec := some true }), (35, { dec := some true }), (36, { dec := some true }), (37, { dec := some false }), (38, { dec := some false }), (39, { dec := some false }), (40, { dec := some true, pick := some false }), (41, { pick := some true })]] [] Tryd.func58 (cs := [_, _, _, _, _, _, _, _, _, _, _, _, _, _, _, _, _, _, _, _, _, _, _, _, _, _, _, _, _, _, _, _, _, _, _, _, _, _, _, _, _, _]) (by kernel_rfl) ⟨h670, h670, h670, h670, h670, (rfl : true = true), (rfl : true = true), (rfl : true = true), (rfl : true = true), h671, h671, h671, h671, eq26, h671, h676, h676, h676, h671, h676, (rfl : true = true), h671, (rfl : true = true), h677, h677, h678, h678, h678, h678, h677, h678, h677, h680, h680, h680, h680, h681, h681, h681, h680, h681, h680, trivial⟩ (by kernel_rfl)
            · replace h := Option.some.inj h; subst h
              exact Abs.Good.path_ret hm [.reg [(2, { dec := some true }), (3, { dec := some true }), (4, { dec := some true }), (5, { dec := some true }), (6, { pick := some true }), (8, { dec := some true }), (9, { dec := some true }), (10, { dec := some true }), (11, { dec := some true }), (12, { dec := some false }), (13, { dec := some false }), (14, { dec := some false }), (15, { dec := some false }), (16, { dec := some false }), (17, { dec := some true }), (18, { dec := some true }), (19, { dec := some true }), (20, { dec := some false, pick := some true }), (21, { dec := some true, pick := some false }), (22, { pick := some true }), (24, { dec := some true }), (25, { dec := some true }), (26, { dec := some false }), (27, { dec := some false }), (28, { dec := some false }), (29, { dec := some false }), (30, { dec := some true, pick := some false }), (31, { pick := some true }), (33, { dec := some false }), (34, { dec := some false }), (35, { dec := some false }), (36, { dec := some false }), (40, { dec := some false }), (41, { pick := some false })]] [] Tryd.func58 (cs := [_, _, _, _, _, _, _, _, _, _, _, _, _, _, _, _, _, _, _, _, _, _, _, _, _, _, _, _, _, _, _, _, _, _, _, _, _, _]) (by kernel_rfl) ⟨h670, h670, h670, h670, h670, (rfl : true = true), (rfl : true = true), (rfl : true = true), (rfl : true = true), h671, h671, h671, h671, eq26, h671, h676, h676, h676, h671, h676, (rfl : true = true), h671, (rfl : true = true), h677, h677, h678, h678, h678, h678, h677, h678, h677, h680, h680, h680, h680, h680, h680, trivial⟩ (by kernel_rfl)
        · replace h := Option.some.inj h; subst h
          exact Abs.Good.path_ret hm [.reg [(2, { dec := some true }), (3, { dec := some true }), (4, { dec := some true }), (5, { dec := some true }), (6, { pick := some true }), (8, { dec := some true }), (9, { dec := some true }), (10, { dec := some true }), (11, { dec := some true }), (12, { dec := some false }), (13, { dec := some false }), (14, { dec := some false }), (15, { dec := some false }), (16, { dec := some false }), (17, { dec := some true }), (18, { dec := some true }), (19, { dec := some true }), (20, { dec := some false, pick := some true }), (21, { dec := some true, pick := some false }), (22, { pick := some true }), (24, { dec := some false }), (25, { dec := some false }), (30, { dec := some false }), (31, { pick := some false }), (33, { dec := some false }), (34, { dec := some false }), (35, { dec := some false }), (36, { dec := some false }), (40, { dec := some false }), (41, { pick := some false })]] [] Tryd.func58 (cs := [_, _, _, _, _, _, _, _, _, _, _, _, _, _, _, _, _, _, _, _, _, _, _, _, _, _, _, _, _, _, _, _, _]) (by kernel_rfl) ⟨h670, h670, h670, h670, h670, (rfl : true = true), (rfl : true = true), (rfl : true = true), (rfl : true = true), h671, h671, h671, h671, eq26, h671, h676, h676, h676, h671, h676, (rfl : true = true), h671, (rfl : true = true), h677, h677, h677, h677, (rfl : false = false), (rfl : false = false), (rfl : false = false), (rfl : false = false), (rfl : false = false), (rfl : false = false), trivial⟩ (by kernel_rfl)
      · replace h := Option.some.inj h; subst h
        exact Abs.Good.path_ret hm [.reg [(2, { dec := some true }), (3, { dec := some true }), (4, { dec := some true }), (5, { dec := some true }), (6, { pick := some true }), (8, { dec := some true }), (9, { dec := some true }), (10, { dec := some true }), (11, { dec := some true }), (12, { dec := some false }), (13, { dec := some false }), (14, { dec := some false }), (15, { dec := some false }), (16, { dec := some false }), (17, { dec := some false }), (18, { dec := some false }), (19, { dec := some false }), (20, { dec := some false, pick := some false }), (21, { dec := some true, pick := some false }), (22, { pick := some true }), (24, { dec := some false }), (25, { dec := some false }), (30, { dec := some false }), (31, { pick := some false }), (33, { dec := some false }), (34, { dec := some false }), (35, { dec := some false }), (36, { dec := some false }), (40, { dec := some false }), (41, { pick := some false })]] [] Tryd.func58 (cs := [_, _, _, _, _, _, _, _, _, _, _, _, _, _, _, _, _, _, _, _, _, _, _, _, _, _, _, _, _, _, _, _, _]) (by kernel_rfl) ⟨h670, h670, h670, h670, h670, (rfl : true = true), (rfl : true = true), (rfl : true = true), (rfl : true = true), h671, h671, h671, h671, eq26, h671, h676, h676, h676, h671, h676, (rfl : true = true), h671, (rfl : true = true), (rfl : false = false), (rfl : false = false), (rfl : false = false), (rfl : false = false), (rfl : false = false), (rfl : false = false), (rfl : false = false), (rfl : false = false), (rfl : false = false), (rfl : false = false), trivial⟩ (by kernel_rfl)
  · rcases br_inv h with ⟨h682, h⟩ | ⟨h682, h⟩
    · rcases br_inv h with ⟨h683, h⟩ | ⟨h683, h⟩
      · rcases br_inv h with ⟨h684, h⟩ | ⟨h684, h⟩
        · rcases br_inv h with ⟨h685, h⟩ | ⟨h685, h⟩
          · replace h := Option.some.inj h; subst h
            exact Abs.Good.path_ret hm [.reg [(2, { dec := some false }), (3, { dec := some false }), (4, { dec := some false }), (5, { dec := some false }), (6, { pick := some false }), (8, { dec := some true }), (9, { dec := some true }), (10, { dec := some true }), (11, { dec := some true }), (12, { dec := some true }), (13, { dec := some true }), (14, { dec := some true }), (15, { dec := some true }), (16, { dec := some true }), (20, { dec := some true }), (21, { dec := some true, pick := some true }), (22, { pick := some true }), (24, { dec := some true }), (25, { dec := some true }), (26, { dec := some true }), (27, { dec := some true }), (28, { dec := some true }), (29, { dec := some true }), (30, { dec := some true, pick := some true }), (31, { pick := some true }), (33, { dec := some true }), (34, { dec := some true }), (35, { dec := some true }), (36, { dec := some true }), (37, { dec := some true }), (38, { dec := some true }), (39, { dec := some true }), (40, { dec := some true, pick := some true }), (41, { pick := some true })]] [] Tryd.func58 (cs := [_, _, _, _, _, _, _, _, _, _, _, _, _, _, _, _, _, _, _, _, _, _, _, _, _, _, _, _, _, _, _, _, _, _, _, _, _, _]) (by kernel_rfl) ⟨h670, h670, h670, h670, eq28, h670, h682, h682, h682, h682, h683, h683, h683, h683, h683, h683, h682, h683, h682, (rfl : true = true), (rfl : true = true), h684, h684, h684, h684, (rfl : true = true), h684, (rfl : true = true), (rfl : true = true), (rfl : true = true), (rfl : true = true), (rfl : true = true), h685, h685, h685, (rfl : true = true), h685, (rfl : true = true), trivial⟩ (by kernel_rfl)
          · replace h := Option.some.inj h; subst h
            exact Abs.Good.path_ret hm [.reg [(2, { dec := some false }), (3, { dec := some false }), (4, { dec := some false }), (5, { dec := some false }), (6, { pick := some false }), (8, { dec := some true }), (9, { dec := some true }), (10, { dec := some true }), (11, { dec := some true }), (12, { dec := some true }), (13, { dec := some true }), (14, { dec := some true }), (15, { dec := some true }), (16, { dec := some true }), (20, { dec := some true }), (21, { dec := some true, pick := some true }), (22, { pick := some true }), (24, { dec := some true }), (25, { dec := some true }), (26, { dec := some true }), (27, { dec := some true }), (28, { dec := some true }), (29, { dec := some true }), (30, { dec := some true, pick := some true }), (31, { pick := some true }), (33, { dec := some true }), (34, { dec := some true }), (35, { dec := some true }), (36, { dec := some true }), (37, { dec := some false }), (38, { dec := some false }), (39, { dec := some false }), (40, { dec := some true, pick := some false }), (41, { pick := some true })]] [] Tryd.func58 (cs := [_, _, _, _, _, _, _, _, _, _, _, _, _, _, _, _, _, _, _, _, _, _, _, _, _, _, _, _, _, _, _, _, _, _, _, _, _, _]) (by kernel_rfl) ⟨h670, h670, h670, h670, eq28, h670, h682, h682, h682, h682, h683, h683, h683, h683, h683, h683, h682, h683, h682, (rfl : true = true), (rfl : true = true), h684, h684, h684, h684, (rfl : true = true), h684, (rfl : true = true), (rfl : true = true), (rfl : true = true), (rfl : true = true), (rfl : true = true), h685, h685, h685, (rfl : true = true), h685, (rfl : true = true), trivial⟩ (by kernel_rfl)
        · rcases br_inv h with ⟨h686, h⟩ | ⟨h686, h⟩
          · rcases br_inv h with ⟨h687, h⟩ | ⟨h687, h⟩
            · replace h := Option.some.inj h; subst h
              exact Abs.Good.path_ret hm [.reg [(2, { dec := some false }), (3, { dec := some false }), (4, { dec := some false }), (5, { dec := some false }), (6, { pick := some false }), (8, { dec := some true }), (9, { dec := some true }), (10, { dec := some true }), (11, { dec := some true }), (12, { dec := some true }), (13, { dec := some true }), (14, { dec := some true }), (15, { dec := some true }), (16, { dec := some true }), (20, { dec := some true }), (21, { dec := some true, pick := some true }), (22, { pick := some true }), (24, { dec := some true }), (25, { dec := some true }), (26, { dec := some false }), (27, { dec := some false }), (28, { dec := some false }), (29, { dec := some false }), (30, { dec := some true, pick := some false }), (31, { pick := some true }), (33, { dec := some true }), (34, { dec := some true }), (35, { dec := some true }), (36, { dec := some true }), (37, { dec := some true }), (38, { dec := some true }), (39, { dec := some true }), (40, { dec := some true, pick := some true }), (41, { pick := some true })]] [] Tryd.func58 (cs := [_, _, _, _, _, _, _, _, _, _, _, _, _, _, _, _, _, _, _, _, _, _, _, _, _, _, _, _, _, _, _, _, _, _, _, _, _, _]) (by kernel_rfl) ⟨h670, h670, h670, h670, eq28, h670, h682, h682, h682, h682, h683, h683, h683, h683, h683, h683, h682, h683, h682, (rfl : true = true), (rfl : true = true), h684, h684, h684, h684, (rfl : true = true), h684, (rfl : true = true), h686, h686, h686, h686, h687, h687, h687, h686, h687, h686, trivial⟩ (by kernel_rfl)
            · replace h := Option.some.inj h; subst h
              exact Abs.Good.path_ret hm [.reg [(2, { dec := some false }), (3, { dec := some false }), (4, { dec := some false }), (5, { dec := some false }), (6, { pick := some false }), (8, { dec := some true }), (9, { dec := some true }), (10, { dec := some true }), (11, { dec := some true }), (12, { dec := some true }), (13, { dec := some true }), (14, { dec := some true }), (15, { dec := some true }), (16, { dec := some true }), (20, { dec := some true }), (21, { dec := some true, pick := some true }), (22, { pick := some true }), (24, { dec := some true }), (25, { dec := some true }), (26, { dec := some false }), (27, { dec := some false }), (28, { dec := some false }), (29, { dec := some false }), (30, { dec := some true, pick := some false }), (31, { pick := some true }), (33, { dec := some true }), (34, { dec := some true }), (35, { dec := some true }), (36, { dec := some true }), (37, { dec := some false }), (38, { dec := some false }), (39, { dec := some false }), (40, { dec := some true, pick := some false }), (41, { pick := some true })]] [] Tryd.func58 (cs := [_, _, _, _, _, _, _, _, _, _, _, _, _, _, _, _, _, _, _, _, _, _, _, _, _, _, _, _, _, _, _, _, _, _, _, _, _, _]) (by kernel_rfl) ⟨h670, h670, h670, h670, eq28, h670, h682, h682, h682, h682, h683, h683, h683, h683, h683, h683, h682, h683, h682, (rfl : true = true), (rfl : true = true), h684, h684, h684, h684, (rfl : true = true), h684, (rfl : true = true), h686, h686, h686, h686, h687, h687, h687, h686, h687, h686, trivial⟩ (by kernel_rfl)
          · replace h := Option.some.inj h; subst h
            exact Abs.Good.path_ret hm [.reg [(2, { dec := some false }), (3, { dec := some false }), (4, { dec := some false }), (5, { dec := some false }), (6, { pick := some false }), (8, { dec := some true }), (9, { dec := some true }), (10, { dec := some true }), (11, { dec := some true }), (12, { dec := some true }), (13, { dec := some true }), (14, { dec := some true }), (15, { dec := some true }), (16, { dec := some true }), (20, { dec := some true }), (21, { dec := some true, pick := some true }), (22, { pick := some true }), (24, { dec := some true }), (25, { dec := some true }), (26, { dec := some false }), (27, { dec := some false }), (28, { dec := some false }), (29, { dec := some false }), (30, { dec := some true, pick := some false }), (31, { pick := some true }), (33, { dec := some false }), (34, { dec := some false }), (35, { dec := some false }), (36, { dec := some false }), (40, { dec := some false }), (41, { pick := some false })]] [] Tryd.func58 (cs := [_, _, _, _, _, _, _, _, _, _, _, _, _, _, _, _, _, _, _, _, _, _, _, _, _, _, _, _, _, _, _, _, _, _]) (by kernel_rfl) ⟨h670, h670, h670, h670, eq28, h670, h682, h682, h682, h682, h683, h683, h683, h683, h683, h683, h682, h683, h682, (rfl : true = true), (rfl : true = true), h684, h684, h684, h684, (rfl : true = true), h684, (rfl : true = true), h686, h686, h686, h686, h686, h686, trivial⟩ (by kernel_rfl)
      · rcases br_inv h with ⟨h688, h⟩ | ⟨h688, h⟩
        · rcases br_inv h with ⟨h689, h⟩ | ⟨h689, h⟩
          · rcases br_inv h with ⟨h690, h⟩ | ⟨h690, h⟩
            · rcases br_inv h with ⟨h691, h⟩ | ⟨h691, h⟩
              · replace h := Option.some.inj h; subst h
                exact Abs.Good.path_ret hm [.reg [(2, { dec := some false }), (3, { dec := some false }), (4, { dec := some false }), (5, { dec := some false }), (6, { pick := some false }), (8, { dec := some true }), (9, { dec := some true }), (10, { dec := some true }), (11, { dec := some true }), (12, { dec := some false }), (13, { dec := some false }), (14, { dec := some false }), (15, { dec := some false }), (16, { dec := some false }), (17, { dec := some true }), (18, { dec := some true }), (19, { dec := some true }), (20, { dec := some false, pick := some true }), (21, { dec := some true, pick := some false }), (22, { pick := some true }), (24, { dec := some true }), (25, { dec := some true }), (26, { dec := some true }), (27, { dec := some true }), (28, { dec := some true }), (29, { dec := some true }), (30, { dec := some true, pick := some true }), (31, { pick := some true }), (33, { dec := some true }), (34, { dec := some true }), (35, { dec := some true }), (36, { dec := some true }), (37, { dec := some true }), (38, { dec := some true }), (39, { dec := some true }), (40, { dec := some true, pick := some true }), (41, { pick := some true })]] [] Tryd.func58 (cs := [_, _, _, _, _, _, _, _, _, _, _, _, _, _, _, _, _, _, _, _, _, _, _, _, _, _, _, _, _, _, _, _, _, _, _, _, _, _, _, _, _, _, _]) (by kernel_rfl) ⟨h670, h670, h670, h670, eq28, h670, h682, h682, h682, h682, h683, h683, h683, h683, eq26, h683, h688, h688, h688, h683, h688, h682, h683, h682, h689, h689, h690, h690, h690, h690, h689, h690, h689, (rfl : true = true), (rfl : true = true), (rfl : true = true), (rfl : true = true), h691, h691, h691, (rfl : true = true), h691, (rfl : true = true), trivial⟩ (by kernel_rfl)
              · replace h := Option.some.inj h; subst h
                exact Abs.Good.path_ret hm [.reg [(2, { dec := some false }), (3, { dec := some false }), (4, { dec := some false }), (5, { dec := some false }), (6, { pick := some false }), (8, { dec := some true }), (9, { dec := some true }), (10, { dec := some true }), (11, { dec := some true }), (12, { dec := some false }), (13, { dec := some false }), (14, { dec := some false }), (15, { dec := some false }), (16, { dec := some false }), (17, { dec := some true }), (18, { dec := some true }), (19, { dec := some true }), (20, { dec := some false, pick := some true }), (21, { dec := some true, pick := some false }), (22, { pick := some true }), (24, { dec := some true }), (25, { dec := some true }), (26, { dec := some true }), (27, { dec := some true }), (28, { dec := some true }), (29, { dec := some true }), (30, { dec := some true, pick := some true }), (31, { pick := some true }), (33, { dec := some true }), (34, { dec := some true }), (35, { dec := some true }), (36, { dec := some true }), (37, { dec := some false }), (38, { dec := some false }), (39, { dec := some false }), (40, { dec := some true, pick := some false }), (41, { pick := some true })]] [] Tryd.func58 (cs := [_, _, _, _, _, _, _, _, _, _, _, _, _, _, _, _, _, _, _, _, _, _, _, _, _, _, _, _, _, _, _, _, _, _, _, _, _, _, _, _, _, _, _]) (by kernel_rfl) ⟨h670, h670, h670, h670, eq28, h670, h682, h682, h682, h682, h683, h683, h683, h683, eq26, h683, h688, h688, h688, h683, h688, h682, h683, h682, h689, h689, h690, h690, h690, h690, h689, h690, h689, (rfl : true = true), (rfl : true = true), (rfl : true = true), (rfl : true = true), h691, h691, h691, (rfl : true = true), h691, (rfl : true = true), trivial⟩ (by kernel_rfl)
            · rcases br_inv h with ⟨h692, h⟩ | ⟨h692, h⟩
              · rcases br_inv h with ⟨h693, h⟩ | ⟨h693, h⟩
                · replace h := Option.some.inj h; subst h
                  exact Abs.Good.path_ret hm [.reg [(2, { dec := some false }), (3, { dec := some false }), (4, { dec := some false }), (5, { dec := some false }), (6, { pick := some false }), (8, { dec := some true }), (9, { dec := some true }), (10, { dec := some true }), (11, { dec := some true }), (12, { dec := some false }), (13, { dec := some false }), (14, { dec := some false }), (15, { dec := some false }), (16, { dec := some false }), (17, { dec := some true }), (18, { dec := some true }), (19, { dec := some true }), (20, { dec := some false, pick := some true }), (21, { dec := some true, pick := some false }), (22, { pick := some true }), (24, { dec := some true }), (25, { dec := some true }), (26, { dec := some false }), (27, { dec := some false }), (28, { dec := some false }), (29, { dec := some false }), (30, { dec := some true, pick := some false }), (31, { pick := some true }), (33, { dec := some true }), (34, { dec := some true }), (35, { dec := some true }), (36, { dec := some true }), (37, { dec := some true }), (38, { dec := some true }), (39, { dec := some true }), (40, { dec := some true, pick := some true }), (41, { pick := some true })]] [] Tryd.func58 (cs := [_, _, _, _, _, _, _, _, _, _, _, _, _, _, _, _, _, _, _, _, _, _, _, _, _, _, _, _, _, _, _, _, _, _, _, _, _, _, _, _, _, _, _]) (by kernel_rfl) ⟨h670, h670, h670, h670, eq28, h670, h682, h682, h682, h682, h683, h683, h683, h683, eq26, h683, h688, h688, h688, h683, h688, h682, h683, h682, h689, h689, h690, h690, h690, h690, h689, h690, h689, h692, h692, h692, h692, h693, h693, h693, h692, h693, h692, trivial⟩ (by kernel_rfl)
                · replace h := Option.some.inj h; subst h
                  exact Abs.Good.path_ret hm [.reg [(2, { dec := some false }), (3, { dec := some false }), (4, { dec := some false }), (5, { dec := some false }), (6, { pick := some false }), (8, { dec := some true }), (9, { dec := some true }), (10, { dec := some true }), (11, { dec := some true }), (12, { dec := some false }), (13, { dec := some false }), (14, { dec := some false }), (15, { dec := some false }), (16, { dec := some false }), (17, { dec := some true }), (18, { dec := some true }), (19, { dec := some true }), (20, { dec := some false, pick := some true }), (21, { dec := some true, pick := some false }), (22, { pick := some true }), (24, { dec := some true }), (25, { dec := some true }), (26, { dec := some false }), (27, { dec := some false }), (28, { dec := some false }), (29, { dec := some false }), (30, { dec := some true, pick := some false }), (31, { pick := some true }), (33, { dec := some true }), (34, { dec := some true }), (35, { dec := some true }), (36, { dec := some true }), (37, { dec := some false }), (38, { dec := some false }), (39, { dec := some false }), (40, { dec := some true, pick := some false }), (41, { pick := some true })]] [] Tryd.func58 (cs := [_, _, _, _, _, _, _, _, _, _, _, _, _, _, _, _, _, _, _, _, _, _, _, _, _, _, _, _, _, _, _, _, _, _, _, _, _, _, _, _, _, _, _]) (by kernel_rfl) ⟨h670, h670, h670, h670, eq28, h670, h682, h682, h682, h682, h683, h683, h683, h683, eq26, h683, h688, h688, h688, h683, h688, h682, h683, h682, h689, h689, h690, h690, h690, h690, h689, h690, h689, h692, h692, h692, h692, h693, h693, h693, h692, h693, h692, trivial⟩ (by kernel_rfl)
              · replace h := Option.some.inj h; subst h
                exact Abs.Good.path_ret hm [.reg [(2, { dec := some false }), (3, { dec := some false }), (4, { dec := some false }), (5, { dec := some false }), (6, { pick := some false }), (8, { dec := some true }), (9, { dec := some true }), (10, { dec := some true }), (11, { dec := some true }), (12, { dec := some false }), (13, { dec := some false }), (14, { dec := some false }), (15, { dec := some false }), (16, { dec := some false }), (17, { dec := some true }), (18, { dec := some true }), (19, { dec := some true }), (20, { dec := some false, pick := some true }), (21, { dec := some true, pick := some false }), (22, { pick := some true }), (24, { dec := some true }), (25, { dec := some true }), (26, { dec := some false }), (27, { dec := some false }), (28, { dec := some false }), (29, { dec := some false }), (30, { dec := some true, pick := some false }), (31, { pick := some true }), (33, { dec := some false }), (34, { dec := some false }), (35, { dec := some false }), (36, { dec := some false }), (40, { dec := some false }), (41, { pick := some false })]] [] Tryd.func58 (cs := [_, _, _, _, _, _, _, _, _, _, _, _, _, _, _, _, _, _, _, _, _, _, _, _, _, _, _, _, _, _, _, _, _, _, _, _, _, _, _]) (by kernel_rfl) ⟨h670, h670, h670, h670, eq28, h670, h682, h682, h682, h682, h683, h683, h683, h683, eq26, h683, h688, h688, h688, h683, h688, h682, h683, h682, h689, h689, h690, h690, h690, h690, h689, h690, h689, h692, h692, h692, h692, h692, h692, trivial⟩ (by kernel_rfl)
          · replace h := Option.some.inj h; subst h
            exact Abs.Good.path_ret hm [.reg [(2, { dec := some false }), (3, { dec := some false }), (4, { dec := some false }), (5, { dec := some false }), (6, { pick := some false }), (8, { dec := some true }), (9, { dec := some true }), (10, { dec := some true }), (11, { dec := some true }), (12, { dec := some false }), (13, { dec := some false }), (14, { dec := some false }), (15, { dec := some false }), (16, { dec := some false }), (17, { dec := some true }), (18, { dec := some true }), (19, { dec := some true }), (20, { dec := some false, pick := some true }), (21, { dec := some true, pick := some false }), (22, { pick := some true }), (24, { dec := some false }), (25, { dec := some false }), (30, { dec := some false }), (31, { pick := some false }), (33, { dec := some false }), (34, { dec := some false }), (35, { dec := some false }), (36, { dec := some false }), (40, { dec := some false }), (41, { pick := some false })]] [] Tryd.func58 (cs := [_, _, _, _, _, _, _, _, _, _, _, _, _, _, _, _, _, _, _, _, _, _, _, _, _, _, _, _, _, _, _, _, _, _]) (by kernel_rfl) ⟨h670, h670, h670, h670, eq28, h670, h682, h682, h682, h682, h683, h683, h683, h683, eq26, h683, h688, h688, h688, h683, h688, h682, h683, h682, h689, h689, h689, h689, (rfl : false = false), (rfl : false = false), (rfl : false = false), (rfl : false = false), (rfl : false = false), (rfl : false = false), trivial⟩ (by kernel_rfl)
        · replace h := Option.some.inj h; subst h
          exact Abs.Good.path_ret hm [.reg [(2, { dec := some false }), (3, { dec := some false }), (4, { dec := some false }), (5, { dec := some false }), (6, { pick := some false }), (8, { dec := some true }), (9, { dec := some true }), (10, { dec := some true }), (11, { dec := some true }), (12, { dec := some false }), (13, { dec := some false }), (14, { dec := some false }), (15, { dec := some false }), (16, { dec := some false }), (17, { dec := some false }), (18, { dec := some false }), (19, { dec := some false }), (20, { dec := some false, pick := some false }), (21, { dec := some true, pick := some false }), (22, { pick := some true }), (24, { dec := some false }), (25, { dec := some false }), (30, { dec := some false }), (31, { pick := some false }), (33, { dec := some false }), (34, { dec := some false }), (35, { dec := some false }), (36, { dec := some false }), (40, { dec := some false }), (41, { pick := some false })]] [] Tryd.func58 (cs := [_, _, _, _, _, _, _, _, _, _, _, _, _, _, _, _, _, _, _, _, _, _, _, _, _, _, _, _, _, _, _, _, _, _]) (by kernel_rfl) ⟨h670, h670, h670, h670, eq28, h670, h682, h682, h682, h682, h683, h683, h683, h683, eq26, h683, h688, h688, h688, h683, h688, h682, h683, h682, (rfl : false = false), (rfl : false = false), (rfl : false = false), (rfl : false = false), (rfl : false = false), (rfl : false = false), (rfl : false = false), (rfl : false = false), (rfl : false = false), (rfl : false = false), trivial⟩ (by kernel_rfl)
    · replace h := Option.some.inj h; subst h
      exact Abs.Good.path_ret hm [.reg [(2, { dec := some false }), (3, { dec := some false }), (4, { dec := some false }), (5, { dec := some false }), (6, { pick := some false }), (8, { dec := some false }), (9, { dec := some false }), (10, { dec := some false }), (11, { dec := some false }), (21, { dec := some false }), (22, { pick := some false }), (24, { dec := some false }), (25, { dec := some false }), (30, { dec := some false }), (31, { pick := some false }), (33, { dec := some false }), (34, { dec := some false }), (35, { dec := some false }), (36, { dec := some false }), (40, { dec := some false }), (41, { pick := some false })]] [] Tryd.func58 (cs := [_, _, _, _, _, _, _, _, _, _, _, _, _, _, _, _, _, _, _, _, _, _]) (by kernel_rfl) ⟨h670, h670, h670, h670, eq28, h670, h682, h682, h682, h682, h682, h682, (rfl : false = false), (rfl : false = false), (rfl : false = false), (rfl : false = false), (rfl : false = false), (rfl : false = false), (rfl : false = false), (rfl : false = false), (rfl : false = false), (rfl : false = false), trivial⟩ (by kernel_rfl)
theorem exchange_fields_l0_ok (k : Nat) (p1 : Bool) (p2 : Int) (p3 : List Int) (p4 : Int) (p5 : List Int) (p6 : Int) (p7 : List (List Int)) (p8 : ByteArray) (r : Bool) (h : exchange_fields_l0 k p1 p2 p3 p4 p5 p6 p7 p8 = some r) :
    Abs.Good P 58 Tryd.f58.ntmps [] [] (.v (.p Kd.bool r)) (pos Tryd.f58 [.r, .r]) [(sk 1, some (.v (.ptr 500001 0))), (sk 3, some (.v (.p Kd.bool p1))), (ek 500001, some (.box [.p (Kd.int .i64) p2, .p (Kd.arr 16 (Kd.int .u8)) p3, .p (Kd.int .i64) p4, .p (Kd.arr 16 (Kd.int .u8)) p5, .p (Kd.int .i64) p6, .p (Kd.sl (Kd.arr 16 (Kd.int .u8))) p7, .p Kd.str p8]))] := by
  unfold exchange_fields_l0 at h
  rcases br_inv h with ⟨h669, h⟩ | ⟨h669, h⟩
  · exact Abs.Good.path hm [.reg [(4, { dec := some true }), (5, { dec := some true }), (6, { dec := some true }), (7, { pick := some true })], .keep [sk 1, sk 3, sk 4, ek 500001], .ren [(500001, 501001)]] (cs := [_, _, _, _]) (by kernel_rfl) ⟨h669, h669, h669, h669, trivial⟩ (exchange_fields_l1_ok k p1 true p2 p3 p4 p5 p6 p7 p8 r h)
  · exact Abs.Good.path hm [.reg [(4, { dec := some false }), (5, { dec := some false }), (6, { dec := some false }), (7, { pick := some false })], .keep [sk 1, sk 3, sk 4, ek 500001], .ren [(500001, 501001)]] (cs := [_, _, _, _]) (by kernel_rfl) ⟨h669, h669, h669, h669, trivial⟩ (exchange_fields_l1_ok k p1 (p2 == (3 : Int)) p2 p3 p4 p5 p6 p7 p8 r h)
theorem exchange_fields_ok (k : Nat) (a1 : Int) (a2 : List Int) (a3 : Int) (a4 : List Int) (a5 : Int) (a6 : List (List Int)) (a7 : ByteArray) (r : Bool) (h : exchange_fields k a1 a2 a3 a4 a5 a6 a7 = some r) : SpecOk P ⟨58, [.agg [.p (Kd.int .i64) a1, .p (Kd.arr 16 (Kd.int .u8)) a2, .p (Kd.int .i64) a3, .p (Kd.arr 16 (Kd.int .u8)) a4, .p (Kd.int .i64) a5, .p (Kd.sl (Kd.arr 16 (Kd.int .u8))) a6, .p Kd.str a7]], [], .v (.p Kd.bool r), []⟩ := by
  refine spec_at Tryd.func58 (by kernel_rfl) (Nat.le_of_ble_eq_true (by kernel_rfl)) ?_
  unfold exchange_fields at h
  rcases br_inv h with ⟨h668, h⟩ | ⟨h668, h⟩
  · exact Abs.Good.path hm [.reg [], .reg [(4, { dec := some true }), (5, { dec := some true }), (6, { dec := some true }), (7, { pick := some true })], .keep [sk 1, sk 3, ek 1], .ren [(1, 500001)]] (cs := [_, _, _, _]) (by kernel_rfl) ⟨h668, h668, h668, h668, trivial⟩ (exchange_fields_l0_ok k true a1 a2 a3 a4 a5 a6 a7 r h)
  · exact Abs.Good.path hm [.reg [], .reg [(4, { dec := some false }), (5, { dec := some false }), (6, { dec := some false }), (7, { pick := some false })], .keep [sk 1, sk 3, ek 1], .ren [(1, 500001)]] (cs := [_, _, _, _]) (by kernel_rfl) ⟨h668, h668, h668, h668, trivial⟩ (exchange_fields_l0_ok k (a1 == (2 : Int)) a1 a2 a3 a4 a5 a6 a7 r h)

def exchange_right (k : Nat) (a1 : List Int) (a2 : Int) : Option (Bool) :=
  if (decide (a2 ≥ (0 : Int))) = true then
    if (decide (a2 ≤ (128 : Int))) = true then
      Option.bind (exchange_mask k a1 a2) fun x708 =>
      some ((Kd.eqb (Kd.arr 16 (Kd.int .u8)) x708 a1))
    else
      some (false)
  else
    some (false)
theorem exchange_right_ok (k : Nat) (a1 : List Int) (a2 : Int) (r : Bool) (h : exchange_right k a1 a2 = some r) : SpecOk P ⟨59, [.agg [.p (Kd.arr 16 (Kd.int .u8)) a1, .p (Kd.int .i64) a2]], [], .v (.p Kd.bool r), []⟩ := by
  refine spec_at Tryd.func59 (by kernel_rfl) (Nat.le_of_ble_eq_true (by kernel_rfl)) ?_
  unfold exchange_right at h
  rcases br_inv h with ⟨h706, h⟩ | ⟨h706, h⟩
  · rcases br_inv h with ⟨h707, h⟩ | ⟨h707, h⟩
    · obtain ⟨x708, h709, h⟩ := bind_inv h
      replace h := Option.some.inj h; subst h
      exact Abs.Good.path_ret hm [.reg [], .reg [(4, { dec := some true }), (5, { dec := some true }), (6, { dec := some true }), (7, { pick := some true }), (9, { dec := some true }), (10, { dec := some true }), (11, { dec := some true }), (12, { dec := some true }), (13, { dec := some true, call := some { lend := [], pass := [], res := .v (.p (Kd.arr 16 (Kd.int .u8)) x708), outs := [], back := [] } }), (14, { dec := some true }), (15, { dec := some true }), (16, { dec := some true }), (17, { pick := some true })]] [] Tryd.func59 (cs := [_, _, _, _, _, _, _, _, _, _, _, _, _, _, _]) (by kernel_rfl) ⟨h706, h706, h706, h706, h707, h707, h707, h707, h707, (exchange_mask_ok k a1 a2 _ h709), h707, h707, h707, eq26, h707, trivial⟩ (by kernel_rfl)
    · replace h := Option.some.inj h; subst h
      exact Abs.Good.path_ret hm [.reg [], .reg [(4, { dec := some true }), (5, { dec := some true }), (6, { dec := some true }), (7, { pick := some true }), (9, { dec := some false }), (10, { dec := some false }), (11, { dec := some false }), (12, { dec := some false }), (13, { dec := some false }), (14, { dec := some false }), (15, { dec := some false }), (16, { dec := some false }), (17, { pick := some false })]] [] Tryd.func59 (cs := [_, _, _, _, _, _, _, _, _, _, _, _, _]) (by kernel_rfl) ⟨h706, h706, h706, h706, h707, h707, h707, h707, h707, h707, h707, h707, h707, trivial⟩ (by kernel_rfl)
  · replace h := Option.some.inj h; subst h
    exact Abs.Good.path_ret hm [.reg [], .reg [(4, { dec := some false }), (5, { dec := some false }), (6, { dec := some false }), (7, { pick := some false }), (9, { dec := some false }), (10, { dec := some false }), (11, { dec := some false }), (12, { dec := some false }), (13, { dec := some false }), (14, { dec := some false }), (15, { dec := some false }), (16, { dec := some false }), (17, { pick := some false })]] [] Tryd.func59 (cs := [_, _, _, _, _, _, _, _, _, _, _, _, _]) (by kernel_rfl) ⟨h706, h706, h706, h706, (rfl : false = false), (rfl : false = false), (rfl : false = false), (rfl : false = false), (rfl : false = false), (rfl : false = false), (rfl : false = false), (rfl : false = false), (rfl : false = false), trivial⟩ (by kernel_rfl)

def exchange_Check_l3 (s2 : List (List Int) → Int → Int → Int → List Int → Int → List Int → Int → List (List Int) → ByteArray → Option (Int)) (k : Nat) (p1 : List (List Int)) (p2 : Int) (p3 : Int) (p4 : Bool) (p5 : Int) (p6 : List Int) (p7 : Int) (p8 : List Int) (p9 : Int) (p10 : List (List Int)) (p11 : ByteArray) : Option (Int) :=
  if p4 = true then
    some ((3 : Int))
  else
    s2 p1 p2 (IntKind.i64.wrap (p3 + (1 : Int))) p5 p6 p7 p8 p9 p10 p11
def exchange_Check_l2 : Nat → List (List Int) → Int → Int → Int → List Int → Int → List Int → Int → List (List Int) → ByteArray → Option (Int)
  | 0, _, _, _, _, _, _, _, _, _, _ => none
  | k + 1, p1, p2, p3, p4, p5, p6, p7, p8, p9, p10 =>
    if (decide (p3 < p2)) = true then
      if 0 ≤ p3 ∧ p3 < (List.length p1 : Int) then
        if (decide (p3 > (0 : Int))) = true then
          if 0 ≤ (IntKind.i64.wrap (p3 - (1 : Int))) ∧ (IntKind.i64.wrap (p3 - (1 : Int))) < (List.length p9 : Int) then
            Option.bind (exchange_order k (List.getD p9 (Int.toNat (IntKind.i64.wrap (p3 - (1 : Int)))) (Kd.dflt (Kd.arr 16 (Kd.int .u8)))) (List.getD p1 (Int.toNat p3) (Kd.dflt (Kd.arr 16 (Kd.int .u8))))) fun x752 =>
            if (decide (x752 ≥ (0 : Int))) = true then
              exchange_Check_l3 (exchange_Check_l2 k) k p1 p2 p3 true p4 p5 p6 p7 p8 p9 p10
            else
              if (p4 == (2 : Int)) = true then
                Option.bind (exchange_Under k p5 p6 (List.getD p1 (Int.toNat p3) (Kd.dflt (Kd.arr 16 (Kd.int .u8))))) fun x756 =>
                exchange_Check_l3 (exchange_Check_l2 k) k p1 p2 p3 (!x756) p4 p5 p6 p7 p8 p9 p10
              else
                exchange_Check_l3 (exchange_Check_l2 k) k p1 p2 p3 false p4 p5 p6 p7 p8 p9 p10
          else none
        else
          if (p4 == (2 : Int)) = true then
            Option.bind (exchange_Under k p5 p6 (List.getD p1 (Int.toNat p3) (Kd.dflt (Kd.arr 16 (Kd.int .u8))))) fun x759 =>
            exchange_Check_l3 (exchange_Check_l2 k) k p1 p2 p3 (!x759) p4 p5 p6 p7 p8 p9 p10
          else
            exchange_Check_l3 (exchange_Check_l2 k) k p1 p2 p3 false p4 p5 p6 p7 p8 p9 p10
      else none
    else
      some ((0 : Int))
def exchange_Check_l1 (k : Nat) (p1 : Bool) (p2 : Int) (p3 : List Int) (p4 : Int) (p5 : List Int) (p6 : Int) (p7 : List (List Int)) (p8 : ByteArray) : Option (Int) :=
  if p1 = true then
    some ((3 : Int))
  else
    exchange_Check_l2 k p7 (List.length p7 : Int) (0 : Int) p2 p3 p4 p5 p6 p7 p8
def exchange_Check_l0 (k : Nat) (p1 : Bool) (p2 : Int) (p3 : List Int) (p4 : Int) (p5 : List Int) (p6 : Int) (p7 : List (List Int)) (p8 : ByteArray) : Option (Int) :=
  if p1 = true then
    some ((1 : Int))
  else
    Option.bind (exchange_fields k p2 p3 p4 p5 p6 p7 p8) fun x738 =>
    if (!x738) = true then
      exchange_Check_l1 k true p2 p3 p4 p5 p6 p7 p8
    else
      Option.bind (exchange_right k p3 p4) fun x741 =>
      if (!x741) = true then
        exchange_Check_l1 k true p2 p3 p4 p5 p6 p7 p8
      else
        if (decide (p6 < (0 : Int))) = true then
          exchange_Check_l1 k true p2 p3 p4 p5 p6 p7 p8
        else
          if (decide (p6 > (65536 : Int))) = true then
            exchange_Check_l1 k true p2 p3 p4 p5 p6 p7 p8
          else
            if (decide ((List.length p7 : Int) > (65536 : Int))) = true then
              exchange_Check_l1 k true p2 p3 p4 p5 p6 p7 p8
            else
              exchange_Check_l1 k (decide ((ByteArray.size p8 : Int) > (1048576 : Int))) p2 p3 p4 p5 p6 p7 p8
def exchange_Check (k : Nat) (a1 : Int) (a2 : List Int) (a3 : Int) (a4 : List Int) (a5 : Int) (a6 : List (List Int)) (a7 : ByteArray) : Option (Int) :=
  if (decide (a1 < (1 : Int))) = true then
    exchange_Check_l0 k true a1 a2 a3 a4 a5 a6 a7
  else
    exchange_Check_l0 k (decide (a1 > (4 : Int))) a1 a2 a3 a4 a5 a6 a7
theorem exchange_Check_l3_ok (s2 : List (List Int) → Int → Int → Int → List Int → Int → List Int → Int → List (List Int) → ByteArray → Option (Int)) (hs2 : ∀ (p1 : List (List Int)) (p2 : Int) (p3 : Int) (p4 : Int) (p5 : List Int) (p6 : Int) (p7 : List Int) (p8 : Int) (p9 : List (List Int)) (p10 : ByteArray) (r : Int), s2 p1 p2 p3 p4 p5 p6 p7 p8 p9 p10 = some r → Abs.Good P 35 Tryd.f35.ntmps [] [] (.v (.p (Kd.int .i64) r)) (pos Tryd.f35 [.r, .r, .c false, .r, .c false, .r]) [(sk 1, some (.v (.ptr 502001 0))), (sk 47, some (.v (.p (Kd.sl (Kd.arr 16 (Kd.int .u8))) p1))), (sk 48, some (.v (.p (Kd.int .i64) p2))), (sk 49, some (.v (.p (Kd.int .i64) p3))), (ek 502001, some (.box [.p (Kd.int .i64) p4, .p (Kd.arr 16 (Kd.int .u8)) p5, .p (Kd.int .i64) p6, .p (Kd.arr 16 (Kd.int .u8)) p7, .p (Kd.int .i64) p8, .p (Kd.sl (Kd.arr 16 (Kd.int .u8))) p9, .p Kd.str p10]))]) (k : Nat) (p1 : List (List Int)) (p2 : Int) (p3 : Int) (p4 : Bool) (p5 : Int) (p6 : List Int) (p7 : Int) (p8 : List Int) (p9 : Int) (p10 : List (List Int)) (p11 : ByteArray) (r : Int) (h : exchange_Check_l3 s2 k p1 p2 p3 p4 p5 p6 p7 p8 p9 p10 p11 = some r) :
    Abs.Good P 35 Tryd.f35.ntmps [] [] (.v (.p (Kd.int .i64) r)) (pos Tryd.f35 [.r, .r, .c false, .r, .c false, .r, .r, .c true, .r, .r]) [(sk 1, some (.v (.ptr 503001 0))), (sk 47, some (.v (.p (Kd.sl (Kd.arr 16 (Kd.int .u8))) p1))), (sk 48, some (.v (.p (Kd.int .i64) p2))), (sk 49, some (.v (.p (Kd.int .i64) p3))), (sk 78, some (.v (.p Kd.bool p4))), (ek 503001, some (.box [.p (Kd.int .i64) p5, .p (Kd.arr 16 (Kd.int .u8)) p6, .p (Kd.int .i64) p7, .p (Kd.arr 16 (Kd.int .u8)) p8, .p (Kd.int .i64) p9, .p (Kd.sl (Kd.arr 16 (Kd.int .u8))) p10, .p Kd.str p11]))] := by
  unfold exchange_Check_l3 at h
  rcases br_inv h with ⟨h761, h⟩ | ⟨h761, h⟩
  · replace h := Option.some.inj h; subst h
    exact Abs.Good.path_ret hm [.cond true, .reg []] [] Tryd.func35 (cs := [_]) (by kernel_rfl) ⟨h761, trivial⟩ (by kernel_rfl)
  · exact Abs.Good.path hm [.cond false, .reg [], .keep [sk 1, sk 47, sk 48, sk 49, ek 503001], .ren [(503001, 502001)]] (cs := [_]) (by kernel_rfl) ⟨h761, trivial⟩ (hs2 p1 p2 (IntKind.i64.wrap (p3 + (1 : Int))) p5 p6 p7 p8 p9 p10 p11 r h)
theorem exchange_Check_l2_ok (k : Nat) : ∀ (p1 : List (List Int)) (p2 : Int) (p3 : Int) (p4 : Int) (p5 : List Int) (p6 : Int) (p7 : List Int) (p8 : Int) (p9 : List (List Int)) (p10 : ByteArray) (r : Int), exchange_Check_l2 k p1 p2 p3 p4 p5 p6 p7 p8 p9 p10 = some r →
    Abs.Good P 35 Tryd.f35.ntmps [] [] (.v (.p (Kd.int .i64) r)) (pos Tryd.f35 [.r, .r, .c false, .r, .c false, .r]) [(sk 1, some (.v (.ptr 502001 0))), (sk 47, some (.v (.p (Kd.sl (Kd.arr 16 (Kd.int .u8))) p1))), (sk 48, some (.v (.p (Kd.int .i64) p2))), (sk 49, some (.v (.p (Kd.int .i64) p3))), (ek 502001, some (.box [.p (Kd.int .i64) p4, .p (Kd.arr 16 (Kd.int .u8)) p5, .p (Kd.int .i64) p6, .p (Kd.arr 16 (Kd.int .u8)) p7, .p (Kd.int .i64) p8, .p (Kd.sl (Kd.arr 16 (Kd.int .u8))) p9, .p Kd.str p10]))] := by
  induction k with
  | zero => intro p1 p2 p3 p4 p5 p6 p7 p8 p9 p10 r h; cases h
  | succ k ih =>
    intro p1 p2 p3 p4 p5 p6 p7 p8 p9 p10 r h
    unfold exchange_Check_l2 at h
    rcases br_inv h with ⟨h748, h⟩ | ⟨h748, h⟩
    · obtain ⟨h749, h⟩ := gd_inv h
      rcases br_inv h with ⟨h750, h⟩ | ⟨h750, h⟩
      · obtain ⟨h751, h⟩ := gd_inv h
        obtain ⟨x752, h753, h⟩ := bind_inv h
        rcases br_inv h with ⟨h754, h⟩ | ⟨h754, h⟩
        · exact Abs.Good.path hm [.reg [], .cond true, .reg [], .reg [(3, { dec := some true }), (4, { dec := some true }), (5, { dec := some true }), (6, { dec := some true }), (7, { dec := some true }), (8, { dec := some true }), (9, { dec := some true }), (10, { dec := some true, call := some { lend := [], pass := [], res := .v (.p (Kd.int .i64) x752), outs := [], back := [] } }), (11, { dec := some true }), (12, { pick := some true }), (14, { dec := some true }), (15, { dec := some true }), (16, { dec := some true }), (17, { dec := some true }), (23, { dec := some true }), (24, { pick := some true })], .keep [sk 1, sk 47, sk 48, sk 49, sk 78, ek 502001], .ren [(502001, 503001)]] (cs := [_, _, _, _, _, _, _, _, _, _, _, _, _, _, _, _, _, _, _, _, _, _]) (by kernel_rfl) ⟨h748, h749.1, h749.2, h750, h750, h750, h750, h750, h751.1, h751.2, h750, h750, h750, (exchange_order_ok k (List.getD p9 (Int.toNat (IntKind.i64.wrap (p3 - (1 : Int)))) (Kd.dflt (Kd.arr 16 (Kd.int .u8)))) (List.getD p1 (Int.toNat p3) (Kd.dflt (Kd.arr 16 (Kd.int .u8)))) _ h753), h750, h750, h754, h754, h754, h754, h754, h754, trivial⟩ (exchange_Check_l3_ok (exchange_Check_l2 k) ih k p1 p2 p3 true p4 p5 p6 p7 p8 p9 p10 r h)
        · rcases br_inv h with ⟨h755, h⟩ | ⟨h755, h⟩
          · obtain ⟨x756, h757, h⟩ := bind_inv h
            exact Abs.Good.path hm [.reg [], .cond true, .reg [], .reg [(3, { dec := some true }), (4, { dec := some true }), (5, { dec := some true }), (6, { dec := some true }), (7, { dec := some true }), (8, { dec := some true }), (9, { dec := some true }), (10, { dec := some true, call := some { lend := [], pass := [], res := .v (.p (Kd.int .i64) x752), outs := [], back := [] } }), (11, { dec := some true }), (12, { pick := some true }), (14, { dec := some false }), (15, { dec := some false }), (16, { dec := some false }), (17, { dec := some false }), (18, { dec := some true }), (19, { dec := some true }), (20, { dec := some true }), (21, { dec := some true, call := some { lend := [], pass := [], res := .v (.p Kd.bool x756), outs := [], back := [] } }), (22, { dec := some true }), (23, { dec := some false, pick := some true }), (24, { pick := some false })], .keep [sk 1, sk 47, sk 48, sk 49, sk 78, ek 502001], .ren [(502001, 503001)]] (cs := [_, _, _, _, _, _, _, _, _, _, _, _, _, _, _, _, _, _, _, _, _, _, _, _, _, _, _, _, _]) (by kernel_rfl) ⟨h748, h749.1, h749.2, h750, h750, h750, h750, h750, h751.1, h751.2, h750, h750, h750, (exchange_order_ok k (List.getD p9 (Int.toNat (IntKind.i64.wrap (p3 - (1 : Int)))) (Kd.dflt (Kd.arr 16 (Kd.int .u8)))) (List.getD p1 (Int.toNat p3) (Kd.dflt (Kd.arr 16 (Kd.int .u8)))) _ h753), h750, h750, h754, h754, h754, h754, h755, h755, h755, h755, (exchange_Under_ok k p5 p6 (List.getD p1 (Int.toNat p3) (Kd.dflt (Kd.arr 16 (Kd.int .u8)))) _ h757), h755, h754, h755, h754, trivial⟩ (exchange_Check_l3_ok (exchange_Check_l2 k) ih k p1 p2 p3 (!x756) p4 p5 p6 p7 p8 p9 p10 r h)
          · exact Abs.Good.path hm [.reg [], .cond true, .reg [], .reg [(3, { dec := some true }), (4, { dec := some true }), (5, { dec := some true }), (6, { dec := some true }), (7, { dec := some true }), (8, { dec := some true }), (9, { dec := some true }), (10, { dec := some true, call := some { lend := [], pass := [], res := .v (.p (Kd.int .i64) x752), outs := [], back := [] } }), (11, { dec := some true }), (12, { pick := some true }), (14, { dec := some false }), (15, { dec := some false }), (16, { dec := some false }), (17, { dec := some false }), (18, { dec := some false }), (19, { dec := some false }), (20, { dec := some false }), (21, { dec := some false }), (22, { dec := some false }), (23, { dec := some false, pick := some false }), (24, { pick := some false })], .keep [sk 1, sk 47, sk 48, sk 49, sk 78, ek 502001], .ren [(502001, 503001)]] (cs := [_, _, _, _, _, _, _, _, _, _, _, _, _, _, _, _, _, _, _, _, _, _, _, _, _, _, _, _]) (by kernel_rfl) ⟨h748, h749.1, h749.2, h750, h750, h750, h750, h750, h751.1, h751.2, h750, h750, h750, (exchange_order_ok k (List.getD p9 (Int.toNat (IntKind.i64.wrap (p3 - (1 : Int)))) (Kd.dflt (Kd.arr 16 (Kd.int .u8)))) (List.getD p1 (Int.toNat p3) (Kd.dflt (Kd.arr 16 (Kd.int .u8)))) _ h753), h750, h750, h754, h754, h754, h754, h755, h755, h755, h755, h755, h754, h755, h754, trivial⟩ (exchange_Check_l3_ok (exchange_Check_l2 k) ih k p1 p2 p3 false p4 p5 p6 p7 p8 p9 p10 r h)
      · rcases br_inv h with ⟨h758, h⟩ | ⟨h758, h⟩
        · obtain ⟨x759, h760, h⟩ := bind_inv h
          exact Abs.Good.path hm [.reg [], .cond true, .reg [], .reg [(3, { dec := some false }), (4, { dec := some false }), (5, { dec := some false }), (6, { dec := some false }), (7, { dec := some false }), (8, { dec := some false }), (9, { dec := some false }), (10, { dec := some false }), (11, { dec := some false }), (12, { pick := some false }), (14, { dec := some false }), (15, { dec := some false }), (16, { dec := some false }), (17, { dec := some false }), (18, { dec := some true }), (19, { dec := some true }), (20, { dec := some true }), (21, { dec := some true, call := some { lend := [], pass := [], res := .v (.p Kd.bool x759), outs := [], back := [] } }), (22, { dec := some true }), (23, { dec := some false, pick := some true }), (24, { pick := some false })], .keep [sk 1, sk 47, sk 48, sk 49, sk 78, ek 502001], .ren [(502001, 503001)]] (cs := [_, _, _, _, _, _, _, _, _, _, _, _, _, _, _, _, _, _, _, _, _, _, _, _, _, _]) (by kernel_rfl) ⟨h748, h749.1, h749.2, h750, h750, h750, h750, h750, h750, h750, h750, h750, h750, (rfl : false = false), (rfl : false = false), (rfl : false = false), (rfl : false = false), h758, h758, h758, h758, (exchange_Under_ok k p5 p6 (List.getD p1 (Int.toNat p3) (Kd.dflt (Kd.arr 16 (Kd.int .u8)))) _ h760), h758, (rfl : false = false), h758, (rfl : false = false), trivial⟩ (exchange_Check_l3_ok (exchange_Check_l2 k) ih k p1 p2 p3 (!x759) p4 p5 p6 p7 p8 p9 p10 r h)
        · exact Abs.Good.path hm [.reg [], .cond true, .reg [], .reg [(3, { dec := some false }), (4, { dec := some false }), (5, { dec := some false }), (6, { dec := some false }), (7, { dec := some false }), (8, { dec := some false }), (9, { dec := some false }), (10, { dec := some false }), (11, { dec := some false }), (12, { pick := some false }), (14, { dec := some false }), (15, { dec := some false }), (16, { dec := some false }), (17, { dec := some false }), (18, { dec := some false }), (19, { dec := some false }), (20, { dec := some false }), (21, { dec := some false }), (22, { dec := some false }), (23, { dec := some false, pick := some false }), (24, { pick := some false })], .keep [sk 1, sk 47, sk 48, sk 49, sk 78, ek 502001], .ren [(502001, 503001)]] (cs := [_, _, _, _, _, _, _, _, _, _, _, _, _, _, _, _, _, _, _, _, _, _, _, _, _]) (by kernel_rfl) ⟨h748, h749.1, h749.2, h750, h750, h750, h750, h750, h750, h750, h750, h750, h750, (rfl : false = false), (rfl : false = false), (rfl : false = false), (rfl : false = false), h758, h758, h758, h758, h758, (rfl : false = false), h758, (rfl : false = false), trivial⟩ (exchange_Check_l3_ok (exchange_Check_l2 k) ih k p1 p2 p3 false p4 p5 p6 p7 p8 p9 p10 r h)
    · replace h := Option.some.inj h; subst h
      exact Abs.Good.path_ret hm [.reg [], .cond false, .reg []] [] Tryd.func35 (cs := [_]) (by kernel_rfl) ⟨h748, trivial⟩ (by kernel_rfl)
theorem exchange_Check_l1_ok (k : Nat) (p1 : Bool) (p2 : Int) (p3 : List Int) (p4 : Int) (p5 : List Int) (p6 : Int) (p7 : List (List Int)) (p8 : ByteArray) (r : Int) (h : exchange_Check_l1 k p1 p2 p3 p4 p5 p6 p7 p8 = some r) :
    Abs.Good P 35 Tryd.f35.ntmps [] [] (.v (.p (Kd.int .i64) r)) (pos Tryd.f35 [.r, .r, .c false, .r]) [(sk 1, some (.v (.ptr 501001 0))), (sk 14, some (.v (.p Kd.bool p1))), (ek 501001, some (.box [.p (Kd.int .i64) p2, .p (Kd.arr 16 (Kd.int .u8)) p3, .p (Kd.int .i64) p4, .p (Kd.arr 16 (Kd.int .u8)) p5, .p (Kd.int .i64) p6, .p (Kd.sl (Kd.arr 16 (Kd.int .u8))) p7, .p Kd.str p8]))] := by
  unfold exchange_Check_l1 at h
  rcases br_inv h with ⟨h747, h⟩ | ⟨h747, h⟩
  · replace h := Option.some.inj h; subst h
    exact Abs.Good.path_ret hm [.cond true, .reg []] [] Tryd.func35 (cs := [_]) (by kernel_rfl) ⟨h747, trivial⟩ (by kernel_rfl)
  · exact Abs.Good.path hm [.cond false, .reg [], .keep [sk 1, sk 47, sk 48, sk 49, ek 501001], .ren [(501001, 502001)]] (cs := [_]) (by kernel_rfl) ⟨h747, trivial⟩ (exchange_Check_l2_ok k p7 (List.length p7 : Int) (0 : Int) p2 p3 p4 p5 p6 p7 p8 r h)
theorem exchange_Check_l0_ok (k : Nat) (p1 : Bool) (p2 : Int) (p3 : List Int) (p4 : Int) (p5 : List Int) (p6 : Int) (p7 : List (List Int)) (p8 : ByteArray) (r : Int) (h : exchange_Check_l0 k p1 p2 p3 p4 p5 p6 p7 p8 = some r) :
    Abs.Good P 35 Tryd.f35.ntmps [] [] (.v (.p (Kd.int .i64) r)) (pos Tryd.f35 [.r, .r]) [(sk 1, some (.v (.ptr 500001 0))), (sk 5, some (.v (.p Kd.bool p1))), (ek 500001, some (.box [.p (Kd.int .i64) p2, .p (Kd.arr 16 (Kd.int .u8)) p3, .p (Kd.int .i64) p4, .p (Kd.arr 16 (Kd.int .u8)) p5, .p (Kd.int .i64) p6, .p (Kd.sl (Kd.arr 16 (Kd.int .u8))) p7, .p Kd.str p8]))] := by
  unfold exchange_Check_l0 at h
  rcases br_inv h with ⟨h737, h⟩ | ⟨h737, h⟩
  · replace h := Option.some.inj h; subst h
    exact Abs.Good.path_ret hm [.cond true, .reg []] [] Tryd.func35 (cs := [_]) (by kernel_rfl) ⟨h737, trivial⟩ (by kernel_rfl)
  · obtain ⟨x738, h739, h⟩ := bind_inv h
    rcases br_inv h with ⟨h740, h⟩ | ⟨h740, h⟩
    · exact Abs.Good.path hm [.cond false, .reg [(1, { call := some { lend := [], pass := [], res := .v (.p Kd.bool x738), outs := [], back := [] } }), (4, { dec := some true }), (5, { dec := some true }), (6, { dec := some true }), (7, { dec := some true }), (8, { pick := some true }), (10, { dec := some true }), (11, { dec := some true }), (12, { dec := some true }), (13, { pick := some true }), (15, { dec := some true }), (16, { dec := some true }), (17, { dec := some true }), (18, { pick := some true }), (20, { dec := some true }), (21, { dec := some true }), (22, { dec := some true }), (23, { dec := some true }), (24, { pick := some true }), (26, { dec := some true }), (27, { dec := some true }), (28, { dec := some true }), (29, { dec := some true }), (30, { pick := some true })], .keep [sk 1, sk 14, ek 500001], .ren [(500001, 501001)]] (cs := [_, _, _, _, _, _, _, _, _, _, _, _, _, _, _, _, _, _, _, _, _, _, _, _, _]) (by kernel_rfl) ⟨h737, (exchange_fields_ok k p2 p3 p4 p5 p6 p7 p8 _ h739), h740, h740, h740, h740, h740, (rfl : true = true), (rfl : true = true), (rfl : true = true), (rfl : true = true), (rfl : true = true), (rfl : true = true), (rfl : true = true), (rfl : true = true), (rfl : true = true), (rfl : true = true), (rfl : true = true), (rfl : true = true), (rfl : true = true), (rfl : true = true), (rfl : true = true), (rfl : true = true), (rfl : true = true), (rfl : true = true), trivial⟩ (exchange_Check_l1_ok k true p2 p3 p4 p5 p6 p7 p8 r h)
    · obtain ⟨x741, h742, h⟩ := bind_inv h
      rcases br_inv h with ⟨h743, h⟩ | ⟨h743, h⟩
      · exact Abs.Good.path hm [.cond false, .reg [(1, { call := some { lend := [], pass := [], res := .v (.p Kd.bool x738), outs := [], back := [] } }), (4, { dec := some false }), (5, { dec := some false }), (6, { dec := some false, call := some { lend := [], pass := [], res := .v (.p Kd.bool x741), outs := [], back := [] } }), (7, { dec := some false }), (8, { pick := some false }), (10, { dec := some true }), (11, { dec := some true }), (12, { dec := some true }), (13, { pick := some true }), (15, { dec := some true }), (16, { dec := some true }), (17, { dec := some true }), (18, { pick := some true }), (20, { dec := some true }), (21, { dec := some true }), (22, { dec := some true }), (23, { dec := some true }), (24, { pick := some true }), (26, { dec := some true }), (27, { dec := some true }), (28, { dec := some true }), (29, { dec := some true }), (30, { pick := some true })], .keep [sk 1, sk 14, ek 500001], .ren [(500001, 501001)]] (cs := [_, _, _, _, _, _, _, _, _, _, _, _, _, _, _, _, _, _, _, _, _, _, _, _, _, _]) (by kernel_rfl) ⟨h737, (exchange_fields_ok k p2 p3 p4 p5 p6 p7 p8 _ h739), h740, h740, h740, (exchange_right_ok k p3 p4 _ h742), h740, h740, h743, h743, h743, h743, (rfl : true = true), (rfl : true = true), (rfl : true = true), (rfl : true = true), (rfl : true = true), (rfl : true = true), (rfl : true = true), (rfl : true = true), (rfl : true = true), (rfl : true = true), (rfl : true = true), (rfl : true = true), (rfl : true = true), (rfl : true = true), trivial⟩ (exchange_Check_l1_ok k true p2 p3 p4 p5 p6 p7 p8 r h)
      · rcases br_inv h with ⟨h744, h⟩ | ⟨h744, h⟩
        · exact Abs.Good.path hm [.cond false, .reg [(1, { call := some { lend := [], pass := [], res := .v (.p Kd.bool x738), outs := [], back := [] } }), (4, { dec := some false }), (5, { dec := some false }), (6, { dec := some false, call := some { lend := [], pass := [], res := .v (.p Kd.bool x741), outs := [], back := [] } }), (7, { dec := some false }), (8, { pick := some false }), (10, { dec := some false }), (11, { dec := some false }), (12, { dec := some false }), (13, { pick := some false }), (15, { dec := some true }), (16, { dec := some true }), (17, { dec := some true }), (18, { pick := some true }), (20, { dec := some true }), (21, { dec := some true }), (22, { dec := some true }), (23, { dec := some true }), (24, { pick := some true }), (26, { dec := some true }), (27, { dec := some true }), (28, { dec := some true }), (29, { dec := some true }), (30, { pick := some true })], .keep [sk 1, sk 14, ek 500001], .ren [(500001, 501001)]] (cs := [_, _, _, _, _, _, _, _, _, _, _, _, _, _, _, _, _, _, _, _, _, _, _, _, _, _]) (by kernel_rfl) ⟨h737, (exchange_fields_ok k p2 p3 p4 p5 p6 p7 p8 _ h739), h740, h740, h740, (exchange_right_ok k p3 p4 _ h742), h740, h740, h743, h743, h743, h743, h744, h744, h744, h744, (rfl : true = true), (rfl : true = true), (rfl : true = true), (rfl : true = true), (rfl : true = true), (rfl : true = true), (rfl : true = true), (rfl : true = true), (rfl : true = true), (rfl : true = true), trivial⟩ (exchange_Check_l1_ok k true p2 p3 p4 p5 p6 p7 p8 r h)
        · rcases br_inv h with ⟨h745, h⟩ | ⟨h745, h⟩
          · exact Abs.Good.path hm [.cond false, .reg [(1, { call := some { lend := [], pass := [], res := .v (.p Kd.bool x738), outs := [], back := [] } }), (4, { dec := some false }), (5, { dec := some false }), (6, { dec := some false, call := some { lend := [], pass := [], res := .v (.p Kd.bool x741), outs := [], back := [] } }), (7, { dec := some false }), (8, { pick := some false }), (10, { dec := some false }), (11, { dec := some false }), (12, { dec := some false }), (13, { pick := some false }), (15, { dec := some false }), (16, { dec := some false }), (17, { dec := some false }), (18, { pick := some false }), (20, { dec := some true }), (21, { dec := some true }), (22, { dec := some true }), (23, { dec := some true }), (24, { pick := some true }), (26, { dec := some true }), (27, { dec := some true }), (28, { dec := some true }), (29, { dec := some true }), (30, { pick := some true })], .keep [sk 1, sk 14, ek 500001], .ren [(500001, 501001)]] (cs := [_, _, _, _, _, _, _, _, _, _, _, _, _, _, _, _, _, _, _, _, _, _, _, _, _, _]) (by kernel_rfl) ⟨h737, (exchange_fields_ok k p2 p3 p4 p5 p6 p7 p8 _ h739), h740, h740, h740, (exchange_right_ok k p3 p4 _ h742), h740, h740, h743, h743, h743, h743, h744, h744, h744, h744, h745, h745, h745, h745, h745, (rfl : true = true), (rfl : true = true), (rfl : true = true), (rfl : true = true), (rfl : true = true), trivial⟩ (exchange_Check_l1_ok k true p2 p3 p4 p5 p6 p7 p8 r h)
          · rcases br_inv h with ⟨h746, h⟩ | ⟨h746, h⟩
            · exact Abs.Good.path hm [.cond false, .reg [(1, { call := some { lend := [], pass := [], res := .v (.p Kd.bool x738), outs := [], back := [] } }), (4, { dec := some false }), (5, { dec := some false }), (6, { dec := some false, call := some { lend := [], pass := [], res := .v (.p Kd.bool x741), outs := [], back := [] } }), (7, { dec := some false }), (8, { pick := some false }), (10, { dec := some false }), (11, { dec := some false }), (12, { dec := some false }), (13, { pick := some false }), (15, { dec := some false }), (16, { dec := some false }), (17, { dec := some false }), (18, { pick := some false }), (20, { dec := some false }), (21, { dec := some false }), (22, { dec := some false }), (23, { dec := some false }), (24, { pick := some false }), (26, { dec := some true }), (27, { dec := some true }), (28, { dec := some true }), (29, { dec := some true }), (30, { pick := some true })], .keep [sk 1, sk 14, ek 500001], .ren [(500001, 501001)]] (cs := [_, _, _, _, _, _, _, _, _, _, _, _, _, _, _, _, _, _, _, _, _, _, _, _, _, _]) (by kernel_rfl) ⟨h737, (exchange_fields_ok k p2 p3 p4 p5 p6 p7 p8 _ h739), h740, h740, h740, (exchange_right_ok k p3 p4 _ h742), h740, h740, h743, h743, h743, h743, h744, h744, h744, h744, h745, h745, h745, h745, h745, h746, h746, h746, h746, h746, trivial⟩ (exchange_Check_l1_ok k true p2 p3 p4 p5 p6 p7 p8 r h)
            · exact Abs.Good.path hm [.cond false, .reg [(1, { call := some { lend := [], pass := [], res := .v (.p Kd.bool x738), outs := [], back := [] } }), (4, { dec := some false }), (5, { dec := some false }), (6, { dec := some false, call := some { lend := [], pass := [], res := .v (.p Kd.bool x741), outs := [], back := [] } }), (7, { dec := some false }), (8, { pick := some false }), (10, { dec := some false }), (11, { dec := some false }), (12, { dec := some false }), (13, { pick := some false }), (15, { dec := some false }), (16, { dec := some false }), (17, { dec := some false }), (18, { pick := some false }), (20, { dec := some false }), (21, { dec := some false }), (22, { dec := some false }), (23, { dec := some false }), (24, { pick := some false }), (26, { dec := some false }), (27, { dec := some false }), (28, { dec := some false }), (29, { dec := some false }), (30, { pick := some false })], .keep [sk 1, sk 14, ek 500001], .ren [(500001, 501001)]] (cs := [_, _, _, _, _, _, _, _, _, _, _, _, _, _, _, _, _, _, _, _, _, _, _, _, _, _]) (by kernel_rfl) ⟨h737, (exchange_fields_ok k p2 p3 p4 p5 p6 p7 p8 _ h739), h740, h740, h740, (exchange_right_ok k p3 p4 _ h742), h740, h740, h743, h743, h743, h743, h744, h744, h744, h744, h745, h745, h745, h745, h745, h746, h746, h746, h746, h746, trivial⟩ (exchange_Check_l1_ok k (decide ((ByteArray.size p8 : Int) > (1048576 : Int))) p2 p3 p4 p5 p6 p7 p8 r h)
end Go.Proofs.G44
