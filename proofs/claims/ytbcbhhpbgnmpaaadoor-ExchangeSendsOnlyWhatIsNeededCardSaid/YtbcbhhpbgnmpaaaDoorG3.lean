/- The walks: each function of the program that the law reaches computes the Lean function that is printed beside it. No condition but that the Lean function has a result. -/
import Derived.Test.YtbcbhhpbgnmpaaaDoorG2
set_option linter.unusedVariables false
namespace Go.Proofs.G44
open Go.Abs
set_option maxRecDepth 10000
open Go.Proofs.K1
theorem eq26 : Go.Abs.StructEq P 26 (Kd.arr 16 (Kd.int .u8)) := structEq_of (by kernel_rfl)
theorem eq28 : Go.Abs.StructEq P 28 KX := structEq_of (by kernel_rfl)
theorem eq50 : Go.Abs.StructEq P 50 KI := structEq_of (by kernel_rfl)
def antiquaryref44_Few_l1 (s0 : List ByteArray → Int → Int → Option (Bool)) (k : Nat) (p1 : List ByteArray) (p2 : Int) (p3 : Int) (p4 : Bool) : Option (Bool) :=
  if p4 = true then
    if 0 ≤ p3 ∧ p3 < (List.length p1 : Int) then
      if (decide ((ByteArray.size (List.getD p1 (Int.toNat p3) (Kd.dflt Kd.str)) : Int) > (200 : Int))) = true then
        some (false)
      else
        s0 p1 p2 (IntKind.i64.wrap (p3 + (1 : Int)))
    else none
  else
    some ((decide ((List.length p1 : Int) ≤ p2)))
def antiquaryref44_Few_l0 : Nat → List ByteArray → Int → Int → Option (Bool)
  | 0, _, _, _ => none
  | k + 1, p1, p2, p3 =>
    if (decide (p3 < (List.length p1 : Int))) = true then
      antiquaryref44_Few_l1 (antiquaryref44_Few_l0 k) k p1 p2 p3 (decide (p3 ≤ p2))
    else
      antiquaryref44_Few_l1 (antiquaryref44_Few_l0 k) k p1 p2 p3 false
def antiquaryref44_Few (k : Nat) (a1 : List ByteArray) (a2 : Int) : Option (Bool) :=
  antiquaryref44_Few_l0 k a1 a2 (0 : Int)
theorem antiquaryref44_Few_l1_ok (s0 : List ByteArray → Int → Int → Option (Bool)) (hs0 : ∀ (p1 : List ByteArray) (p2 : Int) (p3 : Int) (r : Bool), s0 p1 p2 p3 = some r → Abs.Good P 37 Tryd.f37.ntmps [] [] (.v (.p Kd.bool r)) (pos Tryd.f37 [.r, .r]) [(sk 0, some (.v (.p (Kd.sl Kd.str) p1))), (sk 1, some (.v (.p (Kd.int .i64) p2))), (sk 5, some (.v (.p (Kd.int .i64) p3)))]) (k : Nat) (p1 : List ByteArray) (p2 : Int) (p3 : Int) (p4 : Bool) (r : Bool) (h : antiquaryref44_Few_l1 s0 k p1 p2 p3 p4 = some r) :
    Abs.Good P 37 Tryd.f37.ntmps [] [] (.v (.p Kd.bool r)) (pos Tryd.f37 [.r, .r, .r]) [(sk 0, some (.v (.p (Kd.sl Kd.str) p1))), (sk 1, some (.v (.p (Kd.int .i64) p2))), (sk 5, some (.v (.p (Kd.int .i64) p3))), (sk 14, some (.v (.p Kd.bool p4)))] := by
  unfold antiquaryref44_Few_l1 at h
  rcases br_inv h with ⟨h7, h⟩ | ⟨h7, h⟩
  · obtain ⟨h8, h⟩ := gd_inv h
    rcases br_inv h with ⟨h9, h⟩ | ⟨h9, h⟩
    · replace h := Option.some.inj h; subst h
      exact Abs.Good.path_ret hm [.cond true, .reg [], .cond true, .reg []] [] Tryd.func37 (cs := [_, _, _, _]) (by kernel_rfl) ⟨h7, h8.1, h8.2, h9, trivial⟩ (by kernel_rfl)
    · exact Abs.Good.path hm [.cond true, .reg [], .cond false, .reg [], .keep [sk 0, sk 1, sk 5]] (cs := [_, _, _, _]) (by kernel_rfl) ⟨h7, h8.1, h8.2, h9, trivial⟩ (hs0 p1 p2 (IntKind.i64.wrap (p3 + (1 : Int))) r h)
  · replace h := Option.some.inj h; subst h
    exact Abs.Good.path_ret hm [.cond false, .reg []] [] Tryd.func37 (cs := [_]) (by kernel_rfl) ⟨h7, trivial⟩ (by kernel_rfl)
theorem antiquaryref44_Few_l0_ok (k : Nat) : ∀ (p1 : List ByteArray) (p2 : Int) (p3 : Int) (r : Bool), antiquaryref44_Few_l0 k p1 p2 p3 = some r →
    Abs.Good P 37 Tryd.f37.ntmps [] [] (.v (.p Kd.bool r)) (pos Tryd.f37 [.r, .r]) [(sk 0, some (.v (.p (Kd.sl Kd.str) p1))), (sk 1, some (.v (.p (Kd.int .i64) p2))), (sk 5, some (.v (.p (Kd.int .i64) p3)))] := by
  induction k with
  | zero => intro p1 p2 p3 r h; cases h
  | succ k ih =>
    intro p1 p2 p3 r h
    unfold antiquaryref44_Few_l0 at h
    rcases br_inv h with ⟨h6, h⟩ | ⟨h6, h⟩
    · exact Abs.Good.path hm [.reg [(5, { dec := some true }), (6, { dec := some true }), (7, { dec := some true }), (8, { pick := some true })], .keep [sk 0, sk 1, sk 5, sk 14]] (cs := [_, _, _, _]) (by kernel_rfl) ⟨h6, h6, h6, h6, trivial⟩ (antiquaryref44_Few_l1_ok (antiquaryref44_Few_l0 k) ih k p1 p2 p3 (decide (p3 ≤ p2)) r h)
    · exact Abs.Good.path hm [.reg [(5, { dec := some false }), (6, { dec := some false }), (7, { dec := some false }), (8, { pick := some false })], .keep [sk 0, sk 1, sk 5, sk 14]] (cs := [_, _, _, _]) (by kernel_rfl) ⟨h6, h6, h6, h6, trivial⟩ (antiquaryref44_Few_l1_ok (antiquaryref44_Few_l0 k) ih k p1 p2 p3 false r h)
theorem antiquaryref44_Few_ok (k : Nat) (a1 : List ByteArray) (a2 : Int) (r : Bool) (h : antiquaryref44_Few k a1 a2 = some r) : SpecOk P ⟨37, [.p (Kd.sl Kd.str) a1, .p (Kd.int .i64) a2], [], .v (.p Kd.bool r), []⟩ := by
  refine spec_at Tryd.func37 (by kernel_rfl) (Nat.le_of_ble_eq_true (by kernel_rfl)) ?_
  unfold antiquaryref44_Few at h
  exact Abs.Good.path hm [.reg [], .reg [], .keep [sk 0, sk 1, sk 5]] (cs := []) (by kernel_rfl) trivial (antiquaryref44_Few_l0_ok k a1 a2 (0 : Int) r h)

def hash_Begin (k : Nat) : Option (List Int × List Int × Int) :=
  some (([(1779033703 : Int), (3144134277 : Int), (1013904242 : Int), (2773480762 : Int), (1359893119 : Int), (2600822924 : Int), (528734635 : Int), (1541459225 : Int)] : List Int), (Kd.dflt (Kd.arr 64 (Kd.int .u8))), (0 : Int))
theorem hash_Begin_ok (k : Nat) (r : List Int × List Int × Int) (h : hash_Begin k = some r) : SpecOk P ⟨61, [], [], .v (.agg [.p (Kd.arr 8 (Kd.int .u32)) r.1, .p (Kd.arr 64 (Kd.int .u8)) r.2.1, .p (Kd.int .u64) r.2.2]), []⟩ := by
  refine spec_at Tryd.func61 (by kernel_rfl) (Nat.le_of_ble_eq_true (by kernel_rfl)) ?_
  unfold hash_Begin at h
  replace h := Option.some.inj h; subst h
  exact Abs.Good.path_ret hm [.reg [], .reg []] [] Tryd.func61 (cs := []) (by kernel_rfl) trivial (by kernel_rfl)

def bits_RotateLeft32 (k : Nat) (a1 : Int) (a2 : Int) : Option (Int) :=
  if 0 ≤ (IntKind.u64.wrap (((BitVec.ofInt (IntKind.bits .u64) (IntKind.u64.wrap a2)) &&& (BitVec.ofInt (IntKind.bits .u64) (31 : Int))).toNat : Int)) then
    if 0 ≤ (IntKind.u64.wrap ((32 : Int) - (IntKind.u64.wrap (((BitVec.ofInt (IntKind.bits .u64) (IntKind.u64.wrap a2)) &&& (BitVec.ofInt (IntKind.bits .u64) (31 : Int))).toNat : Int)))) then
      some ((IntKind.u32.wrap (((BitVec.ofInt (IntKind.bits .u32) (IntKind.u32.wrap (a1 * 2 ^ (min (Int.toNat (IntKind.u64.wrap (((BitVec.ofInt (IntKind.bits .u64) (IntKind.u64.wrap a2)) &&& (BitVec.ofInt (IntKind.bits .u64) (31 : Int))).toNat : Int))) (IntKind.bits .u32))))) ||| (BitVec.ofInt (IntKind.bits .u32) (Int.fdiv a1 (2 ^ (min (Int.toNat (IntKind.u64.wrap ((32 : Int) - (IntKind.u64.wrap (((BitVec.ofInt (IntKind.bits .u64) (IntKind.u64.wrap a2)) &&& (BitVec.ofInt (IntKind.bits .u64) (31 : Int))).toNat : Int))))) (IntKind.bits .u32)))))).toNat : Int)))
    else none
  else none
theorem bits_RotateLeft32_ok (k : Nat) (a1 : Int) (a2 : Int) (r : Int) (h : bits_RotateLeft32 k a1 a2 = some r) : SpecOk P ⟨89, [.p (Kd.int .u32) a1, .p (Kd.int .i64) a2], [], .v (.p (Kd.int .u32) r), []⟩ := by
  refine spec_at Tryd.func89 (by kernel_rfl) (Nat.le_of_ble_eq_true (by kernel_rfl)) ?_
  unfold bits_RotateLeft32 at h
  obtain ⟨h41, h⟩ := gd_inv h
  obtain ⟨h42, h⟩ := gd_inv h
  replace h := Option.some.inj h; subst h
  exact Abs.Good.path_ret hm [.reg [], .reg [], .reg []] [] Tryd.func89 (cs := [_, _]) (by kernel_rfl) ⟨h41, h42, trivial⟩ (by kernel_rfl)

def hash_schedule_l2 (s0 : List Int → Int → List Int → List Int → Option (List Int)) (k : Nat) (p1 : List Int) (p2 : Int) (p3 : List Int) (p4 : List Int) : Option (List Int) :=
  s0 p1 (IntKind.i64.wrap (p2 + (1 : Int))) p3 p4
def hash_schedule_l1 (s0 : List Int → Int → List Int → List Int → Option (List Int)) : Nat → List Int → Int → Int → List Int → Int → Int → List Int → List Int → Option (List Int)
  | 0, _, _, _, _, _, _, _, _ => none
  | k + 1, p1, p2, p3, p4, p5, p6, p7, p8 =>
    if (decide (p6 < p5)) = true then
      if 0 ≤ p6 ∧ p6 < (List.length p4 : Int) then
        if 0 ≤ p2 ∧ p2 < (64 : Int) then
          hash_schedule_l1 s0 k p1 p2 p3 p4 p5 (IntKind.i64.wrap (p6 + (1 : Int))) p7 (List.set p8 (Int.toNat p2) (IntKind.u32.wrap (((BitVec.ofInt (IntKind.bits .u32) (IntKind.u32.wrap ((List.getD p8 (Int.toNat p2) (Kd.dflt (Kd.int .u32))) * 2 ^ (min (Int.toNat (8 : Int)) (IntKind.bits .u32))))) ||| (BitVec.ofInt (IntKind.bits .u32) (IntKind.u32.wrap (List.getD p4 (Int.toNat p6) (Kd.dflt (Kd.int .u8)))))).toNat : Int)))
        else none
      else none
    else
      hash_schedule_l2 s0 k p1 p3 p7 p8
def hash_schedule_l0 : Nat → List Int → Int → List Int → List Int → Option (List Int)
  | 0, _, _, _, _ => none
  | k + 1, p1, p2, p3, p4 =>
    if (decide (p2 < (64 : Int))) = true then
      if (decide (p2 < (16 : Int))) = true then
        if 0 ≤ (IntKind.i64.wrap ((IntKind.i64.wrap ((4 : Int) * p2)) + (4 : Int))) ∧ (IntKind.i64.wrap ((IntKind.i64.wrap ((4 : Int) * p2)) + (4 : Int))) ≤ (List.length p1 : Int) ∧ 0 ≤ (IntKind.i64.wrap ((4 : Int) * p2)) ∧ (IntKind.i64.wrap ((4 : Int) * p2)) ≤ (IntKind.i64.wrap ((IntKind.i64.wrap ((4 : Int) * p2)) + (4 : Int))) then
          hash_schedule_l1 (hash_schedule_l0 k) k p1 p2 p2 (List.drop (Int.toNat (IntKind.i64.wrap ((4 : Int) * p2))) (List.take (Int.toNat (IntKind.i64.wrap ((IntKind.i64.wrap ((4 : Int) * p2)) + (4 : Int)))) p1)) (List.length (List.drop (Int.toNat (IntKind.i64.wrap ((4 : Int) * p2))) (List.take (Int.toNat (IntKind.i64.wrap ((IntKind.i64.wrap ((4 : Int) * p2)) + (4 : Int)))) p1)) : Int) (0 : Int) p3 p4
        else none
      else
        if 0 ≤ (IntKind.i64.wrap (p2 - (15 : Int))) ∧ (IntKind.i64.wrap (p2 - (15 : Int))) < (64 : Int) then
          if 0 ≤ (IntKind.i64.wrap (p2 - (2 : Int))) ∧ (IntKind.i64.wrap (p2 - (2 : Int))) < (64 : Int) then
            Option.bind (bits_RotateLeft32 k (List.getD p4 (Int.toNat (IntKind.i64.wrap (p2 - (15 : Int)))) (Kd.dflt (Kd.int .u32))) (-7 : Int)) fun x75 =>
            Option.bind (bits_RotateLeft32 k (List.getD p4 (Int.toNat (IntKind.i64.wrap (p2 - (15 : Int)))) (Kd.dflt (Kd.int .u32))) (-18 : Int)) fun x77 =>
            Option.bind (bits_RotateLeft32 k (List.getD p4 (Int.toNat (IntKind.i64.wrap (p2 - (2 : Int)))) (Kd.dflt (Kd.int .u32))) (-17 : Int)) fun x79 =>
            Option.bind (bits_RotateLeft32 k (List.getD p4 (Int.toNat (IntKind.i64.wrap (p2 - (2 : Int)))) (Kd.dflt (Kd.int .u32))) (-19 : Int)) fun x81 =>
            if 0 ≤ (IntKind.i64.wrap (p2 - (16 : Int))) ∧ (IntKind.i64.wrap (p2 - (16 : Int))) < (64 : Int) then
              if 0 ≤ (IntKind.i64.wrap (p2 - (7 : Int))) ∧ (IntKind.i64.wrap (p2 - (7 : Int))) < (64 : Int) then
                if 0 ≤ p2 ∧ p2 < (64 : Int) then
                  hash_schedule_l2 (hash_schedule_l0 k) k p1 p2 p3 (List.set p4 (Int.toNat p2) (IntKind.u32.wrap ((IntKind.u32.wrap ((IntKind.u32.wrap ((List.getD p4 (Int.toNat (IntKind.i64.wrap (p2 - (16 : Int)))) (Kd.dflt (Kd.int .u32))) + (IntKind.u32.wrap (((BitVec.ofInt (IntKind.bits .u32) (IntKind.u32.wrap (((BitVec.ofInt (IntKind.bits .u32) x75) ^^^ (BitVec.ofInt (IntKind.bits .u32) x77)).toNat : Int))) ^^^ (BitVec.ofInt (IntKind.bits .u32) (Int.fdiv (List.getD p4 (Int.toNat (IntKind.i64.wrap (p2 - (15 : Int)))) (Kd.dflt (Kd.int .u32))) (2 ^ (min (Int.toNat (3 : Int)) (IntKind.bits .u32)))))).toNat : Int)))) + (List.getD p4 (Int.toNat (IntKind.i64.wrap (p2 - (7 : Int)))) (Kd.dflt (Kd.int .u32))))) + (IntKind.u32.wrap (((BitVec.ofInt (IntKind.bits .u32) (IntKind.u32.wrap (((BitVec.ofInt (IntKind.bits .u32) x79) ^^^ (BitVec.ofInt (IntKind.bits .u32) x81)).toNat : Int))) ^^^ (BitVec.ofInt (IntKind.bits .u32) (Int.fdiv (List.getD p4 (Int.toNat (IntKind.i64.wrap (p2 - (2 : Int)))) (Kd.dflt (Kd.int .u32))) (2 ^ (min (Int.toNat (10 : Int)) (IntKind.bits .u32)))))).toNat : Int)))))
                else none
              else none
            else none
          else none
        else none
    else
      some (p4)
def hash_schedule (k : Nat) (a1 : List Int) : Option (List Int) :=
  hash_schedule_l0 k a1 (0 : Int) (Kd.dflt (Kd.arr 64 (Kd.int .u32))) (Kd.dflt (Kd.arr 64 (Kd.int .u32)))
theorem hash_schedule_l2_ok (s0 : List Int → Int → List Int → List Int → Option (List Int)) (hs0 : ∀ (p1 : List Int) (p2 : Int) (p3 : List Int) (p4 : List Int) (r : List Int), s0 p1 p2 p3 p4 = some r → Abs.Good P 82 Tryd.f82.ntmps [] [] (.v (.p (Kd.arr 64 (Kd.int .u32)) r)) (pos Tryd.f82 [.r, .r, .r]) [(sk 0, some (.v (.p (Kd.sl (Kd.int .u8)) p1))), (sk 2, some (.v (.ptr 500001 0))), (sk 3, some (.v (.ptr 500002 0))), (sk 11, some (.v (.p (Kd.int .i64) p2))), (ek 500001, some (.box [.p (Kd.arr 64 (Kd.int .u32)) p3])), (ek 500002, some (.box [.p (Kd.arr 64 (Kd.int .u32)) p4]))]) (k : Nat) (p1 : List Int) (p2 : Int) (p3 : List Int) (p4 : List Int) (r : List Int) (h : hash_schedule_l2 s0 k p1 p2 p3 p4 = some r) :
    Abs.Good P 82 Tryd.f82.ntmps [] [] (.v (.p (Kd.arr 64 (Kd.int .u32)) r)) (pos Tryd.f82 [.r, .r, .r, .r, .c true, .r, .r, .c true, .r, .r, .c false]) [(sk 0, some (.v (.p (Kd.sl (Kd.int .u8)) p1))), (sk 2, some (.v (.ptr 502001 0))), (sk 3, some (.v (.ptr 502002 0))), (sk 11, some (.v (.p (Kd.int .i64) p2))), (ek 502001, some (.box [.p (Kd.arr 64 (Kd.int .u32)) p3])), (ek 502002, some (.box [.p (Kd.arr 64 (Kd.int .u32)) p4]))] := by
  unfold hash_schedule_l2 at h
  exact Abs.Good.path hm [.reg [], .keep [sk 0, sk 2, sk 3, sk 11, ek 502001, ek 502002], .ren [(502001, 500001), (502002, 500002)]] (cs := []) (by kernel_rfl) trivial (hs0 p1 (IntKind.i64.wrap (p2 + (1 : Int))) p3 p4 r h)
theorem hash_schedule_l1_ok (s0 : List Int → Int → List Int → List Int → Option (List Int)) (hs0 : ∀ (p1 : List Int) (p2 : Int) (p3 : List Int) (p4 : List Int) (r : List Int), s0 p1 p2 p3 p4 = some r → Abs.Good P 82 Tryd.f82.ntmps [] [] (.v (.p (Kd.arr 64 (Kd.int .u32)) r)) (pos Tryd.f82 [.r, .r, .r]) [(sk 0, some (.v (.p (Kd.sl (Kd.int .u8)) p1))), (sk 2, some (.v (.ptr 500001 0))), (sk 3, some (.v (.ptr 500002 0))), (sk 11, some (.v (.p (Kd.int .i64) p2))), (ek 500001, some (.box [.p (Kd.arr 64 (Kd.int .u32)) p3])), (ek 500002, some (.box [.p (Kd.arr 64 (Kd.int .u32)) p4]))]) (k : Nat) : ∀ (p1 : List Int) (p2 : Int) (p3 : Int) (p4 : List Int) (p5 : Int) (p6 : Int) (p7 : List Int) (p8 : List Int) (r : List Int), hash_schedule_l1 s0 k p1 p2 p3 p4 p5 p6 p7 p8 = some r →
    Abs.Good P 82 Tryd.f82.ntmps [] [] (.v (.p (Kd.arr 64 (Kd.int .u32)) r)) (pos Tryd.f82 [.r, .r, .r, .r, .c true, .r, .r, .c true, .r]) [(sk 0, some (.v (.p (Kd.sl (Kd.int .u8)) p1))), (sk 2, some (.v (.ptr 501001 0))), (sk 3, some (.v (.ptr 501002 0))), (sk 4, some (.v (.p (Kd.int .i64) p2))), (sk 11, some (.v (.p (Kd.int .i64) p3))), (sk 22, some (.v (.p (Kd.sl (Kd.int .u8)) p4))), (sk 23, some (.v (.p (Kd.int .i64) p5))), (sk 24, some (.v (.p (Kd.int .i64) p6))), (ek 501001, some (.box [.p (Kd.arr 64 (Kd.int .u32)) p7])), (ek 501002, some (.box [.p (Kd.arr 64 (Kd.int .u32)) p8]))] := by
  induction k with
  | zero => intro p1 p2 p3 p4 p5 p6 p7 p8 r h; cases h
  | succ k ih =>
    intro p1 p2 p3 p4 p5 p6 p7 p8 r h
    unfold hash_schedule_l1 at h
    rcases br_inv h with ⟨h86, h⟩ | ⟨h86, h⟩
    · obtain ⟨h87, h⟩ := gd_inv h
      obtain ⟨h88, h⟩ := gd_inv h
      exact Abs.Good.path hm [.reg [], .cond true, .reg [], .reg [], .reg [], .keep [sk 0, sk 2, sk 3, sk 4, sk 11, sk 22, sk 23, sk 24, ek 501001, ek 501002]] (cs := [_, _, _, _, _, _, _, _]) (by kernel_rfl) ⟨h86, h87.1, h87.2, h88.1, h88.2, (by decide : 0 ≤ (8 : Int)), h88.1, h88.2, trivial⟩ (ih p1 p2 p3 p4 p5 (IntKind.i64.wrap (p6 + (1 : Int))) p7 (List.set p8 (Int.toNat p2) (IntKind.u32.wrap (((BitVec.ofInt (IntKind.bits .u32) (IntKind.u32.wrap ((List.getD p8 (Int.toNat p2) (Kd.dflt (Kd.int .u32))) * 2 ^ (min (Int.toNat (8 : Int)) (IntKind.bits .u32))))) ||| (BitVec.ofInt (IntKind.bits .u32) (IntKind.u32.wrap (List.getD p4 (Int.toNat p6) (Kd.dflt (Kd.int .u8)))))).toNat : Int))) r h)
    · exact Abs.Good.path hm [.reg [], .cond false, .keep [sk 0, sk 2, sk 3, sk 11, ek 501001, ek 501002], .ren [(501001, 502001), (501002, 502002)]] (cs := [_]) (by kernel_rfl) ⟨h86, trivial⟩ (hash_schedule_l2_ok s0 hs0 k p1 p3 p7 p8 r h)
theorem hash_schedule_l0_ok (k : Nat) : ∀ (p1 : List Int) (p2 : Int) (p3 : List Int) (p4 : List Int) (r : List Int), hash_schedule_l0 k p1 p2 p3 p4 = some r →
    Abs.Good P 82 Tryd.f82.ntmps [] [] (.v (.p (Kd.arr 64 (Kd.int .u32)) r)) (pos Tryd.f82 [.r, .r, .r]) [(sk 0, some (.v (.p (Kd.sl (Kd.int .u8)) p1))), (sk 2, some (.v (.ptr 500001 0))), (sk 3, some (.v (.ptr 500002 0))), (sk 11, some (.v (.p (Kd.int .i64) p2))), (ek 500001, some (.box [.p (Kd.arr 64 (Kd.int .u32)) p3])), (ek 500002, some (.box [.p (Kd.arr 64 (Kd.int .u32)) p4]))] := by
  induction k with
  | zero => intro p1 p2 p3 p4 r h; cases h
  | succ k ih =>
    intro p1 p2 p3 p4 r h
    unfold hash_schedule_l0 at h
    rcases br_inv h with ⟨h70, h⟩ | ⟨h70, h⟩
    · rcases br_inv h with ⟨h71, h⟩ | ⟨h71, h⟩
      · obtain ⟨h72, h⟩ := gd_inv h
        exact Abs.Good.path hm [.reg [], .cond true, .reg [], .reg [], .cond true, .reg [], .keep [sk 0, sk 2, sk 3, sk 4, sk 11, sk 22, sk 23, sk 24, ek 500001, ek 500002], .ren [(500001, 501001), (500002, 501002)]] (cs := [_, _, _, _, _, _]) (by kernel_rfl) ⟨h70, h71, h72.1, h72.2.1, h72.2.2.1, h72.2.2.2, trivial⟩ (hash_schedule_l1_ok (hash_schedule_l0 k) ih k p1 p2 p2 (List.drop (Int.toNat (IntKind.i64.wrap ((4 : Int) * p2))) (List.take (Int.toNat (IntKind.i64.wrap ((IntKind.i64.wrap ((4 : Int) * p2)) + (4 : Int)))) p1)) (List.length (List.drop (Int.toNat (IntKind.i64.wrap ((4 : Int) * p2))) (List.take (Int.toNat (IntKind.i64.wrap ((IntKind.i64.wrap ((4 : Int) * p2)) + (4 : Int)))) p1)) : Int) (0 : Int) p3 p4 r h)
      · obtain ⟨h73, h⟩ := gd_inv h
        obtain ⟨h74, h⟩ := gd_inv h
        obtain ⟨x75, h76, h⟩ := bind_inv h
        obtain ⟨x77, h78, h⟩ := bind_inv h
        obtain ⟨x79, h80, h⟩ := bind_inv h
        obtain ⟨x81, h82, h⟩ := bind_inv h
        obtain ⟨h83, h⟩ := gd_inv h
        obtain ⟨h84, h⟩ := gd_inv h
        obtain ⟨h85, h⟩ := gd_inv h
        exact Abs.Good.path hm [.reg [], .cond true, .reg [], .reg [], .cond false, .reg [], .reg [(1, { call := some { lend := [], pass := [], res := .v (.p (Kd.int .u32) x75), outs := [], back := [] } }), (3, { call := some { lend := [], pass := [], res := .v (.p (Kd.int .u32) x77), outs := [], back := [] } })], .reg [(1, { call := some { lend := [], pass := [], res := .v (.p (Kd.int .u32) x79), outs := [], back := [] } }), (3, { call := some { lend := [], pass := [], res := .v (.p (Kd.int .u32) x81), outs := [], back := [] } })], .reg [], .keep [sk 0, sk 2, sk 3, sk 11, ek 500001, ek 500002], .ren [(500001, 502001), (500002, 502002)]] (cs := [_, _, _, _, _, _, _, _, _, _, _, _, _, _, _, _, _, _]) (by kernel_rfl) ⟨h70, h71, h73.1, h73.2, h74.1, h74.2, (bits_RotateLeft32_ok k (List.getD p4 (Int.toNat (IntKind.i64.wrap (p2 - (15 : Int)))) (Kd.dflt (Kd.int .u32))) (-7 : Int) _ h76), (bits_RotateLeft32_ok k (List.getD p4 (Int.toNat (IntKind.i64.wrap (p2 - (15 : Int)))) (Kd.dflt (Kd.int .u32))) (-18 : Int) _ h78), (by decide : 0 ≤ (3 : Int)), (bits_RotateLeft32_ok k (List.getD p4 (Int.toNat (IntKind.i64.wrap (p2 - (2 : Int)))) (Kd.dflt (Kd.int .u32))) (-17 : Int) _ h80), (bits_RotateLeft32_ok k (List.getD p4 (Int.toNat (IntKind.i64.wrap (p2 - (2 : Int)))) (Kd.dflt (Kd.int .u32))) (-19 : Int) _ h82), (by decide : 0 ≤ (10 : Int)), h83.1, h83.2, h84.1, h84.2, h85.1, h85.2, trivial⟩ (hash_schedule_l2_ok (hash_schedule_l0 k) ih k p1 p2 p3 (List.set p4 (Int.toNat p2) (IntKind.u32.wrap ((IntKind.u32.wrap ((IntKind.u32.wrap ((List.getD p4 (Int.toNat (IntKind.i64.wrap (p2 - (16 : Int)))) (Kd.dflt (Kd.int .u32))) + (IntKind.u32.wrap (((BitVec.ofInt (IntKind.bits .u32) (IntKind.u32.wrap (((BitVec.ofInt (IntKind.bits .u32) x75) ^^^ (BitVec.ofInt (IntKind.bits .u32) x77)).toNat : Int))) ^^^ (BitVec.ofInt (IntKind.bits .u32) (Int.fdiv (List.getD p4 (Int.toNat (IntKind.i64.wrap (p2 - (15 : Int)))) (Kd.dflt (Kd.int .u32))) (2 ^ (min (Int.toNat (3 : Int)) (IntKind.bits .u32)))))).toNat : Int)))) + (List.getD p4 (Int.toNat (IntKind.i64.wrap (p2 - (7 : Int)))) (Kd.dflt (Kd.int .u32))))) + (IntKind.u32.wrap (((BitVec.ofInt (IntKind.bits .u32) (IntKind.u32.wrap (((BitVec.ofInt (IntKind.bits .u32) x79) ^^^ (BitVec.ofInt (IntKind.bits .u32) x81)).toNat : Int))) ^^^ (BitVec.ofInt (IntKind.bits .u32) (Int.fdiv (List.getD p4 (Int.toNat (IntKind.i64.wrap (p2 - (2 : Int)))) (Kd.dflt (Kd.int .u32))) (2 ^ (min (Int.toNat (10 : Int)) (IntKind.bits .u32)))))).toNat : Int))))) r h)
    · replace h := Option.some.inj h; subst h
      exact Abs.Good.path_ret hm [.reg [], .cond false, .reg []] [] Tryd.func82 (cs := [_]) (by kernel_rfl) ⟨h70, trivial⟩ (by kernel_rfl)
theorem hash_schedule_ok (k : Nat) (a1 : List Int) (r : List Int) (h : hash_schedule k a1 = some r) : SpecOk P ⟨82, [.p (Kd.sl (Kd.int .u8)) a1], [], .v (.p (Kd.arr 64 (Kd.int .u32)) r), []⟩ := by
  refine spec_at Tryd.func82 (by kernel_rfl) (Nat.le_of_ble_eq_true (by kernel_rfl)) ?_
  unfold hash_schedule at h
  exact Abs.Good.path hm [.reg [], .reg [], .reg [], .keep [sk 0, sk 2, sk 3, sk 11, ek 2, ek 3], .ren [(2, 500001), (3, 500002)]] (cs := []) (by kernel_rfl) trivial (hash_schedule_l0_ok k a1 (0 : Int) (Kd.dflt (Kd.arr 64 (Kd.int .u32))) (Kd.dflt (Kd.arr 64 (Kd.int .u32))) r h)

def hash_mix (k : Nat) (a1 : Int) (a2 : Int) (a3 : Int) (a4 : Int) : Option (Int) :=
  Option.bind (bits_RotateLeft32 k a1 (IntKind.i64.wrap (0 - a2))) fun x101 =>
  Option.bind (bits_RotateLeft32 k a1 (IntKind.i64.wrap (0 - a3))) fun x103 =>
  Option.bind (bits_RotateLeft32 k a1 (IntKind.i64.wrap (0 - a4))) fun x105 =>
  some ((IntKind.u32.wrap (((BitVec.ofInt (IntKind.bits .u32) (IntKind.u32.wrap (((BitVec.ofInt (IntKind.bits .u32) x101) ^^^ (BitVec.ofInt (IntKind.bits .u32) x103)).toNat : Int))) ^^^ (BitVec.ofInt (IntKind.bits .u32) x105)).toNat : Int)))
theorem hash_mix_ok (k : Nat) (a1 : Int) (a2 : Int) (a3 : Int) (a4 : Int) (r : Int) (h : hash_mix k a1 a2 a3 a4 = some r) : SpecOk P ⟨83, [.p (Kd.int .u32) a1, .p (Kd.int .i64) a2, .p (Kd.int .i64) a3, .p (Kd.int .i64) a4], [], .v (.p (Kd.int .u32) r), []⟩ := by
  refine spec_at Tryd.func83 (by kernel_rfl) (Nat.le_of_ble_eq_true (by kernel_rfl)) ?_
  unfold hash_mix at h
  obtain ⟨x101, h102, h⟩ := bind_inv h
  obtain ⟨x103, h104, h⟩ := bind_inv h
  obtain ⟨x105, h106, h⟩ := bind_inv h
  replace h := Option.some.inj h; subst h
  exact Abs.Good.path_ret hm [.reg [], .reg [(3, { call := some { lend := [], pass := [], res := .v (.p (Kd.int .u32) x101), outs := [], back := [] } }), (7, { call := some { lend := [], pass := [], res := .v (.p (Kd.int .u32) x103), outs := [], back := [] } }), (12, { call := some { lend := [], pass := [], res := .v (.p (Kd.int .u32) x105), outs := [], back := [] } })]] [] Tryd.func83 (cs := [_, _, _]) (by kernel_rfl) ⟨(bits_RotateLeft32_ok k a1 (IntKind.i64.wrap (0 - a2)) _ h102), (bits_RotateLeft32_ok k a1 (IntKind.i64.wrap (0 - a3)) _ h104), (bits_RotateLeft32_ok k a1 (IntKind.i64.wrap (0 - a4)) _ h106), trivial⟩ (by kernel_rfl)

def hash_compress_l1 : Nat → Int → List Int → List Int → List Int → List Int → Option (List Int)
  | 0, _, _, _, _, _ => none
  | k + 1, p1, p2, p3, p4, p5 =>
    if (decide (p1 < (4 : Int))) = true then
      if 0 ≤ p1 ∧ p1 < (8 : Int) then
        if p1 < (4 : Int) then
          if 0 ≤ (IntKind.i64.wrap (p1 + (4 : Int))) ∧ (IntKind.i64.wrap (p1 + (4 : Int))) < (8 : Int) then
            hash_compress_l1 k (IntKind.i64.wrap (p1 + (1 : Int))) (List.set (List.set p2 (Int.toNat p1) (IntKind.u32.wrap ((List.getD p2 (Int.toNat p1) (Kd.dflt (Kd.int .u32))) + (List.getD p4 (Int.toNat p1) (Kd.dflt (Kd.int .u32)))))) (Int.toNat (IntKind.i64.wrap (p1 + (4 : Int)))) (IntKind.u32.wrap ((List.getD (List.set p2 (Int.toNat p1) (IntKind.u32.wrap ((List.getD p2 (Int.toNat p1) (Kd.dflt (Kd.int .u32))) + (List.getD p4 (Int.toNat p1) (Kd.dflt (Kd.int .u32)))))) (Int.toNat (IntKind.i64.wrap (p1 + (4 : Int)))) (Kd.dflt (Kd.int .u32))) + (List.getD p5 (Int.toNat p1) (Kd.dflt (Kd.int .u32)))))) p3 p4 p5
          else none
        else none
      else none
    else
      some (p2)
def hash_compress_l0 : Nat → List Int → Int → List Int → List Int → List Int → List Int → List Int → Option (List Int)
  | 0, _, _, _, _, _, _, _ => none
  | k + 1, p1, p2, p3, p4, p5, p6, p7 =>
    if (decide (p2 < (64 : Int))) = true then
      if 0 ≤ p2 ∧ p2 < (64 : Int) then
        Option.bind (hash_mix k (List.getD p7 (0) (Kd.dflt (Kd.int .u32))) (6 : Int) (11 : Int) (25 : Int)) fun x127 =>
        Option.bind (hash_mix k (List.getD p6 (0) (Kd.dflt (Kd.int .u32))) (2 : Int) (13 : Int) (22 : Int)) fun x129 =>
        hash_compress_l0 k p1 (IntKind.i64.wrap (p2 + (1 : Int))) p3 p4 p5 ([(IntKind.u32.wrap ((IntKind.u32.wrap ((IntKind.u32.wrap ((IntKind.u32.wrap ((IntKind.u32.wrap ((List.getD p7 (3) (Kd.dflt (Kd.int .u32))) + x127)) + (IntKind.u32.wrap (((BitVec.ofInt (IntKind.bits .u32) (IntKind.u32.wrap (((BitVec.ofInt (IntKind.bits .u32) (List.getD p7 (0) (Kd.dflt (Kd.int .u32)))) &&& (BitVec.ofInt (IntKind.bits .u32) (List.getD p7 (1) (Kd.dflt (Kd.int .u32))))).toNat : Int))) ^^^ (BitVec.ofInt (IntKind.bits .u32) (IntKind.u32.wrap (((BitVec.ofInt (IntKind.bits .u32) (IntKind.u32.wrap ((BitVec.ofInt (IntKind.bits .u32) (if (IntKind.signed .u32) then -1 else IntKind.max .u32) ^^^ BitVec.ofInt (IntKind.bits .u32) (List.getD p7 (0) (Kd.dflt (Kd.int .u32)))).toNat : Int))) &&& (BitVec.ofInt (IntKind.bits .u32) (List.getD p7 (2) (Kd.dflt (Kd.int .u32))))).toNat : Int)))).toNat : Int)))) + (List.getD p1 (Int.toNat p2) (Kd.dflt (Kd.int .u32))))) + (List.getD p5 (Int.toNat p2) (Kd.dflt (Kd.int .u32))))) + (IntKind.u32.wrap (x129 + (IntKind.u32.wrap (((BitVec.ofInt (IntKind.bits .u32) (IntKind.u32.wrap (((BitVec.ofInt (IntKind.bits .u32) (IntKind.u32.wrap (((BitVec.ofInt (IntKind.bits .u32) (List.getD p6 (0) (Kd.dflt (Kd.int .u32)))) &&& (BitVec.ofInt (IntKind.bits .u32) (List.getD p6 (1) (Kd.dflt (Kd.int .u32))))).toNat : Int))) ^^^ (BitVec.ofInt (IntKind.bits .u32) (IntKind.u32.wrap (((BitVec.ofInt (IntKind.bits .u32) (List.getD p6 (0) (Kd.dflt (Kd.int .u32)))) &&& (BitVec.ofInt (IntKind.bits .u32) (List.getD p6 (2) (Kd.dflt (Kd.int .u32))))).toNat : Int)))).toNat : Int))) ^^^ (BitVec.ofInt (IntKind.bits .u32) (IntKind.u32.wrap (((BitVec.ofInt (IntKind.bits .u32) (List.getD p6 (1) (Kd.dflt (Kd.int .u32)))) &&& (BitVec.ofInt (IntKind.bits .u32) (List.getD p6 (2) (Kd.dflt (Kd.int .u32))))).toNat : Int)))).toNat : Int)))))), (List.getD p6 (0) (Kd.dflt (Kd.int .u32))), (List.getD p6 (1) (Kd.dflt (Kd.int .u32))), (List.getD p6 (2) (Kd.dflt (Kd.int .u32)))] : List Int) ([(IntKind.u32.wrap ((List.getD p6 (3) (Kd.dflt (Kd.int .u32))) + (IntKind.u32.wrap ((IntKind.u32.wrap ((IntKind.u32.wrap ((IntKind.u32.wrap ((List.getD p7 (3) (Kd.dflt (Kd.int .u32))) + x127)) + (IntKind.u32.wrap (((BitVec.ofInt (IntKind.bits .u32) (IntKind.u32.wrap (((BitVec.ofInt (IntKind.bits .u32) (List.getD p7 (0) (Kd.dflt (Kd.int .u32)))) &&& (BitVec.ofInt (IntKind.bits .u32) (List.getD p7 (1) (Kd.dflt (Kd.int .u32))))).toNat : Int))) ^^^ (BitVec.ofInt (IntKind.bits .u32) (IntKind.u32.wrap (((BitVec.ofInt (IntKind.bits .u32) (IntKind.u32.wrap ((BitVec.ofInt (IntKind.bits .u32) (if (IntKind.signed .u32) then -1 else IntKind.max .u32) ^^^ BitVec.ofInt (IntKind.bits .u32) (List.getD p7 (0) (Kd.dflt (Kd.int .u32)))).toNat : Int))) &&& (BitVec.ofInt (IntKind.bits .u32) (List.getD p7 (2) (Kd.dflt (Kd.int .u32))))).toNat : Int)))).toNat : Int)))) + (List.getD p1 (Int.toNat p2) (Kd.dflt (Kd.int .u32))))) + (List.getD p5 (Int.toNat p2) (Kd.dflt (Kd.int .u32))))))), (List.getD p7 (0) (Kd.dflt (Kd.int .u32))), (List.getD p7 (1) (Kd.dflt (Kd.int .u32))), (List.getD p7 (2) (Kd.dflt (Kd.int .u32)))] : List Int)
      else none
    else
      hash_compress_l1 k (0 : Int) p3 p4 p6 p7
def hash_compress (k : Nat) (a1 : List Int) (a2 : List Int) : Option (List Int) :=
  Option.bind (hash_schedule k a2) fun x123 =>
  hash_compress_l0 k gK1 (0 : Int) a1 (Kd.dflt (Kd.arr 8 (Kd.int .u32))) x123 (List.take 4 (List.drop 0 a1)) (List.take 4 (List.drop 4 a1))
theorem hash_compress_l1_ok (k : Nat) : ∀ (p1 : Int) (p2 : List Int) (p3 : List Int) (p4 : List Int) (p5 : List Int) (r : List Int), hash_compress_l1 k p1 p2 p3 p4 p5 = some r →
    Abs.Good P 77 Tryd.f77.ntmps [] [] (.v (.p (Kd.arr 8 (Kd.int .u32)) r)) (pos Tryd.f77 [.r, .r, .r, .r, .r, .c false, .r]) [(sk 2, some (.v (.ptr 501001 0))), (sk 4, some (.v (.ptr 501002 0))), (sk 6, some (.v (.ptr 501003 0))), (sk 7, some (.v (.ptr 501004 0))), (sk 94, some (.v (.p (Kd.int .i64) p1))), (ek 501001, some (.box [.p (Kd.arr 8 (Kd.int .u32)) p2])), (ek 501002, some (.box [.p (Kd.arr 8 (Kd.int .u32)) p3])), (ek 501003, some (.box [.p (Kd.arr 4 (Kd.int .u32)) p4])), (ek 501004, some (.box [.p (Kd.arr 4 (Kd.int .u32)) p5]))] := by
  induction k with
  | zero => intro p1 p2 p3 p4 p5 r h; cases h
  | succ k ih =>
    intro p1 p2 p3 p4 p5 r h
    unfold hash_compress_l1 at h
    rcases br_inv h with ⟨h131, h⟩ | ⟨h131, h⟩
    · obtain ⟨h132, h⟩ := gd_inv h
      obtain ⟨h133, h⟩ := gd_inv h
      obtain ⟨h134, h⟩ := gd_inv h
      exact Abs.Good.path hm [.reg [], .cond true, .reg [], .reg [], .reg [], .reg [], .keep [sk 2, sk 4, sk 6, sk 7, sk 94, ek 501001, ek 501002, ek 501003, ek 501004]] (cs := [_, _, _, _, _, _, _, _, _, _, _, _, _]) (by kernel_rfl) ⟨h131, h132.1, h132.2, h132.1, h133, h132.1, h132.2, h134.1, h134.2, h132.1, h133, h134.1, h134.2, trivial⟩ (ih (IntKind.i64.wrap (p1 + (1 : Int))) (List.set (List.set p2 (Int.toNat p1) (IntKind.u32.wrap ((List.getD p2 (Int.toNat p1) (Kd.dflt (Kd.int .u32))) + (List.getD p4 (Int.toNat p1) (Kd.dflt (Kd.int .u32)))))) (Int.toNat (IntKind.i64.wrap (p1 + (4 : Int)))) (IntKind.u32.wrap ((List.getD (List.set p2 (Int.toNat p1) (IntKind.u32.wrap ((List.getD p2 (Int.toNat p1) (Kd.dflt (Kd.int .u32))) + (List.getD p4 (Int.toNat p1) (Kd.dflt (Kd.int .u32)))))) (Int.toNat (IntKind.i64.wrap (p1 + (4 : Int)))) (Kd.dflt (Kd.int .u32))) + (List.getD p5 (Int.toNat p1) (Kd.dflt (Kd.int .u32)))))) p3 p4 p5 r h)
    · replace h := Option.some.inj h; subst h
      exact Abs.Good.path_ret hm [.reg [], .cond false, .reg []] [] Tryd.func77 (cs := [_]) (by kernel_rfl) ⟨h131, trivial⟩ (by kernel_rfl)
theorem hash_compress_l0_ok (k : Nat) : ∀ (p1 : List Int) (p2 : Int) (p3 : List Int) (p4 : List Int) (p5 : List Int) (p6 : List Int) (p7 : List Int) (r : List Int), hash_compress_l0 k p1 p2 p3 p4 p5 p6 p7 = some r →
    Abs.Good P 77 Tryd.f77.ntmps [] [] (.v (.p (Kd.arr 8 (Kd.int .u32)) r)) (pos Tryd.f77 [.r, .r, .r, .r]) [(sk 2, some (.v (.ptr 500001 0))), (sk 4, some (.v (.ptr 500002 0))), (sk 5, some (.v (.ptr 500003 0))), (sk 6, some (.v (.ptr 500004 0))), (sk 7, some (.v (.ptr 500005 0))), (sk 21, some (.v (.p (Kd.arr 64 (Kd.int .u32)) p1))), (sk 22, some (.v (.p (Kd.int .i64) p2))), (ek 500001, some (.box [.p (Kd.arr 8 (Kd.int .u32)) p3])), (ek 500002, some (.box [.p (Kd.arr 8 (Kd.int .u32)) p4])), (ek 500003, some (.box [.p (Kd.arr 64 (Kd.int .u32)) p5])), (ek 500004, some (.box [.p (Kd.arr 4 (Kd.int .u32)) p6])), (ek 500005, some (.box [.p (Kd.arr 4 (Kd.int .u32)) p7]))] := by
  induction k with
  | zero => intro p1 p2 p3 p4 p5 p6 p7 r h; cases h
  | succ k ih =>
    intro p1 p2 p3 p4 p5 p6 p7 r h
    unfold hash_compress_l0 at h
    rcases br_inv h with ⟨h125, h⟩ | ⟨h125, h⟩
    · obtain ⟨h126, h⟩ := gd_inv h
      obtain ⟨x127, h128, h⟩ := bind_inv h
      obtain ⟨x129, h130, h⟩ := bind_inv h
      exact Abs.Good.path hm [.reg [], .cond true, .reg [], .reg [(4, { call := some { lend := [], pass := [], res := .v (.p (Kd.int .u32) x127), outs := [], back := [] } })], .reg [(2, { call := some { lend := [], pass := [], res := .v (.p (Kd.int .u32) x129), outs := [], back := [] } })], .reg [], .reg [], .reg [], .keep [sk 2, sk 4, sk 5, sk 6, sk 7, sk 21, sk 22, ek 500001, ek 500002, ek 500003, ek 500004, ek 500005]] (cs := [_, _, _, _, _, _, _, _, _, _, _, _, _, _, _, _, _, _, _, _, _, _, _, _, _, _, _, _, _, _, _, _, _, _, _, _, _, _, _, _, _, _, _, _, _, _, _]) (by kernel_rfl) ⟨h125, h126.1, h126.2, (by decide : 0 ≤ (3 : Int)), (by decide : (3 : Int) < (4 : Int)), (by decide : 0 ≤ (0 : Int)), (by decide : (0 : Int) < (4 : Int)), (hash_mix_ok k (List.getD p7 (0) (Kd.dflt (Kd.int .u32))) (6 : Int) (11 : Int) (25 : Int) _ h128), (by decide : 0 ≤ (0 : Int)), (by decide : (0 : Int) < (4 : Int)), (by decide : 0 ≤ (1 : Int)), (by decide : (1 : Int) < (4 : Int)), (by decide : 0 ≤ (0 : Int)), (by decide : (0 : Int) < (4 : Int)), (by decide : 0 ≤ (2 : Int)), (by decide : (2 : Int) < (4 : Int)), h126.1, h126.2, (by decide : 0 ≤ (0 : Int)), (by decide : (0 : Int) < (4 : Int)), (hash_mix_ok k (List.getD p6 (0) (Kd.dflt (Kd.int .u32))) (2 : Int) (13 : Int) (22 : Int) _ h130), (by decide : 0 ≤ (0 : Int)), (by decide : (0 : Int) < (4 : Int)), (by decide : 0 ≤ (1 : Int)), (by decide : (1 : Int) < (4 : Int)), (by decide : 0 ≤ (0 : Int)), (by decide : (0 : Int) < (4 : Int)), (by decide : 0 ≤ (2 : Int)), (by decide : (2 : Int) < (4 : Int)), (by decide : 0 ≤ (1 : Int)), (by decide : (1 : Int) < (4 : Int)), (by decide : 0 ≤ (2 : Int)), (by decide : (2 : Int) < (4 : Int)), (by decide : 0 ≤ (3 : Int)), (by decide : (3 : Int) < (4 : Int)), (by decide : 0 ≤ (0 : Int)), (by decide : (0 : Int) < (4 : Int)), (by decide : 0 ≤ (1 : Int)), (by decide : (1 : Int) < (4 : Int)), (by decide : 0 ≤ (2 : Int)), (by decide : (2 : Int) < (4 : Int)), (by decide : 0 ≤ (0 : Int)), (by decide : (0 : Int) < (4 : Int)), (by decide : 0 ≤ (1 : Int)), (by decide : (1 : Int) < (4 : Int)), (by decide : 0 ≤ (2 : Int)), (by decide : (2 : Int) < (4 : Int)), trivial⟩ (ih p1 (IntKind.i64.wrap (p2 + (1 : Int))) p3 p4 p5 ([(IntKind.u32.wrap ((IntKind.u32.wrap ((IntKind.u32.wrap ((IntKind.u32.wrap ((IntKind.u32.wrap ((List.getD p7 (3) (Kd.dflt (Kd.int .u32))) + x127)) + (IntKind.u32.wrap (((BitVec.ofInt (IntKind.bits .u32) (IntKind.u32.wrap (((BitVec.ofInt (IntKind.bits .u32) (List.getD p7 (0) (Kd.dflt (Kd.int .u32)))) &&& (BitVec.ofInt (IntKind.bits .u32) (List.getD p7 (1) (Kd.dflt (Kd.int .u32))))).toNat : Int))) ^^^ (BitVec.ofInt (IntKind.bits .u32) (IntKind.u32.wrap (((BitVec.ofInt (IntKind.bits .u32) (IntKind.u32.wrap ((BitVec.ofInt (IntKind.bits .u32) (if (IntKind.signed .u32) then -1 else IntKind.max .u32) ^^^ BitVec.ofInt (IntKind.bits .u32) (List.getD p7 (0) (Kd.dflt (Kd.int .u32)))).toNat : Int))) &&& (BitVec.ofInt (IntKind.bits .u32) (List.getD p7 (2) (Kd.dflt (Kd.int .u32))))).toNat : Int)))).toNat : Int)))) + (List.getD p1 (Int.toNat p2) (Kd.dflt (Kd.int .u32))))) + (List.getD p5 (Int.toNat p2) (Kd.dflt (Kd.int .u32))))) + (IntKind.u32.wrap (x129 + (IntKind.u32.wrap (((BitVec.ofInt (IntKind.bits .u32) (IntKind.u32.wrap (((BitVec.ofInt (IntKind.bits .u32) (IntKind.u32.wrap (((BitVec.ofInt (IntKind.bits .u32) (List.getD p6 (0) (Kd.dflt (Kd.int .u32)))) &&& (BitVec.ofInt (IntKind.bits .u32) (List.getD p6 (1) (Kd.dflt (Kd.int .u32))))).toNat : Int))) ^^^ (BitVec.ofInt (IntKind.bits .u32) (IntKind.u32.wrap (((BitVec.ofInt (IntKind.bits .u32) (List.getD p6 (0) (Kd.dflt (Kd.int .u32)))) &&& (BitVec.ofInt (IntKind.bits .u32) (List.getD p6 (2) (Kd.dflt (Kd.int .u32))))).toNat : Int)))).toNat : Int))) ^^^ (BitVec.ofInt (IntKind.bits .u32) (IntKind.u32.wrap (((BitVec.ofInt (IntKind.bits .u32) (List.getD p6 (1) (Kd.dflt (Kd.int .u32)))) &&& (BitVec.ofInt (IntKind.bits .u32) (List.getD p6 (2) (Kd.dflt (Kd.int .u32))))).toNat : Int)))).toNat : Int)))))), (List.getD p6 (0) (Kd.dflt (Kd.int .u32))), (List.getD p6 (1) (Kd.dflt (Kd.int .u32))), (List.getD p6 (2) (Kd.dflt (Kd.int .u32)))] : List Int) ([(IntKind.u32.wrap ((List.getD p6 (3) (Kd.dflt (Kd.int .u32))) + (IntKind.u32.wrap ((IntKind.u32.wrap ((IntKind.u32.wrap ((IntKind.u32.wrap ((List.getD p7 (3) (Kd.dflt (Kd.int .u32))) + x127)) + (IntKind.u32.wrap (((BitVec.ofInt (IntKind.bits .u32) (IntKind.u32.wrap (((BitVec.ofInt (IntKind.bits .u32) (List.getD p7 (0) (Kd.dflt (Kd.int .u32)))) &&& (BitVec.ofInt (IntKind.bits .u32) (List.getD p7 (1) (Kd.dflt (Kd.int .u32))))).toNat : Int))) ^^^ (BitVec.ofInt (IntKind.bits .u32) (IntKind.u32.wrap (((BitVec.ofInt (IntKind.bits .u32) (IntKind.u32.wrap ((BitVec.ofInt (IntKind.bits .u32) (if (IntKind.signed .u32) then -1 else IntKind.max .u32) ^^^ BitVec.ofInt (IntKind.bits .u32) (List.getD p7 (0) (Kd.dflt (Kd.int .u32)))).toNat : Int))) &&& (BitVec.ofInt (IntKind.bits .u32) (List.getD p7 (2) (Kd.dflt (Kd.int .u32))))).toNat : Int)))).toNat : Int)))) + (List.getD p1 (Int.toNat p2) (Kd.dflt (Kd.int .u32))))) + (List.getD p5 (Int.toNat p2) (Kd.dflt (Kd.int .u32))))))), (List.getD p7 (0) (Kd.dflt (Kd.int .u32))), (List.getD p7 (1) (Kd.dflt (Kd.int .u32))), (List.getD p7 (2) (Kd.dflt (Kd.int .u32)))] : List Int) r h)
    · exact Abs.Good.path hm [.reg [], .cond false, .reg [], .keep [sk 2, sk 4, sk 6, sk 7, sk 94, ek 500001, ek 500002, ek 500004, ek 500005], .ren [(500001, 501001), (500002, 501002), (500004, 501003), (500005, 501004)]] (cs := [_]) (by kernel_rfl) ⟨h125, trivial⟩ (hash_compress_l1_ok k (0 : Int) p3 p4 p6 p7 r h)
theorem hash_compress_ok (k : Nat) (a1 : List Int) (a2 : List Int) (r : List Int) (h : hash_compress k a1 a2 = some r) : SpecOk P ⟨77, [.p (Kd.arr 8 (Kd.int .u32)) a1, .p (Kd.sl (Kd.int .u8)) a2], [], .v (.p (Kd.arr 8 (Kd.int .u32)) r), []⟩ := by
  refine spec_at Tryd.func77 (by kernel_rfl) (Nat.le_of_ble_eq_true (by kernel_rfl)) ?_
  unfold hash_compress at h
  obtain ⟨x123, h124, h⟩ := bind_inv h
  exact Abs.Good.path hm [.reg [], .reg [(1, { call := some { lend := [], pass := [], res := .v (.p (Kd.arr 64 (Kd.int .u32)) x123), outs := [], back := [] } })], .reg [], .reg [], .keep [sk 2, sk 4, sk 5, sk 6, sk 7, sk 21, sk 22, ek 2, ek 4, ek 5, ek 6, ek 7], .ren [(2, 500001), (4, 500002), (5, 500003), (6, 500004), (7, 500005)]] (cs := [_, _, _, _, _, _, _]) (by kernel_rfl) ⟨(hash_schedule_ok k a2 _ h124), (by decide : 0 ≤ (4 : Int)), (by decide : (4 : Int) ≤ (8 : Int)), (by decide : 4 ≤ 4), (by decide : 0 ≤ (4 : Int)), (by decide : (4 : Int) ≤ (8 : Int)), (by decide : 4 ≤ 4), trivial⟩ (hash_compress_l0_ok k gK1 (0 : Int) a1 (Kd.dflt (Kd.arr 8 (Kd.int .u32))) x123 (List.take 4 (List.drop 0 a1)) (List.take 4 (List.drop 4 a1)) r h)

def hash_Stream_Add_l0 : Nat → ByteArray → List Int → List Int → Int → List Int → List Int → Int → Option (List Int × List Int × Int)
  | 0, _, _, _, _, _, _, _ => none
  | k + 1, p1, p2, p3, p4, p5, p6, p7 =>
    if (!(ByteArray.toList p1 == ByteArray.toList (⟨#[]⟩ : ByteArray))) = true then
      if 0 ≤ (IntKind.i64.wrap (Int.tmod p4 (64 : Int))) ∧ (IntKind.i64.wrap (Int.tmod p4 (64 : Int))) ≤ (64 : Int) then
        if 0 ≤ (((min (ByteArray.size p1) (64 - Int.toNat (IntKind.i64.wrap (Int.tmod p4 (64 : Int))))) : Nat) : Int) ∧ (((min (ByteArray.size p1) (64 - Int.toNat (IntKind.i64.wrap (Int.tmod p4 (64 : Int))))) : Nat) : Int) ≤ (ByteArray.size p1 : Int) then
          if ((IntKind.i64.wrap ((IntKind.i64.wrap (Int.tmod p4 (64 : Int))) + (((min (ByteArray.size p1) (64 - Int.toNat (IntKind.i64.wrap (Int.tmod p4 (64 : Int))))) : Nat) : Int))) == (64 : Int)) = true then
            Option.bind (hash_compress k p2 (List.take 64 (List.drop 0 (List.take (Int.toNat (IntKind.i64.wrap (Int.tmod p4 (64 : Int)))) p3 ++ List.take (64 - Int.toNat (IntKind.i64.wrap (Int.tmod p4 (64 : Int)))) (bytesOf p1) ++ List.drop (Int.toNat (IntKind.i64.wrap (Int.tmod p4 (64 : Int))) + (min (ByteArray.size p1) (64 - Int.toNat (IntKind.i64.wrap (Int.tmod p4 (64 : Int)))))) p3)))) fun x141 =>
            hash_Stream_Add_l0 k (ByteArray.extract p1 (Int.toNat (((min (ByteArray.size p1) (64 - Int.toNat (IntKind.i64.wrap (Int.tmod p4 (64 : Int))))) : Nat) : Int)) (ByteArray.size p1)) x141 (List.take (Int.toNat (IntKind.i64.wrap (Int.tmod p4 (64 : Int)))) p3 ++ List.take (64 - Int.toNat (IntKind.i64.wrap (Int.tmod p4 (64 : Int)))) (bytesOf p1) ++ List.drop (Int.toNat (IntKind.i64.wrap (Int.tmod p4 (64 : Int))) + (min (ByteArray.size p1) (64 - Int.toNat (IntKind.i64.wrap (Int.tmod p4 (64 : Int)))))) p3) (IntKind.u64.wrap (p4 + (IntKind.u64.wrap (((min (ByteArray.size p1) (64 - Int.toNat (IntKind.i64.wrap (Int.tmod p4 (64 : Int))))) : Nat) : Int)))) p5 p6 p7
          else
            hash_Stream_Add_l0 k (ByteArray.extract p1 (Int.toNat (((min (ByteArray.size p1) (64 - Int.toNat (IntKind.i64.wrap (Int.tmod p4 (64 : Int))))) : Nat) : Int)) (ByteArray.size p1)) p2 (List.take (Int.toNat (IntKind.i64.wrap (Int.tmod p4 (64 : Int)))) p3 ++ List.take (64 - Int.toNat (IntKind.i64.wrap (Int.tmod p4 (64 : Int)))) (bytesOf p1) ++ List.drop (Int.toNat (IntKind.i64.wrap (Int.tmod p4 (64 : Int))) + (min (ByteArray.size p1) (64 - Int.toNat (IntKind.i64.wrap (Int.tmod p4 (64 : Int)))))) p3) (IntKind.u64.wrap (p4 + (IntKind.u64.wrap (((min (ByteArray.size p1) (64 - Int.toNat (IntKind.i64.wrap (Int.tmod p4 (64 : Int))))) : Nat) : Int)))) p5 p6 p7
        else none
      else none
    else
      some (p2, p3, p4)
def hash_Stream_Add (k : Nat) (a1 : List Int) (a2 : List Int) (a3 : Int) (a4 : ByteArray) : Option (List Int × List Int × Int) :=
  hash_Stream_Add_l0 k a4 a1 a2 a3 (Kd.dflt (Kd.arr 8 (Kd.int .u32))) (Kd.dflt (Kd.arr 64 (Kd.int .u8))) (0 : Int)
theorem hash_Stream_Add_l0_ok (k : Nat) : ∀ (p1 : ByteArray) (p2 : List Int) (p3 : List Int) (p4 : Int) (p5 : List Int) (p6 : List Int) (p7 : Int) (r : List Int × List Int × Int), hash_Stream_Add_l0 k p1 p2 p3 p4 p5 p6 p7 = some r →
    Abs.Good P 62 Tryd.f62.ntmps [] [] (.v (.agg [.p (Kd.arr 8 (Kd.int .u32)) r.1, .p (Kd.arr 64 (Kd.int .u8)) r.2.1, .p (Kd.int .u64) r.2.2])) (pos Tryd.f62 [.r]) [(sk 1, some (.v (.p Kd.str p1))), (sk 2, some (.v (.ptr 500001 0))), (sk 4, some (.v (.ptr 500002 0))), (ek 500001, some (.box [.p (Kd.arr 8 (Kd.int .u32)) p2, .p (Kd.arr 64 (Kd.int .u8)) p3, .p (Kd.int .u64) p4])), (ek 500002, some (.box [.p (Kd.arr 8 (Kd.int .u32)) p5, .p (Kd.arr 64 (Kd.int .u8)) p6, .p (Kd.int .u64) p7]))] := by
  induction k with
  | zero => intro p1 p2 p3 p4 p5 p6 p7 r h; cases h
  | succ k ih =>
    intro p1 p2 p3 p4 p5 p6 p7 r h
    unfold hash_Stream_Add_l0 at h
    rcases br_inv h with ⟨h137, h⟩ | ⟨h137, h⟩
    · obtain ⟨h138, h⟩ := gd_inv h
      obtain ⟨h139, h⟩ := gd_inv h
      rcases br_inv h with ⟨h140, h⟩ | ⟨h140, h⟩
      · obtain ⟨x141, h142, h⟩ := bind_inv h
        exact Abs.Good.path hm [.reg [], .cond true, .reg [], .reg [], .reg [], .reg [], .reg [], .cond true, .reg [(4, { call := some { lend := [(500001, false)], pass := [], res := .v (.p (Kd.arr 8 (Kd.int .u32)) x141), outs := [], back := [] } })], .keep [sk 1, sk 2, sk 4, ek 500001, ek 500002]] (cs := [_, _, _, _, _, _, _, _]) (by kernel_rfl) ⟨h137, (by decide : (64 : Int) ≠ 0), h138.1, h138.2, h139.1, h139.2, h140, (hash_compress_ok k p2 (List.take 64 (List.drop 0 (List.take (Int.toNat (IntKind.i64.wrap (Int.tmod p4 (64 : Int)))) p3 ++ List.take (64 - Int.toNat (IntKind.i64.wrap (Int.tmod p4 (64 : Int)))) (bytesOf p1) ++ List.drop (Int.toNat (IntKind.i64.wrap (Int.tmod p4 (64 : Int))) + (min (ByteArray.size p1) (64 - Int.toNat (IntKind.i64.wrap (Int.tmod p4 (64 : Int)))))) p3))) _ h142), trivial⟩ (ih (ByteArray.extract p1 (Int.toNat (((min (ByteArray.size p1) (64 - Int.toNat (IntKind.i64.wrap (Int.tmod p4 (64 : Int))))) : Nat) : Int)) (ByteArray.size p1)) x141 (List.take (Int.toNat (IntKind.i64.wrap (Int.tmod p4 (64 : Int)))) p3 ++ List.take (64 - Int.toNat (IntKind.i64.wrap (Int.tmod p4 (64 : Int)))) (bytesOf p1) ++ List.drop (Int.toNat (IntKind.i64.wrap (Int.tmod p4 (64 : Int))) + (min (ByteArray.size p1) (64 - Int.toNat (IntKind.i64.wrap (Int.tmod p4 (64 : Int)))))) p3) (IntKind.u64.wrap (p4 + (IntKind.u64.wrap (((min (ByteArray.size p1) (64 - Int.toNat (IntKind.i64.wrap (Int.tmod p4 (64 : Int))))) : Nat) : Int)))) p5 p6 p7 r h)
      · exact Abs.Good.path hm [.reg [], .cond true, .reg [], .reg [], .reg [], .reg [], .reg [], .cond false, .keep [sk 1, sk 2, sk 4, ek 500001, ek 500002]] (cs := [_, _, _, _, _, _, _]) (by kernel_rfl) ⟨h137, (by decide : (64 : Int) ≠ 0), h138.1, h138.2, h139.1, h139.2, h140, trivial⟩ (ih (ByteArray.extract p1 (Int.toNat (((min (ByteArray.size p1) (64 - Int.toNat (IntKind.i64.wrap (Int.tmod p4 (64 : Int))))) : Nat) : Int)) (ByteArray.size p1)) p2 (List.take (Int.toNat (IntKind.i64.wrap (Int.tmod p4 (64 : Int)))) p3 ++ List.take (64 - Int.toNat (IntKind.i64.wrap (Int.tmod p4 (64 : Int)))) (bytesOf p1) ++ List.drop (Int.toNat (IntKind.i64.wrap (Int.tmod p4 (64 : Int))) + (min (ByteArray.size p1) (64 - Int.toNat (IntKind.i64.wrap (Int.tmod p4 (64 : Int)))))) p3) (IntKind.u64.wrap (p4 + (IntKind.u64.wrap (((min (ByteArray.size p1) (64 - Int.toNat (IntKind.i64.wrap (Int.tmod p4 (64 : Int))))) : Nat) : Int)))) p5 p6 p7 r h)
    · replace h := Option.some.inj h; subst h
      exact Abs.Good.path_ret hm [.reg [], .cond false, .reg []] [] Tryd.func62 (cs := [_]) (by kernel_rfl) ⟨h137, trivial⟩ (by kernel_rfl)
theorem hash_Stream_Add_ok (k : Nat) (a1 : List Int) (a2 : List Int) (a3 : Int) (a4 : ByteArray) (r : List Int × List Int × Int) (h : hash_Stream_Add k a1 a2 a3 a4 = some r) : SpecOk P ⟨62, [.agg [.p (Kd.arr 8 (Kd.int .u32)) a1, .p (Kd.arr 64 (Kd.int .u8)) a2, .p (Kd.int .u64) a3], .p Kd.str a4], [], .v (.agg [.p (Kd.arr 8 (Kd.int .u32)) r.1, .p (Kd.arr 64 (Kd.int .u8)) r.2.1, .p (Kd.int .u64) r.2.2]), []⟩ := by
  refine spec_at Tryd.func62 (by kernel_rfl) (Nat.le_of_ble_eq_true (by kernel_rfl)) ?_
  unfold hash_Stream_Add at h
  exact Abs.Good.path hm [.reg [], .keep [sk 1, sk 2, sk 4, ek 2, ek 4], .ren [(2, 500001), (4, 500002)]] (cs := []) (by kernel_rfl) trivial (hash_Stream_Add_l0_ok k a4 a1 a2 a3 (Kd.dflt (Kd.arr 8 (Kd.int .u32))) (Kd.dflt (Kd.arr 64 (Kd.int .u8))) (0 : Int) r h)

def wire_Int_l0 : Nat → Int → List Int → Option (List Int)
  | 0, _, _ => none
  | k + 1, p1, p2 =>
    if (decide (p1 > (127 : Int))) = true then
      if List.length p2 + List.length ([(IntKind.u8.wrap (((BitVec.ofInt (IntKind.bits .u8) (IntKind.u8.wrap p1)) ||| (BitVec.ofInt (IntKind.bits .u8) (128 : Int))).toNat : Int))] : List Int) ≤ 140737488355328 then
        wire_Int_l0 k (Int.fdiv p1 (2 ^ (min (Int.toNat (7 : Int)) (IntKind.bits .u64)))) (p2 ++ ([(IntKind.u8.wrap (((BitVec.ofInt (IntKind.bits .u8) (IntKind.u8.wrap p1)) ||| (BitVec.ofInt (IntKind.bits .u8) (128 : Int))).toNat : Int))] : List Int))
      else none
    else
      if List.length p2 + List.length ([(IntKind.u8.wrap p1)] : List Int) ≤ 140737488355328 then
        some ((p2 ++ ([(IntKind.u8.wrap p1)] : List Int)))
      else none
def wire_Int (k : Nat) (a1 : Int) : Option (List Int) :=
  wire_Int_l0 k (IntKind.u64.wrap (((BitVec.ofInt (IntKind.bits .u64) (IntKind.u64.wrap ((IntKind.u64.wrap a1) * 2 ^ (min (Int.toNat (1 : Int)) (IntKind.bits .u64))))) ^^^ (BitVec.ofInt (IntKind.bits .u64) (IntKind.u64.wrap (Int.fdiv a1 (2 ^ (min (Int.toNat (63 : Int)) (IntKind.bits .i64))))))).toNat : Int)) ([] : List Int)
theorem wire_Int_l0_ok (k : Nat) : ∀ (p1 : Int) (p2 : List Int) (r : List Int), wire_Int_l0 k p1 p2 = some r →
    Abs.Good P 78 Tryd.f78.ntmps [] [(700001, .row (Kd.int .u8) 5 r)] (.v (.row 700001 (List.length r))) (pos Tryd.f78 [.r, .r, .r]) [(sk 3, some (.v (.p (Kd.int .u64) p1))), (sk 4, some (.v (.row 500001 (List.length p2)))), (ek 500001, some (.row (Kd.int .u8) 5 p2))] := by
  induction k with
  | zero => intro p1 p2 r h; cases h
  | succ k ih =>
    intro p1 p2 r h
    unfold wire_Int_l0 at h
    rcases br_inv h with ⟨h156, h⟩ | ⟨h156, h⟩
    · obtain ⟨h157, h⟩ := gd_inv h
      exact Abs.Good.path hm [.reg [], .cond true, .reg [], .reg [], .keep [sk 3, sk 4, ek 21], .ren [(21, 500001)]] (cs := [_, _, _, _, _]) (by kernel_rfl) ⟨h156, (rfl : (List.length p2) = List.length p2), (appBound (P := P) (et := 5) (b := 1) (by kernel_rfl) (by decide) h157), (rfl : 1 = List.length ([(IntKind.u8.wrap (((BitVec.ofInt (IntKind.bits .u8) (IntKind.u8.wrap p1)) ||| (BitVec.ofInt (IntKind.bits .u8) (128 : Int))).toNat : Int))] : List Int)), (by decide : 0 ≤ (7 : Int)), trivial⟩ (ih (Int.fdiv p1 (2 ^ (min (Int.toNat (7 : Int)) (IntKind.bits .u64)))) (p2 ++ ([(IntKind.u8.wrap (((BitVec.ofInt (IntKind.bits .u8) (IntKind.u8.wrap p1)) ||| (BitVec.ofInt (IntKind.bits .u8) (128 : Int))).toNat : Int))] : List Int)) r h)
    · obtain ⟨h158, h⟩ := gd_inv h
      replace h := Option.some.inj h; subst h
      exact Abs.Good.path_ret hm [.reg [], .cond false, .reg [], .keep [sk 2, ek 26], .ren [(26, 700001)]] [] Tryd.func78 (cs := [_, _, _, _]) (by kernel_rfl) ⟨h156, (rfl : (List.length p2) = List.length p2), (appBound (P := P) (et := 5) (b := 1) (by kernel_rfl) (by decide) h158), (rfl : 1 = List.length ([(IntKind.u8.wrap p1)] : List Int)), trivial⟩ (by kernel_rfl)
theorem wire_Int_ok (k : Nat) (a1 : Int) (r : List Int) (h : wire_Int k a1 = some r) : SpecOk P ⟨78, [.p (Kd.int .i64) a1], [], .v (.row 700001 (List.length r)), [(700001, .row (Kd.int .u8) 5 r)]⟩ := by
  refine spec_at Tryd.func78 (by kernel_rfl) (Nat.le_of_ble_eq_true (by kernel_rfl)) ?_
  unfold wire_Int at h
  exact Abs.Good.path hm [.reg [], .reg [], .reg [], .co (sk 4) 0 (.mk 900001 (Kd.int .u8) 5), .keep [sk 3, sk 4, ek 900001], .ren [(900001, 500001)]] (cs := [_, _]) (by kernel_rfl) ⟨(by decide : 0 ≤ (1 : Int)), (by decide : 0 ≤ (63 : Int)), trivial⟩ (wire_Int_l0_ok k (IntKind.u64.wrap (((BitVec.ofInt (IntKind.bits .u64) (IntKind.u64.wrap ((IntKind.u64.wrap a1) * 2 ^ (min (Int.toNat (1 : Int)) (IntKind.bits .u64))))) ^^^ (BitVec.ofInt (IntKind.bits .u64) (IntKind.u64.wrap (Int.fdiv a1 (2 ^ (min (Int.toNat (63 : Int)) (IntKind.bits .i64))))))).toNat : Int)) ([] : List Int) r h)

def wire_Bytes (k : Nat) (a1 : ByteArray) : Option (List Int) :=
  Option.bind (wire_Int k (ByteArray.size a1 : Int)) fun x162 =>
  if List.length x162 + List.length (bytesOf a1) ≤ 140737488355328 then
    some ((x162 ++ (bytesOf a1)))
  else none
theorem wire_Bytes_ok (k : Nat) (a1 : ByteArray) (r : List Int) (h : wire_Bytes k a1 = some r) : SpecOk P ⟨63, [.p Kd.str a1], [], .v (.p (Kd.sl (Kd.int .u8)) r), []⟩ := by
  refine spec_at Tryd.func63 (by kernel_rfl) (Nat.le_of_ble_eq_true (by kernel_rfl)) ?_
  unfold wire_Bytes at h
  obtain ⟨x162, h163, h⟩ := bind_inv h
  obtain ⟨h164, h⟩ := gd_inv h
  replace h := Option.some.inj h; subst h
  exact Abs.Good.path_ret hm [.reg [], .reg [(2, { call := some { lend := [], pass := [], res := .v (.row 700001 (List.length x162)), outs := [(700001, .row (Kd.int .u8) 5 x162)], back := [(700001, 2000040)] } })]] [7] Tryd.func63 (cs := [_, _, _, _]) (by kernel_rfl) ⟨(wire_Int_ok k (ByteArray.size a1 : Int) _ h163), (rfl : (List.length x162) = List.length x162), (appBound (P := P) (et := 5) (b := 1) (by kernel_rfl) (by decide) h164), (rfl : (List.length (x162 ++ (bytesOf a1))) = List.length (x162 ++ (bytesOf a1))), trivial⟩ (by kernel_rfl)

def hash_Stream_Sum_l2 : Nat → Int → List Int → List Int → Int → List Int → List Int → Option (List Int)
  | 0, _, _, _, _, _, _ => none
  | k + 1, p1, p2, p3, p4, p5, p6 =>
    if (decide (p1 < (32 : Int))) = true then
      if 0 ≤ (IntKind.i64.wrap (Int.tdiv p1 (4 : Int))) ∧ (IntKind.i64.wrap (Int.tdiv p1 (4 : Int))) < (8 : Int) then
        if 0 ≤ (IntKind.i64.wrap ((24 : Int) - (IntKind.i64.wrap ((8 : Int) * (Int.tmod p1 (4 : Int)))))) then
          if 0 ≤ p1 ∧ p1 < (32 : Int) then
            hash_Stream_Sum_l2 k (IntKind.i64.wrap (p1 + (1 : Int))) p2 p3 p4 p5 (List.set p6 (Int.toNat p1) (IntKind.u8.wrap (Int.fdiv (List.getD p2 (Int.toNat (IntKind.i64.wrap (Int.tdiv p1 (4 : Int)))) (Kd.dflt (Kd.int .u32))) (2 ^ (min (Int.toNat (IntKind.i64.wrap ((24 : Int) - (IntKind.i64.wrap ((8 : Int) * (Int.tmod p1 (4 : Int))))))) (IntKind.bits .u32))))))
          else none
        else none
      else none
    else
      some (p6)
def hash_Stream_Sum_l1 : Nat → Int → Int → List Int → List Int → Int → List Int → List Int → Option (List Int)
  | 0, _, _, _, _, _, _, _ => none
  | k + 1, p1, p2, p3, p4, p5, p6, p7 =>
    if (decide (p2 < (8 : Int))) = true then
      if 0 ≤ (IntKind.i64.wrap ((56 : Int) - (IntKind.i64.wrap ((8 : Int) * p2)))) then
        if List.length p7 + List.length ([(IntKind.u8.wrap (Int.fdiv p1 (2 ^ (min (Int.toNat (IntKind.i64.wrap ((56 : Int) - (IntKind.i64.wrap ((8 : Int) * p2))))) (IntKind.bits .u64)))))] : List Int) ≤ 140737488355328 then
          hash_Stream_Sum_l1 k p1 (IntKind.i64.wrap (p2 + (1 : Int))) p3 p4 p5 p6 (p7 ++ ([(IntKind.u8.wrap (Int.fdiv p1 (2 ^ (min (Int.toNat (IntKind.i64.wrap ((56 : Int) - (IntKind.i64.wrap ((8 : Int) * p2))))) (IntKind.bits .u64)))))] : List Int))
        else none
      else none
    else
      Option.bind (hash_Stream_Add k p3 p4 p5 (strOf (List.take (List.length p7) p7))) fun x194 =>
      hash_Stream_Sum_l2 k (0 : Int) x194.1 x194.2.1 x194.2.2 p6 (Kd.dflt (Kd.arr 32 (Kd.int .u8)))
def hash_Stream_Sum_l0 : Nat → Int → List Int → List Int → Int → List Int → List Int → Option (List Int)
  | 0, _, _, _, _, _, _ => none
  | k + 1, p1, p2, p3, p4, p5, p6 =>
    if ((Int.tmod (IntKind.i64.wrap ((IntKind.i64.wrap p4) + ((List.length p6) : Int))) (64 : Int)) != (56 : Int)) = true then
      if List.length p6 + List.length ([(0 : Int)] : List Int) ≤ 140737488355328 then
        hash_Stream_Sum_l0 k p1 p2 p3 p4 p5 (p6 ++ ([(0 : Int)] : List Int))
      else none
    else
      hash_Stream_Sum_l1 k p1 (0 : Int) p2 p3 p4 p5 p6
def hash_Stream_Sum (k : Nat) (a1 : List Int) (a2 : List Int) (a3 : Int) : Option (List Int) :=
  hash_Stream_Sum_l0 k (IntKind.u64.wrap ((8 : Int) * a3)) a1 a2 a3 (Kd.dflt (Kd.arr 32 (Kd.int .u8))) ([(128 : Int)] : List Int)
theorem hash_Stream_Sum_l2_ok (k : Nat) : ∀ (p1 : Int) (p2 : List Int) (p3 : List Int) (p4 : Int) (p5 : List Int) (p6 : List Int) (r : List Int), hash_Stream_Sum_l2 k p1 p2 p3 p4 p5 p6 = some r →
    Abs.Good P 64 Tryd.f64.ntmps [] [] (.v (.p (Kd.arr 32 (Kd.int .u8)) r)) (pos Tryd.f64 [.r, .r, .r, .r, .c false, .r, .r, .c false, .r, .r, .r]) [(sk 1, some (.v (.ptr 502001 0))), (sk 2, some (.v (.ptr 502002 0))), (sk 6, some (.v (.ptr 502003 0))), (sk 40, some (.v (.p (Kd.int .i64) p1))), (ek 502001, some (.box [.p (Kd.arr 8 (Kd.int .u32)) p2, .p (Kd.arr 64 (Kd.int .u8)) p3, .p (Kd.int .u64) p4])), (ek 502002, some (.box [.p (Kd.arr 32 (Kd.int .u8)) p5])), (ek 502003, some (.box [.p (Kd.arr 32 (Kd.int .u8)) p6]))] := by
  induction k with
  | zero => intro p1 p2 p3 p4 p5 p6 r h; cases h
  | succ k ih =>
    intro p1 p2 p3 p4 p5 p6 r h
    unfold hash_Stream_Sum_l2 at h
    rcases br_inv h with ⟨h196, h⟩ | ⟨h196, h⟩
    · obtain ⟨h197, h⟩ := gd_inv h
      obtain ⟨h198, h⟩ := gd_inv h
      obtain ⟨h199, h⟩ := gd_inv h
      exact Abs.Good.path hm [.reg [], .cond true, .reg [], .reg [], .reg [], .keep [sk 1, sk 2, sk 6, sk 40, ek 502001, ek 502002, ek 502003]] (cs := [_, _, _, _, _, _, _, _]) (by kernel_rfl) ⟨h196, (by decide : (4 : Int) ≠ 0), h197.1, h197.2, (by decide : (4 : Int) ≠ 0), h198, h199.1, h199.2, trivial⟩ (ih (IntKind.i64.wrap (p1 + (1 : Int))) p2 p3 p4 p5 (List.set p6 (Int.toNat p1) (IntKind.u8.wrap (Int.fdiv (List.getD p2 (Int.toNat (IntKind.i64.wrap (Int.tdiv p1 (4 : Int)))) (Kd.dflt (Kd.int .u32))) (2 ^ (min (Int.toNat (IntKind.i64.wrap ((24 : Int) - (IntKind.i64.wrap ((8 : Int) * (Int.tmod p1 (4 : Int))))))) (IntKind.bits .u32)))))) r h)
    · replace h := Option.some.inj h; subst h
      exact Abs.Good.path_ret hm [.reg [], .cond false, .reg []] [] Tryd.func64 (cs := [_]) (by kernel_rfl) ⟨h196, trivial⟩ (by kernel_rfl)
theorem hash_Stream_Sum_l1_ok (k : Nat) : ∀ (p1 : Int) (p2 : Int) (p3 : List Int) (p4 : List Int) (p5 : Int) (p6 : List Int) (p7 : List Int) (r : List Int), hash_Stream_Sum_l1 k p1 p2 p3 p4 p5 p6 p7 = some r →
    Abs.Good P 64 Tryd.f64.ntmps [] [] (.v (.p (Kd.arr 32 (Kd.int .u8)) r)) (pos Tryd.f64 [.r, .r, .r, .r, .c false, .r]) [(sk 1, some (.v (.ptr 501001 0))), (sk 2, some (.v (.ptr 501002 0))), (sk 3, some (.v (.p (Kd.int .u64) p1))), (sk 4, some (.v (.row 501003 (List.length p7)))), (sk 23, some (.v (.p (Kd.int .i64) p2))), (ek 501001, some (.box [.p (Kd.arr 8 (Kd.int .u32)) p3, .p (Kd.arr 64 (Kd.int .u8)) p4, .p (Kd.int .u64) p5])), (ek 501002, some (.box [.p (Kd.arr 32 (Kd.int .u8)) p6])), (ek 501003, some (.row (Kd.int .u8) 5 p7))] := by
  induction k with
  | zero => intro p1 p2 p3 p4 p5 p6 p7 r h; cases h
  | succ k ih =>
    intro p1 p2 p3 p4 p5 p6 p7 r h
    unfold hash_Stream_Sum_l1 at h
    rcases br_inv h with ⟨h191, h⟩ | ⟨h191, h⟩
    · obtain ⟨h192, h⟩ := gd_inv h
      obtain ⟨h193, h⟩ := gd_inv h
      exact Abs.Good.path hm [.reg [], .cond true, .reg [], .reg [], .reg [], .keep [sk 1, sk 2, sk 3, sk 4, sk 23, ek 501001, ek 501002, ek 34], .ren [(501001, 501001), (501002, 501002), (34, 501003)]] (cs := [_, _, _, _, _]) (by kernel_rfl) ⟨h191, h192, (rfl : (List.length p7) = List.length p7), (appBound (P := P) (et := 5) (b := 1) (by kernel_rfl) (by decide) h193), (rfl : 1 = List.length ([(IntKind.u8.wrap (Int.fdiv p1 (2 ^ (min (Int.toNat (IntKind.i64.wrap ((56 : Int) - (IntKind.i64.wrap ((8 : Int) * p2))))) (IntKind.bits .u64)))))] : List Int)), trivial⟩ (ih p1 (IntKind.i64.wrap (p2 + (1 : Int))) p3 p4 p5 p6 (p7 ++ ([(IntKind.u8.wrap (Int.fdiv p1 (2 ^ (min (Int.toNat (IntKind.i64.wrap ((56 : Int) - (IntKind.i64.wrap ((8 : Int) * p2))))) (IntKind.bits .u64)))))] : List Int)) r h)
    · obtain ⟨x194, h195, h⟩ := bind_inv h
      exact Abs.Good.path hm [.reg [], .cond false, .reg [(3, { call := some { lend := [], pass := [], res := .v (.agg [.p (Kd.arr 8 (Kd.int .u32)) x194.1, .p (Kd.arr 64 (Kd.int .u8)) x194.2.1, .p (Kd.int .u64) x194.2.2]), outs := [], back := [] } })], .reg [], .reg [], .keep [sk 1, sk 2, sk 6, sk 40, ek 501001, ek 501002, ek 6], .ren [(501001, 502001), (501002, 502002), (6, 502003)]] (cs := [_, _]) (by kernel_rfl) ⟨h191, (hash_Stream_Add_ok k p3 p4 p5 (strOf (List.take (List.length p7) p7)) _ h195), trivial⟩ (hash_Stream_Sum_l2_ok k (0 : Int) x194.1 x194.2.1 x194.2.2 p6 (Kd.dflt (Kd.arr 32 (Kd.int .u8))) r h)
theorem hash_Stream_Sum_l0_ok (k : Nat) : ∀ (p1 : Int) (p2 : List Int) (p3 : List Int) (p4 : Int) (p5 : List Int) (p6 : List Int) (r : List Int), hash_Stream_Sum_l0 k p1 p2 p3 p4 p5 p6 = some r →
    Abs.Good P 64 Tryd.f64.ntmps [] [] (.v (.p (Kd.arr 32 (Kd.int .u8)) r)) (pos Tryd.f64 [.r, .r, .r]) [(sk 1, some (.v (.ptr 500001 0))), (sk 2, some (.v (.ptr 500002 0))), (sk 3, some (.v (.p (Kd.int .u64) p1))), (sk 4, some (.v (.row 500003 (List.length p6)))), (ek 500001, some (.box [.p (Kd.arr 8 (Kd.int .u32)) p2, .p (Kd.arr 64 (Kd.int .u8)) p3, .p (Kd.int .u64) p4])), (ek 500002, some (.box [.p (Kd.arr 32 (Kd.int .u8)) p5])), (ek 500003, some (.row (Kd.int .u8) 5 p6))] := by
  induction k with
  | zero => intro p1 p2 p3 p4 p5 p6 r h; cases h
  | succ k ih =>
    intro p1 p2 p3 p4 p5 p6 r h
    unfold hash_Stream_Sum_l0 at h
    rcases br_inv h with ⟨h189, h⟩ | ⟨h189, h⟩
    · obtain ⟨h190, h⟩ := gd_inv h
      exact Abs.Good.path hm [.reg [], .cond true, .reg [], .keep [sk 1, sk 2, sk 3, sk 4, ek 500001, ek 500002, ek 22], .ren [(500001, 500001), (500002, 500002), (22, 500003)]] (cs := [_, _, _, _, _]) (by kernel_rfl) ⟨(by decide : (64 : Int) ≠ 0), h189, (rfl : (List.length p6) = List.length p6), (appBound (P := P) (et := 5) (b := 1) (by kernel_rfl) (by decide) h190), (rfl : 1 = List.length ([(0 : Int)] : List Int)), trivial⟩ (ih p1 p2 p3 p4 p5 (p6 ++ ([(0 : Int)] : List Int)) r h)
    · exact Abs.Good.path hm [.reg [], .cond false, .reg [], .keep [sk 1, sk 2, sk 3, sk 4, sk 23, ek 500001, ek 500002, ek 500003], .ren [(500001, 501001), (500002, 501002), (500003, 501003)]] (cs := [_, _]) (by kernel_rfl) ⟨(by decide : (64 : Int) ≠ 0), h189, trivial⟩ (hash_Stream_Sum_l1_ok k p1 (0 : Int) p2 p3 p4 p5 p6 r h)
theorem hash_Stream_Sum_ok (k : Nat) (a1 : List Int) (a2 : List Int) (a3 : Int) (r : List Int) (h : hash_Stream_Sum k a1 a2 a3 = some r) : SpecOk P ⟨64, [.agg [.p (Kd.arr 8 (Kd.int .u32)) a1, .p (Kd.arr 64 (Kd.int .u8)) a2, .p (Kd.int .u64) a3]], [], .v (.p (Kd.arr 32 (Kd.int .u8)) r), []⟩ := by
  refine spec_at Tryd.func64 (by kernel_rfl) (Nat.le_of_ble_eq_true (by kernel_rfl)) ?_
  unfold hash_Stream_Sum at h
  exact Abs.Good.path hm [.reg [], .reg [], .reg [], .keep [sk 1, sk 2, sk 3, sk 4, ek 1, ek 2, ek 11], .ren [(1, 500001), (2, 500002), (11, 500003)]] (cs := []) (by kernel_rfl) trivial (hash_Stream_Sum_l0_ok k (IntKind.u64.wrap ((8 : Int) * a3)) a1 a2 a3 (Kd.dflt (Kd.arr 32 (Kd.int .u8))) ([(128 : Int)] : List Int) r h)

def hash_Of_l0 : Nat → List ByteArray → Int → Int → List Int → List Int → List Int → Int → Option (List Int)
  | 0, _, _, _, _, _, _, _ => none
  | k + 1, p1, p2, p3, p4, p5, p6, p7 =>
    if (decide (p3 < p2)) = true then
      if 0 ≤ p3 ∧ p3 < (List.length p1 : Int) then
        Option.bind (wire_Bytes k (List.getD p1 (Int.toNat p3) (Kd.dflt Kd.str))) fun x208 =>
        Option.bind (hash_Stream_Add k p5 p6 p7 (strOf x208)) fun x210 =>
        hash_Of_l0 k p1 p2 (IntKind.i64.wrap (p3 + (1 : Int))) p4 x210.1 x210.2.1 x210.2.2
      else none
    else
      Option.bind (hash_Stream_Sum k p5 p6 p7) fun x212 =>
      some ((List.take 16 (List.drop 0 x212)))
def hash_Of (k : Nat) (a1 : Int) (a2 : List ByteArray) : Option (List Int) :=
  Option.bind (hash_Begin k) fun x202 =>
  Option.bind (hash_Stream_Add k x202.1 x202.2.1 x202.2.2 (strOf (List.take 1 ([(IntKind.u8.wrap a1)] : List Int)))) fun x204 =>
  hash_Of_l0 k a2 (List.length a2 : Int) (0 : Int) (Kd.dflt (Kd.arr 16 (Kd.int .u8))) x204.1 x204.2.1 x204.2.2
theorem hash_Of_l0_ok (k : Nat) : ∀ (p1 : List ByteArray) (p2 : Int) (p3 : Int) (p4 : List Int) (p5 : List Int) (p6 : List Int) (p7 : Int) (r : List Int), hash_Of_l0 k p1 p2 p3 p4 p5 p6 p7 = some r →
    Abs.Good P 43 Tryd.f43.ntmps [] [] (.v (.p (Kd.arr 16 (Kd.int .u8)) r)) (pos Tryd.f43 [.r, .r, .r]) [(sk 4, some (.v (.ptr 500001 0))), (sk 5, some (.v (.ptr 500002 0))), (sk 15, some (.v (.p (Kd.sl Kd.str) p1))), (sk 16, some (.v (.p (Kd.int .i64) p2))), (sk 17, some (.v (.p (Kd.int .i64) p3))), (ek 500001, some (.box [.p (Kd.arr 16 (Kd.int .u8)) p4])), (ek 500002, some (.box [.p (Kd.arr 8 (Kd.int .u32)) p5, .p (Kd.arr 64 (Kd.int .u8)) p6, .p (Kd.int .u64) p7]))] := by
  induction k with
  | zero => intro p1 p2 p3 p4 p5 p6 p7 r h; cases h
  | succ k ih =>
    intro p1 p2 p3 p4 p5 p6 p7 r h
    unfold hash_Of_l0 at h
    rcases br_inv h with ⟨h206, h⟩ | ⟨h206, h⟩
    · obtain ⟨h207, h⟩ := gd_inv h
      obtain ⟨x208, h209, h⟩ := bind_inv h
      obtain ⟨x210, h211, h⟩ := bind_inv h
      exact Abs.Good.path hm [.reg [], .cond true, .reg [], .reg [(2, { call := some { lend := [], pass := [], res := .v (.p (Kd.sl (Kd.int .u8)) x208), outs := [], back := [] } }), (4, { call := some { lend := [], pass := [], res := .v (.agg [.p (Kd.arr 8 (Kd.int .u32)) x210.1, .p (Kd.arr 64 (Kd.int .u8)) x210.2.1, .p (Kd.int .u64) x210.2.2]), outs := [], back := [] } })], .reg [], .keep [sk 4, sk 5, sk 15, sk 16, sk 17, ek 500001, ek 500002]] (cs := [_, _, _, _, _]) (by kernel_rfl) ⟨h206, h207.1, h207.2, (wire_Bytes_ok k (List.getD p1 (Int.toNat p3) (Kd.dflt Kd.str)) _ h209), (hash_Stream_Add_ok k p5 p6 p7 (strOf x208) _ h211), trivial⟩ (ih p1 p2 (IntKind.i64.wrap (p3 + (1 : Int))) p4 x210.1 x210.2.1 x210.2.2 r h)
    · obtain ⟨x212, h213, h⟩ := bind_inv h
      replace h := Option.some.inj h; subst h
      exact Abs.Good.path_ret hm [.reg [], .cond false, .reg [(1, { call := some { lend := [], pass := [], res := .v (.p (Kd.arr 32 (Kd.int .u8)) x212), outs := [], back := [] } })], .reg []] [] Tryd.func43 (cs := [_, _, _, _, _]) (by kernel_rfl) ⟨h206, (hash_Stream_Sum_ok k p5 p6 p7 _ h213), (by decide : 0 ≤ (16 : Int)), (by decide : (16 : Int) ≤ (32 : Int)), (by decide : 16 ≤ 16), trivial⟩ (by kernel_rfl)
theorem hash_Of_ok (k : Nat) (a1 : Int) (a2 : List ByteArray) (r : List Int) (h : hash_Of k a1 a2 = some r) : SpecOk P ⟨43, [.p (Kd.int .i64) a1, .p (Kd.sl Kd.str) a2], [], .v (.p (Kd.arr 16 (Kd.int .u8)) r), []⟩ := by
  refine spec_at Tryd.func43 (by kernel_rfl) (Nat.le_of_ble_eq_true (by kernel_rfl)) ?_
  unfold hash_Of at h
  obtain ⟨x202, h203, h⟩ := bind_inv h
  obtain ⟨x204, h205, h⟩ := bind_inv h
  exact Abs.Good.path hm [.reg [], .reg [(0, { call := some { lend := [], pass := [], res := .v (.agg [.p (Kd.arr 8 (Kd.int .u32)) x202.1, .p (Kd.arr 64 (Kd.int .u8)) x202.2.1, .p (Kd.int .u64) x202.2.2]), outs := [], back := [] } }), (5, { call := some { lend := [], pass := [], res := .v (.agg [.p (Kd.arr 8 (Kd.int .u32)) x204.1, .p (Kd.arr 64 (Kd.int .u8)) x204.2.1, .p (Kd.int .u64) x204.2.2]), outs := [], back := [] } })], .reg [], .keep [sk 4, sk 5, sk 15, sk 16, sk 17, ek 4, ek 5], .ren [(4, 500001), (5, 500002)]] (cs := [_, _]) (by kernel_rfl) ⟨(hash_Begin_ok k  _ h203), (hash_Stream_Add_ok k x202.1 x202.2.1 x202.2.2 (strOf (List.take 1 ([(IntKind.u8.wrap a1)] : List Int))) _ h205), trivial⟩ (hash_Of_l0_ok k a2 (List.length a2 : Int) (0 : Int) (Kd.dflt (Kd.arr 16 (Kd.int .u8))) x204.1 x204.2.1 x204.2.2 r h)

def exchange_Name (k : Nat) (a1 : ByteArray) : Option (List Int) :=
  Option.bind (hash_Of k (44 : Int) ([a1] : List ByteArray)) fun x216 =>
  some (x216)
theorem exchange_Name_ok (k : Nat) (a1 : ByteArray) (r : List Int) (h : exchange_Name k a1 = some r) : SpecOk P ⟨13, [.p Kd.str a1], [], .v (.p (Kd.arr 16 (Kd.int .u8)) r), []⟩ := by
  refine spec_at Tryd.func13 (by kernel_rfl) (Nat.le_of_ble_eq_true (by kernel_rfl)) ?_
  unfold exchange_Name at h
  obtain ⟨x216, h217, h⟩ := bind_inv h
  replace h := Option.some.inj h; subst h
  exact Abs.Good.path_ret hm [.reg [], .reg [(2, { call := some { lend := [(4, false)], pass := [], res := .v (.p (Kd.arr 16 (Kd.int .u8)) x216), outs := [], back := [] } })]] [] Tryd.func13 (cs := [_, _]) (by kernel_rfl) ⟨(hash_Of_ok k (44 : Int) ([a1] : List ByteArray) _ h217), (rfl : 1 = List.length ([a1] : List ByteArray)), trivial⟩ (by kernel_rfl)

def exchange_order (k : Nat) (a1 : List Int) (a2 : List Int) : Option (Int) :=
  some ((cmpB (List.take 16 (List.drop 0 a1)) (List.take 16 (List.drop 0 a2))))
theorem exchange_order_ok (k : Nat) (a1 : List Int) (a2 : List Int) (r : Int) (h : exchange_order k a1 a2 = some r) : SpecOk P ⟨41, [.p (Kd.arr 16 (Kd.int .u8)) a1, .p (Kd.arr 16 (Kd.int .u8)) a2], [], .v (.p (Kd.int .i64) r), []⟩ := by
  refine spec_at Tryd.func41 (by kernel_rfl) (Nat.le_of_ble_eq_true (by kernel_rfl)) ?_
  unfold exchange_order at h
  replace h := Option.some.inj h; subst h
  exact Abs.Good.path_ret hm [.reg [], .reg [(2, { call := some { lend := [(2, false), (3, false)], pass := [], res := .v (.p (Kd.int .i64) (cmpB (List.take 16 (List.drop 0 a1)) (List.take 16 (List.drop 0 a2)))), outs := [], back := [] } })]] [] Tryd.func41 (cs := [_]) (by kernel_rfl) ⟨(cmp60_ok (List.take 16 (List.drop 0 a1)) (List.take 16 (List.drop 0 a2))), trivial⟩ (by kernel_rfl)

def exchange_find_1 (k : Nat) (a1 : List Int) (a2 : ByteArray) (a3 : List Int) : Option (Int) :=
  Option.bind (exchange_order k a1 a3) fun x228 =>
  some (x228)
theorem exchange_find_1_ok (k : Nat) (a1 : List Int) (a2 : ByteArray) (a3 : List Int) (r : Int) (h : exchange_find_1 k a1 a2 a3 = some r) : SpecOk P ⟨68, [.agg [.p (Kd.arr 16 (Kd.int .u8)) a1, .p Kd.str a2], .p (Kd.arr 16 (Kd.int .u8)) a3], [], .v (.p (Kd.int .i64) r), []⟩ := by
  refine spec_at Tryd.func68 (by kernel_rfl) (Nat.le_of_ble_eq_true (by kernel_rfl)) ?_
  unfold exchange_find_1 at h
  obtain ⟨x228, h229, h⟩ := bind_inv h
  replace h := Option.some.inj h; subst h
  exact Abs.Good.path_ret hm [.reg [], .reg [(3, { call := some { lend := [], pass := [], res := .v (.p (Kd.int .i64) x228), outs := [], back := [] } })]] [] Tryd.func68 (cs := [_]) (by kernel_rfl) ⟨(exchange_order_ok k a1 a3 _ h229), trivial⟩ (by kernel_rfl)

def slices_BinarySearchFunc_l0 : Nat → List It → Int → Int → Int → List Int → Option (Int × Bool)
  | 0, _, _, _, _, _ => none
  | k + 1, p1, p2, p3, p4, p5 =>
    if (decide (p3 < p4)) = true then
      if 0 ≤ (IntKind.i64.wrap (Int.fdiv (IntKind.u64.wrap (IntKind.i64.wrap (p3 + p4))) (2 ^ (min (Int.toNat (1 : Int)) (IntKind.bits .u64))))) ∧ (IntKind.i64.wrap (Int.fdiv (IntKind.u64.wrap (IntKind.i64.wrap (p3 + p4))) (2 ^ (min (Int.toNat (1 : Int)) (IntKind.bits .u64))))) < (List.length p1 : Int) then
        Option.bind (exchange_find_1 k ((List.getD p1 (Int.toNat (IntKind.i64.wrap (Int.fdiv (IntKind.u64.wrap (IntKind.i64.wrap (p3 + p4))) (2 ^ (min (Int.toNat (1 : Int)) (IntKind.bits .u64)))))) (Kd.dflt KI)).1) (((List.getD p1 (Int.toNat (IntKind.i64.wrap (Int.fdiv (IntKind.u64.wrap (IntKind.i64.wrap (p3 + p4))) (2 ^ (min (Int.toNat (1 : Int)) (IntKind.bits .u64)))))) (Kd.dflt KI)).2).1) p5) fun x239 =>
        if (decide (x239 < (0 : Int))) = true then
          slices_BinarySearchFunc_l0 k p1 p2 (IntKind.i64.wrap ((IntKind.i64.wrap (Int.fdiv (IntKind.u64.wrap (IntKind.i64.wrap (p3 + p4))) (2 ^ (min (Int.toNat (1 : Int)) (IntKind.bits .u64))))) + (1 : Int))) p4 p5
        else
          slices_BinarySearchFunc_l0 k p1 p2 p3 (IntKind.i64.wrap (Int.fdiv (IntKind.u64.wrap (IntKind.i64.wrap (p3 + p4))) (2 ^ (min (Int.toNat (1 : Int)) (IntKind.bits .u64))))) p5
      else none
    else
      if (decide (p3 < p2)) = true then
        if 0 ≤ p3 ∧ p3 < (List.length p1 : Int) then
          Option.bind (exchange_find_1 k ((List.getD p1 (Int.toNat p3) (Kd.dflt KI)).1) (((List.getD p1 (Int.toNat p3) (Kd.dflt KI)).2).1) p5) fun x244 =>
          some (p3, (x244 == (0 : Int)))
        else none
      else
        some (p3, false)
def slices_BinarySearchFunc (k : Nat) (a1 : List It) (a2 : List Int) : Option (Int × Bool) :=
  slices_BinarySearchFunc_l0 k a1 (List.length a1 : Int) (0 : Int) (List.length a1 : Int) a2
theorem slices_BinarySearchFunc_l0_ok (k : Nat) : ∀ (p1 : List It) (p2 : Int) (p3 : Int) (p4 : Int) (p5 : List Int) (r : Int × Bool), slices_BinarySearchFunc_l0 k p1 p2 p3 p4 p5 = some r →
    Abs.Good P 67 Tryd.f67.ntmps [] [] (.t [.p (Kd.int .i64) r.1, .p Kd.bool r.2]) (pos Tryd.f67 [.r, .r, .r]) [(sk 0, some (.v (.p (Kd.sl KI) p1))), (sk 2, some (.v (.fn 68 []))), (sk 4, some (.v (.ptr 500001 0))), (sk 8, some (.v (.p (Kd.int .i64) p2))), (sk 9, some (.v (.p (Kd.int .i64) p3))), (sk 10, some (.v (.p (Kd.int .i64) p4))), (ek 500001, some (.box [.p (Kd.arr 16 (Kd.int .u8)) p5]))] := by
  induction k with
  | zero => intro p1 p2 p3 p4 p5 r h; cases h
  | succ k ih =>
    intro p1 p2 p3 p4 p5 r h
    unfold slices_BinarySearchFunc_l0 at h
    rcases br_inv h with ⟨h237, h⟩ | ⟨h237, h⟩
    · obtain ⟨h238, h⟩ := gd_inv h
      obtain ⟨x239, h240, h⟩ := bind_inv h
      rcases br_inv h with ⟨h241, h⟩ | ⟨h241, h⟩
      · exact Abs.Good.path hm [.reg [], .cond true, .reg [], .reg [(6, { call := some { lend := [], pass := [], res := .v (.p (Kd.int .i64) x239), outs := [], back := [] } })], .cond true, .reg [], .keep [sk 0, sk 2, sk 4, sk 8, sk 9, sk 10, ek 500001]] (cs := [_, _, _, _, _, _]) (by kernel_rfl) ⟨h237, (by decide : 0 ≤ (1 : Int)), h238.1, h238.2, (exchange_find_1_ok k ((List.getD p1 (Int.toNat (IntKind.i64.wrap (Int.fdiv (IntKind.u64.wrap (IntKind.i64.wrap (p3 + p4))) (2 ^ (min (Int.toNat (1 : Int)) (IntKind.bits .u64)))))) (Kd.dflt KI)).1) (((List.getD p1 (Int.toNat (IntKind.i64.wrap (Int.fdiv (IntKind.u64.wrap (IntKind.i64.wrap (p3 + p4))) (2 ^ (min (Int.toNat (1 : Int)) (IntKind.bits .u64)))))) (Kd.dflt KI)).2).1) p5 _ h240), h241, trivial⟩ (ih p1 p2 (IntKind.i64.wrap ((IntKind.i64.wrap (Int.fdiv (IntKind.u64.wrap (IntKind.i64.wrap (p3 + p4))) (2 ^ (min (Int.toNat (1 : Int)) (IntKind.bits .u64))))) + (1 : Int))) p4 p5 r h)
      · exact Abs.Good.path hm [.reg [], .cond true, .reg [], .reg [(6, { call := some { lend := [], pass := [], res := .v (.p (Kd.int .i64) x239), outs := [], back := [] } })], .cond false, .reg [], .keep [sk 0, sk 2, sk 4, sk 8, sk 9, sk 10, ek 500001]] (cs := [_, _, _, _, _, _]) (by kernel_rfl) ⟨h237, (by decide : 0 ≤ (1 : Int)), h238.1, h238.2, (exchange_find_1_ok k ((List.getD p1 (Int.toNat (IntKind.i64.wrap (Int.fdiv (IntKind.u64.wrap (IntKind.i64.wrap (p3 + p4))) (2 ^ (min (Int.toNat (1 : Int)) (IntKind.bits .u64)))))) (Kd.dflt KI)).1) (((List.getD p1 (Int.toNat (IntKind.i64.wrap (Int.fdiv (IntKind.u64.wrap (IntKind.i64.wrap (p3 + p4))) (2 ^ (min (Int.toNat (1 : Int)) (IntKind.bits .u64)))))) (Kd.dflt KI)).2).1) p5 _ h240), h241, trivial⟩ (ih p1 p2 p3 (IntKind.i64.wrap (Int.fdiv (IntKind.u64.wrap (IntKind.i64.wrap (p3 + p4))) (2 ^ (min (Int.toNat (1 : Int)) (IntKind.bits .u64))))) p5 r h)
    · rcases br_inv h with ⟨h242, h⟩ | ⟨h242, h⟩
      · obtain ⟨h243, h⟩ := gd_inv h
        obtain ⟨x244, h245, h⟩ := bind_inv h
        replace h := Option.some.inj h; subst h
        exact Abs.Good.path_ret hm [.reg [], .cond false, .reg [(5, { dec := some true }), (6, { dec := some true }), (7, { dec := some true }), (8, { dec := some true }), (9, { dec := some true }), (10, { dec := some true }), (11, { dec := some true, call := some { lend := [], pass := [], res := .v (.p (Kd.int .i64) x244), outs := [], back := [] } }), (12, { dec := some true }), (13, { pick := some true })]] [] Tryd.func67 (cs := [_, _, _, _, _, _, _, _, _, _, _, _, _]) (by kernel_rfl) ⟨h237, h242, h242, h242, h242, h243.1, h243.2, h242, h242, h242, (exchange_find_1_ok k ((List.getD p1 (Int.toNat p3) (Kd.dflt KI)).1) (((List.getD p1 (Int.toNat p3) (Kd.dflt KI)).2).1) p5 _ h245), h242, h242, trivial⟩ (by kernel_rfl)
      · replace h := Option.some.inj h; subst h
        exact Abs.Good.path_ret hm [.reg [], .cond false, .reg [(5, { dec := some false }), (6, { dec := some false }), (7, { dec := some false }), (8, { dec := some false }), (9, { dec := some false }), (10, { dec := some false }), (11, { dec := some false }), (12, { dec := some false }), (13, { pick := some false })]] [] Tryd.func67 (cs := [_, _, _, _, _, _, _, _, _, _]) (by kernel_rfl) ⟨h237, h242, h242, h242, h242, h242, h242, h242, h242, h242, trivial⟩ (by kernel_rfl)
theorem slices_BinarySearchFunc_ok (k : Nat) (a1 : List It) (a2 : List Int) (r : Int × Bool) (h : slices_BinarySearchFunc k a1 a2 = some r) : SpecOk P ⟨67, [.p (Kd.sl KI) a1, .p (Kd.arr 16 (Kd.int .u8)) a2, .fn 68 []], [], .t [.p (Kd.int .i64) r.1, .p Kd.bool r.2], []⟩ := by
  refine spec_at Tryd.func67 (by kernel_rfl) (Nat.le_of_ble_eq_true (by kernel_rfl)) ?_
  unfold slices_BinarySearchFunc at h
  exact Abs.Good.path hm [.reg [], .reg [], .reg [], .keep [sk 0, sk 2, sk 4, sk 8, sk 9, sk 10, ek 4], .ren [(4, 500001)]] (cs := []) (by kernel_rfl) trivial (slices_BinarySearchFunc_l0_ok k a1 (List.length a1 : Int) (0 : Int) (List.length a1 : Int) a2 r h)

def exchange_find (k : Nat) (a1 : List It) (a2 : List Int) : Option (Int × Bool) :=
  Option.bind (slices_BinarySearchFunc k a1 a2) fun x248 =>
  some (x248.1, x248.2)
theorem exchange_find_ok (k : Nat) (a1 : List It) (a2 : List Int) (r : Int × Bool) (h : exchange_find k a1 a2 = some r) : SpecOk P ⟨46, [.agg [.p (Kd.sl KI) a1], .p (Kd.arr 16 (Kd.int .u8)) a2], [], .t [.p (Kd.int .i64) r.1, .p Kd.bool r.2], []⟩ := by
  refine spec_at Tryd.func46 (by kernel_rfl) (Nat.le_of_ble_eq_true (by kernel_rfl)) ?_
  unfold exchange_find at h
  obtain ⟨x248, h249, h⟩ := bind_inv h
  replace h := Option.some.inj h; subst h
  exact Abs.Good.path_ret hm [.reg [], .reg [(3, { call := some { lend := [], pass := [], res := .t [.p (Kd.int .i64) x248.1, .p Kd.bool x248.2], outs := [], back := [] } })]] [] Tryd.func46 (cs := [_]) (by kernel_rfl) ⟨(slices_BinarySearchFunc_ok k a1 a2 _ h249), trivial⟩ (by kernel_rfl)

theorem clone48_ok (x : List It) (h : 0 + List.length x ≤ 4398046511104) : SpecOk P ⟨48, [.p (.sl KI) x], [], .v (.row 700001 (List.length x)), [(700001, .row KI 50 x)]⟩ := by
  refine spec_at Tryd.func48 (by kernel_rfl) (Nat.le_of_ble_eq_true (by kernel_rfl)) ?_
  refine Abs.Good.nilsplit (i := 0) (e := KI) (x := x) rfl (fun hs => ?_) ?_
  · subst hs
    exact Abs.Good.path_ret hm [.reg [], .reg [], .cond true, .reg [], .co (sk 2) 0 (.mk 700001 KI 50)] [] Tryd.func48 (cs := [_]) (by kernel_rfl) ⟨(rfl : true = true), trivial⟩ (by kernel_rfl)
  · exact Abs.Good.path_ret hm [.reg [], .reg [], .cond false, .co (sk 0) 0 .unn, .reg [], .keep [sk 2, ek 7], .ren [(7, 700001)]] [] Tryd.func48 (cs := [_, _, _]) (by kernel_rfl) ⟨(rfl : false = false), (rfl : 0 = 0), (appBound (P := P) (et := 50) (b := 32) (by kernel_rfl) (by decide) h), trivial⟩ (by kernel_rfl)

def exchange_Add (k : Nat) (a1 : List It) (a2 : ByteArray) : Option (List It × Int) :=
  if (decide ((ByteArray.size a2 : Int) > (1048576 : Int))) = true then
    some (a1, (1 : Int))
  else
    Option.bind (exchange_Name k a2) fun x218 =>
    Option.bind (exchange_find k a1 x218) fun x250 =>
    if x250.2 = true then
      some (a1, (6 : Int))
    else
      if (decide ((List.length a1 : Int) ≥ (65536 : Int))) = true then
        some (a1, (2 : Int))
      else
        if 0 + List.length a1 ≤ 4398046511104 then
          if 0 ≤ x250.1 ∧ x250.1 ≤ (List.length a1 : Int) ∧ 0 < List.length ([(x218, (a2, ()))] : List It) ∧ List.length a1 + List.length ([(x218, (a2, ()))] : List It) ≤ 4398046511104 then
            some ((List.take (Int.toNat x250.1) a1 ++ ([(x218, (a2, ()))] : List It) ++ List.drop (Int.toNat x250.1) a1), (0 : Int))
          else none
        else none
theorem exchange_Add_ok (k : Nat) (a1 : List It) (a2 : ByteArray) (r : List It × Int) (h : exchange_Add k a1 a2 = some r) : SpecOk P ⟨18, [.agg [.p (Kd.sl KI) a1], .p Kd.str a2], [], .t [.agg [.p (Kd.sl KI) r.1], .p (Kd.int .i64) r.2], []⟩ := by
  refine spec_at Tryd.func18 (by kernel_rfl) (Nat.le_of_ble_eq_true (by kernel_rfl)) ?_
  unfold exchange_Add at h
  rcases br_inv h with ⟨h24, h⟩ | ⟨h24, h⟩
  · replace h := Option.some.inj h; subst h
    exact Abs.Good.path_ret hm [.reg [], .reg [], .cond true, .reg []] [] Tryd.func18 (cs := [_]) (by kernel_rfl) ⟨h24, trivial⟩ (by kernel_rfl)
  · obtain ⟨x218, h219, h⟩ := bind_inv h
    obtain ⟨x250, h251, h⟩ := bind_inv h
    rcases br_inv h with ⟨h252, h⟩ | ⟨h252, h⟩
    · replace h := Option.some.inj h; subst h
      exact Abs.Good.path_ret hm [.reg [], .reg [], .cond false, .reg [(1, { call := some { lend := [], pass := [], res := .v (.p (Kd.arr 16 (Kd.int .u8)) x218), outs := [], back := [] } })], .reg [(2, { call := some { lend := [], pass := [], res := .t [.p (Kd.int .i64) x250.1, .p Kd.bool x250.2], outs := [], back := [] } })], .reg [], .cond true, .reg []] [] Tryd.func18 (cs := [_, _, _, _]) (by kernel_rfl) ⟨h24, (exchange_Name_ok k a2 _ h219), (exchange_find_ok k a1 x218 _ h251), h252, trivial⟩ (by kernel_rfl)
    · rcases br_inv h with ⟨h253, h⟩ | ⟨h253, h⟩
      · replace h := Option.some.inj h; subst h
        exact Abs.Good.path_ret hm [.reg [], .reg [], .cond false, .reg [(1, { call := some { lend := [], pass := [], res := .v (.p (Kd.arr 16 (Kd.int .u8)) x218), outs := [], back := [] } })], .reg [(2, { call := some { lend := [], pass := [], res := .t [.p (Kd.int .i64) x250.1, .p Kd.bool x250.2], outs := [], back := [] } })], .reg [], .cond false, .reg [], .cond true, .reg []] [] Tryd.func18 (cs := [_, _, _, _, _]) (by kernel_rfl) ⟨h24, (exchange_Name_ok k a2 _ h219), (exchange_find_ok k a1 x218 _ h251), h252, h253, trivial⟩ (by kernel_rfl)
      · obtain ⟨h256, h⟩ := gd_inv h
        obtain ⟨h259, h⟩ := gd_inv h
        replace h := Option.some.inj h; subst h
        exact Abs.Good.path_ret hm [.reg [], .reg [], .cond false, .reg [(1, { call := some { lend := [], pass := [], res := .v (.p (Kd.arr 16 (Kd.int .u8)) x218), outs := [], back := [] } })], .reg [(2, { call := some { lend := [], pass := [], res := .t [.p (Kd.int .i64) x250.1, .p Kd.bool x250.2], outs := [], back := [] } })], .reg [], .cond false, .reg [], .cond false, .reg [(2, { call := some { lend := [], pass := [], res := .v (.row 700001 (List.length a1)), outs := [(700001, .row KI 50 a1)], back := [(700001, 2000256)] } }), (8, { call := some { lend := [], pass := [(2000256, 1000001), (37, 1000002)], res := .v (.row 700001 (List.length (List.take (Int.toNat x250.1) a1 ++ ([(x218, (a2, ()))] : List It) ++ List.drop (Int.toNat x250.1) a1))), outs := [(700001, .row KI 50 (List.take (Int.toNat x250.1) a1 ++ ([(x218, (a2, ()))] : List It) ++ List.drop (Int.toNat x250.1) a1))], back := [(700001, 2000304)] } })]] [2000304] Tryd.func18 (cs := [_, _, _, _, _, _, _, _]) (by kernel_rfl) ⟨h24, (exchange_Name_ok k a2 _ h219), (exchange_find_ok k a1 x218 _ h251), h252, h253, (clone48_ok a1 h256), (insert47_ok a1 x250.1 ([(x218, (a2, ()))] : List It) h259.1 h259.2.1 h259.2.2.1 h259.2.2.2), (rfl : (List.length (List.take (Int.toNat x250.1) a1 ++ ([(x218, (a2, ()))] : List It) ++ List.drop (Int.toNat x250.1) a1)) = List.length (List.take (Int.toNat x250.1) a1 ++ ([(x218, (a2, ()))] : List It) ++ List.drop (Int.toNat x250.1) a1)), trivial⟩ (by kernel_rfl)

def antiquarylaw44_of_l1 (s0 : List ByteArray → Int → List It → List It → Option (List It × Bool)) (k : Nat) (p1 : List ByteArray) (p2 : Int) (p3 : Bool) (p4 : List It) (p5 : List It) (p6 : List It) : Option (List It × Bool) :=
  if p3 = true then
    some (p5, false)
  else
    s0 p1 (IntKind.i64.wrap (p2 + (1 : Int))) p4 p6
def antiquarylaw44_of_l0 : Nat → List ByteArray → Int → List It → List It → Option (List It × Bool)
  | 0, _, _, _, _ => none
  | k + 1, p1, p2, p3, p4 =>
    if (decide (p2 < (List.length p1 : Int))) = true then
      if 0 ≤ p2 ∧ p2 < (List.length p1 : Int) then
        Option.bind (exchange_Add k p4 (List.getD p1 (Int.toNat p2) (Kd.dflt Kd.str))) fun x270 =>
        if (x270.2 != (0 : Int)) = true then
          antiquarylaw44_of_l1 (antiquarylaw44_of_l0 k) k p1 p2 (x270.2 != (6 : Int)) p3 p4 x270.1
        else
          antiquarylaw44_of_l1 (antiquarylaw44_of_l0 k) k p1 p2 false p3 p4 x270.1
      else none
    else
      some (p4, true)
def antiquarylaw44_of (k : Nat) (a1 : List ByteArray) : Option (List It × Bool) :=
  antiquarylaw44_of_l0 k a1 (0 : Int) ([] : List It) ([] : List It)
theorem antiquarylaw44_of_l1_ok (s0 : List ByteArray → Int → List It → List It → Option (List It × Bool)) (hs0 : ∀ (p1 : List ByteArray) (p2 : Int) (p3 : List It) (p4 : List It) (r : List It × Bool), s0 p1 p2 p3 p4 = some r → Abs.Good P 38 Tryd.f38.ntmps [] [] (.t [.agg [.p (Kd.sl KI) r.1], .p Kd.bool r.2]) (pos Tryd.f38 [.r, .r, .r]) [(sk 0, some (.v (.p (Kd.sl Kd.str) p1))), (sk 2, some (.v (.ptr 500001 0))), (sk 4, some (.v (.ptr 500002 0))), (sk 5, some (.v (.p (Kd.int .i64) p2))), (ek 500001, some (.box [.p (Kd.sl KI) p3])), (ek 500002, some (.box [.p (Kd.sl KI) p4]))]) (k : Nat) (p1 : List ByteArray) (p2 : Int) (p3 : Bool) (p4 : List It) (p5 : List It) (p6 : List It) (r : List It × Bool) (h : antiquarylaw44_of_l1 s0 k p1 p2 p3 p4 p5 p6 = some r) :
    Abs.Good P 38 Tryd.f38.ntmps [] [] (.t [.agg [.p (Kd.sl KI) r.1], .p Kd.bool r.2]) (pos Tryd.f38 [.r, .r, .r, .r, .c true, .r, .r]) [(sk 0, some (.v (.p (Kd.sl Kd.str) p1))), (sk 2, some (.v (.ptr 501001 0))), (sk 4, some (.v (.ptr 501002 0))), (sk 5, some (.v (.p (Kd.int .i64) p2))), (sk 6, some (.v (.ptr 501003 0))), (sk 28, some (.v (.p Kd.bool p3))), (ek 501001, some (.box [.p (Kd.sl KI) p4])), (ek 501002, some (.box [.p (Kd.sl KI) p5])), (ek 501003, some (.box [.p (Kd.sl KI) p6]))] := by
  unfold antiquarylaw44_of_l1 at h
  rcases br_inv h with ⟨h273, h⟩ | ⟨h273, h⟩
  · replace h := Option.some.inj h; subst h
    exact Abs.Good.path_ret hm [.cond true, .reg []] [] Tryd.func38 (cs := [_]) (by kernel_rfl) ⟨h273, trivial⟩ (by kernel_rfl)
  · exact Abs.Good.path hm [.cond false, .reg [], .reg [], .keep [sk 0, sk 2, sk 4, sk 5, ek 501001, ek 501002], .ren [(501001, 500001), (501002, 500002)]] (cs := [_]) (by kernel_rfl) ⟨h273, trivial⟩ (hs0 p1 (IntKind.i64.wrap (p2 + (1 : Int))) p4 p6 r h)
theorem antiquarylaw44_of_l0_ok (k : Nat) : ∀ (p1 : List ByteArray) (p2 : Int) (p3 : List It) (p4 : List It) (r : List It × Bool), antiquarylaw44_of_l0 k p1 p2 p3 p4 = some r →
    Abs.Good P 38 Tryd.f38.ntmps [] [] (.t [.agg [.p (Kd.sl KI) r.1], .p Kd.bool r.2]) (pos Tryd.f38 [.r, .r, .r]) [(sk 0, some (.v (.p (Kd.sl Kd.str) p1))), (sk 2, some (.v (.ptr 500001 0))), (sk 4, some (.v (.ptr 500002 0))), (sk 5, some (.v (.p (Kd.int .i64) p2))), (ek 500001, some (.box [.p (Kd.sl KI) p3])), (ek 500002, some (.box [.p (Kd.sl KI) p4]))] := by
  induction k with
  | zero => intro p1 p2 p3 p4 r h; cases h
  | succ k ih =>
    intro p1 p2 p3 p4 r h
    unfold antiquarylaw44_of_l0 at h
    rcases br_inv h with ⟨h268, h⟩ | ⟨h268, h⟩
    · obtain ⟨h269, h⟩ := gd_inv h
      obtain ⟨x270, h271, h⟩ := bind_inv h
      rcases br_inv h with ⟨h272, h⟩ | ⟨h272, h⟩
      · exact Abs.Good.path hm [.reg [], .cond true, .reg [(5, { call := some { lend := [], pass := [], res := .t [.agg [.p (Kd.sl KI) x270.1], .p (Kd.int .i64) x270.2], outs := [], back := [] } })], .reg [(3, { dec := some true }), (4, { dec := some true }), (5, { pick := some true })], .keep [sk 0, sk 2, sk 4, sk 5, sk 6, sk 28, ek 500001, ek 500002, ek 6], .ren [(500001, 501001), (500002, 501002), (6, 501003)]] (cs := [_, _, _, _, _, _, _]) (by kernel_rfl) ⟨h268, h269.1, h269.2, (exchange_Add_ok k p4 (List.getD p1 (Int.toNat p2) (Kd.dflt Kd.str)) _ h271), h272, h272, h272, trivial⟩ (antiquarylaw44_of_l1_ok (antiquarylaw44_of_l0 k) ih k p1 p2 (x270.2 != (6 : Int)) p3 p4 x270.1 r h)
      · exact Abs.Good.path hm [.reg [], .cond true, .reg [(5, { call := some { lend := [], pass := [], res := .t [.agg [.p (Kd.sl KI) x270.1], .p (Kd.int .i64) x270.2], outs := [], back := [] } })], .reg [(3, { dec := some false }), (4, { dec := some false }), (5, { pick := some false })], .keep [sk 0, sk 2, sk 4, sk 5, sk 6, sk 28, ek 500001, ek 500002, ek 6], .ren [(500001, 501001), (500002, 501002), (6, 501003)]] (cs := [_, _, _, _, _, _, _]) (by kernel_rfl) ⟨h268, h269.1, h269.2, (exchange_Add_ok k p4 (List.getD p1 (Int.toNat p2) (Kd.dflt Kd.str)) _ h271), h272, h272, h272, trivial⟩ (antiquarylaw44_of_l1_ok (antiquarylaw44_of_l0 k) ih k p1 p2 false p3 p4 x270.1 r h)
    · replace h := Option.some.inj h; subst h
      exact Abs.Good.path_ret hm [.reg [], .cond false, .reg []] [] Tryd.func38 (cs := [_]) (by kernel_rfl) ⟨h268, trivial⟩ (by kernel_rfl)
theorem antiquarylaw44_of_ok (k : Nat) (a1 : List ByteArray) (r : List It × Bool) (h : antiquarylaw44_of k a1 = some r) : SpecOk P ⟨38, [.p (Kd.sl Kd.str) a1], [], .t [.agg [.p (Kd.sl KI) r.1], .p Kd.bool r.2], []⟩ := by
  refine spec_at Tryd.func38 (by kernel_rfl) (Nat.le_of_ble_eq_true (by kernel_rfl)) ?_
  unfold antiquarylaw44_of at h
  exact Abs.Good.path hm [.reg [], .co (ek 2) 0 (.nsl KI), .reg [], .co (ek 4) 0 (.nsl KI), .reg [], .keep [sk 0, sk 2, sk 4, sk 5, ek 2, ek 4], .ren [(2, 500001), (4, 500002)]] (cs := []) (by kernel_rfl) trivial (antiquarylaw44_of_l0_ok k a1 (0 : Int) ([] : List It) ([] : List It) r h)

def exchange_Valid_l1 (s0 : List It → Int → Int → List It → Option (Bool)) (k : Nat) (p1 : List It) (p2 : Int) (p3 : Int) (p4 : Bool) (p5 : List It) : Option (Bool) :=
  if p4 = true then
    some (false)
  else
    s0 p1 p2 (IntKind.i64.wrap (p3 + (1 : Int))) p5
def exchange_Valid_l0 : Nat → List It → Int → Int → List It → Option (Bool)
  | 0, _, _, _, _ => none
  | k + 1, p1, p2, p3, p4 =>
    if (decide (p3 < p2)) = true then
      if 0 ≤ p3 ∧ p3 < (List.length p1 : Int) then
        if (decide ((ByteArray.size (((List.getD p1 (Int.toNat p3) (Kd.dflt KI)).2).1) : Int) > (1048576 : Int))) = true then
          exchange_Valid_l1 (exchange_Valid_l0 k) k p1 p2 p3 true p4
        else
          Option.bind (exchange_Name k (((List.getD p1 (Int.toNat p3) (Kd.dflt KI)).2).1)) fun x302 =>
          if (!(Kd.eqb (Kd.arr 16 (Kd.int .u8)) ((List.getD p1 (Int.toNat p3) (Kd.dflt KI)).1) x302)) = true then
            exchange_Valid_l1 (exchange_Valid_l0 k) k p1 p2 p3 true p4
          else
            if (decide (p3 > (0 : Int))) = true then
              if 0 ≤ (IntKind.i64.wrap (p3 - (1 : Int))) ∧ (IntKind.i64.wrap (p3 - (1 : Int))) < (List.length p4 : Int) then
                Option.bind (exchange_order k ((List.getD p4 (Int.toNat (IntKind.i64.wrap (p3 - (1 : Int)))) (Kd.dflt KI)).1) ((List.getD p1 (Int.toNat p3) (Kd.dflt KI)).1)) fun x307 =>
                exchange_Valid_l1 (exchange_Valid_l0 k) k p1 p2 p3 (decide (x307 ≥ (0 : Int))) p4
              else none
            else
              exchange_Valid_l1 (exchange_Valid_l0 k) k p1 p2 p3 false p4
      else none
    else
      some ((decide ((List.length p4 : Int) ≤ (65536 : Int))))
def exchange_Valid (k : Nat) (a1 : List It) : Option (Bool) :=
  exchange_Valid_l0 k a1 (List.length a1 : Int) (0 : Int) a1
theorem exchange_Valid_l1_ok (s0 : List It → Int → Int → List It → Option (Bool)) (hs0 : ∀ (p1 : List It) (p2 : Int) (p3 : Int) (p4 : List It) (r : Bool), s0 p1 p2 p3 p4 = some r → Abs.Good P 11 Tryd.f11.ntmps [] [] (.v (.p Kd.bool r)) (pos Tryd.f11 [.r, .r]) [(sk 1, some (.v (.ptr 500001 0))), (sk 6, some (.v (.p (Kd.sl KI) p1))), (sk 7, some (.v (.p (Kd.int .i64) p2))), (sk 8, some (.v (.p (Kd.int .i64) p3))), (ek 500001, some (.box [.p (Kd.sl KI) p4]))]) (k : Nat) (p1 : List It) (p2 : Int) (p3 : Int) (p4 : Bool) (p5 : List It) (r : Bool) (h : exchange_Valid_l1 s0 k p1 p2 p3 p4 p5 = some r) :
    Abs.Good P 11 Tryd.f11.ntmps [] [] (.v (.p Kd.bool r)) (pos Tryd.f11 [.r, .r, .r, .c true, .r, .r]) [(sk 1, some (.v (.ptr 501001 0))), (sk 6, some (.v (.p (Kd.sl KI) p1))), (sk 7, some (.v (.p (Kd.int .i64) p2))), (sk 8, some (.v (.p (Kd.int .i64) p3))), (sk 41, some (.v (.p Kd.bool p4))), (ek 501001, some (.box [.p (Kd.sl KI) p5]))] := by
  unfold exchange_Valid_l1 at h
  rcases br_inv h with ⟨h309, h⟩ | ⟨h309, h⟩
  · replace h := Option.some.inj h; subst h
    exact Abs.Good.path_ret hm [.cond true, .reg []] [] Tryd.func11 (cs := [_]) (by kernel_rfl) ⟨h309, trivial⟩ (by kernel_rfl)
  · exact Abs.Good.path hm [.cond false, .reg [], .keep [sk 1, sk 6, sk 7, sk 8, ek 501001], .ren [(501001, 500001)]] (cs := [_]) (by kernel_rfl) ⟨h309, trivial⟩ (hs0 p1 p2 (IntKind.i64.wrap (p3 + (1 : Int))) p5 r h)
theorem exchange_Valid_l0_ok (k : Nat) : ∀ (p1 : List It) (p2 : Int) (p3 : Int) (p4 : List It) (r : Bool), exchange_Valid_l0 k p1 p2 p3 p4 = some r →
    Abs.Good P 11 Tryd.f11.ntmps [] [] (.v (.p Kd.bool r)) (pos Tryd.f11 [.r, .r]) [(sk 1, some (.v (.ptr 500001 0))), (sk 6, some (.v (.p (Kd.sl KI) p1))), (sk 7, some (.v (.p (Kd.int .i64) p2))), (sk 8, some (.v (.p (Kd.int .i64) p3))), (ek 500001, some (.box [.p (Kd.sl KI) p4]))] := by
  induction k with
  | zero => intro p1 p2 p3 p4 r h; cases h
  | succ k ih =>
    intro p1 p2 p3 p4 r h
    unfold exchange_Valid_l0 at h
    rcases br_inv h with ⟨h299, h⟩ | ⟨h299, h⟩
    · obtain ⟨h300, h⟩ := gd_inv h
      rcases br_inv h with ⟨h301, h⟩ | ⟨h301, h⟩
      · exact Abs.Good.path hm [.reg [], .cond true, .reg [], .reg [(5, { dec := some true }), (6, { dec := some true }), (7, { dec := some true }), (8, { dec := some true }), (9, { dec := some true }), (10, { dec := some true }), (11, { pick := some true }), (13, { dec := some true }), (14, { dec := some true }), (15, { dec := some true }), (27, { dec := some true }), (28, { pick := some true })], .keep [sk 1, sk 6, sk 7, sk 8, sk 41, ek 500001], .ren [(500001, 501001)]] (cs := [_, _, _, _, _, _, _, _, _, _, _, _, _, _, _]) (by kernel_rfl) ⟨h299, h300.1, h300.2, h301, h301, h301, h301, h301, h301, h301, (rfl : true = true), (rfl : true = true), (rfl : true = true), (rfl : true = true), (rfl : true = true), trivial⟩ (exchange_Valid_l1_ok (exchange_Valid_l0 k) ih k p1 p2 p3 true p4 r h)
      · obtain ⟨x302, h303, h⟩ := bind_inv h
        rcases br_inv h with ⟨h304, h⟩ | ⟨h304, h⟩
        · exact Abs.Good.path hm [.reg [], .cond true, .reg [], .reg [(5, { dec := some false }), (6, { dec := some false }), (7, { dec := some false }), (8, { dec := some false }), (9, { dec := some false, call := some { lend := [], pass := [], res := .v (.p (Kd.arr 16 (Kd.int .u8)) x302), outs := [], back := [] } }), (10, { dec := some false }), (11, { pick := some false }), (13, { dec := some true }), (14, { dec := some true }), (15, { dec := some true }), (27, { dec := some true }), (28, { pick := some true })], .keep [sk 1, sk 6, sk 7, sk 8, sk 41, ek 500001], .ren [(500001, 501001)]] (cs := [_, _, _, _, _, _, _, _, _, _, _, _, _, _, _, _, _]) (by kernel_rfl) ⟨h299, h300.1, h300.2, h301, h301, h301, h301, h301, (exchange_Name_ok k (((List.getD p1 (Int.toNat p3) (Kd.dflt KI)).2).1) _ h303), h301, eq26, h301, h304, h304, h304, h304, h304, trivial⟩ (exchange_Valid_l1_ok (exchange_Valid_l0 k) ih k p1 p2 p3 true p4 r h)
        · rcases br_inv h with ⟨h305, h⟩ | ⟨h305, h⟩
          · obtain ⟨h306, h⟩ := gd_inv h
            obtain ⟨x307, h308, h⟩ := bind_inv h
            exact Abs.Good.path hm [.reg [], .cond true, .reg [], .reg [(5, { dec := some false }), (6, { dec := some false }), (7, { dec := some false }), (8, { dec := some false }), (9, { dec := some false, call := some { lend := [], pass := [], res := .v (.p (Kd.arr 16 (Kd.int .u8)) x302), outs := [], back := [] } }), (10, { dec := some false }), (11, { pick := some false }), (13, { dec := some false }), (14, { dec := some false }), (15, { dec := some false }), (16, { dec := some true }), (17, { dec := some true }), (18, { dec := some true }), (19, { dec := some true }), (20, { dec := some true }), (21, { dec := some true }), (22, { dec := some true }), (23, { dec := some true }), (24, { dec := some true }), (25, { dec := some true, call := some { lend := [], pass := [], res := .v (.p (Kd.int .i64) x307), outs := [], back := [] } }), (26, { dec := some true }), (27, { dec := some false, pick := some true }), (28, { pick := some false })], .keep [sk 1, sk 6, sk 7, sk 8, sk 41, ek 500001], .ren [(500001, 501001)]] (cs := [_, _, _, _, _, _, _, _, _, _, _, _, _, _, _, _, _, _, _, _, _, _, _, _, _, _, _, _, _, _, _, _]) (by kernel_rfl) ⟨h299, h300.1, h300.2, h301, h301, h301, h301, h301, (exchange_Name_ok k (((List.getD p1 (Int.toNat p3) (Kd.dflt KI)).2).1) _ h303), h301, eq26, h301, h304, h304, h304, h305, h305, h305, h305, h305, h306.1, h306.2, h305, h305, h305, h305, h305, (exchange_order_ok k ((List.getD p4 (Int.toNat (IntKind.i64.wrap (p3 - (1 : Int)))) (Kd.dflt KI)).1) ((List.getD p1 (Int.toNat p3) (Kd.dflt KI)).1) _ h308), h305, h304, h305, h304, trivial⟩ (exchange_Valid_l1_ok (exchange_Valid_l0 k) ih k p1 p2 p3 (decide (x307 ≥ (0 : Int))) p4 r h)
          · exact Abs.Good.path hm [.reg [], .cond true, .reg [], .reg [(5, { dec := some false }), (6, { dec := some false }), (7, { dec := some false }), (8, { dec := some false }), (9, { dec := some false, call := some { lend := [], pass := [], res := .v (.p (Kd.arr 16 (Kd.int .u8)) x302), outs := [], back := [] } }), (10, { dec := some false }), (11, { pick := some false }), (13, { dec := some false }), (14, { dec := some false }), (15, { dec := some false }), (16, { dec := some false }), (17, { dec := some false }), (18, { dec := some false }), (19, { dec := some false }), (20, { dec := some false }), (21, { dec := some false }), (22, { dec := some false }), (23, { dec := some false }), (24, { dec := some false }), (25, { dec := some false }), (26, { dec := some false }), (27, { dec := some false, pick := some false }), (28, { pick := some false })], .keep [sk 1, sk 6, sk 7, sk 8, sk 41, ek 500001], .ren [(500001, 501001)]] (cs := [_, _, _, _, _, _, _, _, _, _, _, _, _, _, _, _, _, _, _, _, _, _, _, _, _, _, _, _, _]) (by kernel_rfl) ⟨h299, h300.1, h300.2, h301, h301, h301, h301, h301, (exchange_Name_ok k (((List.getD p1 (Int.toNat p3) (Kd.dflt KI)).2).1) _ h303), h301, eq26, h301, h304, h304, h304, h305, h305, h305, h305, h305, h305, h305, h305, h305, h305, h305, h304, h305, h304, trivial⟩ (exchange_Valid_l1_ok (exchange_Valid_l0 k) ih k p1 p2 p3 false p4 r h)
    · replace h := Option.some.inj h; subst h
      exact Abs.Good.path_ret hm [.reg [], .cond false, .reg []] [] Tryd.func11 (cs := [_]) (by kernel_rfl) ⟨h299, trivial⟩ (by kernel_rfl)
theorem exchange_Valid_ok (k : Nat) (a1 : List It) (r : Bool) (h : exchange_Valid k a1 = some r) : SpecOk P ⟨11, [.agg [.p (Kd.sl KI) a1]], [], .v (.p Kd.bool r), []⟩ := by
  refine spec_at Tryd.func11 (by kernel_rfl) (Nat.le_of_ble_eq_true (by kernel_rfl)) ?_
  unfold exchange_Valid at h
  exact Abs.Good.path hm [.reg [], .reg [], .keep [sk 1, sk 6, sk 7, sk 8, ek 1], .ren [(1, 500001)]] (cs := []) (by kernel_rfl) trivial (exchange_Valid_l0_ok k a1 (List.length a1 : Int) (0 : Int) a1 r h)

def exchange_under_1 (k : Nat) (a1 : Int) (a2 : List It) (a3 : List Int) (a4 : Int) : Option (Bool) :=
  if 0 ≤ a1 ∧ a1 < (List.length a2 : Int) then
    Option.bind (exchange_order k ((List.getD a2 (Int.toNat a1) (Kd.dflt KI)).1) a3) fun x328 =>
    some ((decide (x328 ≥ (0 : Int))))
  else none
theorem exchange_under_1_ok (k : Nat) (a1 : Int) (a2 : List It) (a3 : List Int) (a4 : Int) (r : Bool) (h : exchange_under_1 k a1 a2 a3 a4 = some r) : SpecOk P ⟨72, [.p (Kd.int .i64) a1, .ptr 1000001 0, .ptr 1000002 0], [(1000001, .box [.p (Kd.sl KI) a2]), (1000002, .box [.p (Kd.arr 16 (Kd.int .u8)) a3, .p (Kd.int .i64) a4])], .v (.p Kd.bool r), [(1000001, .box [.p (Kd.sl KI) a2]), (1000002, .box [.p (Kd.arr 16 (Kd.int .u8)) a3, .p (Kd.int .i64) a4])]⟩ := by
  refine spec_at Tryd.func72 (by kernel_rfl) (Nat.le_of_ble_eq_true (by kernel_rfl)) ?_
  unfold exchange_under_1 at h
  obtain ⟨h327, h⟩ := gd_inv h
  obtain ⟨x328, h329, h⟩ := bind_inv h
  replace h := Option.some.inj h; subst h
  exact Abs.Good.path_ret hm [.reg [], .reg [(8, { call := some { lend := [], pass := [], res := .v (.p (Kd.int .i64) x328), outs := [], back := [] } })]] [] Tryd.func72 (cs := [_, _, _]) (by kernel_rfl) ⟨h327.1, h327.2, (exchange_order_ok k ((List.getD a2 (Int.toNat a1) (Kd.dflt KI)).1) a3 _ h329), trivial⟩ (by kernel_rfl)

def sort_Search_l0 : Nat → Int → Int → List It → List Int → Int → Option (Int)
  | 0, _, _, _, _, _ => none
  | k + 1, p1, p2, p3, p4, p5 =>
    if (decide (p1 < p2)) = true then
      Option.bind (exchange_under_1 k (IntKind.i64.wrap (Int.fdiv (IntKind.u64.wrap (IntKind.i64.wrap (p1 + p2))) (2 ^ (min (Int.toNat (1 : Int)) (IntKind.bits .u64))))) p3 p4 p5) fun x334 =>
      if (!x334) = true then
        sort_Search_l0 k (IntKind.i64.wrap ((IntKind.i64.wrap (Int.fdiv (IntKind.u64.wrap (IntKind.i64.wrap (p1 + p2))) (2 ^ (min (Int.toNat (1 : Int)) (IntKind.bits .u64))))) + (1 : Int))) p2 p3 p4 p5
      else
        sort_Search_l0 k p1 (IntKind.i64.wrap (Int.fdiv (IntKind.u64.wrap (IntKind.i64.wrap (p1 + p2))) (2 ^ (min (Int.toNat (1 : Int)) (IntKind.bits .u64))))) p3 p4 p5
    else
      some (p1)
def sort_Search (k : Nat) (a1 : Int) (a2 : List It) (a3 : List Int) (a4 : Int) : Option (Int) :=
  sort_Search_l0 k (0 : Int) a1 a2 a3 a4
theorem sort_Search_l0_ok (k : Nat) : ∀ (p1 : Int) (p2 : Int) (p3 : List It) (p4 : List Int) (p5 : Int) (r : Int), sort_Search_l0 k p1 p2 p3 p4 p5 = some r →
    Abs.Good P 71 Tryd.f71.ntmps [1000001, 1000002] [(1000001, .box [.p (Kd.sl KI) p3]), (1000002, .box [.p (Kd.arr 16 (Kd.int .u8)) p4, .p (Kd.int .i64) p5])] (.v (.p (Kd.int .i64) r)) (pos Tryd.f71 [.r, .r]) [(sk 1, some (.v (.fn 72 [.ptr 1000001 0, .ptr 1000002 0]))), (sk 5, some (.v (.p (Kd.int .i64) p1))), (sk 6, some (.v (.p (Kd.int .i64) p2))), (ek 1000001, some (.box [.p (Kd.sl KI) p3])), (ek 1000002, some (.box [.p (Kd.arr 16 (Kd.int .u8)) p4, .p (Kd.int .i64) p5]))] := by
  induction k with
  | zero => intro p1 p2 p3 p4 p5 r h; cases h
  | succ k ih =>
    intro p1 p2 p3 p4 p5 r h
    unfold sort_Search_l0 at h
    rcases br_inv h with ⟨h333, h⟩ | ⟨h333, h⟩
    · obtain ⟨x334, h335, h⟩ := bind_inv h
      rcases br_inv h with ⟨h336, h⟩ | ⟨h336, h⟩
      · exact Abs.Good.path hm [.reg [], .cond true, .reg [], .reg [(2, { call := some { lend := [], pass := [(1000001, 1000001), (1000002, 1000002)], res := .v (.p Kd.bool x334), outs := [(1000001, .box [.p (Kd.sl KI) p3]), (1000002, .box [.p (Kd.arr 16 (Kd.int .u8)) p4, .p (Kd.int .i64) p5])], back := [(1000001, 1000001), (1000002, 1000002)], same := [1000001, 1000002] } })], .cond true, .reg [], .keep [sk 1, sk 5, sk 6, ek 1000001, ek 1000002]] (cs := [_, _, _, _, _, _]) (by kernel_rfl) ⟨h333, (by decide : 0 ≤ (1 : Int)), (rfl : (.box [.p (Kd.arr 16 (Kd.int .u8)) p4, .p (Kd.int .i64) p5] : Val) = .box [.p (Kd.arr 16 (Kd.int .u8)) p4, .p (Kd.int .i64) p5]), (rfl : (.box [.p (Kd.sl KI) p3] : Val) = .box [.p (Kd.sl KI) p3]), (exchange_under_1_ok k (IntKind.i64.wrap (Int.fdiv (IntKind.u64.wrap (IntKind.i64.wrap (p1 + p2))) (2 ^ (min (Int.toNat (1 : Int)) (IntKind.bits .u64))))) p3 p4 p5 _ h335), h336, trivial⟩ (ih (IntKind.i64.wrap ((IntKind.i64.wrap (Int.fdiv (IntKind.u64.wrap (IntKind.i64.wrap (p1 + p2))) (2 ^ (min (Int.toNat (1 : Int)) (IntKind.bits .u64))))) + (1 : Int))) p2 p3 p4 p5 r h)
      · exact Abs.Good.path hm [.reg [], .cond true, .reg [], .reg [(2, { call := some { lend := [], pass := [(1000001, 1000001), (1000002, 1000002)], res := .v (.p Kd.bool x334), outs := [(1000001, .box [.p (Kd.sl KI) p3]), (1000002, .box [.p (Kd.arr 16 (Kd.int .u8)) p4, .p (Kd.int .i64) p5])], back := [(1000001, 1000001), (1000002, 1000002)], same := [1000001, 1000002] } })], .cond false, .reg [], .keep [sk 1, sk 5, sk 6, ek 1000001, ek 1000002]] (cs := [_, _, _, _, _, _]) (by kernel_rfl) ⟨h333, (by decide : 0 ≤ (1 : Int)), (rfl : (.box [.p (Kd.arr 16 (Kd.int .u8)) p4, .p (Kd.int .i64) p5] : Val) = .box [.p (Kd.arr 16 (Kd.int .u8)) p4, .p (Kd.int .i64) p5]), (rfl : (.box [.p (Kd.sl KI) p3] : Val) = .box [.p (Kd.sl KI) p3]), (exchange_under_1_ok k (IntKind.i64.wrap (Int.fdiv (IntKind.u64.wrap (IntKind.i64.wrap (p1 + p2))) (2 ^ (min (Int.toNat (1 : Int)) (IntKind.bits .u64))))) p3 p4 p5 _ h335), h336, trivial⟩ (ih p1 (IntKind.i64.wrap (Int.fdiv (IntKind.u64.wrap (IntKind.i64.wrap (p1 + p2))) (2 ^ (min (Int.toNat (1 : Int)) (IntKind.bits .u64))))) p3 p4 p5 r h)
    · replace h := Option.some.inj h; subst h
      exact Abs.Good.path_ret hm [.reg [], .cond false, .reg []] [] Tryd.func71 (cs := [_]) (by kernel_rfl) ⟨h333, trivial⟩ (by kernel_rfl)
theorem sort_Search_ok (k : Nat) (a1 : Int) (a2 : List It) (a3 : List Int) (a4 : Int) (r : Int) (h : sort_Search k a1 a2 a3 a4 = some r) : SpecOk P ⟨71, [.p (Kd.int .i64) a1, .fn 72 [.ptr 1000001 0, .ptr 1000002 0]], [(1000001, .box [.p (Kd.sl KI) a2]), (1000002, .box [.p (Kd.arr 16 (Kd.int .u8)) a3, .p (Kd.int .i64) a4])], .v (.p (Kd.int .i64) r), [(1000001, .box [.p (Kd.sl KI) a2]), (1000002, .box [.p (Kd.arr 16 (Kd.int .u8)) a3, .p (Kd.int .i64) a4])]⟩ := by
  refine spec_at Tryd.func71 (by kernel_rfl) (Nat.le_of_ble_eq_true (by kernel_rfl)) ?_
  unfold sort_Search at h
  exact Abs.Good.path hm [.reg [], .reg [], .keep [sk 1, sk 5, sk 6, ek 1000001, ek 1000002]] (cs := []) (by kernel_rfl) trivial (sort_Search_l0_ok k (0 : Int) a1 a2 a3 a4 r h)

def exchange_mask_l1 (s0 : Int → Int → List Int → List Int → Option (List Int)) (k : Nat) (p1 : Int) (p2 : Int) (p3 : List Int) (p4 : List Int) : Option (List Int) :=
  s0 p1 (IntKind.i64.wrap (p2 + (1 : Int))) p3 p4
def exchange_mask_l0 : Nat → Int → Int → List Int → List Int → Option (List Int)
  | 0, _, _, _, _ => none
  | k + 1, p1, p2, p3, p4 =>
    if (decide (p2 < (16 : Int))) = true then
      if (decide ((mm false (mm true (IntKind.i64.wrap (p1 - (IntKind.i64.wrap ((8 : Int) * p2)))) (0 : Int)) (8 : Int)) < (8 : Int))) = true then
        if 0 ≤ p2 ∧ p2 < (16 : Int) then
          if 0 ≤ (mm false (mm true (IntKind.i64.wrap (p1 - (IntKind.i64.wrap ((8 : Int) * p2)))) (0 : Int)) (8 : Int)) then
            exchange_mask_l1 (exchange_mask_l0 k) k p1 p2 (List.set p3 (Int.toNat p2) (IntKind.u8.wrap (((BitVec.ofInt (IntKind.bits .u8) (List.getD p3 (Int.toNat p2) (Kd.dflt (Kd.int .u8)))) &&& (BitVec.ofInt (IntKind.bits .u8) (IntKind.u8.wrap ((BitVec.ofInt (IntKind.bits .u8) (if (IntKind.signed .u8) then -1 else IntKind.max .u8) ^^^ BitVec.ofInt (IntKind.bits .u8) (Int.fdiv (255 : Int) (2 ^ (min (Int.toNat (mm false (mm true (IntKind.i64.wrap (p1 - (IntKind.i64.wrap ((8 : Int) * p2)))) (0 : Int)) (8 : Int))) (IntKind.bits .u8))))).toNat : Int)))).toNat : Int))) p4
          else none
        else none
      else
        exchange_mask_l1 (exchange_mask_l0 k) k p1 p2 p3 p4
    else
      some (p3)
def exchange_mask (k : Nat) (a1 : List Int) (a2 : Int) : Option (List Int) :=
  exchange_mask_l0 k a2 (0 : Int) a1 (Kd.dflt (Kd.arr 16 (Kd.int .u8)))
theorem exchange_mask_l1_ok (s0 : Int → Int → List Int → List Int → Option (List Int)) (hs0 : ∀ (p1 : Int) (p2 : Int) (p3 : List Int) (p4 : List Int) (r : List Int), s0 p1 p2 p3 p4 = some r → Abs.Good P 51 Tryd.f51.ntmps [] [] (.v (.p (Kd.arr 16 (Kd.int .u8)) r)) (pos Tryd.f51 [.r, .r]) [(sk 1, some (.v (.p (Kd.int .i64) p1))), (sk 2, some (.v (.ptr 500001 0))), (sk 4, some (.v (.ptr 500002 0))), (sk 7, some (.v (.p (Kd.int .i64) p2))), (ek 500001, some (.box [.p (Kd.arr 16 (Kd.int .u8)) p3])), (ek 500002, some (.box [.p (Kd.arr 16 (Kd.int .u8)) p4]))]) (k : Nat) (p1 : Int) (p2 : Int) (p3 : List Int) (p4 : List Int) (r : List Int) (h : exchange_mask_l1 s0 k p1 p2 p3 p4 = some r) :
    Abs.Good P 51 Tryd.f51.ntmps [] [] (.v (.p (Kd.arr 16 (Kd.int .u8)) r)) (pos Tryd.f51 [.r, .r, .r, .c true, .r, .r, .r, .c false]) [(sk 1, some (.v (.p (Kd.int .i64) p1))), (sk 2, some (.v (.ptr 501001 0))), (sk 4, some (.v (.ptr 501002 0))), (sk 7, some (.v (.p (Kd.int .i64) p2))), (ek 501001, some (.box [.p (Kd.arr 16 (Kd.int .u8)) p3])), (ek 501002, some (.box [.p (Kd.arr 16 (Kd.int .u8)) p4]))] := by
  unfold exchange_mask_l1 at h
  exact Abs.Good.path hm [.reg [], .keep [sk 1, sk 2, sk 4, sk 7, ek 501001, ek 501002], .ren [(501001, 500001), (501002, 500002)]] (cs := []) (by kernel_rfl) trivial (hs0 p1 (IntKind.i64.wrap (p2 + (1 : Int))) p3 p4 r h)
theorem exchange_mask_l0_ok (k : Nat) : ∀ (p1 : Int) (p2 : Int) (p3 : List Int) (p4 : List Int) (r : List Int), exchange_mask_l0 k p1 p2 p3 p4 = some r →
    Abs.Good P 51 Tryd.f51.ntmps [] [] (.v (.p (Kd.arr 16 (Kd.int .u8)) r)) (pos Tryd.f51 [.r, .r]) [(sk 1, some (.v (.p (Kd.int .i64) p1))), (sk 2, some (.v (.ptr 500001 0))), (sk 4, some (.v (.ptr 500002 0))), (sk 7, some (.v (.p (Kd.int .i64) p2))), (ek 500001, some (.box [.p (Kd.arr 16 (Kd.int .u8)) p3])), (ek 500002, some (.box [.p (Kd.arr 16 (Kd.int .u8)) p4]))] := by
  induction k with
  | zero => intro p1 p2 p3 p4 r h; cases h
  | succ k ih =>
    intro p1 p2 p3 p4 r h
    unfold exchange_mask_l0 at h
    rcases br_inv h with ⟨h350, h⟩ | ⟨h350, h⟩
    · rcases br_inv h with ⟨h351, h⟩ | ⟨h351, h⟩
      · obtain ⟨h352, h⟩ := gd_inv h
        obtain ⟨h353, h⟩ := gd_inv h
        exact Abs.Good.path hm [.reg [], .cond true, .reg [], .reg [], .reg [], .cond true, .reg [], .keep [sk 1, sk 2, sk 4, sk 7, ek 500001, ek 500002], .ren [(500001, 501001), (500002, 501002)]] (cs := [_, _, _, _, _, _, _]) (by kernel_rfl) ⟨h350, h351, h352.1, h352.2, h353, h352.1, h352.2, trivial⟩ (exchange_mask_l1_ok (exchange_mask_l0 k) ih k p1 p2 (List.set p3 (Int.toNat p2) (IntKind.u8.wrap (((BitVec.ofInt (IntKind.bits .u8) (List.getD p3 (Int.toNat p2) (Kd.dflt (Kd.int .u8)))) &&& (BitVec.ofInt (IntKind.bits .u8) (IntKind.u8.wrap ((BitVec.ofInt (IntKind.bits .u8) (if (IntKind.signed .u8) then -1 else IntKind.max .u8) ^^^ BitVec.ofInt (IntKind.bits .u8) (Int.fdiv (255 : Int) (2 ^ (min (Int.toNat (mm false (mm true (IntKind.i64.wrap (p1 - (IntKind.i64.wrap ((8 : Int) * p2)))) (0 : Int)) (8 : Int))) (IntKind.bits .u8))))).toNat : Int)))).toNat : Int))) p4 r h)
      · exact Abs.Good.path hm [.reg [], .cond true, .reg [], .reg [], .reg [], .cond false, .keep [sk 1, sk 2, sk 4, sk 7, ek 500001, ek 500002], .ren [(500001, 501001), (500002, 501002)]] (cs := [_, _]) (by kernel_rfl) ⟨h350, h351, trivial⟩ (exchange_mask_l1_ok (exchange_mask_l0 k) ih k p1 p2 p3 p4 r h)
    · replace h := Option.some.inj h; subst h
      exact Abs.Good.path_ret hm [.reg [], .cond false, .reg []] [] Tryd.func51 (cs := [_]) (by kernel_rfl) ⟨h350, trivial⟩ (by kernel_rfl)
theorem exchange_mask_ok (k : Nat) (a1 : List Int) (a2 : Int) (r : List Int) (h : exchange_mask k a1 a2 = some r) : SpecOk P ⟨51, [.p (Kd.arr 16 (Kd.int .u8)) a1, .p (Kd.int .i64) a2], [], .v (.p (Kd.arr 16 (Kd.int .u8)) r), []⟩ := by
  refine spec_at Tryd.func51 (by kernel_rfl) (Nat.le_of_ble_eq_true (by kernel_rfl)) ?_
  unfold exchange_mask at h
  exact Abs.Good.path hm [.reg [], .reg [], .keep [sk 1, sk 2, sk 4, sk 7, ek 2, ek 4], .ren [(2, 500001), (4, 500002)]] (cs := []) (by kernel_rfl) trivial (exchange_mask_l0_ok k a2 (0 : Int) a1 (Kd.dflt (Kd.arr 16 (Kd.int .u8))) r h)

def exchange_Under (k : Nat) (a1 : List Int) (a2 : Int) (a3 : List Int) : Option (Bool) :=
  Option.bind (exchange_mask k a3 a2) fun x356 =>
  some ((Kd.eqb (Kd.arr 16 (Kd.int .u8)) x356 a1))
theorem exchange_Under_ok (k : Nat) (a1 : List Int) (a2 : Int) (a3 : List Int) (r : Bool) (h : exchange_Under k a1 a2 a3 = some r) : SpecOk P ⟨23, [.agg [.p (Kd.arr 16 (Kd.int .u8)) a1, .p (Kd.int .i64) a2], .p (Kd.arr 16 (Kd.int .u8)) a3], [], .v (.p Kd.bool r), []⟩ := by
  refine spec_at Tryd.func23 (by kernel_rfl) (Nat.le_of_ble_eq_true (by kernel_rfl)) ?_
  unfold exchange_Under at h
  obtain ⟨x356, h357, h⟩ := bind_inv h
  replace h := Option.some.inj h; subst h
  exact Abs.Good.path_ret hm [.reg [], .reg [(3, { call := some { lend := [], pass := [], res := .v (.p (Kd.arr 16 (Kd.int .u8)) x356), outs := [], back := [] } })]] [] Tryd.func23 (cs := [_, _]) (by kernel_rfl) ⟨(exchange_mask_ok k a3 a2 _ h357), eq26, trivial⟩ (by kernel_rfl)

def exchange_under_2 (k : Nat) (a1 : Int) (a2 : List Int) (a3 : Int) (a4 : List It) : Option (Bool) :=
  if 0 ≤ a1 ∧ a1 < (List.length a4 : Int) then
    Option.bind (exchange_Under k a2 a3 ((List.getD a4 (Int.toNat a1) (Kd.dflt KI)).1)) fun x361 =>
    some ((!x361))
  else none
theorem exchange_under_2_ok (k : Nat) (a1 : Int) (a2 : List Int) (a3 : Int) (a4 : List It) (r : Bool) (h : exchange_under_2 k a1 a2 a3 a4 = some r) : SpecOk P ⟨73, [.p (Kd.int .i64) a1, .ptr 1000001 0, .ptr 1000002 0], [(1000001, .box [.p (Kd.arr 16 (Kd.int .u8)) a2, .p (Kd.int .i64) a3]), (1000002, .box [.p (Kd.sl KI) a4])], .v (.p Kd.bool r), [(1000001, .box [.p (Kd.arr 16 (Kd.int .u8)) a2, .p (Kd.int .i64) a3]), (1000002, .box [.p (Kd.sl KI) a4])]⟩ := by
  refine spec_at Tryd.func73 (by kernel_rfl) (Nat.le_of_ble_eq_true (by kernel_rfl)) ?_
  unfold exchange_under_2 at h
  obtain ⟨h360, h⟩ := gd_inv h
  obtain ⟨x361, h362, h⟩ := bind_inv h
  replace h := Option.some.inj h; subst h
  exact Abs.Good.path_ret hm [.reg [], .reg [(6, { call := some { lend := [], pass := [], res := .v (.p Kd.bool x361), outs := [], back := [] } })]] [] Tryd.func73 (cs := [_, _, _]) (by kernel_rfl) ⟨h360.1, h360.2, (exchange_Under_ok k a2 a3 ((List.getD a4 (Int.toNat a1) (Kd.dflt KI)).1) _ h362), trivial⟩ (by kernel_rfl)

def sort_Search_71_l0 : Nat → Int → Int → List Int → Int → List It → Option (Int)
  | 0, _, _, _, _, _ => none
  | k + 1, p1, p2, p3, p4, p5 =>
    if (decide (p1 < p2)) = true then
      Option.bind (exchange_under_2 k (IntKind.i64.wrap (Int.fdiv (IntKind.u64.wrap (IntKind.i64.wrap (p1 + p2))) (2 ^ (min (Int.toNat (1 : Int)) (IntKind.bits .u64))))) p3 p4 p5) fun x367 =>
      if (!x367) = true then
        sort_Search_71_l0 k (IntKind.i64.wrap ((IntKind.i64.wrap (Int.fdiv (IntKind.u64.wrap (IntKind.i64.wrap (p1 + p2))) (2 ^ (min (Int.toNat (1 : Int)) (IntKind.bits .u64))))) + (1 : Int))) p2 p3 p4 p5
      else
        sort_Search_71_l0 k p1 (IntKind.i64.wrap (Int.fdiv (IntKind.u64.wrap (IntKind.i64.wrap (p1 + p2))) (2 ^ (min (Int.toNat (1 : Int)) (IntKind.bits .u64))))) p3 p4 p5
    else
      some (p1)
def sort_Search_71 (k : Nat) (a1 : Int) (a2 : List Int) (a3 : Int) (a4 : List It) : Option (Int) :=
  sort_Search_71_l0 k (0 : Int) a1 a2 a3 a4
theorem sort_Search_71_l0_ok (k : Nat) : ∀ (p1 : Int) (p2 : Int) (p3 : List Int) (p4 : Int) (p5 : List It) (r : Int), sort_Search_71_l0 k p1 p2 p3 p4 p5 = some r →
    Abs.Good P 71 Tryd.f71.ntmps [1000001, 1000002] [(1000001, .box [.p (Kd.arr 16 (Kd.int .u8)) p3, .p (Kd.int .i64) p4]), (1000002, .box [.p (Kd.sl KI) p5])] (.v (.p (Kd.int .i64) r)) (pos Tryd.f71 [.r, .r]) [(sk 1, some (.v (.fn 73 [.ptr 1000001 0, .ptr 1000002 0]))), (sk 5, some (.v (.p (Kd.int .i64) p1))), (sk 6, some (.v (.p (Kd.int .i64) p2))), (ek 1000001, some (.box [.p (Kd.arr 16 (Kd.int .u8)) p3, .p (Kd.int .i64) p4])), (ek 1000002, some (.box [.p (Kd.sl KI) p5]))] := by
  induction k with
  | zero => intro p1 p2 p3 p4 p5 r h; cases h
  | succ k ih =>
    intro p1 p2 p3 p4 p5 r h
    unfold sort_Search_71_l0 at h
    rcases br_inv h with ⟨h366, h⟩ | ⟨h366, h⟩
    · obtain ⟨x367, h368, h⟩ := bind_inv h
      rcases br_inv h with ⟨h369, h⟩ | ⟨h369, h⟩
      · exact Abs.Good.path hm [.reg [], .cond true, .reg [], .reg [(2, { call := some { lend := [], pass := [(1000001, 1000001), (1000002, 1000002)], res := .v (.p Kd.bool x367), outs := [(1000001, .box [.p (Kd.arr 16 (Kd.int .u8)) p3, .p (Kd.int .i64) p4]), (1000002, .box [.p (Kd.sl KI) p5])], back := [(1000001, 1000001), (1000002, 1000002)], same := [1000001, 1000002] } })], .cond true, .reg [], .keep [sk 1, sk 5, sk 6, ek 1000001, ek 1000002]] (cs := [_, _, _, _, _, _]) (by kernel_rfl) ⟨h366, (by decide : 0 ≤ (1 : Int)), (rfl : (.box [.p (Kd.sl KI) p5] : Val) = .box [.p (Kd.sl KI) p5]), (rfl : (.box [.p (Kd.arr 16 (Kd.int .u8)) p3, .p (Kd.int .i64) p4] : Val) = .box [.p (Kd.arr 16 (Kd.int .u8)) p3, .p (Kd.int .i64) p4]), (exchange_under_2_ok k (IntKind.i64.wrap (Int.fdiv (IntKind.u64.wrap (IntKind.i64.wrap (p1 + p2))) (2 ^ (min (Int.toNat (1 : Int)) (IntKind.bits .u64))))) p3 p4 p5 _ h368), h369, trivial⟩ (ih (IntKind.i64.wrap ((IntKind.i64.wrap (Int.fdiv (IntKind.u64.wrap (IntKind.i64.wrap (p1 + p2))) (2 ^ (min (Int.toNat (1 : Int)) (IntKind.bits .u64))))) + (1 : Int))) p2 p3 p4 p5 r h)
      · exact Abs.Good.path hm [.reg [], .cond true, .reg [], .reg [(2, { call := some { lend := [], pass := [(1000001, 1000001), (1000002, 1000002)], res := .v (.p Kd.bool x367), outs := [(1000001, .box [.p (Kd.arr 16 (Kd.int .u8)) p3, .p (Kd.int .i64) p4]), (1000002, .box [.p (Kd.sl KI) p5])], back := [(1000001, 1000001), (1000002, 1000002)], same := [1000001, 1000002] } })], .cond false, .reg [], .keep [sk 1, sk 5, sk 6, ek 1000001, ek 1000002]] (cs := [_, _, _, _, _, _]) (by kernel_rfl) ⟨h366, (by decide : 0 ≤ (1 : Int)), (rfl : (.box [.p (Kd.sl KI) p5] : Val) = .box [.p (Kd.sl KI) p5]), (rfl : (.box [.p (Kd.arr 16 (Kd.int .u8)) p3, .p (Kd.int .i64) p4] : Val) = .box [.p (Kd.arr 16 (Kd.int .u8)) p3, .p (Kd.int .i64) p4]), (exchange_under_2_ok k (IntKind.i64.wrap (Int.fdiv (IntKind.u64.wrap (IntKind.i64.wrap (p1 + p2))) (2 ^ (min (Int.toNat (1 : Int)) (IntKind.bits .u64))))) p3 p4 p5 _ h368), h369, trivial⟩ (ih p1 (IntKind.i64.wrap (Int.fdiv (IntKind.u64.wrap (IntKind.i64.wrap (p1 + p2))) (2 ^ (min (Int.toNat (1 : Int)) (IntKind.bits .u64))))) p3 p4 p5 r h)
    · replace h := Option.some.inj h; subst h
      exact Abs.Good.path_ret hm [.reg [], .cond false, .reg []] [] Tryd.func71 (cs := [_]) (by kernel_rfl) ⟨h366, trivial⟩ (by kernel_rfl)
theorem sort_Search_71_ok (k : Nat) (a1 : Int) (a2 : List Int) (a3 : Int) (a4 : List It) (r : Int) (h : sort_Search_71 k a1 a2 a3 a4 = some r) : SpecOk P ⟨71, [.p (Kd.int .i64) a1, .fn 73 [.ptr 1000001 0, .ptr 1000002 0]], [(1000001, .box [.p (Kd.arr 16 (Kd.int .u8)) a2, .p (Kd.int .i64) a3]), (1000002, .box [.p (Kd.sl KI) a4])], .v (.p (Kd.int .i64) r), [(1000001, .box [.p (Kd.arr 16 (Kd.int .u8)) a2, .p (Kd.int .i64) a3]), (1000002, .box [.p (Kd.sl KI) a4])]⟩ := by
  refine spec_at Tryd.func71 (by kernel_rfl) (Nat.le_of_ble_eq_true (by kernel_rfl)) ?_
  unfold sort_Search_71 at h
  exact Abs.Good.path hm [.reg [], .reg [], .keep [sk 1, sk 5, sk 6, ek 1000001, ek 1000002]] (cs := []) (by kernel_rfl) trivial (sort_Search_71_l0_ok k (0 : Int) a1 a2 a3 a4 r h)

def exchange_under (k : Nat) (a1 : List It) (a2 : List Int) (a3 : Int) : Option (List It) :=
  Option.bind (sort_Search k (List.length a1 : Int) a1 a2 a3) fun x373 =>
  if 0 ≤ x373 ∧ x373 ≤ (List.length a1 : Int) then
    Option.bind (sort_Search_71 k (List.length (List.drop (Int.toNat x373) a1) : Int) a2 a3 (List.drop (Int.toNat x373) a1)) fun x376 =>
    if 0 ≤ x376 ∧ x376 ≤ (List.length (List.drop (Int.toNat x373) a1) : Int) then
      some ((List.take (Int.toNat x376) (List.drop (Int.toNat x373) a1)))
    else none
  else none
theorem exchange_under_ok (k : Nat) (a1 : List It) (a2 : List Int) (a3 : Int) (r : List It) (h : exchange_under k a1 a2 a3 = some r) : SpecOk P ⟨49, [.agg [.p (Kd.sl KI) a1], .agg [.p (Kd.arr 16 (Kd.int .u8)) a2, .p (Kd.int .i64) a3]], [], .v (.p (Kd.sl KI) r), []⟩ := by
  refine spec_at Tryd.func49 (by kernel_rfl) (Nat.le_of_ble_eq_true (by kernel_rfl)) ?_
  unfold exchange_under at h
  obtain ⟨x373, h374, h⟩ := bind_inv h
  obtain ⟨h375, h⟩ := gd_inv h
  obtain ⟨x376, h377, h⟩ := bind_inv h
  obtain ⟨h378, h⟩ := gd_inv h
  replace h := Option.some.inj h; subst h
  exact Abs.Good.path_ret hm [.reg [], .reg [(4, { call := some { lend := [], pass := [(2, 1000001), (3, 1000002)], res := .v (.p (Kd.int .i64) x373), outs := [(1000001, .box [.p (Kd.sl KI) a1]), (1000002, .box [.p (Kd.arr 16 (Kd.int .u8)) a2, .p (Kd.int .i64) a3])], back := [(1000001, 2), (1000002, 3)], same := [2, 3] } })], .reg [], .reg [(4, { call := some { lend := [], pass := [(3, 1000001), (6, 1000002)], res := .v (.p (Kd.int .i64) x376), outs := [(1000001, .box [.p (Kd.arr 16 (Kd.int .u8)) a2, .p (Kd.int .i64) a3]), (1000002, .box [.p (Kd.sl KI) (List.drop (Int.toNat x373) a1)])], back := [(1000001, 3), (1000002, 6)], same := [3, 6] } })]] [] Tryd.func49 (cs := [_, _, _, _, _, _, _, _, _, _]) (by kernel_rfl) ⟨(rfl : (.box [.p (Kd.arr 16 (Kd.int .u8)) a2, .p (Kd.int .i64) a3] : Val) = .box [.p (Kd.arr 16 (Kd.int .u8)) a2, .p (Kd.int .i64) a3]), (rfl : (.box [.p (Kd.sl KI) a1] : Val) = .box [.p (Kd.sl KI) a1]), (sort_Search_ok k (List.length a1 : Int) a1 a2 a3 _ h374), h375.1, h375.2, (rfl : (.box [.p (Kd.sl KI) (List.drop (Int.toNat x373) a1)] : Val) = .box [.p (Kd.sl KI) (List.drop (Int.toNat x373) a1)]), (rfl : (.box [.p (Kd.arr 16 (Kd.int .u8)) a2, .p (Kd.int .i64) a3] : Val) = .box [.p (Kd.arr 16 (Kd.int .u8)) a2, .p (Kd.int .i64) a3]), (sort_Search_71_ok k (List.length (List.drop (Int.toNat x373) a1) : Int) a2 a3 (List.drop (Int.toNat x373) a1) _ h377), h378.1, h378.2, trivial⟩ (by kernel_rfl)

def exchange_Sum_l0 : Nat → List It → Int → Int → List Int → List ByteArray → Option (List Int × Int)
  | 0, _, _, _, _, _ => none
  | k + 1, p1, p2, p3, p4, p5 =>
    if (decide (p3 < p2)) = true then
      if 0 ≤ p3 ∧ p3 < (List.length p1 : Int) then
        if List.length p5 + List.length ([(strOf (List.take 16 (List.drop 0 ((List.getD p1 (Int.toNat p3) (Kd.dflt KI)).1))))] : List ByteArray) ≤ 8796093022208 then
          exchange_Sum_l0 k p1 p2 (IntKind.i64.wrap (p3 + (1 : Int))) p4 (p5 ++ ([(strOf (List.take 16 (List.drop 0 ((List.getD p1 (Int.toNat p3) (Kd.dflt KI)).1))))] : List ByteArray))
        else none
      else none
    else
      Option.bind (hash_Of k (45 : Int) p5) fun x398 =>
      some (x398, ((List.length p5) : Int))
def exchange_Sum (k : Nat) (a1 : List It) (a2 : List Int) (a3 : Int) : Option (List Int × Int) :=
  Option.bind (exchange_under k a1 a2 a3) fun x393 =>
  exchange_Sum_l0 k x393 (List.length x393 : Int) (0 : Int) (Kd.dflt (Kd.arr 16 (Kd.int .u8))) ([] : List ByteArray)
theorem exchange_Sum_l0_ok (k : Nat) : ∀ (p1 : List It) (p2 : Int) (p3 : Int) (p4 : List Int) (p5 : List ByteArray) (r : List Int × Int), exchange_Sum_l0 k p1 p2 p3 p4 p5 = some r →
    Abs.Good P 20 Tryd.f20.ntmps [] [] (.t [.p (Kd.arr 16 (Kd.int .u8)) r.1, .p (Kd.int .i64) r.2]) (pos Tryd.f20 [.r, .r, .r]) [(sk 4, some (.v (.ptr 500001 0))), (sk 6, some (.v (.row 500002 (List.length p5)))), (sk 11, some (.v (.p (Kd.sl KI) p1))), (sk 12, some (.v (.p (Kd.int .i64) p2))), (sk 13, some (.v (.p (Kd.int .i64) p3))), (ek 500001, some (.box [.p (Kd.arr 16 (Kd.int .u8)) p4])), (ek 500002, some (.row Kd.str 9 p5))] := by
  induction k with
  | zero => intro p1 p2 p3 p4 p5 r h; cases h
  | succ k ih =>
    intro p1 p2 p3 p4 p5 r h
    unfold exchange_Sum_l0 at h
    rcases br_inv h with ⟨h395, h⟩ | ⟨h395, h⟩
    · obtain ⟨h396, h⟩ := gd_inv h
      obtain ⟨h397, h⟩ := gd_inv h
      exact Abs.Good.path hm [.reg [], .cond true, .reg [], .reg [], .reg [], .keep [sk 4, sk 6, sk 11, sk 12, sk 13, ek 500001, ek 22], .ren [(500001, 500001), (22, 500002)]] (cs := [_, _, _, _, _, _]) (by kernel_rfl) ⟨h395, h396.1, h396.2, (rfl : (List.length p5) = List.length p5), (appBound (P := P) (et := 9) (b := 16) (by kernel_rfl) (by decide) h397), (rfl : 1 = List.length ([(strOf (List.take 16 (List.drop 0 ((List.getD p1 (Int.toNat p3) (Kd.dflt KI)).1))))] : List ByteArray)), trivial⟩ (ih p1 p2 (IntKind.i64.wrap (p3 + (1 : Int))) p4 (p5 ++ ([(strOf (List.take 16 (List.drop 0 ((List.getD p1 (Int.toNat p3) (Kd.dflt KI)).1))))] : List ByteArray)) r h)
    · obtain ⟨x398, h399, h⟩ := bind_inv h
      replace h := Option.some.inj h; subst h
      exact Abs.Good.path_ret hm [.reg [], .cond false, .reg [(1, { call := some { lend := [(500002, false)], pass := [], res := .v (.p (Kd.arr 16 (Kd.int .u8)) x398), outs := [], back := [] } })]] [] Tryd.func20 (cs := [_, _, _]) (by kernel_rfl) ⟨h395, (hash_Of_ok k (45 : Int) p5 _ h399), (rfl : (List.length p5) = List.length p5), trivial⟩ (by kernel_rfl)
theorem exchange_Sum_ok (k : Nat) (a1 : List It) (a2 : List Int) (a3 : Int) (r : List Int × Int) (h : exchange_Sum k a1 a2 a3 = some r) : SpecOk P ⟨20, [.agg [.p (Kd.sl KI) a1], .agg [.p (Kd.arr 16 (Kd.int .u8)) a2, .p (Kd.int .i64) a3]], [], .t [.p (Kd.arr 16 (Kd.int .u8)) r.1, .p (Kd.int .i64) r.2], []⟩ := by
  refine spec_at Tryd.func20 (by kernel_rfl) (Nat.le_of_ble_eq_true (by kernel_rfl)) ?_
  unfold exchange_Sum at h
  obtain ⟨x393, h394, h⟩ := bind_inv h
  exact Abs.Good.path hm [.reg [], .reg [], .reg [(2, { call := some { lend := [], pass := [], res := .v (.p (Kd.sl KI) x393), outs := [], back := [] } })], .co (sk 6) 0 (.mk 900001 Kd.str 9), .keep [sk 4, sk 6, sk 11, sk 12, sk 13, ek 4, ek 900001], .ren [(4, 500001), (900001, 500002)]] (cs := [_]) (by kernel_rfl) ⟨(exchange_under_ok k a1 a2 a3 _ h394), trivial⟩ (exchange_Sum_l0_ok k x393 (List.length x393 : Int) (0 : Int) (Kd.dflt (Kd.arr 16 (Kd.int .u8))) ([] : List ByteArray) r h)

def exchange_sum (k : Nat) (a1 : List It) (a2 : List Int) (a3 : Int) : Option (Int × List Int × Int × List Int × Int × ByteArray) :=
  Option.bind (exchange_Sum k a1 a2 a3) fun x402 =>
  some ((1 : Int), a2, a3, x402.1, x402.2, (⟨#[]⟩ : ByteArray))
theorem exchange_sum_ok (k : Nat) (a1 : List It) (a2 : List Int) (a3 : Int) (r : Int × List Int × Int × List Int × Int × ByteArray) (h : exchange_sum k a1 a2 a3 = some r) : SpecOk P ⟨52, [.agg [.p (Kd.sl KI) a1], .agg [.p (Kd.arr 16 (Kd.int .u8)) a2, .p (Kd.int .i64) a3]], [], .v (.agg [.p (Kd.int .i64) r.1, .p (Kd.arr 16 (Kd.int .u8)) r.2.1, .p (Kd.int .i64) r.2.2.1, .p (Kd.arr 16 (Kd.int .u8)) r.2.2.2.1, .p (Kd.int .i64) r.2.2.2.2.1, .nilsl, .p Kd.str r.2.2.2.2.2]), []⟩ := by
  refine spec_at Tryd.func52 (by kernel_rfl) (Nat.le_of_ble_eq_true (by kernel_rfl)) ?_
  unfold exchange_sum at h
  obtain ⟨x402, h403, h⟩ := bind_inv h
  replace h := Option.some.inj h; subst h
  exact Abs.Good.path_ret hm [.reg [], .reg [(2, { call := some { lend := [], pass := [], res := .t [.p (Kd.arr 16 (Kd.int .u8)) x402.1, .p (Kd.int .i64) x402.2], outs := [], back := [] } })], .reg []] [] Tryd.func52 (cs := [_]) (by kernel_rfl) ⟨(exchange_Sum_ok k a1 a2 a3 _ h403), trivial⟩ (by kernel_rfl)

def exchange_Open (k : Nat) (a1 : List It) : Option (Int × List Int × Int × List Int × Int × ByteArray) :=
  Option.bind (exchange_sum k a1 (Kd.dflt (Kd.arr 16 (Kd.int .u8))) (0 : Int)) fun x406 =>
  some (x406.1, x406.2.1, x406.2.2.1, x406.2.2.2.1, x406.2.2.2.2.1, x406.2.2.2.2.2)
theorem exchange_Open_ok (k : Nat) (a1 : List It) (r : Int × List Int × Int × List Int × Int × ByteArray) (h : exchange_Open k a1 = some r) : SpecOk P ⟨29, [.agg [.p (Kd.sl KI) a1]], [], .v (.agg [.p (Kd.int .i64) r.1, .p (Kd.arr 16 (Kd.int .u8)) r.2.1, .p (Kd.int .i64) r.2.2.1, .p (Kd.arr 16 (Kd.int .u8)) r.2.2.2.1, .p (Kd.int .i64) r.2.2.2.2.1, .nilsl, .p Kd.str r.2.2.2.2.2]), []⟩ := by
  refine spec_at Tryd.func29 (by kernel_rfl) (Nat.le_of_ble_eq_true (by kernel_rfl)) ?_
  unfold exchange_Open at h
  obtain ⟨x406, h407, h⟩ := bind_inv h
  replace h := Option.some.inj h; subst h
  exact Abs.Good.path_ret hm [.reg [], .reg [(2, { call := some { lend := [], pass := [], res := .v (.agg [.p (Kd.int .i64) x406.1, .p (Kd.arr 16 (Kd.int .u8)) x406.2.1, .p (Kd.int .i64) x406.2.2.1, .p (Kd.arr 16 (Kd.int .u8)) x406.2.2.2.1, .p (Kd.int .i64) x406.2.2.2.2.1, .nilsl, .p Kd.str x406.2.2.2.2.2]), outs := [], back := [] } })]] [] Tryd.func29 (cs := [_]) (by kernel_rfl) ⟨(exchange_sum_ok k a1 (Kd.dflt (Kd.arr 16 (Kd.int .u8))) (0 : Int) _ h407), trivial⟩ (by kernel_rfl)

def exchange_fields_l1 (k : Nat) (p1 : Bool) (p2 : Bool) (p3 : Int) (p4 : List Int) (p5 : Int) (p6 : List Int) (p7 : Int) (p8 : List (List Int)) (p9 : ByteArray) : Option (Bool) :=
  if p1 = true then
    if (p3 == (1 : Int)) = true then
      if p2 = true then
        if (p3 == (4 : Int)) = true then
          some (true)
        else
          some ((ByteArray.toList p9 == ByteArray.toList (⟨#[]⟩ : ByteArray)))
      else
        if ((List.length p8 : Int) == (0 : Int)) = true then
          if (p3 == (4 : Int)) = true then
            some (true)
          else
            some ((ByteArray.toList p9 == ByteArray.toList (⟨#[]⟩ : ByteArray)))
        else
          some (false)
    else
      if (Kd.eqb (Kd.arr 16 (Kd.int .u8)) p6 ([(Kd.dflt (Kd.int .u8)), (Kd.dflt (Kd.int .u8)), (Kd.dflt (Kd.int .u8)), (Kd.dflt (Kd.int .u8)), (Kd.dflt (Kd.int .u8)), (Kd.dflt (Kd.int .u8)), (Kd.dflt (Kd.int .u8)), (Kd.dflt (Kd.int .u8)), (Kd.dflt (Kd.int .u8)), (Kd.dflt (Kd.int .u8)), (Kd.dflt (Kd.int .u8)), (Kd.dflt (Kd.int .u8)), (Kd.dflt (Kd.int .u8)), (Kd.dflt (Kd.int .u8)), (Kd.dflt (Kd.int .u8)), (Kd.dflt (Kd.int .u8))] : List Int)) = true then
        if (p7 == (0 : Int)) = true then
          if p2 = true then
            if (p3 == (4 : Int)) = true then
              some (true)
            else
              some ((ByteArray.toList p9 == ByteArray.toList (⟨#[]⟩ : ByteArray)))
          else
            if ((List.length p8 : Int) == (0 : Int)) = true then
              if (p3 == (4 : Int)) = true then
                some (true)
              else
                some ((ByteArray.toList p9 == ByteArray.toList (⟨#[]⟩ : ByteArray)))
            else
              some (false)
        else
          some (false)
      else
        some (false)
  else
    if (Kd.eqb KX (p4, (p5, ())) ((Kd.dflt (Kd.arr 16 (Kd.int .u8))), ((0 : Int), ()))) = true then
      if (p3 == (1 : Int)) = true then
        if p2 = true then
          if (p3 == (4 : Int)) = true then
            some (true)
          else
            some ((ByteArray.toList p9 == ByteArray.toList (⟨#[]⟩ : ByteArray)))
        else
          if ((List.length p8 : Int) == (0 : Int)) = true then
            if (p3 == (4 : Int)) = true then
              some (true)
            else
              some ((ByteArray.toList p9 == ByteArray.toList (⟨#[]⟩ : ByteArray)))
          else
            some (false)
      else
        if (Kd.eqb (Kd.arr 16 (Kd.int .u8)) p6 ([(Kd.dflt (Kd.int .u8)), (Kd.dflt (Kd.int .u8)), (Kd.dflt (Kd.int .u8)), (Kd.dflt (Kd.int .u8)), (Kd.dflt (Kd.int .u8)), (Kd.dflt (Kd.int .u8)), (Kd.dflt (Kd.int .u8)), (Kd.dflt (Kd.int .u8)), (Kd.dflt (Kd.int .u8)), (Kd.dflt (Kd.int .u8)), (Kd.dflt (Kd.int .u8)), (Kd.dflt (Kd.int .u8)), (Kd.dflt (Kd.int .u8)), (Kd.dflt (Kd.int .u8)), (Kd.dflt (Kd.int .u8)), (Kd.dflt (Kd.int .u8))] : List Int)) = true then
          if (p7 == (0 : Int)) = true then
            if p2 = true then
              if (p3 == (4 : Int)) = true then
                some (true)
              else
                some ((ByteArray.toList p9 == ByteArray.toList (⟨#[]⟩ : ByteArray)))
            else
              if ((List.length p8 : Int) == (0 : Int)) = true then
                if (p3 == (4 : Int)) = true then
                  some (true)
                else
                  some ((ByteArray.toList p9 == ByteArray.toList (⟨#[]⟩ : ByteArray)))
              else
                some (false)
          else
            some (false)
        else
          some (false)
    else
      some (false)
def exchange_fields_l0 (k : Nat) (p1 : Bool) (p2 : Int) (p3 : List Int) (p4 : Int) (p5 : List Int) (p6 : Int) (p7 : List (List Int)) (p8 : ByteArray) : Option (Bool) :=
  if (p2 == (2 : Int)) = true then
    exchange_fields_l1 k p1 true p2 p3 p4 p5 p6 p7 p8
  else
    exchange_fields_l1 k p1 (p2 == (3 : Int)) p2 p3 p4 p5 p6 p7 p8
def exchange_fields (k : Nat) (a1 : Int) (a2 : List Int) (a3 : Int) (a4 : List Int) (a5 : Int) (a6 : List (List Int)) (a7 : ByteArray) : Option (Bool) :=
  if (a1 == (1 : Int)) = true then
    exchange_fields_l0 k true a1 a2 a3 a4 a5 a6 a7
  else
    exchange_fields_l0 k (a1 == (2 : Int)) a1 a2 a3 a4 a5 a6 a7
theorem exchange_fields_l1_ok (k : Nat) (p1 : Bool) (p2 : Bool) (p3 : Int) (p4 : List Int) (p5 : Int) (p6 : List Int) (p7 : Int) (p8 : List (List Int)) (p9 : ByteArray) (r : Bool) (h : exchange_fields_l1 k p1 p2 p3 p4 p5 p6 p7 p8 p9 = some r) :
    Abs.Good P 58 Tryd.f58.ntmps [] [] (.v (.p Kd.bool r)) (pos Tryd.f58 [.r, .r, .r]) [(sk 1, some (.v (.ptr 501001 0))), (sk 3, some (.v (.p Kd.bool p1))), (sk 4, some (.v (.p Kd.bool p2))), (ek 501001, some (.box [.p (Kd.int .i64) p3, .p (Kd.arr 16 (Kd.int .u8)) p4, .p (Kd.int .i64) p5, .p (Kd.arr 16 (Kd.int .u8)) p6, .p (Kd.int .i64) p7, .p (Kd.sl (Kd.arr 16 (Kd.int .u8))) p8, .p Kd.str p9]))] := by
  unfold exchange_fields_l1 at h
  rcases br_inv h with ⟨h426, h⟩ | ⟨h426, h⟩
  · rcases br_inv h with ⟨h427, h⟩ | ⟨h427, h⟩
    · rcases br_inv h with ⟨h428, h⟩ | ⟨h428, h⟩
      · rcases br_inv h with ⟨h429, h⟩ | ⟨h429, h⟩
        · replace h := Option.some.inj h; subst h
          exact Abs.Good.path_ret hm [.reg [(2, { dec := some true }), (3, { dec := some true }), (4, { dec := some true }), (5, { dec := some true }), (6, { pick := some true }), (8, { dec := some true }), (9, { dec := some true }), (10, { dec := some true }), (11, { dec := some true }), (12, { dec := some true }), (13, { dec := some true }), (14, { dec := some true }), (15, { dec := some true }), (16, { dec := some true }), (20, { dec := some true }), (21, { dec := some true, pick := some true }), (22, { pick := some true }), (24, { dec := some true }), (25, { dec := some true }), (26, { dec := some true }), (27, { dec := some true }), (28, { dec := some true }), (29, { dec := some true }), (30, { dec := some true, pick := some true }), (31, { pick := some true }), (33, { dec := some true }), (34, { dec := some true }), (35, { dec := some true }), (36, { dec := some true }), (37, { dec := some true }), (38, { dec := some true }), (39, { dec := some true }), (40, { dec := some true, pick := some true }), (41, { pick := some true })]] [] Tryd.func58 (cs := [_, _, _, _, _, _, _, _, _, _, _, _, _, _, _, _, _, _, _, _, _, _, _, _, _, _, _, _, _, _, _, _, _, _, _, _, _]) (by kernel_rfl) ⟨h426, h426, h426, h426, h426, (rfl : true = true), (rfl : true = true), (rfl : true = true), (rfl : true = true), h427, h427, h427, h427, h427, h427, (rfl : true = true), h427, (rfl : true = true), (rfl : true = true), (rfl : true = true), h428, h428, h428, h428, (rfl : true = true), h428, (rfl : true = true), (rfl : true = true), (rfl : true = true), (rfl : true = true), (rfl : true = true), h429, h429, h429, (rfl : true = true), h429, (rfl : true = true), trivial⟩ (by kernel_rfl)
        · replace h := Option.some.inj h; subst h
          exact Abs.Good.path_ret hm [.reg [(2, { dec := some true }), (3, { dec := some true }), (4, { dec := some true }), (5, { dec := some true }), (6, { pick := some true }), (8, { dec := some true }), (9, { dec := some true }), (10, { dec := some true }), (11, { dec := some true }), (12, { dec := some true }), (13, { dec := some true }), (14, { dec := some true }), (15, { dec := some true }), (16, { dec := some true }), (20, { dec := some true }), (21, { dec := some true, pick := some true }), (22, { pick := some true }), (24, { dec := some true }), (25, { dec := some true }), (26, { dec := some true }), (27, { dec := some true }), (28, { dec := some true }), (29, { dec := some true }), (30, { dec := some true, pick := some true }), (31, { pick := some true }), (33, { dec := some true }), (34, { dec := some true }), (35, { dec := some true }), (36, { dec := some true }), (37, { dec := some false }), (38, { dec := some false }), (39, { dec := some false }), (40, { dec := some true, pick := some false }), (41, { pick := some true })]] [] Tryd.func58 (cs := [_, _, _, _, _, _, _, _, _, _, _, _, _, _, _, _, _, _, _, _, _, _, _, _, _, _, _, _, _, _, _, _, _, _, _, _, _]) (by kernel_rfl) ⟨h426, h426, h426, h426, h426, (rfl : true = true), (rfl : true = true), (rfl : true = true), (rfl : true = true), h427, h427, h427, h427, h427, h427, (rfl : true = true), h427, (rfl : true = true), (rfl : true = true), (rfl : true = true), h428, h428, h428, h428, (rfl : true = true), h428, (rfl : true = true), (rfl : true = true), (rfl : true = true), (rfl : true = true), (rfl : true = true), h429, h429, h429, (rfl : true = true), h429, (rfl : true = true), trivial⟩ (by kernel_rfl)
      · rcases br_inv h with ⟨h430, h⟩ | ⟨h430, h⟩
        · rcases br_inv h with ⟨h431, h⟩ | ⟨h431, h⟩
          · replace h := Option.some.inj h; subst h
            exact Abs.Good.path_ret hm [.reg [(2, { dec := some true }), (3, { dec := some true }), (4, { dec := some true }), (5, { dec := some true }), (6, { pick := some true }), (8, { dec := some true }), (9, { dec := some true }), (10, { dec := some true }), (11, { dec := some true }), (12, { dec := some true }), (13, { dec := some true }), (14, { dec := some true }), (15, { dec := some true }), (16, { dec := some true }), (20, { dec := some true }), (21, { dec := some true, pick := some true }), (22, { pick := some true }), (24, { dec := some true }), (25, { dec := some true }), (26, { dec := some false }), (27, { dec := some false }), (28, { dec := some false }), (29, { dec := some false }), (30, { dec := some true, pick := some false }), (31, { pick := some true }), (33, { dec := some true }), (34, { dec := some true }), (35, { dec := some true }), (36, { dec := some true }), (37, { dec := some true }), (38, { dec := some true }), (39, { dec := some true }), (40, { dec := some true, pick := some true }), (41, { pick := some true })]] [] Tryd.func58 (cs := [_, _, _, _, _, _, _, _, _, _, _, _, _, _, _, _, _, _, _, _, _, _, _, _, _, _, _, _, _, _, _, _, _, _, _, _, _]) (by kernel_rfl) ⟨h426, h426, h426, h426, h426, (rfl : true = true), (rfl : true = true), (rfl : true = true), (rfl : true = true), h427, h427, h427, h427, h427, h427, (rfl : true = true), h427, (rfl : true = true), (rfl : true = true), (rfl : true = true), h428, h428, h428, h428, (rfl : true = true), h428, (rfl : true = true), h430, h430, h430, h430, h431, h431, h431, h430, h431, h430, trivial⟩ (by kernel_rfl)
          · replace h := Option.some.inj h; subst h
            exact Abs.Good.path_ret hm [.reg [(2, { dec := some true }), (3, { dec := some true }), (4, { dec := some true }), (5, { dec := some true }), (6, { pick := some true }), (8, { dec := some true }), (9, { dec := some true }), (10, { dec := some true }), (11, { dec := some true }), (12, { dec := some true }), (13, { dec := some true }), (14, { dec := some true }), (15, { dec := some true }), (16, { dec := some true }), (20, { dec := some true }), (21, { dec := some true, pick := some true }), (22, { pick := some true }), (24, { dec := some true }), (25, { dec := some true }), (26, { dec := some false }), (27, { dec := some false }), (28, { dec := some false }), (29, { dec := some false }), (30, { dec := some true, pick := some false }), (31, { pick := some true }), (33, { dec := some true }), (34, { dec := some true }), (35, { dec := some true }), (36, { dec := some true }), (37, { dec := some false }), (38, { dec := some false }), (39, { dec := some false }), (40, { dec := some true, pick := some false }), (41, { pick := some true })]] [] Tryd.func58 (cs := [_, _, _, _, _, _, _, _, _, _, _, _, _, _, _, _, _, _, _, _, _, _, _, _, _, _, _, _, _, _, _, _, _, _, _, _, _]) (by kernel_rfl) ⟨h426, h426, h426, h426, h426, (rfl : true = true), (rfl : true = true), (rfl : true = true), (rfl : true = true), h427, h427, h427, h427, h427, h427, (rfl : true = true), h427, (rfl : true = true), (rfl : true = true), (rfl : true = true), h428, h428, h428, h428, (rfl : true = true), h428, (rfl : true = true), h430, h430, h430, h430, h431, h431, h431, h430, h431, h430, trivial⟩ (by kernel_rfl)
        · replace h := Option.some.inj h; subst h
          exact Abs.Good.path_ret hm [.reg [(2, { dec := some true }), (3, { dec := some true }), (4, { dec := some true }), (5, { dec := some true }), (6, { pick := some true }), (8, { dec := some true }), (9, { dec := some true }), (10, { dec := some true }), (11, { dec := some true }), (12, { dec := some true }), (13, { dec := some true }), (14, { dec := some true }), (15, { dec := some true }), (16, { dec := some true }), (20, { dec := some true }), (21, { dec := some true, pick := some true }), (22, { pick := some true }), (24, { dec := some true }), (25, { dec := some true }), (26, { dec := some false }), (27, { dec := some false }), (28, { dec := some false }), (29, { dec := some false }), (30, { dec := some true, pick := some false }), (31, { pick := some true }), (33, { dec := some false }), (34, { dec := some false }), (35, { dec := some false }), (36, { dec := some false }), (40, { dec := some false }), (41, { pick := some false })]] [] Tryd.func58 (cs := [_, _, _, _, _, _, _, _, _, _, _, _, _, _, _, _, _, _, _, _, _, _, _, _, _, _, _, _, _, _, _, _, _]) (by kernel_rfl) ⟨h426, h426, h426, h426, h426, (rfl : true = true), (rfl : true = true), (rfl : true = true), (rfl : true = true), h427, h427, h427, h427, h427, h427, (rfl : true = true), h427, (rfl : true = true), (rfl : true = true), (rfl : true = true), h428, h428, h428, h428, (rfl : true = true), h428, (rfl : true = true), h430, h430, h430, h430, h430, h430, trivial⟩ (by kernel_rfl)
    · rcases br_inv h with ⟨h432, h⟩ | ⟨h432, h⟩
      · rcases br_inv h with ⟨h433, h⟩ | ⟨h433, h⟩
        · rcases br_inv h with ⟨h434, h⟩ | ⟨h434, h⟩
          · rcases br_inv h with ⟨h435, h⟩ | ⟨h435, h⟩
            · replace h := Option.some.inj h; subst h
              exact Abs.Good.path_ret hm [.reg [(2, { dec := some true }), (3, { dec := some true }), (4, { dec := some true }), (5, { dec := some true }), (6, { pick := some true }), (8, { dec := some true }), (9, { dec := some true }), (10, { dec := some true }), (11, { dec := some true }), (12, { dec := some false }), (13, { dec := some false }), (14, { dec := some false }), (15, { dec := some false }), (16, { dec := some false }), (17, { dec := some true }), (18, { dec := some true }), (19, { dec := some true }), (20, { dec := some false, pick := some true }), (21, { dec := some true, pick := some false }), (22, { pick := some true }), (24, { dec := some true }), (25, { dec := some true }), (26, { dec := some true }), (27, { dec := some true }), (28, { dec := some true }), (29, { dec := some true }), (30, { dec := some true, pick := some true }), (31, { pick := some true }), (33, { dec := some true }), (34, { dec := some true }), (35, { dec := some true }), (36, { dec := some true }), (37, { dec := some true }), (38, { dec := some true }), (39, { dec := some true }), (40, { dec := some true, pick := some true }), (41, { pick := some true })]] [] Tryd.func58 (cs := [_, _, _, _, _, _, _, _, _, _, _, _, _, _, _, _, _, _, _, _, _, _, _, _, _, _, _, _, _, _, _, _, _, _, _, _, _, _, _, _, _, _]) (by kernel_rfl) ⟨h426, h426, h426, h426, h426, (rfl : true = true), (rfl : true = true), (rfl : true = true), (rfl : true = true), h427, h427, h427, h427, eq26, h427, h432, h432, h432, h427, h432, (rfl : true = true), h427, (rfl : true = true), h433, h433, h434, h434, h434, h434, h433, h434, h433, (rfl : true = true), (rfl : true = true), (rfl : true = true), (rfl : true = true), h435, h435, h435, (rfl : true = true), h435, (rfl : true = true), trivial⟩ (by kernel_rfl)
            · replace h := Option.some.inj h; subst h
              exact Abs.Good.path_ret hm [.reg [(2, { dec := some true }), (3, { dec := some true }), (4, { dec := some true }), (5, { dec := some true }), (6, { pick := some true }), (8, { dec := some true }), (9, { dec := some true }), (10, { dec := some true }), (11, { dec := some true }), (12, { dec := some false }), (13, { dec := some false }), (14, { dec := some false }), (15, { dec := some false }), (16, { dec := some false }), (17, { dec := some true }), (18, { dec := some true }), (19, { dec := some true }), (20, { dec := some false, pick := some true }), (21, { dec := some true, pick := some false }), (22, { pick := some true }), (24, { dec := some true }), (25, { dec := some true }), (26, { dec := some true }), (27, { dec := some true }), (28, { dec := some true }), (29, { dec := some true }), (30, { dec := some true, pick := some true }), (31, { pick := some true }), (33, { dec := some true }), (34, { dec := some true }), (35, { dec := some true }), (36, { dec := some true }), (37, { dec := some false }), (38, { dec := some false }), (39, { dec := some false }), (40, { dec := some true, pick := some false }), (41, { pick := some true })]] [] Tryd.func58 (cs := [_, _, _, _, _, _, _, _, _, _, _, _, _, _, _, _, _, _, _, _, _, _, _, _, _, _, _, _, _, _, _, _, _, _, _, _, _, _, _, _, _, _]) (by kernel_rfl) ⟨h426, h426, h426, h426, h426, (rfl : true = true), (rfl : true = true), (rfl : true = true), (rfl : true = true), h427, h427, h427, h427, eq26, h427, h432, h432, h432, h427, h432, (rfl : true = true), h427, (rfl : true = true), h433, h433, h434, h434, h434, h434, h433, h434, h433, (rfl : true = true), (rfl : true = true), (rfl : true = true), (rfl : true = true), h435, h435, h435, (rfl : true = true), h435, (rfl : true = true), trivial⟩ (by kernel_rfl)
          · rcases br_inv h with ⟨h436, h⟩ | ⟨h436, h⟩
            · rcases br_inv h with ⟨h437, h⟩ | ⟨h437, h⟩
              · replace h := Option.some.inj h; subst h
                exact Abs.Good.path_ret hm [.reg [(2, { dec := some true }), (3, { dec := some true }), (4, { dec := some true }), (5, { dec := some true }), (6, { pick := some true }), (8, { dec := some true }), (9, { dec := some true }), (10, { dec := some true }), (11, { dec := some true }), (12, { dec := some false }), (13, { dec := some false }), (14, { dec := some false }), (15, { dec := some false }), (16, { dec := some false }), (17, { dec := some true }), (18, { dec := some true }), (19, { dec := some true }), (20, { dec := some false, pick := some true }), (21, { dec := some true, pick := some false }), (22, { pick := some true }), (24, { dec := some true }), (25, { dec := some true }), (26, { dec := some false }), (27, { dec := some false }), (28, { dec := some false }), (29, { dec := some false }), (30, { dec := some true, pick := some false }), (31, { pick := some true }), (33, { dec := some true }), (34, { dec := some true }), (35, { dec := some true }), (36, { dec := some true }), (37, { dec := some true }), (38, { dec := some true }), (39, { dec := some true }), (40, { dec := some true, pick := some true }), (41, { pick := some true })]] [] Tryd.func58 (cs := [_, _, _, _, _, _, _, _, _, _, _, _, _, _, _, _, _, _, _, _, _, _, _, _, _, _, _, _, _, _, _, _, _, _, _, _, _, _, _, _, _, _]) (by kernel_rfl) ⟨h426, h426, h426, h426, h426, (rfl : true = true), (rfl : true = true), (rfl : true = true), (rfl : true = true), h427, h427, h427, h427, eq26, h427, h432, h432, h432, h427, h432, (rfl : true = true), h427, (rfl : true = true), h433, h433, h434, h434, h434, h434, h433, h434, h433, h436, h436, h436, h436, h437, h437, h437, h436, h437, h436, trivial⟩ (by kernel_rfl)
              · replace h := Option.some.inj h; subst h
                exact Abs.Good.path_ret hm [.reg [(2, { dec := some true }), (3, { dec := some true }), (4, { dec := some true }), (5, { dec := some true }), (6, { pick := some true }), (8, { dec := some true }), (9, { dec := some true }), (10, { dec := some true }), (11, { dec := some true }), (12, { dec := some false }), (13, { dec := some false }), (14, { dec := some false }), (15, { dec := some false }), (16, { dec := some false }), (17, { dec := some true }), (18, { dec := some true }), (19, { dec := some true }), (20, { dec := some false, pick := some true }), (21, { dec := some true, pick := some false }), (22, { pick := some true }), (24, { dec := some true }), (25, { dec := some true }), (26, { dec := some false }), (27, { dec := some false }), (28, { dec := some false }), (29, { dec := some false }), (30, { dec := some true, pick := some false }), (31, { pick := some true }), (33, { dec := some true }), (34, { dec := some true }), (35, { dec := some true }), (36, { dec := some true }), (37, { dec := some false }), (38, { dec := some false }), (39, { dec := some false }), (40, { dec := some true, pick := some false }), (41, { pick := some true })]] [] Tryd.func58 (cs := [_, _, _, _, _, _, _, _, _, _, _, _, _, _, _, _, _, _, _, _, _, _, _, _, _, _, _, _, _, _, _, _, _, _, _, _, _, _, _, _, _, _]) (by kernel_rfl) ⟨h426, h426, h426, h426, h426, (rfl : true = true), (rfl : true = true), (rfl : true = true), (rfl : true = true), h427, h427, h427, h427, eq26, h427, h432, h432, h432, h427, h432, (rfl : true = true), h427, (rfl : true = true), h433, h433, h434, h434, h434, h434, h433, h434, h433, h436, h436, h436, h436, h437, h437, h437, h436, h437, h436, trivial⟩ (by kernel_rfl)
            · replace h := Option.some.inj h; subst h
              exact Abs.Good.path_ret hm [.reg [(2, { dec := some true }), (3, { dec := some true }), (4, { dec := some true }), (5, { dec := some true }), (6, { pick := some true }), (8, { dec := some true }), (9, { dec := some true }), (10, { dec := some true }), (11, { dec := some true }), (12, { dec := some false }), (13, { dec := some false }), (14, { dec := some false }), (15, { dec := some false }), (16, { dec := some false }), (17, { dec := some true }), (18, { dec := some true }), (19, { dec := some true }), (20, { dec := some false, pick := some true }), (21, { dec := some true, pick := some false }), (22, { pick := some true }), (24, { dec := some true }), (25, { dec := some true }), (26, { dec := some false }), (27, { dec := some false }), (28, { dec := some false }), (29, { dec := some false }), (30, { dec := some true, pick := some false }), (31, { pick := some true }), (33, { dec := some false }), (34, { dec := some false }), (35, { dec := some false }), (36, { dec := some false }), (40, { dec := some false }), (41, { pick := some false })]] [] Tryd.func58 (cs := [_, _, _, _, _, _, _, _, _, _, _, _, _, _, _, _, _, _, _, _, _, _, _, _, _, _, _, _, _, _, _, _, _, _, _, _, _, _]) (by kernel_rfl) ⟨h426, h426, h426, h426, h426, (rfl : true = true), (rfl : true = true), (rfl : true = true), (rfl : true = true), h427, h427, h427, h427, eq26, h427, h432, h432, h432, h427, h432, (rfl : true = true), h427, (rfl : true = true), h433, h433, h434, h434, h434, h434, h433, h434, h433, h436, h436, h436, h436, h436, h436, trivial⟩ (by kernel_rfl)
        · replace h := Option.some.inj h; subst h
          exact Abs.Good.path_ret hm [.reg [(2, { dec := some true }), (3, { dec := some true }), (4, { dec := some true }), (5, { dec := some true }), (6, { pick := some true }), (8, { dec := some true }), (9, { dec := some true }), (10, { dec := some true }), (11, { dec := some true }), (12, { dec := some false }), (13, { dec := some false }), (14, { dec := some false }), (15, { dec := some false }), (16, { dec := some false }), (17, { dec := some true }), (18, { dec := some true }), (19, { dec := some true }), (20, { dec := some false, pick := some true }), (21, { dec := some true, pick := some false }), (22, { pick := some true }), (24, { dec := some false }), (25, { dec := some false }), (30, { dec := some false }), (31, { pick := some false }), (33, { dec := some false }), (34, { dec := some false }), (35, { dec := some false }), (36, { dec := some false }), (40, { dec := some false }), (41, { pick := some false })]] [] Tryd.func58 (cs := [_, _, _, _, _, _, _, _, _, _, _, _, _, _, _, _, _, _, _, _, _, _, _, _, _, _, _, _, _, _, _, _, _]) (by kernel_rfl) ⟨h426, h426, h426, h426, h426, (rfl : true = true), (rfl : true = true), (rfl : true = true), (rfl : true = true), h427, h427, h427, h427, eq26, h427, h432, h432, h432, h427, h432, (rfl : true = true), h427, (rfl : true = true), h433, h433, h433, h433, (rfl : false = false), (rfl : false = false), (rfl : false = false), (rfl : false = false), (rfl : false = false), (rfl : false = false), trivial⟩ (by kernel_rfl)
      · replace h := Option.some.inj h; subst h
        exact Abs.Good.path_ret hm [.reg [(2, { dec := some true }), (3, { dec := some true }), (4, { dec := some true }), (5, { dec := some true }), (6, { pick := some true }), (8, { dec := some true }), (9, { dec := some true }), (10, { dec := some true }), (11, { dec := some true }), (12, { dec := some false }), (13, { dec := some false }), (14, { dec := some false }), (15, { dec := some false }), (16, { dec := some false }), (17, { dec := some false }), (18, { dec := some false }), (19, { dec := some false }), (20, { dec := some false, pick := some false }), (21, { dec := some true, pick := some false }), (22, { pick := some true }), (24, { dec := some false }), (25, { dec := some false }), (30, { dec := some false }), (31, { pick := some false }), (33, { dec := some false }), (34, { dec := some false }), (35, { dec := some false }), (36, { dec := some false }), (40, { dec := some false }), (41, { pick := some false })]] [] Tryd.func58 (cs := [_, _, _, _, _, _, _, _, _, _, _, _, _, _, _, _, _, _, _, _, _, _, _, _, _, _, _, _, _, _, _, _, _]) (by kernel_rfl) ⟨h426, h426, h426, h426, h426, (rfl : true = true), (rfl : true = true), (rfl : true = true), (rfl : true = true), h427, h427, h427, h427, eq26, h427, h432, h432, h432, h427, h432, (rfl : true = true), h427, (rfl : true = true), (rfl : false = false), (rfl : false = false), (rfl : false = false), (rfl : false = false), (rfl : false = false), (rfl : false = false), (rfl : false = false), (rfl : false = false), (rfl : false = false), (rfl : false = false), trivial⟩ (by kernel_rfl)
  · rcases br_inv h with ⟨h438, h⟩ | ⟨h438, h⟩
    · rcases br_inv h with ⟨h439, h⟩ | ⟨h439, h⟩
      · rcases br_inv h with ⟨h440, h⟩ | ⟨h440, h⟩
        · rcases br_inv h with ⟨h441, h⟩ | ⟨h441, h⟩
          · replace h := Option.some.inj h; subst h
            exact Abs.Good.path_ret hm [.reg [(2, { dec := some false }), (3, { dec := some false }), (4, { dec := some false }), (5, { dec := some false }), (6, { pick := some false }), (8, { dec := some true }), (9, { dec := some true }), (10, { dec := some true }), (11, { dec := some true }), (12, { dec := some true }), (13, { dec := some true }), (14, { dec := some true }), (15, { dec := some true }), (16, { dec := some true }), (20, { dec := some true }), (21, { dec := some true, pick := some true }), (22, { pick := some true }), (24, { dec := some true }), (25, { dec := some true }), (26, { dec := some true }), (27, { dec := some true }), (28, { dec := some true }), (29, { dec := some true }), (30, { dec := some true, pick := some true }), (31, { pick := some true }), (33, { dec := some true }), (34, { dec := some true }), (35, { dec := some true }), (36, { dec := some true }), (37, { dec := some true }), (38, { dec := some true }), (39, { dec := some true }), (40, { dec := some true, pick := some true }), (41, { pick := some true })]] [] Tryd.func58 (cs := [_, _, _, _, _, _, _, _, _, _, _, _, _, _, _, _, _, _, _, _, _, _, _, _, _, _, _, _, _, _, _, _, _, _, _, _, _, _]) (by kernel_rfl) ⟨h426, h426, h426, h426, eq28, h426, h438, h438, h438, h438, h439, h439, h439, h439, h439, h439, h438, h439, h438, (rfl : true = true), (rfl : true = true), h440, h440, h440, h440, (rfl : true = true), h440, (rfl : true = true), (rfl : true = true), (rfl : true = true), (rfl : true = true), (rfl : true = true), h441, h441, h441, (rfl : true = true), h441, (rfl : true = true), trivial⟩ (by kernel_rfl)
          · replace h := Option.some.inj h; subst h
            exact Abs.Good.path_ret hm [.reg [(2, { dec := some false }), (3, { dec := some false }), (4, { dec := some false }), (5, { dec := some false }), (6, { pick := some false }), (8, { dec := some true }), (9, { dec := some true }), (10, { dec := some true }), (11, { dec := some true }), (12, { dec := some true }), (13, { dec := some true }), (14, { dec := some true }), (15, { dec := some true }), (16, { dec := some true }), (20, { dec := some true }), (21, { dec := some true, pick := some true }), (22, { pick := some true }), (24, { dec := some true }), (25, { dec := some true }), (26, { dec := some true }), (27, { dec := some true }), (28, { dec := some true }), (29, { dec := some true }), (30, { dec := some true, pick := some true }), (31, { pick := some true }), (33, { dec := some true }), (34, { dec := some true }), (35, { dec := some true }), (36, { dec := some true }), (37, { dec := some false }), (38, { dec := some false }), (39, { dec := some false }), (40, { dec := some true, pick := some false }), (41, { pick := some true })]] [] Tryd.func58 (cs := [_, _, _, _, _, _, _, _, _, _, _, _, _, _, _, _, _, _, _, _, _, _, _, _, _, _, _, _, _, _, _, _, _, _, _, _, _, _]) (by kernel_rfl) ⟨h426, h426, h426, h426, eq28, h426, h438, h438, h438, h438, h439, h439, h439, h439, h439, h439, h438, h439, h438, (rfl : true = true), (rfl : true = true), h440, h440, h440, h440, (rfl : true = true), h440, (rfl : true = true), (rfl : true = true), (rfl : true = true), (rfl : true = true), (rfl : true = true), h441, h441, h441, (rfl : true = true), h441, (rfl : true = true), trivial⟩ (by kernel_rfl)
        · rcases br_inv h with ⟨h442, h⟩ | ⟨h442, h⟩
          · rcases br_inv h with ⟨h443, h⟩ | ⟨h443, h⟩
            · replace h := Option.some.inj h; subst h
              exact Abs.Good.path_ret hm [.reg [(2, { dec := some false }), (3, { dec := some false }), (4, { dec := some false }), (5, { dec := some false }), (6, { pick := some false }), (8, { dec := some true }), (9, { dec := some true }), (10, { dec := some true }), (11, { dec := some true }), (12, { dec := some true }), (13, { dec := some true }), (14, { dec := some true }), (15, { dec := some true }), (16, { dec := some true }), (20, { dec := some true }), (21, { dec := some true, pick := some true }), (22, { pick := some true }), (24, { dec := some true }), (25, { dec := some true }), (26, { dec := some false }), (27, { dec := some false }), (28, { dec := some false }), (29, { dec := some false }), (30, { dec := some true, pick := some false }), (31, { pick := some true }), (33, { dec := some true }), (34, { dec := some true }), (35, { dec := some true }), (36, { dec := some true }), (37, { dec := some true }), (38, { dec := some true }), (39, { dec := some true }), (40, { dec := some true, pick := some true }), (41, { pick := some true })]] [] Tryd.func58 (cs := [_, _, _, _, _, _, _, _, _, _, _, _, _, _, _, _, _, _, _, _, _, _, _, _, _, _, _, _, _, _, _, _, _, _, _, _, _, _]) (by kernel_rfl) ⟨h426, h426, h426, h426, eq28, h426, h438, h438, h438, h438, h439, h439, h439, h439, h439, h439, h438, h439, h438, (rfl : true = true), (rfl : true = true), h440, h440, h440, h440, (rfl : true = true), h440, (rfl : true = true), h442, h442, h442, h442, h443, h443, h443, h442, h443, h442, trivial⟩ (by kernel_rfl)
            · replace h := Option.some.inj h; subst h
              exact Abs.Good.path_ret hm [.reg [(2, { dec := some false }), (3, { dec := some false }), (4, { dec := some false }), (5, { dec := some false }), (6, { pick := some false }), (8, { dec := some true }), (9, { dec := some true }), (10, { dec := some true }), (11, { dec := some true }), (12, { dec := some true }), (13, { dec := some true }), (14, { dec := some true }), (15, { dec := some true }), (16, { dec := some true }), (20, { dec := some true }), (21, { dec := some true, pick := some true }), (22, { pick := some true }), (24, { dec := some true }), (25, { dec := some true }), (26, { dec := some false }), (27, { dec := some false }), (28, { dec := some false }), (29, { dec := some false }), (30, { dec := some true, pick := some false }), (31, { pick := some true }), (33, { dec := some true }), (34, { dec := some true }), (35, { dec := some true }), (36, { dec := some true }), (37, { dec := some false }), (38, { dec := some false }), (39, { dec := some false }), (40, { dec := some true, pick := some false }), (41, { pick := some true })]] [] Tryd.func58 (cs := [_, _, _, _, _, _, _, _, _, _, _, _, _, _, _, _, _, _, _, _, _, _, _, _, _, _, _, _, _, _, _, _, _, _, _, _, _, _]) (by kernel_rfl) ⟨h426, h426, h426, h426, eq28, h426, h438, h438, h438, h438, h439, h439, h439, h439, h439, h439, h438, h439, h438, (rfl : true = true), (rfl : true = true), h440, h440, h440, h440, (rfl : true = true), h440, (rfl : true = true), h442, h442, h442, h442, h443, h443, h443, h442, h443, h442, trivial⟩ (by kernel_rfl)
          · replace h := Option.some.inj h; subst h
            exact Abs.Good.path_ret hm [.reg [(2, { dec := some false }), (3, { dec := some false }), (4, { dec := some false }), (5, { dec := some false }), (6, { pick := some false }), (8, { dec := some true }), (9, { dec := some true }), (10, { dec := some true }), (11, { dec := some true }), (12, { dec := some true }), (13, { dec := some true }), (14, { dec := some true }), (15, { dec := some true }), (16, { dec := some true }), (20, { dec := some true }), (21, { dec := some true, pick := some true }), (22, { pick := some true }), (24, { dec := some true }), (25, { dec := some true }), (26, { dec := some false }), (27, { dec := some false }), (28, { dec := some false }), (29, { dec := some false }), (30, { dec := some true, pick := some false }), (31, { pick := some true }), (33, { dec := some false }), (34, { dec := some false }), (35, { dec := some false }), (36, { dec := some false }), (40, { dec := some false }), (41, { pick := some false })]] [] Tryd.func58 (cs := [_, _, _, _, _, _, _, _, _, _, _, _, _, _, _, _, _, _, _, _, _, _, _, _, _, _, _, _, _, _, _, _, _, _]) (by kernel_rfl) ⟨h426, h426, h426, h426, eq28, h426, h438, h438, h438, h438, h439, h439, h439, h439, h439, h439, h438, h439, h438, (rfl : true = true), (rfl : true = true), h440, h440, h440, h440, (rfl : true = true), h440, (rfl : true = true), h442, h442, h442, h442, h442, h442, trivial⟩ (by kernel_rfl)
      · rcases br_inv h with ⟨h444, h⟩ | ⟨h444, h⟩
        · rcases br_inv h with ⟨h445, h⟩ | ⟨h445, h⟩
          · rcases br_inv h with ⟨h446, h⟩ | ⟨h446, h⟩
            · rcases br_inv h with ⟨h447, h⟩ | ⟨h447, h⟩
              · replace h := Option.some.inj h; subst h
                exact Abs.Good.path_ret hm [.reg [(2, { dec := some false }), (3, { dec := some false }), (4, { dec := some false }), (5, { dec := some false }), (6, { pick := some false }), (8, { dec := some true }), (9, { dec := some true }), (10, { dec := some true }), (11, { dec := some true }), (12, { dec := some false }), (13, { dec := some false }), (14, { dec := some false }), (15, { dec := some false }), (16, { dec := some false }), (17, { dec := some true }), (18, { dec := some true }), (19, { dec := some true }), (20, { dec := some false, pick := some true }), (21, { dec := some true, pick := some false }), (22, { pick := some true }), (24, { dec := some true }), (25, { dec := some true }), (26, { dec := some true }), (27, { dec := some true }), (28, { dec := some true }), (29, { dec := some true }), (30, { dec := some true, pick := some true }), (31, { pick := some true }), (33, { dec := some true }), (34, { dec := some true }), (35, { dec := some true }), (36, { dec := some true }), (37, { dec := some true }), (38, { dec := some true }), (39, { dec := some true }), (40, { dec := some true, pick := some true }), (41, { pick := some true })]] [] Tryd.func58 (cs := [_, _, _, _, _, _, _, _, _, _, _, _, _, _, _, _, _, _, _, _, _, _, _, _, _, _, _, _, _, _, _, _, _, _, _, _, _, _, _, _, _, _, _]) (by kernel_rfl) ⟨h426, h426, h426, h426, eq28, h426, h438, h438, h438, h438, h439, h439, h439, h439, eq26, h439, h444, h444, h444, h439, h444, h438, h439, h438, h445, h445, h446, h446, h446, h446, h445, h446, h445, (rfl : true = true), (rfl : true = true), (rfl : true = true), (rfl : true = true), h447, h447, h447, (rfl : true = true), h447, (rfl : true = true), trivial⟩ (by kernel_rfl)
              · replace h := Option.some.inj h; subst h
                exact Abs.Good.path_ret hm [.reg [(2, { dec := some false }), (3, { dec := some false }), (4, { dec := some false }), (5, { dec := some false }), (6, { pick := some false }), (8, { dec := some true }), (9, { dec := some true }), (10, { dec := some true }), (11, { dec := some true }), (12, { dec := some false }), (13, { dec := some false }), (14, { dec := some false }), (15, { dec := some false }), (16, { dec := some false }), (17, { dec := some true }), (18, { dec := some true }), (19, { dec := some true }), (20, { dec := some false, pick := some true }), (21, { dec := some true, pick := some false }), (22, { pick := some true }), (24, { dec := some true }), (25, { dec := some true }), (26, { dec := some true }), (27, { dec := some true }), (28, { dec := some true }), (29, { dec := some true }), (30, { dec := some true, pick := some true }), (31, { pick := some true }), (33, { dec := some true }), (34, { dec := some true }), (35, { dec := some true }), (36, { dec := some true }), (37, { dec := some false }), (38, { dec := some false }), (39, { dec := some false }), (40, { dec := some true, pick := some false }), (41, { pick := some true })]] [] Tryd.func58 (cs := [_, _, _, _, _, _, _, _, _, _, _, _, _, _, _, _, _, _, _, _, _, _, _, _, _, _, _, _, _, _, _, _, _, _, _, _, _, _, _, _, _, _, _]) (by kernel_rfl) ⟨h426, h426, h426, h426, eq28, h426, h438, h438, h438, h438, h439, h439, h439, h439, eq26, h439, h444, h444, h444, h439, h444, h438, h439, h438, h445, h445, h446, h446, h446, h446, h445, h446, h445, (rfl : true = true), (rfl : true = true), (rfl : true = true), (rfl : true = true), h447, h447, h447, (rfl : true = true), h447, (rfl : true = true), trivial⟩ (by kernel_rfl)
            · rcases br_inv h with ⟨h448, h⟩ | ⟨h448, h⟩
              · rcases br_inv h with ⟨h449, h⟩ | ⟨h449, h⟩
                · replace h := Option.some.inj h; subst h
                  exact Abs.Good.path_ret hm [.reg [(2, { dec := some false }), (3, { dec := some false }), (4, { dec := some false }), (5, { dec := some false }), (6, { pick := some false }), (8, { dec := some true }), (9, { dec := some true }), (10, { dec := some true }), (11, { dec := some true }), (12, { dec := some false }), (13, { dec := some false }), (14, { dec := some false }), (15, { dec := some false }), (16, { dec := some false }), (17, { dec := some true }), (18, { dec := some true }), (19, { dec := some true }), (20, { dec := some false, pick := some true }), (21, { dec := some true, pick := some false }), (22, { pick := some true }), (24, { dec := some true }), (25, { dec := some true }), (26, { dec := some false }), (27, { dec := some false }), (28, { dec := some false }), (29, { dec := some false }), (30, { dec := some true, pick := some false }), (31, { pick := some true }), (33, { dec := some true }), (34, { dec := some true }), (35, { dec := some true }), (36, { dec := some true }), (37, { dec := some true }), (38, { dec := some true }), (39, { dec := some true }), (40, { dec := some true, pick := some true }), (41, { pick := some true })]] [] Tryd.func58 (cs := [_, _, _, _, _, _, _, _, _, _, _, _, _, _, _, _, _, _, _, _, _, _, _, _, _, _, _, _, _, _, _, _, _, _, _, _, _, _, _, _, _, _, _]) (by kernel_rfl) ⟨h426, h426, h426, h426, eq28, h426, h438, h438, h438, h438, h439, h439, h439, h439, eq26, h439, h444, h444, h444, h439, h444, h438, h439, h438, h445, h445, h446, h446, h446, h446, h445, h446, h445, h448, h448, h448, h448, h449, h449, h449, h448, h449, h448, trivial⟩ (by kernel_rfl)
                · replace h := Option.some.inj h; subst h
                  exact Abs.Good.path_ret hm [.reg [(2, { dec := some false }), (3, { dec := some false }), (4, { dec := some false }), (5, { dec := some false }), (6, { pick := some false }), (8, { dec := some true }), (9, { dec := some true }), (10, { dec := some true }), (11, { dec := some true }), (12, { dec := some false }), (13, { dec := some false }), (14, { dec := some false }), (15, { dec := some false }), (16, { dec := some false }), (17, { dec := some true }), (18, { dec := some true }), (19, { dec := some true }), (20, { dec := some false, pick := some true }), (21, { dec := some true, pick := some false }), (22, { pick := some true }), (24, { dec := some true }), (25, { dec := some true }), (26, { dec := some false }), (27, { dec := some false }), (28, { dec := some false }), (29, { dec := some false }), (30, { dec := some true, pick := some false }), (31, { pick := some true }), (33, { dec := some true }), (34, { dec := some true }), (35, { dec := some true }), (36, { dec := some true }), (37, { dec := some false }), (38, { dec := some false }), (39, { dec := some false }), (40, { dec := some true, pick := some false }), (41, { pick := some true })]] [] Tryd.func58 (cs := [_, _, _, _, _, _, _, _, _, _, _, _, _, _, _, _, _, _, _, _, _, _, _, _, _, _, _, _, _, _, _, _, _, _, _, _, _, _, _, _, _, _, _]) (by kernel_rfl) ⟨h426, h426, h426, h426, eq28, h426, h438, h438, h438, h438, h439, h439, h439, h439, eq26, h439, h444, h444, h444, h439, h444, h438, h439, h438, h445, h445, h446, h446, h446, h446, h445, h446, h445, h448, h448, h448, h448, h449, h449, h449, h448, h449, h448, trivial⟩ (by kernel_rfl)
              · replace h := Option.some.inj h; subst h
                exact Abs.Good.path_ret hm [.reg [(2, { dec := some false }), (3, { dec := some false }), (4, { dec := some false }), (5, { dec := some false }), (6, { pick := some false }), (8, { dec := some true }), (9, { dec := some true }), (10, { dec := some true }), (11, { dec := some true }), (12, { dec := some false }), (13, { dec := some false }), (14, { dec := some false }), (15, { dec := some false }), (16, { dec := some false }), (17, { dec := some true }), (18, { dec := some true }), (19, { dec := some true }), (20, { dec := some false, pick := some true }), (21, { dec := some true, pick := some false }), (22, { pick := some true }), (24, { dec := some true }), (25, { dec := some true }), (26, { dec := some false }), (27, { dec := some false }), (28, { dec := some false }), (29, { dec := some false }), (30, { dec := some true, pick := some false }), (31, { pick := some true }), (33, { dec := some false }), (34, { dec := some false }), (35, { dec := some false }), (36, { dec := some false }), (40, { dec := some false }), (41, { pick := some false })]] [] Tryd.func58 (cs := [_, _, _, _, _, _, _, _, _, _, _, _, _, _, _, _, _, _, _, _, _, _, _, _, _, _, _, _, _, _, _, _, _, _, _, _, _, _, _]) (by kernel_rfl) ⟨h426, h426, h426, h426, eq28, h426, h438, h438, h438, h438, h439, h439, h439, h439, eq26, h439, h444, h444, h444, h439, h444, h438, h439, h438, h445, h445, h446, h446, h446, h446, h445, h446, h445, h448, h448, h448, h448, h448, h448, trivial⟩ (by kernel_rfl)
          · replace h := Option.some.inj h; subst h
            exact Abs.Good.path_ret hm [.reg [(2, { dec := some false }), (3, { dec := some false }), (4, { dec := some false }), (5, { dec := some false }), (6, { pick := some false }), (8, { dec := some true }), (9, { dec := some true }), (10, { dec := some true }), (11, { dec := some true }), (12, { dec := some false }), (13, { dec := some false }), (14, { dec := some false }), (15, { dec := some false }), (16, { dec := some false }), (17, { dec := some true }), (18, { dec := some true }), (19, { dec := some true }), (20, { dec := some false, pick := some true }), (21, { dec := some true, pick := some false }), (22, { pick := some true }), (24, { dec := some false }), (25, { dec := some false }), (30, { dec := some false }), (31, { pick := some false }), (33, { dec := some false }), (34, { dec := some false }), (35, { dec := some false }), (36, { dec := some false }), (40, { dec := some false }), (41, { pick := some false })]] [] Tryd.func58 (cs := [_, _, _, _, _, _, _, _, _, _, _, _, _, _, _, _, _, _, _, _, _, _, _, _, _, _, _, _, _, _, _, _, _, _]) (by kernel_rfl) ⟨h426, h426, h426, h426, eq28, h426, h438, h438, h438, h438, h439, h439, h439, h439, eq26, h439, h444, h444, h444, h439, h444, h438, h439, h438, h445, h445, h445, h445, (rfl : false = false), (rfl : false = false), (rfl : false = false), (rfl : false = false), (rfl : false = false), (rfl : false = false), trivial⟩ (by kernel_rfl)
        · replace h := Option.some.inj h; subst h
          exact Abs.Good.path_ret hm [.reg [(2, { dec := some false }), (3, { dec := some false }), (4, { dec := some false }), (5, { dec := some false }), (6, { pick := some false }), (8, { dec := some true }), (9, { dec := some true }), (10, { dec := some true }), (11, { dec := some true }), (12, { dec := some false }), (13, { dec := some false }), (14, { dec := some false }), (15, { dec := some false }), (16, { dec := some false }), (17, { dec := some false }), (18, { dec := some false }), (19, { dec := some false }), (20, { dec := some false, pick := some false }), (21, { dec := some true, pick := some false }), (22, { pick := some true }), (24, { dec := some false }), (25, { dec := some false }), (30, { dec := some false }), (31, { pick := some false }), (33, { dec := some false }), (34, { dec := some false }), (35, { dec := some false }), (36, { dec := some false }), (40, { dec := some false }), (41, { pick := some false })]] [] Tryd.func58 (cs := [_, _, _, _, _, _, _, _, _, _, _, _, _, _, _, _, _, _, _, _, _, _, _, _, _, _, _, _, _, _, _, _, _, _]) (by kernel_rfl) ⟨h426, h426, h426, h426, eq28, h426, h438, h438, h438, h438, h439, h439, h439, h439, eq26, h439, h444, h444, h444, h439, h444, h438, h439, h438, (rfl : false = false), (rfl : false = false), (rfl : false = false), (rfl : false = false), (rfl : false = false), (rfl : false = false), (rfl : false = false), (rfl : false = false), (rfl : false = false), (rfl : false = false), trivial⟩ (by kernel_rfl)
    · replace h := Option.some.inj h; subst h
      exact Abs.Good.path_ret hm [.reg [(2, { dec := some false }), (3, { dec := some false }), (4, { dec := some false }), (5, { dec := some false }), (6, { pick := some false }), (8, { dec := some false }), (9, { dec := some false }), (10, { dec := some false }), (11, { dec := some false }), (21, { dec := some false }), (22, { pick := some false }), (24, { dec := some false }), (25, { dec := some false }), (30, { dec := some false }), (31, { pick := some false }), (33, { dec := some false }), (34, { dec := some false }), (35, { dec := some false }), (36, { dec := some false }), (40, { dec := some false }), (41, { pick := some false })]] [] Tryd.func58 (cs := [_, _, _, _, _, _, _, _, _, _, _, _, _, _, _, _, _, _, _, _, _, _]) (by kernel_rfl) ⟨h426, h426, h426, h426, eq28, h426, h438, h438, h438, h438, h438, h438, (rfl : false = false), (rfl : false = false), (rfl : false = false), (rfl : false = false), (rfl : false = false), (rfl : false = false), (rfl : false = false), (rfl : false = false), (rfl : false = false), (rfl : false = false), trivial⟩ (by kernel_rfl)
theorem exchange_fields_l0_ok (k : Nat) (p1 : Bool) (p2 : Int) (p3 : List Int) (p4 : Int) (p5 : List Int) (p6 : Int) (p7 : List (List Int)) (p8 : ByteArray) (r : Bool) (h : exchange_fields_l0 k p1 p2 p3 p4 p5 p6 p7 p8 = some r) :
    Abs.Good P 58 Tryd.f58.ntmps [] [] (.v (.p Kd.bool r)) (pos Tryd.f58 [.r, .r]) [(sk 1, some (.v (.ptr 500001 0))), (sk 3, some (.v (.p Kd.bool p1))), (ek 500001, some (.box [.p (Kd.int .i64) p2, .p (Kd.arr 16 (Kd.int .u8)) p3, .p (Kd.int .i64) p4, .p (Kd.arr 16 (Kd.int .u8)) p5, .p (Kd.int .i64) p6, .p (Kd.sl (Kd.arr 16 (Kd.int .u8))) p7, .p Kd.str p8]))] := by
  unfold exchange_fields_l0 at h
  rcases br_inv h with ⟨h425, h⟩ | ⟨h425, h⟩
  · exact Abs.Good.path hm [.reg [(4, { dec := some true }), (5, { dec := some true }), (6, { dec := some true }), (7, { pick := some true })], .keep [sk 1, sk 3, sk 4, ek 500001], .ren [(500001, 501001)]] (cs := [_, _, _, _]) (by kernel_rfl) ⟨h425, h425, h425, h425, trivial⟩ (exchange_fields_l1_ok k p1 true p2 p3 p4 p5 p6 p7 p8 r h)
  · exact Abs.Good.path hm [.reg [(4, { dec := some false }), (5, { dec := some false }), (6, { dec := some false }), (7, { pick := some false })], .keep [sk 1, sk 3, sk 4, ek 500001], .ren [(500001, 501001)]] (cs := [_, _, _, _]) (by kernel_rfl) ⟨h425, h425, h425, h425, trivial⟩ (exchange_fields_l1_ok k p1 (p2 == (3 : Int)) p2 p3 p4 p5 p6 p7 p8 r h)
theorem exchange_fields_ok (k : Nat) (a1 : Int) (a2 : List Int) (a3 : Int) (a4 : List Int) (a5 : Int) (a6 : List (List Int)) (a7 : ByteArray) (r : Bool) (h : exchange_fields k a1 a2 a3 a4 a5 a6 a7 = some r) : SpecOk P ⟨58, [.agg [.p (Kd.int .i64) a1, .p (Kd.arr 16 (Kd.int .u8)) a2, .p (Kd.int .i64) a3, .p (Kd.arr 16 (Kd.int .u8)) a4, .p (Kd.int .i64) a5, .p (Kd.sl (Kd.arr 16 (Kd.int .u8))) a6, .p Kd.str a7]], [], .v (.p Kd.bool r), []⟩ := by
  refine spec_at Tryd.func58 (by kernel_rfl) (Nat.le_of_ble_eq_true (by kernel_rfl)) ?_
  unfold exchange_fields at h
  rcases br_inv h with ⟨h424, h⟩ | ⟨h424, h⟩
  · exact Abs.Good.path hm [.reg [], .reg [(4, { dec := some true }), (5, { dec := some true }), (6, { dec := some true }), (7, { pick := some true })], .keep [sk 1, sk 3, ek 1], .ren [(1, 500001)]] (cs := [_, _, _, _]) (by kernel_rfl) ⟨h424, h424, h424, h424, trivial⟩ (exchange_fields_l0_ok k true a1 a2 a3 a4 a5 a6 a7 r h)
  · exact Abs.Good.path hm [.reg [], .reg [(4, { dec := some false }), (5, { dec := some false }), (6, { dec := some false }), (7, { pick := some false })], .keep [sk 1, sk 3, ek 1], .ren [(1, 500001)]] (cs := [_, _, _, _]) (by kernel_rfl) ⟨h424, h424, h424, h424, trivial⟩ (exchange_fields_l0_ok k (a1 == (2 : Int)) a1 a2 a3 a4 a5 a6 a7 r h)

def exchange_right (k : Nat) (a1 : List Int) (a2 : Int) : Option (Bool) :=
  if (decide (a2 ≥ (0 : Int))) = true then
    if (decide (a2 ≤ (128 : Int))) = true then
      Option.bind (exchange_mask k a1 a2) fun x464 =>
      some ((Kd.eqb (Kd.arr 16 (Kd.int .u8)) x464 a1))
    else
      some (false)
  else
    some (false)
theorem exchange_right_ok (k : Nat) (a1 : List Int) (a2 : Int) (r : Bool) (h : exchange_right k a1 a2 = some r) : SpecOk P ⟨59, [.agg [.p (Kd.arr 16 (Kd.int .u8)) a1, .p (Kd.int .i64) a2]], [], .v (.p Kd.bool r), []⟩ := by
  refine spec_at Tryd.func59 (by kernel_rfl) (Nat.le_of_ble_eq_true (by kernel_rfl)) ?_
  unfold exchange_right at h
  rcases br_inv h with ⟨h462, h⟩ | ⟨h462, h⟩
  · rcases br_inv h with ⟨h463, h⟩ | ⟨h463, h⟩
    · obtain ⟨x464, h465, h⟩ := bind_inv h
      replace h := Option.some.inj h; subst h
      exact Abs.Good.path_ret hm [.reg [], .reg [(4, { dec := some true }), (5, { dec := some true }), (6, { dec := some true }), (7, { pick := some true }), (9, { dec := some true }), (10, { dec := some true }), (11, { dec := some true }), (12, { dec := some true }), (13, { dec := some true, call := some { lend := [], pass := [], res := .v (.p (Kd.arr 16 (Kd.int .u8)) x464), outs := [], back := [] } }), (14, { dec := some true }), (15, { dec := some true }), (16, { dec := some true }), (17, { pick := some true })]] [] Tryd.func59 (cs := [_, _, _, _, _, _, _, _, _, _, _, _, _, _, _]) (by kernel_rfl) ⟨h462, h462, h462, h462, h463, h463, h463, h463, h463, (exchange_mask_ok k a1 a2 _ h465), h463, h463, h463, eq26, h463, trivial⟩ (by kernel_rfl)
    · replace h := Option.some.inj h; subst h
      exact Abs.Good.path_ret hm [.reg [], .reg [(4, { dec := some true }), (5, { dec := some true }), (6, { dec := some true }), (7, { pick := some true }), (9, { dec := some false }), (10, { dec := some false }), (11, { dec := some false }), (12, { dec := some false }), (13, { dec := some false }), (14, { dec := some false }), (15, { dec := some false }), (16, { dec := some false }), (17, { pick := some false })]] [] Tryd.func59 (cs := [_, _, _, _, _, _, _, _, _, _, _, _, _]) (by kernel_rfl) ⟨h462, h462, h462, h462, h463, h463, h463, h463, h463, h463, h463, h463, h463, trivial⟩ (by kernel_rfl)
  · replace h := Option.some.inj h; subst h
    exact Abs.Good.path_ret hm [.reg [], .reg [(4, { dec := some false }), (5, { dec := some false }), (6, { dec := some false }), (7, { pick := some false }), (9, { dec := some false }), (10, { dec := some false }), (11, { dec := some false }), (12, { dec := some false }), (13, { dec := some false }), (14, { dec := some false }), (15, { dec := some false }), (16, { dec := some false }), (17, { pick := some false })]] [] Tryd.func59 (cs := [_, _, _, _, _, _, _, _, _, _, _, _, _]) (by kernel_rfl) ⟨h462, h462, h462, h462, (rfl : false = false), (rfl : false = false), (rfl : false = false), (rfl : false = false), (rfl : false = false), (rfl : false = false), (rfl : false = false), (rfl : false = false), (rfl : false = false), trivial⟩ (by kernel_rfl)

def exchange_Check_l3 (s2 : List (List Int) → Int → Int → Int → List Int → Int → List Int → Int → List (List Int) → ByteArray → Option (Int)) (k : Nat) (p1 : List (List Int)) (p2 : Int) (p3 : Int) (p4 : Bool) (p5 : Int) (p6 : List Int) (p7 : Int) (p8 : List Int) (p9 : Int) (p10 : List (List Int)) (p11 : ByteArray) : Option (Int) :=
  if p4 = true then
    some ((3 : Int))
  else
    s2 p1 p2 (IntKind.i64.wrap (p3 + (1 : Int))) p5 p6 p7 p8 p9 p10 p11
def exchange_Check_l2 : Nat → List (List Int) → Int → Int → Int → List Int → Int → List Int → Int → List (List Int) → ByteArray → Option (Int)
  | 0, _, _, _, _, _, _, _, _, _, _ => none
  | k + 1, p1, p2, p3, p4, p5, p6, p7, p8, p9, p10 =>
    if (decide (p3 < p2)) = true then
      if 0 ≤ p3 ∧ p3 < (List.length p1 : Int) then
        if (decide (p3 > (0 : Int))) = true then
          if 0 ≤ (IntKind.i64.wrap (p3 - (1 : Int))) ∧ (IntKind.i64.wrap (p3 - (1 : Int))) < (List.length p9 : Int) then
            Option.bind (exchange_order k (List.getD p9 (Int.toNat (IntKind.i64.wrap (p3 - (1 : Int)))) (Kd.dflt (Kd.arr 16 (Kd.int .u8)))) (List.getD p1 (Int.toNat p3) (Kd.dflt (Kd.arr 16 (Kd.int .u8))))) fun x508 =>
            if (decide (x508 ≥ (0 : Int))) = true then
              exchange_Check_l3 (exchange_Check_l2 k) k p1 p2 p3 true p4 p5 p6 p7 p8 p9 p10
            else
              if (p4 == (2 : Int)) = true then
                Option.bind (exchange_Under k p5 p6 (List.getD p1 (Int.toNat p3) (Kd.dflt (Kd.arr 16 (Kd.int .u8))))) fun x512 =>
                exchange_Check_l3 (exchange_Check_l2 k) k p1 p2 p3 (!x512) p4 p5 p6 p7 p8 p9 p10
              else
                exchange_Check_l3 (exchange_Check_l2 k) k p1 p2 p3 false p4 p5 p6 p7 p8 p9 p10
          else none
        else
          if (p4 == (2 : Int)) = true then
            Option.bind (exchange_Under k p5 p6 (List.getD p1 (Int.toNat p3) (Kd.dflt (Kd.arr 16 (Kd.int .u8))))) fun x515 =>
            exchange_Check_l3 (exchange_Check_l2 k) k p1 p2 p3 (!x515) p4 p5 p6 p7 p8 p9 p10
          else
            exchange_Check_l3 (exchange_Check_l2 k) k p1 p2 p3 false p4 p5 p6 p7 p8 p9 p10
      else none
    else
      some ((0 : Int))
def exchange_Check_l1 (k : Nat) (p1 : Bool) (p2 : Int) (p3 : List Int) (p4 : Int) (p5 : List Int) (p6 : Int) (p7 : List (List Int)) (p8 : ByteArray) : Option (Int) :=
  if p1 = true then
    some ((3 : Int))
  else
    exchange_Check_l2 k p7 (List.length p7 : Int) (0 : Int) p2 p3 p4 p5 p6 p7 p8
def exchange_Check_l0 (k : Nat) (p1 : Bool) (p2 : Int) (p3 : List Int) (p4 : Int) (p5 : List Int) (p6 : Int) (p7 : List (List Int)) (p8 : ByteArray) : Option (Int) :=
  if p1 = true then
    some ((1 : Int))
  else
    Option.bind (exchange_fields k p2 p3 p4 p5 p6 p7 p8) fun x494 =>
    if (!x494) = true then
      exchange_Check_l1 k true p2 p3 p4 p5 p6 p7 p8
    else
      Option.bind (exchange_right k p3 p4) fun x497 =>
      if (!x497) = true then
        exchange_Check_l1 k true p2 p3 p4 p5 p6 p7 p8
      else
        if (decide (p6 < (0 : Int))) = true then
          exchange_Check_l1 k true p2 p3 p4 p5 p6 p7 p8
        else
          if (decide (p6 > (65536 : Int))) = true then
            exchange_Check_l1 k true p2 p3 p4 p5 p6 p7 p8
          else
            if (decide ((List.length p7 : Int) > (65536 : Int))) = true then
              exchange_Check_l1 k true p2 p3 p4 p5 p6 p7 p8
            else
              exchange_Check_l1 k (decide ((ByteArray.size p8 : Int) > (1048576 : Int))) p2 p3 p4 p5 p6 p7 p8
def exchange_Check (k : Nat) (a1 : Int) (a2 : List Int) (a3 : Int) (a4 : List Int) (a5 : Int) (a6 : List (List Int)) (a7 : ByteArray) : Option (Int) :=
  if (decide (a1 < (1 : Int))) = true then
    exchange_Check_l0 k true a1 a2 a3 a4 a5 a6 a7
  else
    exchange_Check_l0 k (decide (a1 > (4 : Int))) a1 a2 a3 a4 a5 a6 a7
theorem exchange_Check_l3_ok (s2 : List (List Int) → Int → Int → Int → List Int → Int → List Int → Int → List (List Int) → ByteArray → Option (Int)) (hs2 : ∀ (p1 : List (List Int)) (p2 : Int) (p3 : Int) (p4 : Int) (p5 : List Int) (p6 : Int) (p7 : List Int) (p8 : Int) (p9 : List (List Int)) (p10 : ByteArray) (r : Int), s2 p1 p2 p3 p4 p5 p6 p7 p8 p9 p10 = some r → Abs.Good P 35 Tryd.f35.ntmps [] [] (.v (.p (Kd.int .i64) r)) (pos Tryd.f35 [.r, .r, .c false, .r, .c false, .r]) [(sk 1, some (.v (.ptr 502001 0))), (sk 47, some (.v (.p (Kd.sl (Kd.arr 16 (Kd.int .u8))) p1))), (sk 48, some (.v (.p (Kd.int .i64) p2))), (sk 49, some (.v (.p (Kd.int .i64) p3))), (ek 502001, some (.box [.p (Kd.int .i64) p4, .p (Kd.arr 16 (Kd.int .u8)) p5, .p (Kd.int .i64) p6, .p (Kd.arr 16 (Kd.int .u8)) p7, .p (Kd.int .i64) p8, .p (Kd.sl (Kd.arr 16 (Kd.int .u8))) p9, .p Kd.str p10]))]) (k : Nat) (p1 : List (List Int)) (p2 : Int) (p3 : Int) (p4 : Bool) (p5 : Int) (p6 : List Int) (p7 : Int) (p8 : List Int) (p9 : Int) (p10 : List (List Int)) (p11 : ByteArray) (r : Int) (h : exchange_Check_l3 s2 k p1 p2 p3 p4 p5 p6 p7 p8 p9 p10 p11 = some r) :
    Abs.Good P 35 Tryd.f35.ntmps [] [] (.v (.p (Kd.int .i64) r)) (pos Tryd.f35 [.r, .r, .c false, .r, .c false, .r, .r, .c true, .r, .r]) [(sk 1, some (.v (.ptr 503001 0))), (sk 47, some (.v (.p (Kd.sl (Kd.arr 16 (Kd.int .u8))) p1))), (sk 48, some (.v (.p (Kd.int .i64) p2))), (sk 49, some (.v (.p (Kd.int .i64) p3))), (sk 78, some (.v (.p Kd.bool p4))), (ek 503001, some (.box [.p (Kd.int .i64) p5, .p (Kd.arr 16 (Kd.int .u8)) p6, .p (Kd.int .i64) p7, .p (Kd.arr 16 (Kd.int .u8)) p8, .p (Kd.int .i64) p9, .p (Kd.sl (Kd.arr 16 (Kd.int .u8))) p10, .p Kd.str p11]))] := by
  unfold exchange_Check_l3 at h
  rcases br_inv h with ⟨h517, h⟩ | ⟨h517, h⟩
  · replace h := Option.some.inj h; subst h
    exact Abs.Good.path_ret hm [.cond true, .reg []] [] Tryd.func35 (cs := [_]) (by kernel_rfl) ⟨h517, trivial⟩ (by kernel_rfl)
  · exact Abs.Good.path hm [.cond false, .reg [], .keep [sk 1, sk 47, sk 48, sk 49, ek 503001], .ren [(503001, 502001)]] (cs := [_]) (by kernel_rfl) ⟨h517, trivial⟩ (hs2 p1 p2 (IntKind.i64.wrap (p3 + (1 : Int))) p5 p6 p7 p8 p9 p10 p11 r h)
theorem exchange_Check_l2_ok (k : Nat) : ∀ (p1 : List (List Int)) (p2 : Int) (p3 : Int) (p4 : Int) (p5 : List Int) (p6 : Int) (p7 : List Int) (p8 : Int) (p9 : List (List Int)) (p10 : ByteArray) (r : Int), exchange_Check_l2 k p1 p2 p3 p4 p5 p6 p7 p8 p9 p10 = some r →
    Abs.Good P 35 Tryd.f35.ntmps [] [] (.v (.p (Kd.int .i64) r)) (pos Tryd.f35 [.r, .r, .c false, .r, .c false, .r]) [(sk 1, some (.v (.ptr 502001 0))), (sk 47, some (.v (.p (Kd.sl (Kd.arr 16 (Kd.int .u8))) p1))), (sk 48, some (.v (.p (Kd.int .i64) p2))), (sk 49, some (.v (.p (Kd.int .i64) p3))), (ek 502001, some (.box [.p (Kd.int .i64) p4, .p (Kd.arr 16 (Kd.int .u8)) p5, .p (Kd.int .i64) p6, .p (Kd.arr 16 (Kd.int .u8)) p7, .p (Kd.int .i64) p8, .p (Kd.sl (Kd.arr 16 (Kd.int .u8))) p9, .p Kd.str p10]))] := by
  induction k with
  | zero => intro p1 p2 p3 p4 p5 p6 p7 p8 p9 p10 r h; cases h
  | succ k ih =>
    intro p1 p2 p3 p4 p5 p6 p7 p8 p9 p10 r h
    unfold exchange_Check_l2 at h
    rcases br_inv h with ⟨h504, h⟩ | ⟨h504, h⟩
    · obtain ⟨h505, h⟩ := gd_inv h
      rcases br_inv h with ⟨h506, h⟩ | ⟨h506, h⟩
      · obtain ⟨h507, h⟩ := gd_inv h
        obtain ⟨x508, h509, h⟩ := bind_inv h
        rcases br_inv h with ⟨h510, h⟩ | ⟨h510, h⟩
        · exact Abs.Good.path hm [.reg [], .cond true, .reg [], .reg [(3, { dec := some true }), (4, { dec := some true }), (5, { dec := some true }), (6, { dec := some true }), (7, { dec := some true }), (8, { dec := some true }), (9, { dec := some true }), (10, { dec := some true, call := some { lend := [], pass := [], res := .v (.p (Kd.int .i64) x508), outs := [], back := [] } }), (11, { dec := some true }), (12, { pick := some true }), (14, { dec := some true }), (15, { dec := some true }), (16, { dec := some true }), (17, { dec := some true }), (23, { dec := some true }), (24, { pick := some true })], .keep [sk 1, sk 47, sk 48, sk 49, sk 78, ek 502001], .ren [(502001, 503001)]] (cs := [_, _, _, _, _, _, _, _, _, _, _, _, _, _, _, _, _, _, _, _, _, _]) (by kernel_rfl) ⟨h504, h505.1, h505.2, h506, h506, h506, h506, h506, h507.1, h507.2, h506, h506, h506, (exchange_order_ok k (List.getD p9 (Int.toNat (IntKind.i64.wrap (p3 - (1 : Int)))) (Kd.dflt (Kd.arr 16 (Kd.int .u8)))) (List.getD p1 (Int.toNat p3) (Kd.dflt (Kd.arr 16 (Kd.int .u8)))) _ h509), h506, h506, h510, h510, h510, h510, h510, h510, trivial⟩ (exchange_Check_l3_ok (exchange_Check_l2 k) ih k p1 p2 p3 true p4 p5 p6 p7 p8 p9 p10 r h)
        · rcases br_inv h with ⟨h511, h⟩ | ⟨h511, h⟩
          · obtain ⟨x512, h513, h⟩ := bind_inv h
            exact Abs.Good.path hm [.reg [], .cond true, .reg [], .reg [(3, { dec := some true }), (4, { dec := some true }), (5, { dec := some true }), (6, { dec := some true }), (7, { dec := some true }), (8, { dec := some true }), (9, { dec := some true }), (10, { dec := some true, call := some { lend := [], pass := [], res := .v (.p (Kd.int .i64) x508), outs := [], back := [] } }), (11, { dec := some true }), (12, { pick := some true }), (14, { dec := some false }), (15, { dec := some false }), (16, { dec := some false }), (17, { dec := some false }), (18, { dec := some true }), (19, { dec := some true }), (20, { dec := some true }), (21, { dec := some true, call := some { lend := [], pass := [], res := .v (.p Kd.bool x512), outs := [], back := [] } }), (22, { dec := some true }), (23, { dec := some false, pick := some true }), (24, { pick := some false })], .keep [sk 1, sk 47, sk 48, sk 49, sk 78, ek 502001], .ren [(502001, 503001)]] (cs := [_, _, _, _, _, _, _, _, _, _, _, _, _, _, _, _, _, _, _, _, _, _, _, _, _, _, _, _, _]) (by kernel_rfl) ⟨h504, h505.1, h505.2, h506, h506, h506, h506, h506, h507.1, h507.2, h506, h506, h506, (exchange_order_ok k (List.getD p9 (Int.toNat (IntKind.i64.wrap (p3 - (1 : Int)))) (Kd.dflt (Kd.arr 16 (Kd.int .u8)))) (List.getD p1 (Int.toNat p3) (Kd.dflt (Kd.arr 16 (Kd.int .u8)))) _ h509), h506, h506, h510, h510, h510, h510, h511, h511, h511, h511, (exchange_Under_ok k p5 p6 (List.getD p1 (Int.toNat p3) (Kd.dflt (Kd.arr 16 (Kd.int .u8)))) _ h513), h511, h510, h511, h510, trivial⟩ (exchange_Check_l3_ok (exchange_Check_l2 k) ih k p1 p2 p3 (!x512) p4 p5 p6 p7 p8 p9 p10 r h)
          · exact Abs.Good.path hm [.reg [], .cond true, .reg [], .reg [(3, { dec := some true }), (4, { dec := some true }), (5, { dec := some true }), (6, { dec := some true }), (7, { dec := some true }), (8, { dec := some true }), (9, { dec := some true }), (10, { dec := some true, call := some { lend := [], pass := [], res := .v (.p (Kd.int .i64) x508), outs := [], back := [] } }), (11, { dec := some true }), (12, { pick := some true }), (14, { dec := some false }), (15, { dec := some false }), (16, { dec := some false }), (17, { dec := some false }), (18, { dec := some false }), (19, { dec := some false }), (20, { dec := some false }), (21, { dec := some false }), (22, { dec := some false }), (23, { dec := some false, pick := some false }), (24, { pick := some false })], .keep [sk 1, sk 47, sk 48, sk 49, sk 78, ek 502001], .ren [(502001, 503001)]] (cs := [_, _, _, _, _, _, _, _, _, _, _, _, _, _, _, _, _, _, _, _, _, _, _, _, _, _, _, _]) (by kernel_rfl) ⟨h504, h505.1, h505.2, h506, h506, h506, h506, h506, h507.1, h507.2, h506, h506, h506, (exchange_order_ok k (List.getD p9 (Int.toNat (IntKind.i64.wrap (p3 - (1 : Int)))) (Kd.dflt (Kd.arr 16 (Kd.int .u8)))) (List.getD p1 (Int.toNat p3) (Kd.dflt (Kd.arr 16 (Kd.int .u8)))) _ h509), h506, h506, h510, h510, h510, h510, h511, h511, h511, h511, h511, h510, h511, h510, trivial⟩ (exchange_Check_l3_ok (exchange_Check_l2 k) ih k p1 p2 p3 false p4 p5 p6 p7 p8 p9 p10 r h)
      · rcases br_inv h with ⟨h514, h⟩ | ⟨h514, h⟩
        · obtain ⟨x515, h516, h⟩ := bind_inv h
          exact Abs.Good.path hm [.reg [], .cond true, .reg [], .reg [(3, { dec := some false }), (4, { dec := some false }), (5, { dec := some false }), (6, { dec := some false }), (7, { dec := some false }), (8, { dec := some false }), (9, { dec := some false }), (10, { dec := some false }), (11, { dec := some false }), (12, { pick := some false }), (14, { dec := some false }), (15, { dec := some false }), (16, { dec := some false }), (17, { dec := some false }), (18, { dec := some true }), (19, { dec := some true }), (20, { dec := some true }), (21, { dec := some true, call := some { lend := [], pass := [], res := .v (.p Kd.bool x515), outs := [], back := [] } }), (22, { dec := some true }), (23, { dec := some false, pick := some true }), (24, { pick := some false })], .keep [sk 1, sk 47, sk 48, sk 49, sk 78, ek 502001], .ren [(502001, 503001)]] (cs := [_, _, _, _, _, _, _, _, _, _, _, _, _, _, _, _, _, _, _, _, _, _, _, _, _, _]) (by kernel_rfl) ⟨h504, h505.1, h505.2, h506, h506, h506, h506, h506, h506, h506, h506, h506, h506, (rfl : false = false), (rfl : false = false), (rfl : false = false), (rfl : false = false), h514, h514, h514, h514, (exchange_Under_ok k p5 p6 (List.getD p1 (Int.toNat p3) (Kd.dflt (Kd.arr 16 (Kd.int .u8)))) _ h516), h514, (rfl : false = false), h514, (rfl : false = false), trivial⟩ (exchange_Check_l3_ok (exchange_Check_l2 k) ih k p1 p2 p3 (!x515) p4 p5 p6 p7 p8 p9 p10 r h)
        · exact Abs.Good.path hm [.reg [], .cond true, .reg [], .reg [(3, { dec := some false }), (4, { dec := some false }), (5, { dec := some false }), (6, { dec := some false }), (7, { dec := some false }), (8, { dec := some false }), (9, { dec := some false }), (10, { dec := some false }), (11, { dec := some false }), (12, { pick := some false }), (14, { dec := some false }), (15, { dec := some false }), (16, { dec := some false }), (17, { dec := some false }), (18, { dec := some false }), (19, { dec := some false }), (20, { dec := some false }), (21, { dec := some false }), (22, { dec := some false }), (23, { dec := some false, pick := some false }), (24, { pick := some false })], .keep [sk 1, sk 47, sk 48, sk 49, sk 78, ek 502001], .ren [(502001, 503001)]] (cs := [_, _, _, _, _, _, _, _, _, _, _, _, _, _, _, _, _, _, _, _, _, _, _, _, _]) (by kernel_rfl) ⟨h504, h505.1, h505.2, h506, h506, h506, h506, h506, h506, h506, h506, h506, h506, (rfl : false = false), (rfl : false = false), (rfl : false = false), (rfl : false = false), h514, h514, h514, h514, h514, (rfl : false = false), h514, (rfl : false = false), trivial⟩ (exchange_Check_l3_ok (exchange_Check_l2 k) ih k p1 p2 p3 false p4 p5 p6 p7 p8 p9 p10 r h)
    · replace h := Option.some.inj h; subst h
      exact Abs.Good.path_ret hm [.reg [], .cond false, .reg []] [] Tryd.func35 (cs := [_]) (by kernel_rfl) ⟨h504, trivial⟩ (by kernel_rfl)
theorem exchange_Check_l1_ok (k : Nat) (p1 : Bool) (p2 : Int) (p3 : List Int) (p4 : Int) (p5 : List Int) (p6 : Int) (p7 : List (List Int)) (p8 : ByteArray) (r : Int) (h : exchange_Check_l1 k p1 p2 p3 p4 p5 p6 p7 p8 = some r) :
    Abs.Good P 35 Tryd.f35.ntmps [] [] (.v (.p (Kd.int .i64) r)) (pos Tryd.f35 [.r, .r, .c false, .r]) [(sk 1, some (.v (.ptr 501001 0))), (sk 14, some (.v (.p Kd.bool p1))), (ek 501001, some (.box [.p (Kd.int .i64) p2, .p (Kd.arr 16 (Kd.int .u8)) p3, .p (Kd.int .i64) p4, .p (Kd.arr 16 (Kd.int .u8)) p5, .p (Kd.int .i64) p6, .p (Kd.sl (Kd.arr 16 (Kd.int .u8))) p7, .p Kd.str p8]))] := by
  unfold exchange_Check_l1 at h
  rcases br_inv h with ⟨h503, h⟩ | ⟨h503, h⟩
  · replace h := Option.some.inj h; subst h
    exact Abs.Good.path_ret hm [.cond true, .reg []] [] Tryd.func35 (cs := [_]) (by kernel_rfl) ⟨h503, trivial⟩ (by kernel_rfl)
  · exact Abs.Good.path hm [.cond false, .reg [], .keep [sk 1, sk 47, sk 48, sk 49, ek 501001], .ren [(501001, 502001)]] (cs := [_]) (by kernel_rfl) ⟨h503, trivial⟩ (exchange_Check_l2_ok k p7 (List.length p7 : Int) (0 : Int) p2 p3 p4 p5 p6 p7 p8 r h)
theorem exchange_Check_l0_ok (k : Nat) (p1 : Bool) (p2 : Int) (p3 : List Int) (p4 : Int) (p5 : List Int) (p6 : Int) (p7 : List (List Int)) (p8 : ByteArray) (r : Int) (h : exchange_Check_l0 k p1 p2 p3 p4 p5 p6 p7 p8 = some r) :
    Abs.Good P 35 Tryd.f35.ntmps [] [] (.v (.p (Kd.int .i64) r)) (pos Tryd.f35 [.r, .r]) [(sk 1, some (.v (.ptr 500001 0))), (sk 5, some (.v (.p Kd.bool p1))), (ek 500001, some (.box [.p (Kd.int .i64) p2, .p (Kd.arr 16 (Kd.int .u8)) p3, .p (Kd.int .i64) p4, .p (Kd.arr 16 (Kd.int .u8)) p5, .p (Kd.int .i64) p6, .p (Kd.sl (Kd.arr 16 (Kd.int .u8))) p7, .p Kd.str p8]))] := by
  unfold exchange_Check_l0 at h
  rcases br_inv h with ⟨h493, h⟩ | ⟨h493, h⟩
  · replace h := Option.some.inj h; subst h
    exact Abs.Good.path_ret hm [.cond true, .reg []] [] Tryd.func35 (cs := [_]) (by kernel_rfl) ⟨h493, trivial⟩ (by kernel_rfl)
  · obtain ⟨x494, h495, h⟩ := bind_inv h
    rcases br_inv h with ⟨h496, h⟩ | ⟨h496, h⟩
    · exact Abs.Good.path hm [.cond false, .reg [(1, { call := some { lend := [], pass := [], res := .v (.p Kd.bool x494), outs := [], back := [] } }), (4, { dec := some true }), (5, { dec := some true }), (6, { dec := some true }), (7, { dec := some true }), (8, { pick := some true }), (10, { dec := some true }), (11, { dec := some true }), (12, { dec := some true }), (13, { pick := some true }), (15, { dec := some true }), (16, { dec := some true }), (17, { dec := some true }), (18, { pick := some true }), (20, { dec := some true }), (21, { dec := some true }), (22, { dec := some true }), (23, { dec := some true }), (24, { pick := some true }), (26, { dec := some true }), (27, { dec := some true }), (28, { dec := some true }), (29, { dec := some true }), (30, { pick := some true })], .keep [sk 1, sk 14, ek 500001], .ren [(500001, 501001)]] (cs := [_, _, _, _, _, _, _, _, _, _, _, _, _, _, _, _, _, _, _, _, _, _, _, _, _]) (by kernel_rfl) ⟨h493, (exchange_fields_ok k p2 p3 p4 p5 p6 p7 p8 _ h495), h496, h496, h496, h496, h496, (rfl : true = true), (rfl : true = true), (rfl : true = true), (rfl : true = true), (rfl : true = true), (rfl : true = true), (rfl : true = true), (rfl : true = true), (rfl : true = true), (rfl : true = true), (rfl : true = true), (rfl : true = true), (rfl : true = true), (rfl : true = true), (rfl : true = true), (rfl : true = true), (rfl : true = true), (rfl : true = true), trivial⟩ (exchange_Check_l1_ok k true p2 p3 p4 p5 p6 p7 p8 r h)
    · obtain ⟨x497, h498, h⟩ := bind_inv h
      rcases br_inv h with ⟨h499, h⟩ | ⟨h499, h⟩
      · exact Abs.Good.path hm [.cond false, .reg [(1, { call := some { lend := [], pass := [], res := .v (.p Kd.bool x494), outs := [], back := [] } }), (4, { dec := some false }), (5, { dec := some false }), (6, { dec := some false, call := some { lend := [], pass := [], res := .v (.p Kd.bool x497), outs := [], back := [] } }), (7, { dec := some false }), (8, { pick := some false }), (10, { dec := some true }), (11, { dec := some true }), (12, { dec := some true }), (13, { pick := some true }), (15, { dec := some true }), (16, { dec := some true }), (17, { dec := some true }), (18, { pick := some true }), (20, { dec := some true }), (21, { dec := some true }), (22, { dec := some true }), (23, { dec := some true }), (24, { pick := some true }), (26, { dec := some true }), (27, { dec := some true }), (28, { dec := some true }), (29, { dec := some true }), (30, { pick := some true })], .keep [sk 1, sk 14, ek 500001], .ren [(500001, 501001)]] (cs := [_, _, _, _, _, _, _, _, _, _, _, _, _, _, _, _, _, _, _, _, _, _, _, _, _, _]) (by kernel_rfl) ⟨h493, (exchange_fields_ok k p2 p3 p4 p5 p6 p7 p8 _ h495), h496, h496, h496, (exchange_right_ok k p3 p4 _ h498), h496, h496, h499, h499, h499, h499, (rfl : true = true), (rfl : true = true), (rfl : true = true), (rfl : true = true), (rfl : true = true), (rfl : true = true), (rfl : true = true), (rfl : true = true), (rfl : true = true), (rfl : true = true), (rfl : true = true), (rfl : true = true), (rfl : true = true), (rfl : true = true), trivial⟩ (exchange_Check_l1_ok k true p2 p3 p4 p5 p6 p7 p8 r h)
      · rcases br_inv h with ⟨h500, h⟩ | ⟨h500, h⟩
        · exact Abs.Good.path hm [.cond false, .reg [(1, { call := some { lend := [], pass := [], res := .v (.p Kd.bool x494), outs := [], back := [] } }), (4, { dec := some false }), (5, { dec := some false }), (6, { dec := some false, call := some { lend := [], pass := [], res := .v (.p Kd.bool x497), outs := [], back := [] } }), (7, { dec := some false }), (8, { pick := some false }), (10, { dec := some false }), (11, { dec := some false }), (12, { dec := some false }), (13, { pick := some false }), (15, { dec := some true }), (16, { dec := some true }), (17, { dec := some true }), (18, { pick := some true }), (20, { dec := some true }), (21, { dec := some true }), (22, { dec := some true }), (23, { dec := some true }), (24, { pick := some true }), (26, { dec := some true }), (27, { dec := some true }), (28, { dec := some true }), (29, { dec := some true }), (30, { pick := some true })], .keep [sk 1, sk 14, ek 500001], .ren [(500001, 501001)]] (cs := [_, _, _, _, _, _, _, _, _, _, _, _, _, _, _, _, _, _, _, _, _, _, _, _, _, _]) (by kernel_rfl) ⟨h493, (exchange_fields_ok k p2 p3 p4 p5 p6 p7 p8 _ h495), h496, h496, h496, (exchange_right_ok k p3 p4 _ h498), h496, h496, h499, h499, h499, h499, h500, h500, h500, h500, (rfl : true = true), (rfl : true = true), (rfl : true = true), (rfl : true = true), (rfl : true = true), (rfl : true = true), (rfl : true = true), (rfl : true = true), (rfl : true = true), (rfl : true = true), trivial⟩ (exchange_Check_l1_ok k true p2 p3 p4 p5 p6 p7 p8 r h)
        · rcases br_inv h with ⟨h501, h⟩ | ⟨h501, h⟩
          · exact Abs.Good.path hm [.cond false, .reg [(1, { call := some { lend := [], pass := [], res := .v (.p Kd.bool x494), outs := [], back := [] } }), (4, { dec := some false }), (5, { dec := some false }), (6, { dec := some false, call := some { lend := [], pass := [], res := .v (.p Kd.bool x497), outs := [], back := [] } }), (7, { dec := some false }), (8, { pick := some false }), (10, { dec := some false }), (11, { dec := some false }), (12, { dec := some false }), (13, { pick := some false }), (15, { dec := some false }), (16, { dec := some false }), (17, { dec := some false }), (18, { pick := some false }), (20, { dec := some true }), (21, { dec := some true }), (22, { dec := some true }), (23, { dec := some true }), (24, { pick := some true }), (26, { dec := some true }), (27, { dec := some true }), (28, { dec := some true }), (29, { dec := some true }), (30, { pick := some true })], .keep [sk 1, sk 14, ek 500001], .ren [(500001, 501001)]] (cs := [_, _, _, _, _, _, _, _, _, _, _, _, _, _, _, _, _, _, _, _, _, _, _, _, _, _]) (by kernel_rfl) ⟨h493, (exchange_fields_ok k p2 p3 p4 p5 p6 p7 p8 _ h495), h496, h496, h496, (exchange_right_ok k p3 p4 _ h498), h496, h496, h499, h499, h499, h499, h500, h500, h500, h500, h501, h501, h501, h501, h501, (rfl : true = true), (rfl : true = true), (rfl : true = true), (rfl : true = true), (rfl : true = true), trivial⟩ (exchange_Check_l1_ok k true p2 p3 p4 p5 p6 p7 p8 r h)
          · rcases br_inv h with ⟨h502, h⟩ | ⟨h502, h⟩
            · exact Abs.Good.path hm [.cond false, .reg [(1, { call := some { lend := [], pass := [], res := .v (.p Kd.bool x494), outs := [], back := [] } }), (4, { dec := some false }), (5, { dec := some false }), (6, { dec := some false, call := some { lend := [], pass := [], res := .v (.p Kd.bool x497), outs := [], back := [] } }), (7, { dec := some false }), (8, { pick := some false }), (10, { dec := some false }), (11, { dec := some false }), (12, { dec := some false }), (13, { pick := some false }), (15, { dec := some false }), (16, { dec := some false }), (17, { dec := some false }), (18, { pick := some false }), (20, { dec := some false }), (21, { dec := some false }), (22, { dec := some false }), (23, { dec := some false }), (24, { pick := some false }), (26, { dec := some true }), (27, { dec := some true }), (28, { dec := some true }), (29, { dec := some true }), (30, { pick := some true })], .keep [sk 1, sk 14, ek 500001], .ren [(500001, 501001)]] (cs := [_, _, _, _, _, _, _, _, _, _, _, _, _, _, _, _, _, _, _, _, _, _, _, _, _, _]) (by kernel_rfl) ⟨h493, (exchange_fields_ok k p2 p3 p4 p5 p6 p7 p8 _ h495), h496, h496, h496, (exchange_right_ok k p3 p4 _ h498), h496, h496, h499, h499, h499, h499, h500, h500, h500, h500, h501, h501, h501, h501, h501, h502, h502, h502, h502, h502, trivial⟩ (exchange_Check_l1_ok k true p2 p3 p4 p5 p6 p7 p8 r h)
            · exact Abs.Good.path hm [.cond false, .reg [(1, { call := some { lend := [], pass := [], res := .v (.p Kd.bool x494), outs := [], back := [] } }), (4, { dec := some false }), (5, { dec := some false }), (6, { dec := some false, call := some { lend := [], pass := [], res := .v (.p Kd.bool x497), outs := [], back := [] } }), (7, { dec := some false }), (8, { pick := some false }), (10, { dec := some false }), (11, { dec := some false }), (12, { dec := some false }), (13, { pick := some false }), (15, { dec := some false }), (16, { dec := some false }), (17, { dec := some false }), (18, { pick := some false }), (20, { dec := some false }), (21, { dec := some false }), (22, { dec := some false }), (23, { dec := some false }), (24, { pick := some false }), (26, { dec := some false }), (27, { dec := some false }), (28, { dec := some false }), (29, { dec := some false }), (30, { pick := some false })], .keep [sk 1, sk 14, ek 500001], .ren [(500001, 501001)]] (cs := [_, _, _, _, _, _, _, _, _, _, _, _, _, _, _, _, _, _, _, _, _, _, _, _, _, _]) (by kernel_rfl) ⟨h493, (exchange_fields_ok k p2 p3 p4 p5 p6 p7 p8 _ h495), h496, h496, h496, (exchange_right_ok k p3 p4 _ h498), h496, h496, h499, h499, h499, h499, h500, h500, h500, h500, h501, h501, h501, h501, h501, h502, h502, h502, h502, h502, trivial⟩ (exchange_Check_l1_ok k (decide ((ByteArray.size p8 : Int) > (1048576 : Int))) p2 p3 p4 p5 p6 p7 p8 r h)
theorem exchange_Check_ok (k : Nat) (a1 : Int) (a2 : List Int) (a3 : Int) (a4 : List Int) (a5 : Int) (a6 : List (List Int)) (a7 : ByteArray) (r : Int) (h : exchange_Check k a1 a2 a3 a4 a5 a6 a7 = some r) : SpecOk P ⟨35, [.agg [.p (Kd.int .i64) a1, .p (Kd.arr 16 (Kd.int .u8)) a2, .p (Kd.int .i64) a3, .p (Kd.arr 16 (Kd.int .u8)) a4, .p (Kd.int .i64) a5, .p (Kd.sl (Kd.arr 16 (Kd.int .u8))) a6, .p Kd.str a7]], [], .v (.p (Kd.int .i64) r), []⟩ := by
  refine spec_at Tryd.func35 (by kernel_rfl) (Nat.le_of_ble_eq_true (by kernel_rfl)) ?_
  unfold exchange_Check at h
  rcases br_inv h with ⟨h492, h⟩ | ⟨h492, h⟩
  · exact Abs.Good.path hm [.reg [], .reg [(4, { dec := some true }), (5, { dec := some true }), (6, { dec := some true }), (7, { pick := some true })], .keep [sk 1, sk 5, ek 1], .ren [(1, 500001)]] (cs := [_, _, _, _]) (by kernel_rfl) ⟨h492, h492, h492, h492, trivial⟩ (exchange_Check_l0_ok k true a1 a2 a3 a4 a5 a6 a7 r h)
  · exact Abs.Good.path hm [.reg [], .reg [(4, { dec := some false }), (5, { dec := some false }), (6, { dec := some false }), (7, { pick := some false })], .keep [sk 1, sk 5, ek 1], .ren [(1, 500001)]] (cs := [_, _, _, _]) (by kernel_rfl) ⟨h492, h492, h492, h492, trivial⟩ (exchange_Check_l0_ok k (decide (a1 > (4 : Int))) a1 a2 a3 a4 a5 a6 a7 r h)

def exchange_Names_l0 : Nat → List It → Int → Int → List (List Int) → Option (List (List Int))
  | 0, _, _, _, _ => none
  | k + 1, p1, p2, p3, p4 =>
    if (decide (p3 < p2)) = true then
      if 0 ≤ p3 ∧ p3 < (List.length p1 : Int) then
        if List.length p4 + List.length ([(List.getD p1 (Int.toNat p3) (Kd.dflt KI)).1] : List (List Int)) ≤ 8796093022208 then
          exchange_Names_l0 k p1 p2 (IntKind.i64.wrap (p3 + (1 : Int))) (p4 ++ ([(List.getD p1 (Int.toNat p3) (Kd.dflt KI)).1] : List (List Int)))
        else none
      else none
    else
      some (p4)
def exchange_Names (k : Nat) (a1 : List It) (a2 : List Int) (a3 : Int) : Option (List (List Int)) :=
  Option.bind (exchange_under k a1 a2 a3) fun x542 =>
  exchange_Names_l0 k x542 (List.length x542 : Int) (0 : Int) ([] : List (List Int))
theorem exchange_Names_l0_ok (k : Nat) : ∀ (p1 : List It) (p2 : Int) (p3 : Int) (p4 : List (List Int)) (r : List (List Int)), exchange_Names_l0 k p1 p2 p3 p4 = some r →
    Abs.Good P 26 Tryd.f26.ntmps [] [] (.v (.p (Kd.sl (Kd.arr 16 (Kd.int .u8))) r)) (pos Tryd.f26 [.r, .r, .r]) [(sk 5, some (.v (.row 500001 (List.length p4)))), (sk 10, some (.v (.p (Kd.sl KI) p1))), (sk 11, some (.v (.p (Kd.int .i64) p2))), (sk 12, some (.v (.p (Kd.int .i64) p3))), (ek 500001, some (.row (Kd.arr 16 (Kd.int .u8)) 26 p4))] := by
  induction k with
  | zero => intro p1 p2 p3 p4 r h; cases h
  | succ k ih =>
    intro p1 p2 p3 p4 r h
    unfold exchange_Names_l0 at h
    rcases br_inv h with ⟨h544, h⟩ | ⟨h544, h⟩
    · obtain ⟨h545, h⟩ := gd_inv h
      obtain ⟨h546, h⟩ := gd_inv h
      exact Abs.Good.path hm [.reg [], .cond true, .reg [], .reg [], .reg [], .keep [sk 5, sk 10, sk 11, sk 12, ek 20], .ren [(20, 500001)]] (cs := [_, _, _, _, _, _]) (by kernel_rfl) ⟨h544, h545.1, h545.2, (rfl : (List.length p4) = List.length p4), (appBound (P := P) (et := 26) (b := 16) (by kernel_rfl) (by decide) h546), (rfl : 1 = List.length ([(List.getD p1 (Int.toNat p3) (Kd.dflt KI)).1] : List (List Int))), trivial⟩ (ih p1 p2 (IntKind.i64.wrap (p3 + (1 : Int))) (p4 ++ ([(List.getD p1 (Int.toNat p3) (Kd.dflt KI)).1] : List (List Int))) r h)
    · replace h := Option.some.inj h; subst h
      exact Abs.Good.path_ret hm [.reg [], .cond false, .reg []] [500001] Tryd.func26 (cs := [_, _]) (by kernel_rfl) ⟨h544, (rfl : (List.length p4) = List.length p4), trivial⟩ (by kernel_rfl)
theorem exchange_Names_ok (k : Nat) (a1 : List It) (a2 : List Int) (a3 : Int) (r : List (List Int)) (h : exchange_Names k a1 a2 a3 = some r) : SpecOk P ⟨26, [.agg [.p (Kd.sl KI) a1], .agg [.p (Kd.arr 16 (Kd.int .u8)) a2, .p (Kd.int .i64) a3]], [], .v (.p (Kd.sl (Kd.arr 16 (Kd.int .u8))) r), []⟩ := by
  refine spec_at Tryd.func26 (by kernel_rfl) (Nat.le_of_ble_eq_true (by kernel_rfl)) ?_
  unfold exchange_Names at h
  obtain ⟨x542, h543, h⟩ := bind_inv h
  exact Abs.Good.path hm [.reg [], .reg [], .reg [(2, { call := some { lend := [], pass := [], res := .v (.p (Kd.sl KI) x542), outs := [], back := [] } })], .co (sk 5) 0 (.mk 900001 (Kd.arr 16 (Kd.int .u8)) 26), .keep [sk 5, sk 10, sk 11, sk 12, ek 900001], .ren [(900001, 500001)]] (cs := [_]) (by kernel_rfl) ⟨(exchange_under_ok k a1 a2 a3 _ h543), trivial⟩ (exchange_Names_l0_ok k x542 (List.length x542 : Int) (0 : Int) ([] : List (List Int)) r h)

def exchange_hearer_say (k : Nat) (a1 : List Pt) (a2 : List It) (a3 : Int) : Option (List Pt) :=
  if 0 + List.length a1 ≤ 1466015503701 then
    some (a1)
  else none
theorem exchange_hearer_say_ok (k : Nat) (a1 : List Pt) (a2 : List It) (a3 : Int) (r : List Pt) (h : exchange_hearer_say k a1 a2 a3 = some r) : SpecOk P ⟨74, [.ptr 1000001 0, .p (Kd.sl KP) a1], [(1000001, .box [.p (Kd.sl KI) a2, .nilsl, .p (Kd.int .i64) a3])], .t [], [(1000001, .box [.p (Kd.sl KI) a2, .row 700001 (List.length r), .p (Kd.int .i64) a3]), (700001, .row KP 47 r)]⟩ := by
  refine spec_at Tryd.func74 (by kernel_rfl) (Nat.le_of_ble_eq_true (by kernel_rfl)) ?_
  unfold exchange_hearer_say at h
  obtain ⟨h550, h⟩ := gd_inv h
  replace h := Option.some.inj h; subst h
  exact Abs.Good.path_ret hm [.reg [], .keep [ek 1000001, ek 10], .ren [(1000001, 1000001), (10, 700001)]] [] Tryd.func74 (cs := [_]) (by kernel_rfl) ⟨(appBound (P := P) (et := 47) (b := 96) (by kernel_rfl) (by decide) h550), trivial⟩ (by kernel_rfl)

def exchange_Halves (k : Nat) (a1 : List Int) (a2 : Int) : Option (List Int × Int × List Int × Int) :=
  if 0 ≤ (IntKind.i64.wrap (Int.tdiv a2 (8 : Int))) ∧ (IntKind.i64.wrap (Int.tdiv a2 (8 : Int))) < (16 : Int) then
    if 0 ≤ (Int.tmod a2 (8 : Int)) then
      some (a1, (IntKind.i64.wrap (a2 + (1 : Int))), (List.set a1 (Int.toNat (IntKind.i64.wrap (Int.tdiv a2 (8 : Int)))) (IntKind.u8.wrap (((BitVec.ofInt (IntKind.bits .u8) (List.getD a1 (Int.toNat (IntKind.i64.wrap (Int.tdiv a2 (8 : Int)))) (Kd.dflt (Kd.int .u8)))) ||| (BitVec.ofInt (IntKind.bits .u8) (Int.fdiv (128 : Int) (2 ^ (min (Int.toNat (Int.tmod a2 (8 : Int))) (IntKind.bits .u8)))))).toNat : Int))), (IntKind.i64.wrap (a2 + (1 : Int))))
    else none
  else none
theorem exchange_Halves_ok (k : Nat) (a1 : List Int) (a2 : Int) (r : List Int × Int × List Int × Int) (h : exchange_Halves k a1 a2 = some r) : SpecOk P ⟨30, [.agg [.p (Kd.arr 16 (Kd.int .u8)) a1, .p (Kd.int .i64) a2]], [], .t [.agg [.p (Kd.arr 16 (Kd.int .u8)) r.1, .p (Kd.int .i64) r.2.1], .agg [.p (Kd.arr 16 (Kd.int .u8)) r.2.2.1, .p (Kd.int .i64) r.2.2.2]], []⟩ := by
  refine spec_at Tryd.func30 (by kernel_rfl) (Nat.le_of_ble_eq_true (by kernel_rfl)) ?_
  unfold exchange_Halves at h
  obtain ⟨h567, h⟩ := gd_inv h
  obtain ⟨h568, h⟩ := gd_inv h
  replace h := Option.some.inj h; subst h
  exact Abs.Good.path_ret hm [.reg [], .reg [], .reg [], .reg [], .reg []] [] Tryd.func30 (cs := [_, _, _, _, _, _, _]) (by kernel_rfl) ⟨(by decide : (8 : Int) ≠ 0), h567.1, h567.2, (by decide : (8 : Int) ≠ 0), h568, h567.1, h567.2, trivial⟩ (by kernel_rfl)

def exchange_hearer_sum_l0 (k : Nat) (p1 : Bool) (p2 : List It) (p3 : Int) (p4 : Int) (p5 : List Int) (p6 : Int) (p7 : List Int) (p8 : Int) (p9 : List (List Int)) (p10 : ByteArray) (p11 : Int) (p12 : List Int) (p13 : Int) (p14 : List Int) (p15 : Int) (p16 : ByteArray) : Option (List Pt) :=
  if p1 = true then
    some (([] : List Pt))
  else
    if (decide (p15 ≤ (8 : Int))) = true then
      Option.bind (exchange_Names k p2 p5 p6) fun x558 =>
      Option.bind (exchange_hearer_say k ([((2 : Int), ((p5, (p6, ())), ((Kd.dflt (Kd.arr 16 (Kd.int .u8))), ((0 : Int), (x558, ((⟨#[]⟩ : ByteArray), ()))))))] : List Pt) p2 p3) fun x560 =>
      some (x560)
    else
      if (decide (p8 ≤ (8 : Int))) = true then
        Option.bind (exchange_hearer_say k ([(p11, ((p12, (p13, ())), (p14, (p15, (([] : List (List Int)), (p16, ()))))))] : List Pt) p2 p3) fun x563 =>
        some (x563)
      else
        Option.bind (exchange_Halves k p5 p6) fun x569 =>
        Option.bind (exchange_sum k p2 x569.1 x569.2.1) fun x571 =>
        Option.bind (exchange_sum k p2 x569.2.2.1 x569.2.2.2) fun x573 =>
        Option.bind (exchange_hearer_say k ([(x571.1, ((x571.2.1, (x571.2.2.1, ())), (x571.2.2.2.1, (x571.2.2.2.2.1, (([] : List (List Int)), (x571.2.2.2.2.2, ())))))), (x573.1, ((x573.2.1, (x573.2.2.1, ())), (x573.2.2.2.1, (x573.2.2.2.2.1, (([] : List (List Int)), (x573.2.2.2.2.2, ()))))))] : List Pt) p2 p3) fun x575 =>
        some (x575)
def exchange_hearer_sum (k : Nat) (a1 : Int) (a2 : List Int) (a3 : Int) (a4 : List Int) (a5 : Int) (a6 : List (List Int)) (a7 : ByteArray) (a8 : List It) (a9 : Int) : Option (List Pt) :=
  Option.bind (exchange_sum k a8 a2 a3) fun x553 =>
  if (Kd.eqb (Kd.arr 16 (Kd.int .u8)) x553.2.2.2.1 a4) = true then
    exchange_hearer_sum_l0 k (x553.2.2.2.2.1 == a5) a8 a9 a1 a2 a3 a4 a5 a6 a7 x553.1 x553.2.1 x553.2.2.1 x553.2.2.2.1 x553.2.2.2.2.1 x553.2.2.2.2.2
  else
    exchange_hearer_sum_l0 k false a8 a9 a1 a2 a3 a4 a5 a6 a7 x553.1 x553.2.1 x553.2.2.1 x553.2.2.2.1 x553.2.2.2.2.1 x553.2.2.2.2.2
theorem exchange_hearer_sum_l0_ok (k : Nat) (p1 : Bool) (p2 : List It) (p3 : Int) (p4 : Int) (p5 : List Int) (p6 : Int) (p7 : List Int) (p8 : Int) (p9 : List (List Int)) (p10 : ByteArray) (p11 : Int) (p12 : List Int) (p13 : Int) (p14 : List Int) (p15 : Int) (p16 : ByteArray) (r : List Pt) (h : exchange_hearer_sum_l0 k p1 p2 p3 p4 p5 p6 p7 p8 p9 p10 p11 p12 p13 p14 p15 p16 = some r) :
    Abs.Good P 53 Tryd.f53.ntmps [1000001] [(1000001, .box [.p (Kd.sl KI) p2, .row 700001 (List.length r), .p (Kd.int .i64) p3]), (700001, .row KP 47 r)] (.t []) (pos Tryd.f53 [.r, .r, .r]) [(sk 0, some (.v (.ptr 1000001 0))), (sk 3, some (.v (.ptr 500001 0))), (sk 4, some (.v (.ptr 500002 0))), (sk 35, some (.v (.p Kd.bool p1))), (ek 1000001, some (.box [.p (Kd.sl KI) p2, .nilsl, .p (Kd.int .i64) p3])), (ek 500001, some (.box [.p (Kd.int .i64) p4, .p (Kd.arr 16 (Kd.int .u8)) p5, .p (Kd.int .i64) p6, .p (Kd.arr 16 (Kd.int .u8)) p7, .p (Kd.int .i64) p8, .p (Kd.sl (Kd.arr 16 (Kd.int .u8))) p9, .p Kd.str p10])), (ek 500002, some (.box [.p (Kd.int .i64) p11, .p (Kd.arr 16 (Kd.int .u8)) p12, .p (Kd.int .i64) p13, .p (Kd.arr 16 (Kd.int .u8)) p14, .p (Kd.int .i64) p15, .nilsl, .p Kd.str p16]))] := by
  unfold exchange_hearer_sum_l0 at h
  rcases br_inv h with ⟨h556, h⟩ | ⟨h556, h⟩
  · replace h := Option.some.inj h; subst h
    exact Abs.Good.path_ret hm [.cond true, .co (ek 1000001) 1 (.mk 900001 KP 47), .keep [ek 1000001, ek 900001], .ren [(1000001, 1000001), (900001, 700001)]] [] Tryd.func53 (cs := [_]) (by kernel_rfl) ⟨h556, trivial⟩ (by kernel_rfl)
  · rcases br_inv h with ⟨h557, h⟩ | ⟨h557, h⟩
    · obtain ⟨x558, h559, h⟩ := bind_inv h
      obtain ⟨x560, h561, h⟩ := bind_inv h
      replace h := Option.some.inj h; subst h
      exact Abs.Good.path_ret hm [.cond false, .reg [], .cond true, .reg [(9, { call := some { lend := [], pass := [], res := .v (.p (Kd.sl (Kd.arr 16 (Kd.int .u8))) x558), outs := [], back := [] } }), (12, { call := some { lend := [(63, true)], pass := [(1000001, 1000001)], res := .t [], outs := [(1000001, .box [.p (Kd.sl KI) p2, .row 700001 (List.length x560), .p (Kd.int .i64) p3]), (700001, .row KP 47 x560)], back := [(1000001, 1000001), (700001, 2000512)] } })], .keep [ek 1000001, ek 2000512], .ren [(1000001, 1000001), (2000512, 700001)]] [] Tryd.func53 (cs := [_, _, _, _, _]) (by kernel_rfl) ⟨h556, h557, (exchange_Names_ok k p2 p5 p6 _ h559), (exchange_hearer_say_ok k ([((2 : Int), ((p5, (p6, ())), ((Kd.dflt (Kd.arr 16 (Kd.int .u8))), ((0 : Int), (x558, ((⟨#[]⟩ : ByteArray), ()))))))] : List Pt) p2 p3 _ h561), (rfl : 1 = List.length ([((2 : Int), ((p5, (p6, ())), ((Kd.dflt (Kd.arr 16 (Kd.int .u8))), ((0 : Int), (x558, ((⟨#[]⟩ : ByteArray), ()))))))] : List Pt)), trivial⟩ (by kernel_rfl)
    · rcases br_inv h with ⟨h562, h⟩ | ⟨h562, h⟩
      · obtain ⟨x563, h564, h⟩ := bind_inv h
        replace h := Option.some.inj h; subst h
        exact Abs.Good.path_ret hm [.cond false, .reg [], .cond false, .reg [], .cond true, .reg [(3, { call := some { lend := [(71, true)], pass := [(1000001, 1000001)], res := .t [], outs := [(1000001, .box [.p (Kd.sl KI) p2, .row 700001 (List.length x563), .p (Kd.int .i64) p3]), (700001, .row KP 47 x563)], back := [(1000001, 1000001), (700001, 2000576)] } })], .keep [ek 1000001, ek 2000576], .ren [(1000001, 1000001), (2000576, 700001)]] [] Tryd.func53 (cs := [_, _, _, _, _]) (by kernel_rfl) ⟨h556, h557, h562, (exchange_hearer_say_ok k ([(p11, ((p12, (p13, ())), (p14, (p15, (([] : List (List Int)), (p16, ()))))))] : List Pt) p2 p3 _ h564), (rfl : 1 = List.length ([(p11, ((p12, (p13, ())), (p14, (p15, (([] : List (List Int)), (p16, ()))))))] : List Pt)), trivial⟩ (by kernel_rfl)
      · obtain ⟨x569, h570, h⟩ := bind_inv h
        obtain ⟨x571, h572, h⟩ := bind_inv h
        obtain ⟨x573, h574, h⟩ := bind_inv h
        obtain ⟨x575, h576, h⟩ := bind_inv h
        replace h := Option.some.inj h; subst h
        exact Abs.Good.path_ret hm [.cond false, .reg [], .cond false, .reg [], .cond false, .reg [(2, { call := some { lend := [], pass := [], res := .t [.agg [.p (Kd.arr 16 (Kd.int .u8)) x569.1, .p (Kd.int .i64) x569.2.1], .agg [.p (Kd.arr 16 (Kd.int .u8)) x569.2.2.1, .p (Kd.int .i64) x569.2.2.2]], outs := [], back := [] } })], .reg [(6, { call := some { lend := [], pass := [], res := .v (.agg [.p (Kd.int .i64) x571.1, .p (Kd.arr 16 (Kd.int .u8)) x571.2.1, .p (Kd.int .i64) x571.2.2.1, .p (Kd.arr 16 (Kd.int .u8)) x571.2.2.2.1, .p (Kd.int .i64) x571.2.2.2.2.1, .nilsl, .p Kd.str x571.2.2.2.2.2]), outs := [], back := [] } }), (12, { call := some { lend := [], pass := [], res := .v (.agg [.p (Kd.int .i64) x573.1, .p (Kd.arr 16 (Kd.int .u8)) x573.2.1, .p (Kd.int .i64) x573.2.2.1, .p (Kd.arr 16 (Kd.int .u8)) x573.2.2.2.1, .p (Kd.int .i64) x573.2.2.2.2.1, .nilsl, .p Kd.str x573.2.2.2.2.2]), outs := [], back := [] } }), (14, { call := some { lend := [(33, true)], pass := [(1000001, 1000001)], res := .t [], outs := [(1000001, .box [.p (Kd.sl KI) p2, .row 700001 (List.length x575), .p (Kd.int .i64) p3]), (700001, .row KP 47 x575)], back := [(1000001, 1000001), (700001, 2000272)] } })], .keep [ek 1000001, ek 2000272], .ren [(1000001, 1000001), (2000272, 700001)]] [] Tryd.func53 (cs := [_, _, _, _, _, _, _, _]) (by kernel_rfl) ⟨h556, h557, h562, (exchange_Halves_ok k p5 p6 _ h570), (exchange_sum_ok k p2 x569.1 x569.2.1 _ h572), (exchange_sum_ok k p2 x569.2.2.1 x569.2.2.2 _ h574), (exchange_hearer_say_ok k ([(x571.1, ((x571.2.1, (x571.2.2.1, ())), (x571.2.2.2.1, (x571.2.2.2.2.1, (([] : List (List Int)), (x571.2.2.2.2.2, ())))))), (x573.1, ((x573.2.1, (x573.2.2.1, ())), (x573.2.2.2.1, (x573.2.2.2.2.1, (([] : List (List Int)), (x573.2.2.2.2.2, ()))))))] : List Pt) p2 p3 _ h576), (rfl : 2 = List.length ([(x571.1, ((x571.2.1, (x571.2.2.1, ())), (x571.2.2.2.1, (x571.2.2.2.2.1, (([] : List (List Int)), (x571.2.2.2.2.2, ())))))), (x573.1, ((x573.2.1, (x573.2.2.1, ())), (x573.2.2.2.1, (x573.2.2.2.2.1, (([] : List (List Int)), (x573.2.2.2.2.2, ()))))))] : List Pt)), trivial⟩ (by kernel_rfl)
theorem exchange_hearer_sum_ok (k : Nat) (a1 : Int) (a2 : List Int) (a3 : Int) (a4 : List Int) (a5 : Int) (a6 : List (List Int)) (a7 : ByteArray) (a8 : List It) (a9 : Int) (r : List Pt) (h : exchange_hearer_sum k a1 a2 a3 a4 a5 a6 a7 a8 a9 = some r) : SpecOk P ⟨53, [.ptr 1000001 0, .agg [.p (Kd.int .i64) a1, .p (Kd.arr 16 (Kd.int .u8)) a2, .p (Kd.int .i64) a3, .p (Kd.arr 16 (Kd.int .u8)) a4, .p (Kd.int .i64) a5, .p (Kd.sl (Kd.arr 16 (Kd.int .u8))) a6, .p Kd.str a7]], [(1000001, .box [.p (Kd.sl KI) a8, .nilsl, .p (Kd.int .i64) a9])], .t [], [(1000001, .box [.p (Kd.sl KI) a8, .row 700001 (List.length r), .p (Kd.int .i64) a9]), (700001, .row KP 47 r)]⟩ := by
  refine spec_at Tryd.func53 (by kernel_rfl) (Nat.le_of_ble_eq_true (by kernel_rfl)) ?_
  unfold exchange_hearer_sum at h
  obtain ⟨x553, h554, h⟩ := bind_inv h
  rcases br_inv h with ⟨h555, h⟩ | ⟨h555, h⟩
  · exact Abs.Good.path hm [.reg [], .reg [(6, { call := some { lend := [], pass := [], res := .v (.agg [.p (Kd.int .i64) x553.1, .p (Kd.arr 16 (Kd.int .u8)) x553.2.1, .p (Kd.int .i64) x553.2.2.1, .p (Kd.arr 16 (Kd.int .u8)) x553.2.2.2.1, .p (Kd.int .i64) x553.2.2.2.2.1, .nilsl, .p Kd.str x553.2.2.2.2.2]), outs := [], back := [] } })], .reg [(6, { dec := some true }), (7, { dec := some true }), (8, { dec := some true }), (9, { dec := some true }), (10, { dec := some true }), (11, { pick := some true })], .keep [sk 0, sk 3, sk 4, sk 35, ek 1000001, ek 3, ek 4], .ren [(1000001, 1000001), (3, 500001), (4, 500002)]] (cs := [_, _, _, _, _, _, _, _]) (by kernel_rfl) ⟨(exchange_sum_ok k a8 a2 a3 _ h554), eq26, h555, h555, h555, h555, h555, h555, trivial⟩ (exchange_hearer_sum_l0_ok k (x553.2.2.2.2.1 == a5) a8 a9 a1 a2 a3 a4 a5 a6 a7 x553.1 x553.2.1 x553.2.2.1 x553.2.2.2.1 x553.2.2.2.2.1 x553.2.2.2.2.2 r h)
  · exact Abs.Good.path hm [.reg [], .reg [(6, { call := some { lend := [], pass := [], res := .v (.agg [.p (Kd.int .i64) x553.1, .p (Kd.arr 16 (Kd.int .u8)) x553.2.1, .p (Kd.int .i64) x553.2.2.1, .p (Kd.arr 16 (Kd.int .u8)) x553.2.2.2.1, .p (Kd.int .i64) x553.2.2.2.2.1, .nilsl, .p Kd.str x553.2.2.2.2.2]), outs := [], back := [] } })], .reg [(6, { dec := some false }), (7, { dec := some false }), (8, { dec := some false }), (9, { dec := some false }), (10, { dec := some false }), (11, { pick := some false })], .keep [sk 0, sk 3, sk 4, sk 35, ek 1000001, ek 3, ek 4], .ren [(1000001, 1000001), (3, 500001), (4, 500002)]] (cs := [_, _, _, _, _, _, _, _]) (by kernel_rfl) ⟨(exchange_sum_ok k a8 a2 a3 _ h554), eq26, h555, h555, h555, h555, h555, h555, trivial⟩ (exchange_hearer_sum_l0_ok k false a8 a9 a1 a2 a3 a4 a5 a6 a7 x553.1 x553.2.1 x553.2.2.1 x553.2.2.2.1 x553.2.2.2.2.1 x553.2.2.2.2.2 r h)

def slices_BinarySearchFunc_75_l0 : Nat → List (List Int) → Int → Int → Int → List Int → Option (Int × Bool)
  | 0, _, _, _, _, _ => none
  | k + 1, p1, p2, p3, p4, p5 =>
    if (decide (p3 < p4)) = true then
      if 0 ≤ (IntKind.i64.wrap (Int.fdiv (IntKind.u64.wrap (IntKind.i64.wrap (p3 + p4))) (2 ^ (min (Int.toNat (1 : Int)) (IntKind.bits .u64))))) ∧ (IntKind.i64.wrap (Int.fdiv (IntKind.u64.wrap (IntKind.i64.wrap (p3 + p4))) (2 ^ (min (Int.toNat (1 : Int)) (IntKind.bits .u64))))) < (List.length p1 : Int) then
        Option.bind (exchange_order k (List.getD p1 (Int.toNat (IntKind.i64.wrap (Int.fdiv (IntKind.u64.wrap (IntKind.i64.wrap (p3 + p4))) (2 ^ (min (Int.toNat (1 : Int)) (IntKind.bits .u64)))))) (Kd.dflt (Kd.arr 16 (Kd.int .u8)))) p5) fun x639 =>
        if (decide (x639 < (0 : Int))) = true then
          slices_BinarySearchFunc_75_l0 k p1 p2 (IntKind.i64.wrap ((IntKind.i64.wrap (Int.fdiv (IntKind.u64.wrap (IntKind.i64.wrap (p3 + p4))) (2 ^ (min (Int.toNat (1 : Int)) (IntKind.bits .u64))))) + (1 : Int))) p4 p5
        else
          slices_BinarySearchFunc_75_l0 k p1 p2 p3 (IntKind.i64.wrap (Int.fdiv (IntKind.u64.wrap (IntKind.i64.wrap (p3 + p4))) (2 ^ (min (Int.toNat (1 : Int)) (IntKind.bits .u64))))) p5
      else none
    else
      if (decide (p3 < p2)) = true then
        if 0 ≤ p3 ∧ p3 < (List.length p1 : Int) then
          Option.bind (exchange_order k (List.getD p1 (Int.toNat p3) (Kd.dflt (Kd.arr 16 (Kd.int .u8)))) p5) fun x644 =>
          some (p3, (x644 == (0 : Int)))
        else none
      else
        some (p3, false)
def slices_BinarySearchFunc_75 (k : Nat) (a1 : List (List Int)) (a2 : List Int) : Option (Int × Bool) :=
  slices_BinarySearchFunc_75_l0 k a1 (List.length a1 : Int) (0 : Int) (List.length a1 : Int) a2
theorem slices_BinarySearchFunc_75_l0_ok (k : Nat) : ∀ (p1 : List (List Int)) (p2 : Int) (p3 : Int) (p4 : Int) (p5 : List Int) (r : Int × Bool), slices_BinarySearchFunc_75_l0 k p1 p2 p3 p4 p5 = some r →
    Abs.Good P 75 Tryd.f75.ntmps [] [] (.t [.p (Kd.int .i64) r.1, .p Kd.bool r.2]) (pos Tryd.f75 [.r, .r, .r]) [(sk 0, some (.v (.p (Kd.sl (Kd.arr 16 (Kd.int .u8))) p1))), (sk 2, some (.v (.fn 41 []))), (sk 4, some (.v (.ptr 500001 0))), (sk 8, some (.v (.p (Kd.int .i64) p2))), (sk 9, some (.v (.p (Kd.int .i64) p3))), (sk 10, some (.v (.p (Kd.int .i64) p4))), (ek 500001, some (.box [.p (Kd.arr 16 (Kd.int .u8)) p5]))] := by
  induction k with
  | zero => intro p1 p2 p3 p4 p5 r h; cases h
  | succ k ih =>
    intro p1 p2 p3 p4 p5 r h
    unfold slices_BinarySearchFunc_75_l0 at h
    rcases br_inv h with ⟨h637, h⟩ | ⟨h637, h⟩
    · obtain ⟨h638, h⟩ := gd_inv h
      obtain ⟨x639, h640, h⟩ := bind_inv h
      rcases br_inv h with ⟨h641, h⟩ | ⟨h641, h⟩
      · exact Abs.Good.path hm [.reg [], .cond true, .reg [], .reg [(6, { call := some { lend := [], pass := [], res := .v (.p (Kd.int .i64) x639), outs := [], back := [] } })], .cond true, .reg [], .keep [sk 0, sk 2, sk 4, sk 8, sk 9, sk 10, ek 500001]] (cs := [_, _, _, _, _, _]) (by kernel_rfl) ⟨h637, (by decide : 0 ≤ (1 : Int)), h638.1, h638.2, (exchange_order_ok k (List.getD p1 (Int.toNat (IntKind.i64.wrap (Int.fdiv (IntKind.u64.wrap (IntKind.i64.wrap (p3 + p4))) (2 ^ (min (Int.toNat (1 : Int)) (IntKind.bits .u64)))))) (Kd.dflt (Kd.arr 16 (Kd.int .u8)))) p5 _ h640), h641, trivial⟩ (ih p1 p2 (IntKind.i64.wrap ((IntKind.i64.wrap (Int.fdiv (IntKind.u64.wrap (IntKind.i64.wrap (p3 + p4))) (2 ^ (min (Int.toNat (1 : Int)) (IntKind.bits .u64))))) + (1 : Int))) p4 p5 r h)
      · exact Abs.Good.path hm [.reg [], .cond true, .reg [], .reg [(6, { call := some { lend := [], pass := [], res := .v (.p (Kd.int .i64) x639), outs := [], back := [] } })], .cond false, .reg [], .keep [sk 0, sk 2, sk 4, sk 8, sk 9, sk 10, ek 500001]] (cs := [_, _, _, _, _, _]) (by kernel_rfl) ⟨h637, (by decide : 0 ≤ (1 : Int)), h638.1, h638.2, (exchange_order_ok k (List.getD p1 (Int.toNat (IntKind.i64.wrap (Int.fdiv (IntKind.u64.wrap (IntKind.i64.wrap (p3 + p4))) (2 ^ (min (Int.toNat (1 : Int)) (IntKind.bits .u64)))))) (Kd.dflt (Kd.arr 16 (Kd.int .u8)))) p5 _ h640), h641, trivial⟩ (ih p1 p2 p3 (IntKind.i64.wrap (Int.fdiv (IntKind.u64.wrap (IntKind.i64.wrap (p3 + p4))) (2 ^ (min (Int.toNat (1 : Int)) (IntKind.bits .u64))))) p5 r h)
    · rcases br_inv h with ⟨h642, h⟩ | ⟨h642, h⟩
      · obtain ⟨h643, h⟩ := gd_inv h
        obtain ⟨x644, h645, h⟩ := bind_inv h
        replace h := Option.some.inj h; subst h
        exact Abs.Good.path_ret hm [.reg [], .cond false, .reg [(5, { dec := some true }), (6, { dec := some true }), (7, { dec := some true }), (8, { dec := some true }), (9, { dec := some true }), (10, { dec := some true }), (11, { dec := some true, call := some { lend := [], pass := [], res := .v (.p (Kd.int .i64) x644), outs := [], back := [] } }), (12, { dec := some true }), (13, { pick := some true })]] [] Tryd.func75 (cs := [_, _, _, _, _, _, _, _, _, _, _, _, _]) (by kernel_rfl) ⟨h637, h642, h642, h642, h642, h643.1, h643.2, h642, h642, h642, (exchange_order_ok k (List.getD p1 (Int.toNat p3) (Kd.dflt (Kd.arr 16 (Kd.int .u8)))) p5 _ h645), h642, h642, trivial⟩ (by kernel_rfl)
      · replace h := Option.some.inj h; subst h
        exact Abs.Good.path_ret hm [.reg [], .cond false, .reg [(5, { dec := some false }), (6, { dec := some false }), (7, { dec := some false }), (8, { dec := some false }), (9, { dec := some false }), (10, { dec := some false }), (11, { dec := some false }), (12, { dec := some false }), (13, { pick := some false })]] [] Tryd.func75 (cs := [_, _, _, _, _, _, _, _, _, _]) (by kernel_rfl) ⟨h637, h642, h642, h642, h642, h642, h642, h642, h642, h642, trivial⟩ (by kernel_rfl)
theorem slices_BinarySearchFunc_75_ok (k : Nat) (a1 : List (List Int)) (a2 : List Int) (r : Int × Bool) (h : slices_BinarySearchFunc_75 k a1 a2 = some r) : SpecOk P ⟨75, [.p (Kd.sl (Kd.arr 16 (Kd.int .u8))) a1, .p (Kd.arr 16 (Kd.int .u8)) a2, .fn 41 []], [], .t [.p (Kd.int .i64) r.1, .p Kd.bool r.2], []⟩ := by
  refine spec_at Tryd.func75 (by kernel_rfl) (Nat.le_of_ble_eq_true (by kernel_rfl)) ?_
  unfold slices_BinarySearchFunc_75 at h
  exact Abs.Good.path hm [.reg [], .reg [], .reg [], .keep [sk 0, sk 2, sk 4, sk 8, sk 9, sk 10, ek 4], .ren [(4, 500001)]] (cs := []) (by kernel_rfl) trivial (slices_BinarySearchFunc_75_l0_ok k a1 (List.length a1 : Int) (0 : Int) (List.length a1 : Int) a2 r h)

def exchange_hearer_say_74 (k : Nat) (a1 : List Pt) (a2 : List It) (a3 : Int) (a4 : List Pt) : Option (List Pt) :=
  if List.length a4 + List.length a1 ≤ 1466015503701 then
    some ((a4 ++ a1))
  else none
theorem exchange_hearer_say_74_ok (k : Nat) (a1 : List Pt) (a2 : List It) (a3 : Int) (a4 : List Pt) (r : List Pt) (h : exchange_hearer_say_74 k a1 a2 a3 a4 = some r) : SpecOk P ⟨74, [.ptr 1000001 0, .p (Kd.sl KP) a1], [(1000001, .box [.p (Kd.sl KI) a2, .row 1000002 (List.length a4), .p (Kd.int .i64) a3]), (1000002, .row KP 47 a4)], .t [], [(1000001, .box [.p (Kd.sl KI) a2, .row 700001 (List.length r), .p (Kd.int .i64) a3]), (700001, .row KP 47 r)]⟩ := by
  refine spec_at Tryd.func74 (by kernel_rfl) (Nat.le_of_ble_eq_true (by kernel_rfl)) ?_
  unfold exchange_hearer_say_74 at h
  obtain ⟨h650, h⟩ := gd_inv h
  replace h := Option.some.inj h; subst h
  exact Abs.Good.path_ret hm [.reg [], .keep [ek 1000001, ek 10], .ren [(1000001, 1000001), (10, 700001)]] [] Tryd.func74 (cs := [_, _]) (by kernel_rfl) ⟨(rfl : (List.length a4) = List.length a4), (appBound (P := P) (et := 47) (b := 96) (by kernel_rfl) (by decide) h650), trivial⟩ (by kernel_rfl)

def exchange_hearer_names_l4 (s3 : List It → Int → Int → List It → Int → List Pt → Int → List Int → Int → List Int → Int → List (List Int) → ByteArray → Option (List Pt)) (k : Nat) (p1 : List It) (p2 : Int) (p3 : Int) (p4 : List It) (p5 : Int) (p6 : List Pt) (p7 : Int) (p8 : List Int) (p9 : Int) (p10 : List Int) (p11 : Int) (p12 : List (List Int)) (p13 : ByteArray) : Option (List Pt) :=
  s3 p1 p2 (IntKind.i64.wrap (p3 + (1 : Int))) p4 p5 p6 p7 p8 p9 p10 p11 p12 p13
def exchange_hearer_names_l3 : Nat → List It → Int → Int → List It → Int → List Pt → Int → List Int → Int → List Int → Int → List (List Int) → ByteArray → Option (List Pt)
  | 0, _, _, _, _, _, _, _, _, _, _, _, _, _ => none
  | k + 1, p1, p2, p3, p4, p5, p6, p7, p8, p9, p10, p11, p12, p13 =>
    if (decide (p3 < p2)) = true then
      if 0 ≤ p3 ∧ p3 < (List.length p1 : Int) then
        Option.bind (slices_BinarySearchFunc_75 k p12 ((List.getD p1 (Int.toNat p3) (Kd.dflt KI)).1)) fun x684 =>
        if (!x684.2) = true then
          Option.bind (exchange_hearer_say_74 k ([((4 : Int), (((Kd.dflt (Kd.arr 16 (Kd.int .u8))), ((0 : Int), ())), ((Kd.dflt (Kd.arr 16 (Kd.int .u8))), ((0 : Int), (([] : List (List Int)), (((List.getD p1 (Int.toNat p3) (Kd.dflt KI)).2).1, ()))))))] : List Pt) p4 p5 p6) fun x687 =>
          exchange_hearer_names_l4 (exchange_hearer_names_l3 k) k p1 p2 p3 p4 p5 x687 p7 p8 p9 p10 p11 p12 p13
        else
          exchange_hearer_names_l4 (exchange_hearer_names_l3 k) k p1 p2 p3 p4 p5 p6 p7 p8 p9 p10 p11 p12 p13
      else none
    else
      some (p6)
def exchange_hearer_names_l2 (k : Nat) (p1 : List It) (p2 : Int) (p3 : List Pt) (p4 : Int) (p5 : List Int) (p6 : Int) (p7 : List Int) (p8 : Int) (p9 : List (List Int)) (p10 : ByteArray) : Option (List Pt) :=
  Option.bind (exchange_under k p1 p5 p6) fun x680 =>
  exchange_hearer_names_l3 k x680 (List.length x680 : Int) (0 : Int) p1 p2 p3 p4 p5 p6 p7 p8 p9 p10
def exchange_hearer_names_l1 (s0 : List (List Int) → Int → Int → List It → Int → Int → List Int → Int → List Int → Int → List (List Int) → ByteArray → List (List Int) → Option (List Pt)) (k : Nat) (p1 : List (List Int)) (p2 : Int) (p3 : Int) (p4 : List It) (p5 : Int) (p6 : Int) (p7 : List Int) (p8 : Int) (p9 : List Int) (p10 : Int) (p11 : List (List Int)) (p12 : ByteArray) (p13 : List (List Int)) : Option (List Pt) :=
  s0 p1 p2 (IntKind.i64.wrap (p3 + (1 : Int))) p4 p5 p6 p7 p8 p9 p10 p11 p12 p13
def exchange_hearer_names_l0 : Nat → List (List Int) → Int → Int → List It → Int → Int → List Int → Int → List Int → Int → List (List Int) → ByteArray → List (List Int) → Option (List Pt)
  | 0, _, _, _, _, _, _, _, _, _, _, _, _, _ => none
  | k + 1, p1, p2, p3, p4, p5, p6, p7, p8, p9, p10, p11, p12, p13 =>
    if (decide (p3 < p2)) = true then
      if 0 ≤ p3 ∧ p3 < (List.length p1 : Int) then
        Option.bind (exchange_find k p4 (List.getD p1 (Int.toNat p3) (Kd.dflt (Kd.arr 16 (Kd.int .u8))))) fun x673 =>
        if (!x673.2) = true then
          if List.length p13 + List.length ([(List.getD p1 (Int.toNat p3) (Kd.dflt (Kd.arr 16 (Kd.int .u8))))] : List (List Int)) ≤ 8796093022208 then
            exchange_hearer_names_l1 (exchange_hearer_names_l0 k) k p1 p2 p3 p4 p5 p6 p7 p8 p9 p10 p11 p12 (p13 ++ ([(List.getD p1 (Int.toNat p3) (Kd.dflt (Kd.arr 16 (Kd.int .u8))))] : List (List Int)))
          else none
        else
          exchange_hearer_names_l1 (exchange_hearer_names_l0 k) k p1 p2 p3 p4 p5 p6 p7 p8 p9 p10 p11 p12 p13
      else none
    else
      if (decide (((List.length p13) : Int) > (0 : Int))) = true then
        Option.bind (exchange_hearer_say k ([((3 : Int), (((Kd.dflt (Kd.arr 16 (Kd.int .u8))), ((0 : Int), ())), ((Kd.dflt (Kd.arr 16 (Kd.int .u8))), ((0 : Int), (p13, ((⟨#[]⟩ : ByteArray), ()))))))] : List Pt) p4 p5) fun x678 =>
        exchange_hearer_names_l2 k p4 p5 x678 p6 p7 p8 p9 p10 p11 p12
      else
        exchange_hearer_names_l2 k p4 p5 ([] : List Pt) p6 p7 p8 p9 p10 p11 p12
def exchange_hearer_names (k : Nat) (a1 : Int) (a2 : List Int) (a3 : Int) (a4 : List Int) (a5 : Int) (a6 : List (List Int)) (a7 : ByteArray) (a8 : List It) (a9 : Int) : Option (List Pt) :=
  exchange_hearer_names_l0 k a6 (List.length a6 : Int) (0 : Int) a8 a9 a1 a2 a3 a4 a5 a6 a7 ([] : List (List Int))
theorem exchange_hearer_names_l4_ok (s3 : List It → Int → Int → List It → Int → List Pt → Int → List Int → Int → List Int → Int → List (List Int) → ByteArray → Option (List Pt)) (hs3 : ∀ (p1 : List It) (p2 : Int) (p3 : Int) (p4 : List It) (p5 : Int) (p6 : List Pt) (p7 : Int) (p8 : List Int) (p9 : Int) (p10 : List Int) (p11 : Int) (p12 : List (List Int)) (p13 : ByteArray) (r : List Pt), s3 p1 p2 p3 p4 p5 p6 p7 p8 p9 p10 p11 p12 p13 = some r → Abs.Good P 54 Tryd.f54.ntmps [1000001] [(1000001, .box [.p (Kd.sl KI) p4, .row 700001 (List.length r), .p (Kd.int .i64) p5]), (700001, .row KP 47 r)] (.t []) (pos Tryd.f54 [.r, .r, .r, .r, .c false, .r, .c false, .r]) [(sk 0, some (.v (.ptr 1000001 0))), (sk 3, some (.v (.ptr 503001 0))), (sk 50, some (.v (.p (Kd.sl KI) p1))), (sk 51, some (.v (.p (Kd.int .i64) p2))), (sk 52, some (.v (.p (Kd.int .i64) p3))), (ek 1000001, some (.box [.p (Kd.sl KI) p4, .row 503002 (List.length p6), .p (Kd.int .i64) p5])), (ek 503002, some (.row KP 47 p6)), (ek 503001, some (.box [.p (Kd.int .i64) p7, .p (Kd.arr 16 (Kd.int .u8)) p8, .p (Kd.int .i64) p9, .p (Kd.arr 16 (Kd.int .u8)) p10, .p (Kd.int .i64) p11, .p (Kd.sl (Kd.arr 16 (Kd.int .u8))) p12, .p Kd.str p13]))]) (k : Nat) (p1 : List It) (p2 : Int) (p3 : Int) (p4 : List It) (p5 : Int) (p6 : List Pt) (p7 : Int) (p8 : List Int) (p9 : Int) (p10 : List Int) (p11 : Int) (p12 : List (List Int)) (p13 : ByteArray) (r : List Pt) (h : exchange_hearer_names_l4 s3 k p1 p2 p3 p4 p5 p6 p7 p8 p9 p10 p11 p12 p13 = some r) :
    Abs.Good P 54 Tryd.f54.ntmps [1000001] [(1000001, .box [.p (Kd.sl KI) p4, .row 700001 (List.length r), .p (Kd.int .i64) p5]), (700001, .row KP 47 r)] (.t []) (pos Tryd.f54 [.r, .r, .r, .r, .c false, .r, .c false, .r, .r, .c true, .r, .r, .r, .c false]) [(sk 0, some (.v (.ptr 1000001 0))), (sk 3, some (.v (.ptr 504001 0))), (sk 50, some (.v (.p (Kd.sl KI) p1))), (sk 51, some (.v (.p (Kd.int .i64) p2))), (sk 52, some (.v (.p (Kd.int .i64) p3))), (ek 1000001, some (.box [.p (Kd.sl KI) p4, .row 504002 (List.length p6), .p (Kd.int .i64) p5])), (ek 504002, some (.row KP 47 p6)), (ek 504001, some (.box [.p (Kd.int .i64) p7, .p (Kd.arr 16 (Kd.int .u8)) p8, .p (Kd.int .i64) p9, .p (Kd.arr 16 (Kd.int .u8)) p10, .p (Kd.int .i64) p11, .p (Kd.sl (Kd.arr 16 (Kd.int .u8))) p12, .p Kd.str p13]))] := by
  unfold exchange_hearer_names_l4 at h
  exact Abs.Good.path hm [.reg [], .keep [sk 0, sk 3, sk 50, sk 51, sk 52, ek 1000001, ek 504002, ek 504001], .ren [(1000001, 1000001), (504002, 503002), (504001, 503001)]] (cs := []) (by kernel_rfl) trivial (hs3 p1 p2 (IntKind.i64.wrap (p3 + (1 : Int))) p4 p5 p6 p7 p8 p9 p10 p11 p12 p13 r h)
theorem exchange_hearer_names_l3_ok (k : Nat) : ∀ (p1 : List It) (p2 : Int) (p3 : Int) (p4 : List It) (p5 : Int) (p6 : List Pt) (p7 : Int) (p8 : List Int) (p9 : Int) (p10 : List Int) (p11 : Int) (p12 : List (List Int)) (p13 : ByteArray) (r : List Pt), exchange_hearer_names_l3 k p1 p2 p3 p4 p5 p6 p7 p8 p9 p10 p11 p12 p13 = some r →
    Abs.Good P 54 Tryd.f54.ntmps [1000001] [(1000001, .box [.p (Kd.sl KI) p4, .row 700001 (List.length r), .p (Kd.int .i64) p5]), (700001, .row KP 47 r)] (.t []) (pos Tryd.f54 [.r, .r, .r, .r, .c false, .r, .c false, .r]) [(sk 0, some (.v (.ptr 1000001 0))), (sk 3, some (.v (.ptr 503001 0))), (sk 50, some (.v (.p (Kd.sl KI) p1))), (sk 51, some (.v (.p (Kd.int .i64) p2))), (sk 52, some (.v (.p (Kd.int .i64) p3))), (ek 1000001, some (.box [.p (Kd.sl KI) p4, .row 503002 (List.length p6), .p (Kd.int .i64) p5])), (ek 503002, some (.row KP 47 p6)), (ek 503001, some (.box [.p (Kd.int .i64) p7, .p (Kd.arr 16 (Kd.int .u8)) p8, .p (Kd.int .i64) p9, .p (Kd.arr 16 (Kd.int .u8)) p10, .p (Kd.int .i64) p11, .p (Kd.sl (Kd.arr 16 (Kd.int .u8))) p12, .p Kd.str p13]))] := by
  induction k with
  | zero => intro p1 p2 p3 p4 p5 p6 p7 p8 p9 p10 p11 p12 p13 r h; cases h
  | succ k ih =>
    intro p1 p2 p3 p4 p5 p6 p7 p8 p9 p10 p11 p12 p13 r h
    unfold exchange_hearer_names_l3 at h
    rcases br_inv h with ⟨h682, h⟩ | ⟨h682, h⟩
    · obtain ⟨h683, h⟩ := gd_inv h
      obtain ⟨x684, h685, h⟩ := bind_inv h
      rcases br_inv h with ⟨h686, h⟩ | ⟨h686, h⟩
      · obtain ⟨x687, h688, h⟩ := bind_inv h
        exact Abs.Good.path hm [.reg [], .cond true, .reg [], .reg [(4, { call := some { lend := [], pass := [], res := .t [.p (Kd.int .i64) x684.1, .p Kd.bool x684.2], outs := [], back := [] } })], .reg [], .cond true, .reg [(5, { call := some { lend := [(70, true)], pass := [(1000001, 1000001), (503002, 1000002)], res := .t [], outs := [(1000001, .box [.p (Kd.sl KI) p4, .row 700001 (List.length x687), .p (Kd.int .i64) p5]), (700001, .row KP 47 x687)], back := [(1000001, 1000001), (700001, 2000568)] } })], .keep [sk 0, sk 3, sk 50, sk 51, sk 52, ek 1000001, ek 2000568, ek 503001], .ren [(1000001, 1000001), (2000568, 504002), (503001, 504001)]] (cs := [_, _, _, _, _, _, _]) (by kernel_rfl) ⟨h682, h683.1, h683.2, (slices_BinarySearchFunc_75_ok k p12 ((List.getD p1 (Int.toNat p3) (Kd.dflt KI)).1) _ h685), h686, (exchange_hearer_say_74_ok k ([((4 : Int), (((Kd.dflt (Kd.arr 16 (Kd.int .u8))), ((0 : Int), ())), ((Kd.dflt (Kd.arr 16 (Kd.int .u8))), ((0 : Int), (([] : List (List Int)), (((List.getD p1 (Int.toNat p3) (Kd.dflt KI)).2).1, ()))))))] : List Pt) p4 p5 p6 _ h688), (rfl : 1 = List.length ([((4 : Int), (((Kd.dflt (Kd.arr 16 (Kd.int .u8))), ((0 : Int), ())), ((Kd.dflt (Kd.arr 16 (Kd.int .u8))), ((0 : Int), (([] : List (List Int)), (((List.getD p1 (Int.toNat p3) (Kd.dflt KI)).2).1, ()))))))] : List Pt)), trivial⟩ (exchange_hearer_names_l4_ok (exchange_hearer_names_l3 k) ih k p1 p2 p3 p4 p5 x687 p7 p8 p9 p10 p11 p12 p13 r h)
      · exact Abs.Good.path hm [.reg [], .cond true, .reg [], .reg [(4, { call := some { lend := [], pass := [], res := .t [.p (Kd.int .i64) x684.1, .p Kd.bool x684.2], outs := [], back := [] } })], .reg [], .cond false, .keep [sk 0, sk 3, sk 50, sk 51, sk 52, ek 1000001, ek 503002, ek 503001], .ren [(1000001, 1000001), (503002, 504002), (503001, 504001)]] (cs := [_, _, _, _, _]) (by kernel_rfl) ⟨h682, h683.1, h683.2, (slices_BinarySearchFunc_75_ok k p12 ((List.getD p1 (Int.toNat p3) (Kd.dflt KI)).1) _ h685), h686, trivial⟩ (exchange_hearer_names_l4_ok (exchange_hearer_names_l3 k) ih k p1 p2 p3 p4 p5 p6 p7 p8 p9 p10 p11 p12 p13 r h)
    · replace h := Option.some.inj h; subst h
      exact Abs.Good.path_ret hm [.reg [], .cond false, .keep [ek 1000001, ek 503002], .ren [(1000001, 1000001), (503002, 700001)]] [] Tryd.func54 (cs := [_]) (by kernel_rfl) ⟨h682, trivial⟩ (by kernel_rfl)
theorem exchange_hearer_names_l2_ok (k : Nat) (p1 : List It) (p2 : Int) (p3 : List Pt) (p4 : Int) (p5 : List Int) (p6 : Int) (p7 : List Int) (p8 : Int) (p9 : List (List Int)) (p10 : ByteArray) (r : List Pt) (h : exchange_hearer_names_l2 k p1 p2 p3 p4 p5 p6 p7 p8 p9 p10 = some r) :
    Abs.Good P 54 Tryd.f54.ntmps [1000001] [(1000001, .box [.p (Kd.sl KI) p1, .row 700001 (List.length r), .p (Kd.int .i64) p2]), (700001, .row KP 47 r)] (.t []) (pos Tryd.f54 [.r, .r, .r, .r, .c false, .r, .c false]) [(sk 0, some (.v (.ptr 1000001 0))), (sk 3, some (.v (.ptr 502001 0))), (ek 1000001, some (.box [.p (Kd.sl KI) p1, .row 502002 (List.length p3), .p (Kd.int .i64) p2])), (ek 502002, some (.row KP 47 p3)), (ek 502001, some (.box [.p (Kd.int .i64) p4, .p (Kd.arr 16 (Kd.int .u8)) p5, .p (Kd.int .i64) p6, .p (Kd.arr 16 (Kd.int .u8)) p7, .p (Kd.int .i64) p8, .p (Kd.sl (Kd.arr 16 (Kd.int .u8))) p9, .p Kd.str p10]))] := by
  unfold exchange_hearer_names_l2 at h
  obtain ⟨x680, h681, h⟩ := bind_inv h
  exact Abs.Good.path hm [.reg [(6, { call := some { lend := [], pass := [], res := .v (.p (Kd.sl KI) x680), outs := [], back := [] } })], .keep [sk 0, sk 3, sk 50, sk 51, sk 52, ek 1000001, ek 502002, ek 502001], .ren [(1000001, 1000001), (502002, 503002), (502001, 503001)]] (cs := [_]) (by kernel_rfl) ⟨(exchange_under_ok k p1 p5 p6 _ h681), trivial⟩ (exchange_hearer_names_l3_ok k x680 (List.length x680 : Int) (0 : Int) p1 p2 p3 p4 p5 p6 p7 p8 p9 p10 r h)
theorem exchange_hearer_names_l1_ok (s0 : List (List Int) → Int → Int → List It → Int → Int → List Int → Int → List Int → Int → List (List Int) → ByteArray → List (List Int) → Option (List Pt)) (hs0 : ∀ (p1 : List (List Int)) (p2 : Int) (p3 : Int) (p4 : List It) (p5 : Int) (p6 : Int) (p7 : List Int) (p8 : Int) (p9 : List Int) (p10 : Int) (p11 : List (List Int)) (p12 : ByteArray) (p13 : List (List Int)) (r : List Pt), s0 p1 p2 p3 p4 p5 p6 p7 p8 p9 p10 p11 p12 p13 = some r → Abs.Good P 54 Tryd.f54.ntmps [1000001] [(1000001, .box [.p (Kd.sl KI) p4, .row 700001 (List.length r), .p (Kd.int .i64) p5]), (700001, .row KP 47 r)] (.t []) (pos Tryd.f54 [.r, .r, .r]) [(sk 0, some (.v (.ptr 1000001 0))), (sk 3, some (.v (.ptr 500001 0))), (sk 4, some (.v (.row 500002 (List.length p13)))), (sk 14, some (.v (.p (Kd.sl (Kd.arr 16 (Kd.int .u8))) p1))), (sk 15, some (.v (.p (Kd.int .i64) p2))), (sk 16, some (.v (.p (Kd.int .i64) p3))), (ek 1000001, some (.box [.p (Kd.sl KI) p4, .nilsl, .p (Kd.int .i64) p5])), (ek 500001, some (.box [.p (Kd.int .i64) p6, .p (Kd.arr 16 (Kd.int .u8)) p7, .p (Kd.int .i64) p8, .p (Kd.arr 16 (Kd.int .u8)) p9, .p (Kd.int .i64) p10, .p (Kd.sl (Kd.arr 16 (Kd.int .u8))) p11, .p Kd.str p12])), (ek 500002, some (.row (Kd.arr 16 (Kd.int .u8)) 26 p13))]) (k : Nat) (p1 : List (List Int)) (p2 : Int) (p3 : Int) (p4 : List It) (p5 : Int) (p6 : Int) (p7 : List Int) (p8 : Int) (p9 : List Int) (p10 : Int) (p11 : List (List Int)) (p12 : ByteArray) (p13 : List (List Int)) (r : List Pt) (h : exchange_hearer_names_l1 s0 k p1 p2 p3 p4 p5 p6 p7 p8 p9 p10 p11 p12 p13 = some r) :
    Abs.Good P 54 Tryd.f54.ntmps [1000001] [(1000001, .box [.p (Kd.sl KI) p4, .row 700001 (List.length r), .p (Kd.int .i64) p5]), (700001, .row KP 47 r)] (.t []) (pos Tryd.f54 [.r, .r, .r, .r, .c true, .r, .r, .r, .c false]) [(sk 0, some (.v (.ptr 1000001 0))), (sk 3, some (.v (.ptr 501001 0))), (sk 4, some (.v (.row 501002 (List.length p13)))), (sk 14, some (.v (.p (Kd.sl (Kd.arr 16 (Kd.int .u8))) p1))), (sk 15, some (.v (.p (Kd.int .i64) p2))), (sk 16, some (.v (.p (Kd.int .i64) p3))), (ek 1000001, some (.box [.p (Kd.sl KI) p4, .nilsl, .p (Kd.int .i64) p5])), (ek 501001, some (.box [.p (Kd.int .i64) p6, .p (Kd.arr 16 (Kd.int .u8)) p7, .p (Kd.int .i64) p8, .p (Kd.arr 16 (Kd.int .u8)) p9, .p (Kd.int .i64) p10, .p (Kd.sl (Kd.arr 16 (Kd.int .u8))) p11, .p Kd.str p12])), (ek 501002, some (.row (Kd.arr 16 (Kd.int .u8)) 26 p13))] := by
  unfold exchange_hearer_names_l1 at h
  exact Abs.Good.path hm [.reg [], .keep [sk 0, sk 3, sk 4, sk 14, sk 15, sk 16, ek 1000001, ek 501001, ek 501002], .ren [(1000001, 1000001), (501001, 500001), (501002, 500002)]] (cs := []) (by kernel_rfl) trivial (hs0 p1 p2 (IntKind.i64.wrap (p3 + (1 : Int))) p4 p5 p6 p7 p8 p9 p10 p11 p12 p13 r h)
theorem exchange_hearer_names_l0_ok (k : Nat) : ∀ (p1 : List (List Int)) (p2 : Int) (p3 : Int) (p4 : List It) (p5 : Int) (p6 : Int) (p7 : List Int) (p8 : Int) (p9 : List Int) (p10 : Int) (p11 : List (List Int)) (p12 : ByteArray) (p13 : List (List Int)) (r : List Pt), exchange_hearer_names_l0 k p1 p2 p3 p4 p5 p6 p7 p8 p9 p10 p11 p12 p13 = some r →
    Abs.Good P 54 Tryd.f54.ntmps [1000001] [(1000001, .box [.p (Kd.sl KI) p4, .row 700001 (List.length r), .p (Kd.int .i64) p5]), (700001, .row KP 47 r)] (.t []) (pos Tryd.f54 [.r, .r, .r]) [(sk 0, some (.v (.ptr 1000001 0))), (sk 3, some (.v (.ptr 500001 0))), (sk 4, some (.v (.row 500002 (List.length p13)))), (sk 14, some (.v (.p (Kd.sl (Kd.arr 16 (Kd.int .u8))) p1))), (sk 15, some (.v (.p (Kd.int .i64) p2))), (sk 16, some (.v (.p (Kd.int .i64) p3))), (ek 1000001, some (.box [.p (Kd.sl KI) p4, .nilsl, .p (Kd.int .i64) p5])), (ek 500001, some (.box [.p (Kd.int .i64) p6, .p (Kd.arr 16 (Kd.int .u8)) p7, .p (Kd.int .i64) p8, .p (Kd.arr 16 (Kd.int .u8)) p9, .p (Kd.int .i64) p10, .p (Kd.sl (Kd.arr 16 (Kd.int .u8))) p11, .p Kd.str p12])), (ek 500002, some (.row (Kd.arr 16 (Kd.int .u8)) 26 p13))] := by
  induction k with
  | zero => intro p1 p2 p3 p4 p5 p6 p7 p8 p9 p10 p11 p12 p13 r h; cases h
  | succ k ih =>
    intro p1 p2 p3 p4 p5 p6 p7 p8 p9 p10 p11 p12 p13 r h
    unfold exchange_hearer_names_l0 at h
    rcases br_inv h with ⟨h671, h⟩ | ⟨h671, h⟩
    · obtain ⟨h672, h⟩ := gd_inv h
      obtain ⟨x673, h674, h⟩ := bind_inv h
      rcases br_inv h with ⟨h675, h⟩ | ⟨h675, h⟩
      · obtain ⟨h676, h⟩ := gd_inv h
        exact Abs.Good.path hm [.reg [], .cond true, .reg [], .reg [(5, { call := some { lend := [], pass := [], res := .t [.p (Kd.int .i64) x673.1, .p Kd.bool x673.2], outs := [], back := [] } })], .reg [], .cond true, .reg [], .keep [sk 0, sk 3, sk 4, sk 14, sk 15, sk 16, ek 1000001, ek 500001, ek 34], .ren [(1000001, 1000001), (500001, 501001), (34, 501002)]] (cs := [_, _, _, _, _, _, _, _]) (by kernel_rfl) ⟨h671, h672.1, h672.2, (exchange_find_ok k p4 (List.getD p1 (Int.toNat p3) (Kd.dflt (Kd.arr 16 (Kd.int .u8)))) _ h674), h675, (rfl : (List.length p13) = List.length p13), (appBound (P := P) (et := 26) (b := 16) (by kernel_rfl) (by decide) h676), (rfl : 1 = List.length ([(List.getD p1 (Int.toNat p3) (Kd.dflt (Kd.arr 16 (Kd.int .u8))))] : List (List Int))), trivial⟩ (exchange_hearer_names_l1_ok (exchange_hearer_names_l0 k) ih k p1 p2 p3 p4 p5 p6 p7 p8 p9 p10 p11 p12 (p13 ++ ([(List.getD p1 (Int.toNat p3) (Kd.dflt (Kd.arr 16 (Kd.int .u8))))] : List (List Int))) r h)
      · exact Abs.Good.path hm [.reg [], .cond true, .reg [], .reg [(5, { call := some { lend := [], pass := [], res := .t [.p (Kd.int .i64) x673.1, .p Kd.bool x673.2], outs := [], back := [] } })], .reg [], .cond false, .keep [sk 0, sk 3, sk 4, sk 14, sk 15, sk 16, ek 1000001, ek 500001, ek 500002], .ren [(1000001, 1000001), (500001, 501001), (500002, 501002)]] (cs := [_, _, _, _, _]) (by kernel_rfl) ⟨h671, h672.1, h672.2, (exchange_find_ok k p4 (List.getD p1 (Int.toNat p3) (Kd.dflt (Kd.arr 16 (Kd.int .u8)))) _ h674), h675, trivial⟩ (exchange_hearer_names_l1_ok (exchange_hearer_names_l0 k) ih k p1 p2 p3 p4 p5 p6 p7 p8 p9 p10 p11 p12 p13 r h)
    · rcases br_inv h with ⟨h677, h⟩ | ⟨h677, h⟩
      · obtain ⟨x678, h679, h⟩ := bind_inv h
        exact Abs.Good.path hm [.reg [], .cond false, .reg [], .cond true, .co (sk 4) 0 (.fz), .reg [(4, { call := some { lend := [(42, true)], pass := [(1000001, 1000001)], res := .t [], outs := [(1000001, .box [.p (Kd.sl KI) p4, .row 700001 (List.length x678), .p (Kd.int .i64) p5]), (700001, .row KP 47 x678)], back := [(1000001, 1000001), (700001, 2000344)] } })], .keep [sk 0, sk 3, ek 1000001, ek 2000344, ek 500001], .ren [(1000001, 1000001), (2000344, 502002), (500001, 502001)]] (cs := [_, _, _, _, _]) (by kernel_rfl) ⟨h671, h677, (rfl : (List.length p13) = List.length p13), (exchange_hearer_say_ok k ([((3 : Int), (((Kd.dflt (Kd.arr 16 (Kd.int .u8))), ((0 : Int), ())), ((Kd.dflt (Kd.arr 16 (Kd.int .u8))), ((0 : Int), (p13, ((⟨#[]⟩ : ByteArray), ()))))))] : List Pt) p4 p5 _ h679), (rfl : 1 = List.length ([((3 : Int), (((Kd.dflt (Kd.arr 16 (Kd.int .u8))), ((0 : Int), ())), ((Kd.dflt (Kd.arr 16 (Kd.int .u8))), ((0 : Int), (p13, ((⟨#[]⟩ : ByteArray), ()))))))] : List Pt)), trivial⟩ (exchange_hearer_names_l2_ok k p4 p5 x678 p6 p7 p8 p9 p10 p11 p12 r h)
      · exact Abs.Good.path hm [.reg [], .cond false, .reg [], .cond false, .co (ek 1000001) 1 (.mk 900002 KP 47), .keep [sk 0, sk 3, ek 1000001, ek 900002, ek 500001], .ren [(1000001, 1000001), (900002, 502002), (500001, 502001)]] (cs := [_, _]) (by kernel_rfl) ⟨h671, h677, trivial⟩ (exchange_hearer_names_l2_ok k p4 p5 ([] : List Pt) p6 p7 p8 p9 p10 p11 p12 r h)
theorem exchange_hearer_names_ok (k : Nat) (a1 : Int) (a2 : List Int) (a3 : Int) (a4 : List Int) (a5 : Int) (a6 : List (List Int)) (a7 : ByteArray) (a8 : List It) (a9 : Int) (r : List Pt) (h : exchange_hearer_names k a1 a2 a3 a4 a5 a6 a7 a8 a9 = some r) : SpecOk P ⟨54, [.ptr 1000001 0, .agg [.p (Kd.int .i64) a1, .p (Kd.arr 16 (Kd.int .u8)) a2, .p (Kd.int .i64) a3, .p (Kd.arr 16 (Kd.int .u8)) a4, .p (Kd.int .i64) a5, .p (Kd.sl (Kd.arr 16 (Kd.int .u8))) a6, .p Kd.str a7]], [(1000001, .box [.p (Kd.sl KI) a8, .nilsl, .p (Kd.int .i64) a9])], .t [], [(1000001, .box [.p (Kd.sl KI) a8, .row 700001 (List.length r), .p (Kd.int .i64) a9]), (700001, .row KP 47 r)]⟩ := by
  refine spec_at Tryd.func54 (by kernel_rfl) (Nat.le_of_ble_eq_true (by kernel_rfl)) ?_
  unfold exchange_hearer_names at h
  exact Abs.Good.path hm [.reg [], .reg [], .reg [], .co (sk 4) 0 (.mk 900001 (Kd.arr 16 (Kd.int .u8)) 26), .keep [sk 0, sk 3, sk 4, sk 14, sk 15, sk 16, ek 1000001, ek 3, ek 900001], .ren [(1000001, 1000001), (3, 500001), (900001, 500002)]] (cs := []) (by kernel_rfl) trivial (exchange_hearer_names_l0_ok k a6 (List.length a6 : Int) (0 : Int) a8 a9 a1 a2 a3 a4 a5 a6 a7 ([] : List (List Int)) r h)

def exchange_Find (k : Nat) (a1 : List It) (a2 : List Int) : Option (ByteArray × Bool) :=
  Option.bind (exchange_find k a1 a2) fun x694 =>
  if (!x694.2) = true then
    some ((⟨#[]⟩ : ByteArray), false)
  else
    if 0 ≤ x694.1 ∧ x694.1 < (List.length a1 : Int) then
      some (((List.getD a1 (Int.toNat x694.1) (Kd.dflt KI)).2).1, true)
    else none
theorem exchange_Find_ok (k : Nat) (a1 : List It) (a2 : List Int) (r : ByteArray × Bool) (h : exchange_Find k a1 a2 = some r) : SpecOk P ⟨16, [.agg [.p (Kd.sl KI) a1], .p (Kd.arr 16 (Kd.int .u8)) a2], [], .t [.p Kd.str r.1, .p Kd.bool r.2], []⟩ := by
  refine spec_at Tryd.func16 (by kernel_rfl) (Nat.le_of_ble_eq_true (by kernel_rfl)) ?_
  unfold exchange_Find at h
  obtain ⟨x694, h695, h⟩ := bind_inv h
  rcases br_inv h with ⟨h696, h⟩ | ⟨h696, h⟩
  · replace h := Option.some.inj h; subst h
    exact Abs.Good.path_ret hm [.reg [], .reg [(2, { call := some { lend := [], pass := [], res := .t [.p (Kd.int .i64) x694.1, .p Kd.bool x694.2], outs := [], back := [] } })], .reg [], .cond true, .reg []] [] Tryd.func16 (cs := [_, _]) (by kernel_rfl) ⟨(exchange_find_ok k a1 a2 _ h695), h696, trivial⟩ (by kernel_rfl)
  · obtain ⟨h697, h⟩ := gd_inv h
    replace h := Option.some.inj h; subst h
    exact Abs.Good.path_ret hm [.reg [], .reg [(2, { call := some { lend := [], pass := [], res := .t [.p (Kd.int .i64) x694.1, .p Kd.bool x694.2], outs := [], back := [] } })], .reg [], .cond false, .reg []] [] Tryd.func16 (cs := [_, _, _, _]) (by kernel_rfl) ⟨(exchange_find_ok k a1 a2 _ h695), h696, h697.1, h697.2, trivial⟩ (by kernel_rfl)

def exchange_hearer_want_l1 (s0 : List (List Int) → Int → Int → List It → Int → List Pt → Option (List Pt)) (k : Nat) (p1 : List (List Int)) (p2 : Int) (p3 : Int) (p4 : List It) (p5 : Int) (p6 : List Pt) : Option (List Pt) :=
  s0 p1 p2 (IntKind.i64.wrap (p3 + (1 : Int))) p4 p5 p6
def exchange_hearer_want_l0 : Nat → List (List Int) → Int → Int → List It → Int → List Pt → Option (List Pt)
  | 0, _, _, _, _, _, _ => none
  | k + 1, p1, p2, p3, p4, p5, p6 =>
    if (decide (p3 < p2)) = true then
      if 0 ≤ p3 ∧ p3 < (List.length p1 : Int) then
        Option.bind (exchange_Find k p4 (List.getD p1 (Int.toNat p3) (Kd.dflt (Kd.arr 16 (Kd.int .u8))))) fun x726 =>
        if x726.2 = true then
          Option.bind (exchange_hearer_say_74 k ([((4 : Int), (((Kd.dflt (Kd.arr 16 (Kd.int .u8))), ((0 : Int), ())), ((Kd.dflt (Kd.arr 16 (Kd.int .u8))), ((0 : Int), (([] : List (List Int)), (x726.1, ()))))))] : List Pt) p4 p5 p6) fun x729 =>
          exchange_hearer_want_l1 (exchange_hearer_want_l0 k) k p1 p2 p3 p4 p5 x729
        else
          exchange_hearer_want_l1 (exchange_hearer_want_l0 k) k p1 p2 p3 p4 p5 p6
      else none
    else
      some (p6)
def exchange_hearer_want (k : Nat) (a1 : Int) (a2 : List Int) (a3 : Int) (a4 : List Int) (a5 : Int) (a6 : List (List Int)) (a7 : ByteArray) (a8 : List It) (a9 : Int) : Option (List Pt) :=
  exchange_hearer_want_l0 k a6 (List.length a6 : Int) (0 : Int) a8 a9 ([] : List Pt)
theorem exchange_hearer_want_l1_ok (s0 : List (List Int) → Int → Int → List It → Int → List Pt → Option (List Pt)) (hs0 : ∀ (p1 : List (List Int)) (p2 : Int) (p3 : Int) (p4 : List It) (p5 : Int) (p6 : List Pt) (r : List Pt), s0 p1 p2 p3 p4 p5 p6 = some r → Abs.Good P 55 Tryd.f55.ntmps [1000001] [(1000001, .box [.p (Kd.sl KI) p4, .row 700001 (List.length r), .p (Kd.int .i64) p5]), (700001, .row KP 47 r)] (.t []) (pos Tryd.f55 [.r, .r]) [(sk 0, some (.v (.ptr 1000001 0))), (sk 9, some (.v (.p (Kd.sl (Kd.arr 16 (Kd.int .u8))) p1))), (sk 10, some (.v (.p (Kd.int .i64) p2))), (sk 11, some (.v (.p (Kd.int .i64) p3))), (ek 1000001, some (.box [.p (Kd.sl KI) p4, .row 500001 (List.length p6), .p (Kd.int .i64) p5])), (ek 500001, some (.row KP 47 p6))]) (k : Nat) (p1 : List (List Int)) (p2 : Int) (p3 : Int) (p4 : List It) (p5 : Int) (p6 : List Pt) (r : List Pt) (h : exchange_hearer_want_l1 s0 k p1 p2 p3 p4 p5 p6 = some r) :
    Abs.Good P 55 Tryd.f55.ntmps [1000001] [(1000001, .box [.p (Kd.sl KI) p4, .row 700001 (List.length r), .p (Kd.int .i64) p5]), (700001, .row KP 47 r)] (.t []) (pos Tryd.f55 [.r, .r, .r, .c true, .r, .r, .r, .c false]) [(sk 0, some (.v (.ptr 1000001 0))), (sk 9, some (.v (.p (Kd.sl (Kd.arr 16 (Kd.int .u8))) p1))), (sk 10, some (.v (.p (Kd.int .i64) p2))), (sk 11, some (.v (.p (Kd.int .i64) p3))), (ek 1000001, some (.box [.p (Kd.sl KI) p4, .row 501001 (List.length p6), .p (Kd.int .i64) p5])), (ek 501001, some (.row KP 47 p6))] := by
  unfold exchange_hearer_want_l1 at h
  exact Abs.Good.path hm [.reg [], .keep [sk 0, sk 9, sk 10, sk 11, ek 1000001, ek 501001], .ren [(1000001, 1000001), (501001, 500001)]] (cs := []) (by kernel_rfl) trivial (hs0 p1 p2 (IntKind.i64.wrap (p3 + (1 : Int))) p4 p5 p6 r h)
theorem exchange_hearer_want_l0_ok (k : Nat) : ∀ (p1 : List (List Int)) (p2 : Int) (p3 : Int) (p4 : List It) (p5 : Int) (p6 : List Pt) (r : List Pt), exchange_hearer_want_l0 k p1 p2 p3 p4 p5 p6 = some r →
    Abs.Good P 55 Tryd.f55.ntmps [1000001] [(1000001, .box [.p (Kd.sl KI) p4, .row 700001 (List.length r), .p (Kd.int .i64) p5]), (700001, .row KP 47 r)] (.t []) (pos Tryd.f55 [.r, .r]) [(sk 0, some (.v (.ptr 1000001 0))), (sk 9, some (.v (.p (Kd.sl (Kd.arr 16 (Kd.int .u8))) p1))), (sk 10, some (.v (.p (Kd.int .i64) p2))), (sk 11, some (.v (.p (Kd.int .i64) p3))), (ek 1000001, some (.box [.p (Kd.sl KI) p4, .row 500001 (List.length p6), .p (Kd.int .i64) p5])), (ek 500001, some (.row KP 47 p6))] := by
  induction k with
  | zero => intro p1 p2 p3 p4 p5 p6 r h; cases h
  | succ k ih =>
    intro p1 p2 p3 p4 p5 p6 r h
    unfold exchange_hearer_want_l0 at h
    rcases br_inv h with ⟨h724, h⟩ | ⟨h724, h⟩
    · obtain ⟨h725, h⟩ := gd_inv h
      obtain ⟨x726, h727, h⟩ := bind_inv h
      rcases br_inv h with ⟨h728, h⟩ | ⟨h728, h⟩
      · obtain ⟨x729, h730, h⟩ := bind_inv h
        exact Abs.Good.path hm [.reg [], .cond true, .reg [], .reg [(5, { call := some { lend := [], pass := [], res := .t [.p Kd.str x726.1, .p Kd.bool x726.2], outs := [], back := [] } })], .reg [], .cond true, .reg [(4, { call := some { lend := [(28, true)], pass := [(1000001, 1000001), (500001, 1000002)], res := .t [], outs := [(1000001, .box [.p (Kd.sl KI) p4, .row 700001 (List.length x729), .p (Kd.int .i64) p5]), (700001, .row KP 47 x729)], back := [(1000001, 1000001), (700001, 2000232)] } })], .keep [sk 0, sk 9, sk 10, sk 11, ek 1000001, ek 2000232], .ren [(1000001, 1000001), (2000232, 501001)]] (cs := [_, _, _, _, _, _, _]) (by kernel_rfl) ⟨h724, h725.1, h725.2, (exchange_Find_ok k p4 (List.getD p1 (Int.toNat p3) (Kd.dflt (Kd.arr 16 (Kd.int .u8)))) _ h727), h728, (exchange_hearer_say_74_ok k ([((4 : Int), (((Kd.dflt (Kd.arr 16 (Kd.int .u8))), ((0 : Int), ())), ((Kd.dflt (Kd.arr 16 (Kd.int .u8))), ((0 : Int), (([] : List (List Int)), (x726.1, ()))))))] : List Pt) p4 p5 p6 _ h730), (rfl : 1 = List.length ([((4 : Int), (((Kd.dflt (Kd.arr 16 (Kd.int .u8))), ((0 : Int), ())), ((Kd.dflt (Kd.arr 16 (Kd.int .u8))), ((0 : Int), (([] : List (List Int)), (x726.1, ()))))))] : List Pt)), trivial⟩ (exchange_hearer_want_l1_ok (exchange_hearer_want_l0 k) ih k p1 p2 p3 p4 p5 x729 r h)
      · exact Abs.Good.path hm [.reg [], .cond true, .reg [], .reg [(5, { call := some { lend := [], pass := [], res := .t [.p Kd.str x726.1, .p Kd.bool x726.2], outs := [], back := [] } })], .reg [], .cond false, .keep [sk 0, sk 9, sk 10, sk 11, ek 1000001, ek 500001], .ren [(1000001, 1000001), (500001, 501001)]] (cs := [_, _, _, _, _]) (by kernel_rfl) ⟨h724, h725.1, h725.2, (exchange_Find_ok k p4 (List.getD p1 (Int.toNat p3) (Kd.dflt (Kd.arr 16 (Kd.int .u8)))) _ h727), h728, trivial⟩ (exchange_hearer_want_l1_ok (exchange_hearer_want_l0 k) ih k p1 p2 p3 p4 p5 p6 r h)
    · replace h := Option.some.inj h; subst h
      exact Abs.Good.path_ret hm [.reg [], .cond false, .keep [ek 1000001, ek 500001], .ren [(1000001, 1000001), (500001, 700001)]] [] Tryd.func55 (cs := [_]) (by kernel_rfl) ⟨h724, trivial⟩ (by kernel_rfl)
theorem exchange_hearer_want_ok (k : Nat) (a1 : Int) (a2 : List Int) (a3 : Int) (a4 : List Int) (a5 : Int) (a6 : List (List Int)) (a7 : ByteArray) (a8 : List It) (a9 : Int) (r : List Pt) (h : exchange_hearer_want k a1 a2 a3 a4 a5 a6 a7 a8 a9 = some r) : SpecOk P ⟨55, [.ptr 1000001 0, .agg [.p (Kd.int .i64) a1, .p (Kd.arr 16 (Kd.int .u8)) a2, .p (Kd.int .i64) a3, .p (Kd.arr 16 (Kd.int .u8)) a4, .p (Kd.int .i64) a5, .p (Kd.sl (Kd.arr 16 (Kd.int .u8))) a6, .p Kd.str a7]], [(1000001, .box [.p (Kd.sl KI) a8, .nilsl, .p (Kd.int .i64) a9])], .t [], [(1000001, .box [.p (Kd.sl KI) a8, .row 700001 (List.length r), .p (Kd.int .i64) a9]), (700001, .row KP 47 r)]⟩ := by
  refine spec_at Tryd.func55 (by kernel_rfl) (Nat.le_of_ble_eq_true (by kernel_rfl)) ?_
  unfold exchange_hearer_want at h
  exact Abs.Good.path hm [.reg [], .reg [], .co (ek 1000001) 1 (.mk 900001 KP 47), .keep [sk 0, sk 9, sk 10, sk 11, ek 1000001, ek 900001], .ren [(1000001, 1000001), (900001, 500001)]] (cs := []) (by kernel_rfl) trivial (exchange_hearer_want_l0_ok k a6 (List.length a6 : Int) (0 : Int) a8 a9 ([] : List Pt) r h)

def exchange_hearer_text (k : Nat) (a1 : Int) (a2 : List Int) (a3 : Int) (a4 : List Int) (a5 : Int) (a6 : List (List Int)) (a7 : ByteArray) (a8 : List It) (a9 : Int) : Option (List It × Int) :=
  Option.bind (exchange_Add k a8 a7) fun x733 =>
  some (x733.1, x733.2)
theorem exchange_hearer_text_ok (k : Nat) (a1 : Int) (a2 : List Int) (a3 : Int) (a4 : List Int) (a5 : Int) (a6 : List (List Int)) (a7 : ByteArray) (a8 : List It) (a9 : Int) (r : List It × Int) (h : exchange_hearer_text k a1 a2 a3 a4 a5 a6 a7 a8 a9 = some r) : SpecOk P ⟨56, [.ptr 1000001 0, .agg [.p (Kd.int .i64) a1, .p (Kd.arr 16 (Kd.int .u8)) a2, .p (Kd.int .i64) a3, .p (Kd.arr 16 (Kd.int .u8)) a4, .p (Kd.int .i64) a5, .p (Kd.sl (Kd.arr 16 (Kd.int .u8))) a6, .p Kd.str a7]], [(1000001, .box [.p (Kd.sl KI) a8, .nilsl, .p (Kd.int .i64) a9])], .t [], [(1000001, .box [.p (Kd.sl KI) r.1, .nilsl, .p (Kd.int .i64) r.2])]⟩ := by
  refine spec_at Tryd.func56 (by kernel_rfl) (Nat.le_of_ble_eq_true (by kernel_rfl)) ?_
  unfold exchange_hearer_text at h
  obtain ⟨x733, h734, h⟩ := bind_inv h
  replace h := Option.some.inj h; subst h
  exact Abs.Good.path_ret hm [.reg [], .reg [(8, { call := some { lend := [], pass := [], res := .t [.agg [.p (Kd.sl KI) x733.1], .p (Kd.int .i64) x733.2], outs := [], back := [] } })]] [] Tryd.func56 (cs := [_]) (by kernel_rfl) ⟨(exchange_Add_ok k a8 a7 _ h734), trivial⟩ (by kernel_rfl)

def exchange_Hear (k : Nat) (a1 : List It) (a2 : Int) (a3 : List Int) (a4 : Int) (a5 : List Int) (a6 : Int) (a7 : List (List Int)) (a8 : ByteArray) : Option (List It × List Pt × Int) :=
  Option.bind (exchange_Check k a2 a3 a4 a5 a6 a7 a8) fun e =>
  if (e != (0 : Int)) = true then some (a1, ([] : List Pt), e)
  else if (a2 == (1 : Int)) = true then Option.bind (exchange_hearer_sum k a2 a3 a4 a5 a6 a7 a8 a1 (0 : Int)) fun x => some (a1, x, (0 : Int))
  else if (a2 == (2 : Int)) = true then Option.bind (exchange_hearer_names k a2 a3 a4 a5 a6 a7 a8 a1 (0 : Int)) fun x => some (a1, x, (0 : Int))
  else if (a2 == (3 : Int)) = true then Option.bind (exchange_hearer_want k a2 a3 a4 a5 a6 a7 a8 a1 (0 : Int)) fun x => some (a1, x, (0 : Int))
  else if (a2 == (4 : Int)) = true then Option.bind (exchange_hearer_text k a2 a3 a4 a5 a6 a7 a8 a1 (0 : Int)) fun x => some (x.1, ([] : List Pt), x.2)
  else none
theorem exchange_Hear_ok (k : Nat) (a1 : List It) (a2 : Int) (a3 : List Int) (a4 : Int) (a5 : List Int) (a6 : Int) (a7 : List (List Int)) (a8 : ByteArray) (r : List It × List Pt × Int) (h : exchange_Hear k a1 a2 a3 a4 a5 a6 a7 a8 = some r) :
    SpecOk P ⟨33, [.agg [.p (Kd.sl KI) a1], .agg [.p (Kd.int .i64) a2, .p (Kd.arr 16 (Kd.int .u8)) a3, .p (Kd.int .i64) a4, .p (Kd.arr 16 (Kd.int .u8)) a5, .p (Kd.int .i64) a6, .p (Kd.sl (Kd.arr 16 (Kd.int .u8))) a7, .p Kd.str a8]], [], .t [.agg [.p (Kd.sl KI) r.1], .p (Kd.sl KP) r.2.1, .p (Kd.int .i64) r.2.2], []⟩ := by
  refine spec_at Tryd.func33 (by kernel_rfl) (Nat.le_of_ble_eq_true (by kernel_rfl)) ?_
  unfold exchange_Hear at h
  obtain ⟨e, he, h⟩ := bind_inv h
  have hc := exchange_Check_ok k a2 a3 a4 a5 a6 a7 a8 _ he
  rcases br_inv h with ⟨h0, h⟩ | ⟨h0, h⟩
  · replace h := Option.some.inj h; subst h
    exact Abs.Good.path_ret hm [.reg [], .reg [(1, { call := some { lend := [], pass := [], res := .v (.p (Kd.int .i64) e), outs := [], back := [] } })], .reg [], .cond true, .reg [], .co (sk 5) 0 (.nsl KP)] [] Tryd.func33 (cs := [_, _]) (by kernel_rfl) ⟨hc, h0, trivial⟩ (by kernel_rfl)
  refine Abs.Good.path hm [.reg [], .reg [(1, { call := some { lend := [], pass := [], res := .v (.p (Kd.int .i64) e), outs := [], back := [] } })], .reg [], .cond false, .reg [], .keep [sk 3, sk 4, sk 8, ek 3, ek 4, ek 17]] (t' := posH) (st' := [(sk 3, some (.v (.ptr 3 0))), (sk 4, some (.v (.ptr 4 0))), (sk 8, some (.v (.ptr 17 0))), (ek 3, some (.box [.p (Kd.int .i64) a2, .p (Kd.arr 16 (Kd.int .u8)) a3, .p (Kd.int .i64) a4, .p (Kd.arr 16 (Kd.int .u8)) a5, .p (Kd.int .i64) a6, .p (Kd.sl (Kd.arr 16 (Kd.int .u8))) a7, .p Kd.str a8])), (ek 4, some (.box [.nilsl])), (ek 17, some (.box [.p (Kd.sl KI) a1, .nilsl, .p (Kd.int .i64) (0 : Int)]))]) (cs := [_, _]) (by kernel_rfl) ⟨hc, h0, trivial⟩ ?_
  rw [posH_eq]
  rcases br_inv h with ⟨h1, h⟩ | ⟨_, h⟩
  · obtain ⟨x, hx, h⟩ := bind_inv h; replace h := Option.some.inj h; subst h
    have h1 : a2 = (1 : Int) := by simpa using h1
    subst h1
    have hs := exchange_hearer_sum_ok k (1 : Int) a3 a4 a5 a6 a7 a8 a1 (0 : Int) _ hx
    refine Good.hand (st' := [(ek 17, some (.box [.p (Kd.sl KI) a1, .row 2000256 (List.length x), .p (Kd.int .i64) (0 : Int)])), (ek 2000256, some (.row KP 47 x)), (ek 17, none), (sk 32, some (.t []))] ++ (sk 31, some (.v (.agg [.p (Kd.int .i64) (1 : Int), .p (Kd.arr 16 (Kd.int .u8)) a3, .p (Kd.int .i64) a4, .p (Kd.arr 16 (Kd.int .u8)) a5, .p (Kd.int .i64) a6, .p (Kd.sl (Kd.arr 16 (Kd.int .u8))) a7, .p Kd.str a8]))) :: [(sk 3, some (.v (.ptr 3 0))), (sk 4, some (.v (.ptr 4 0))), (sk 8, some (.v (.ptr 17 0))), (ek 3, some (.box [.p (Kd.int .i64) (1 : Int), .p (Kd.arr 16 (Kd.int .u8)) a3, .p (Kd.int .i64) a4, .p (Kd.arr 16 (Kd.int .u8)) a5, .p (Kd.int .i64) a6, .p (Kd.sl (Kd.arr 16 (Kd.int .u8))) a7, .p Kd.str a8])), (ek 4, some (.box [.nilsl])), (ek 17, some (.box [.p (Kd.sl KI) a1, .nilsl, .p (Kd.int .i64) (0 : Int)]))]) (fun c ρ a w hP hn hk sim => hear_region (kind := 1) (f := 53) (j := 0) (M := .agg [.p (Kd.int .i64) (1 : Int), .p (Kd.arr 16 (Kd.int .u8)) a3, .p (Kd.int .i64) a4, .p (Kd.arr 16 (Kd.int .u8)) a5, .p (Kd.int .i64) a6, .p (Kd.sl (Kd.arr 16 (Kd.int .u8))) a7, .p Kd.str a8]) (h := { lend := [], pass := [(17, 1000001)], res := .t [], outs := [(1000001, .box [.p (Kd.sl KI) a1, .row 700001 (List.length x), .p (Kd.int .i64) (0 : Int)]), (700001, .row KP 47 x)], back := [(1000001, 17), (700001, 2000256)] }) (e := ⟨[(ek 17, some (.box [.p (Kd.sl KI) a1, .row 2000256 (List.length x), .p (Kd.int .i64) (0 : Int)])), (ek 2000256, some (.row KP 47 x)), (ek 17, none), (sk 32, some (.t []))], [_], [2000256]⟩) hP (hn.trans (by kernel_rfl)) sim (by kernel_rfl) (by kernel_rfl) (slots_lt (by kernel_rfl)) (by kernel_rfl) (by kernel_rfl) (fun _ => by kernel_rfl) (by kernel_rfl) (by kernel_rfl) ⟨hs, trivial⟩ ?_ ?_ (fun ρ' a' w' hh => ⟨rfl, ρ', hh⟩)) ?_
    · intro q hq; rw [List.mem_singleton] at hq; subst hq; exact (fresh_refs (r := 2000256) (kp := []) (by kernel_rfl)).2.1
    · intro q hq; rw [hk]; simp
    · refine Abs.Good.norm Abs.fuelN ?_; exact Abs.Good.path_ret hm [.reg []] [2000256] Tryd.func33 (cs := [_]) (by kernel_rfl) ⟨(rfl : List.length x = List.length x), trivial⟩ (by kernel_rfl)
  rcases br_inv h with ⟨h1, h⟩ | ⟨_, h⟩
  · obtain ⟨x, hx, h⟩ := bind_inv h; replace h := Option.some.inj h; subst h
    have h1 : a2 = (2 : Int) := by simpa using h1
    subst h1
    have hs := exchange_hearer_names_ok k (2 : Int) a3 a4 a5 a6 a7 a8 a1 (0 : Int) _ hx
    refine Good.hand (st' := [(ek 17, some (.box [.p (Kd.sl KI) a1, .row 2000256 (List.length x), .p (Kd.int .i64) (0 : Int)])), (ek 2000256, some (.row KP 47 x)), (ek 17, none), (sk 32, some (.t []))] ++ (sk 31, some (.v (.agg [.p (Kd.int .i64) (2 : Int), .p (Kd.arr 16 (Kd.int .u8)) a3, .p (Kd.int .i64) a4, .p (Kd.arr 16 (Kd.int .u8)) a5, .p (Kd.int .i64) a6, .p (Kd.sl (Kd.arr 16 (Kd.int .u8))) a7, .p Kd.str a8]))) :: [(sk 3, some (.v (.ptr 3 0))), (sk 4, some (.v (.ptr 4 0))), (sk 8, some (.v (.ptr 17 0))), (ek 3, some (.box [.p (Kd.int .i64) (2 : Int), .p (Kd.arr 16 (Kd.int .u8)) a3, .p (Kd.int .i64) a4, .p (Kd.arr 16 (Kd.int .u8)) a5, .p (Kd.int .i64) a6, .p (Kd.sl (Kd.arr 16 (Kd.int .u8))) a7, .p Kd.str a8])), (ek 4, some (.box [.nilsl])), (ek 17, some (.box [.p (Kd.sl KI) a1, .nilsl, .p (Kd.int .i64) (0 : Int)]))]) (fun c ρ a w hP hn hk sim => hear_region (kind := 2) (f := 54) (j := 1) (M := .agg [.p (Kd.int .i64) (2 : Int), .p (Kd.arr 16 (Kd.int .u8)) a3, .p (Kd.int .i64) a4, .p (Kd.arr 16 (Kd.int .u8)) a5, .p (Kd.int .i64) a6, .p (Kd.sl (Kd.arr 16 (Kd.int .u8))) a7, .p Kd.str a8]) (h := { lend := [], pass := [(17, 1000001)], res := .t [], outs := [(1000001, .box [.p (Kd.sl KI) a1, .row 700001 (List.length x), .p (Kd.int .i64) (0 : Int)]), (700001, .row KP 47 x)], back := [(1000001, 17), (700001, 2000256)] }) (e := ⟨[(ek 17, some (.box [.p (Kd.sl KI) a1, .row 2000256 (List.length x), .p (Kd.int .i64) (0 : Int)])), (ek 2000256, some (.row KP 47 x)), (ek 17, none), (sk 32, some (.t []))], [_], [2000256]⟩) hP (hn.trans (by kernel_rfl)) sim (by kernel_rfl) (by kernel_rfl) (slots_lt (by kernel_rfl)) (by kernel_rfl) (by kernel_rfl) (fun _ => by kernel_rfl) (by kernel_rfl) (by kernel_rfl) ⟨hs, trivial⟩ ?_ ?_ (fun ρ' a' w' hh => ⟨rfl, ρ', hh⟩)) ?_
    · intro q hq; rw [List.mem_singleton] at hq; subst hq; exact (fresh_refs (r := 2000256) (kp := []) (by kernel_rfl)).2.1
    · intro q hq; rw [hk]; simp
    · refine Abs.Good.norm Abs.fuelN ?_; exact Abs.Good.path_ret hm [.reg []] [2000256] Tryd.func33 (cs := [_]) (by kernel_rfl) ⟨(rfl : List.length x = List.length x), trivial⟩ (by kernel_rfl)
  rcases br_inv h with ⟨h1, h⟩ | ⟨_, h⟩
  · obtain ⟨x, hx, h⟩ := bind_inv h; replace h := Option.some.inj h; subst h
    have h1 : a2 = (3 : Int) := by simpa using h1
    subst h1
    have hs := exchange_hearer_want_ok k (3 : Int) a3 a4 a5 a6 a7 a8 a1 (0 : Int) _ hx
    refine Good.hand (st' := [(ek 17, some (.box [.p (Kd.sl KI) a1, .row 2000256 (List.length x), .p (Kd.int .i64) (0 : Int)])), (ek 2000256, some (.row KP 47 x)), (ek 17, none), (sk 32, some (.t []))] ++ (sk 31, some (.v (.agg [.p (Kd.int .i64) (3 : Int), .p (Kd.arr 16 (Kd.int .u8)) a3, .p (Kd.int .i64) a4, .p (Kd.arr 16 (Kd.int .u8)) a5, .p (Kd.int .i64) a6, .p (Kd.sl (Kd.arr 16 (Kd.int .u8))) a7, .p Kd.str a8]))) :: [(sk 3, some (.v (.ptr 3 0))), (sk 4, some (.v (.ptr 4 0))), (sk 8, some (.v (.ptr 17 0))), (ek 3, some (.box [.p (Kd.int .i64) (3 : Int), .p (Kd.arr 16 (Kd.int .u8)) a3, .p (Kd.int .i64) a4, .p (Kd.arr 16 (Kd.int .u8)) a5, .p (Kd.int .i64) a6, .p (Kd.sl (Kd.arr 16 (Kd.int .u8))) a7, .p Kd.str a8])), (ek 4, some (.box [.nilsl])), (ek 17, some (.box [.p (Kd.sl KI) a1, .nilsl, .p (Kd.int .i64) (0 : Int)]))]) (fun c ρ a w hP hn hk sim => hear_region (kind := 3) (f := 55) (j := 2) (M := .agg [.p (Kd.int .i64) (3 : Int), .p (Kd.arr 16 (Kd.int .u8)) a3, .p (Kd.int .i64) a4, .p (Kd.arr 16 (Kd.int .u8)) a5, .p (Kd.int .i64) a6, .p (Kd.sl (Kd.arr 16 (Kd.int .u8))) a7, .p Kd.str a8]) (h := { lend := [], pass := [(17, 1000001)], res := .t [], outs := [(1000001, .box [.p (Kd.sl KI) a1, .row 700001 (List.length x), .p (Kd.int .i64) (0 : Int)]), (700001, .row KP 47 x)], back := [(1000001, 17), (700001, 2000256)] }) (e := ⟨[(ek 17, some (.box [.p (Kd.sl KI) a1, .row 2000256 (List.length x), .p (Kd.int .i64) (0 : Int)])), (ek 2000256, some (.row KP 47 x)), (ek 17, none), (sk 32, some (.t []))], [_], [2000256]⟩) hP (hn.trans (by kernel_rfl)) sim (by kernel_rfl) (by kernel_rfl) (slots_lt (by kernel_rfl)) (by kernel_rfl) (by kernel_rfl) (fun _ => by kernel_rfl) (by kernel_rfl) (by kernel_rfl) ⟨hs, trivial⟩ ?_ ?_ (fun ρ' a' w' hh => ⟨rfl, ρ', hh⟩)) ?_
    · intro q hq; rw [List.mem_singleton] at hq; subst hq; exact (fresh_refs (r := 2000256) (kp := []) (by kernel_rfl)).2.1
    · intro q hq; rw [hk]; simp
    · refine Abs.Good.norm Abs.fuelN ?_; exact Abs.Good.path_ret hm [.reg []] [2000256] Tryd.func33 (cs := [_]) (by kernel_rfl) ⟨(rfl : List.length x = List.length x), trivial⟩ (by kernel_rfl)
  rcases br_inv h with ⟨h1, h⟩ | ⟨_, h⟩
  · obtain ⟨x, hx, h⟩ := bind_inv h; replace h := Option.some.inj h; subst h
    have h1 : a2 = (4 : Int) := by simpa using h1
    subst h1
    have hs := exchange_hearer_text_ok k (4 : Int) a3 a4 a5 a6 a7 a8 a1 (0 : Int) _ hx
    refine Good.hand (st' := [(ek 17, some (.box [.p (Kd.sl KI) x.1, .nilsl, .p (Kd.int .i64) x.2])), (ek 17, none), (sk 32, some (.t []))] ++ (sk 31, some (.v (.agg [.p (Kd.int .i64) (4 : Int), .p (Kd.arr 16 (Kd.int .u8)) a3, .p (Kd.int .i64) a4, .p (Kd.arr 16 (Kd.int .u8)) a5, .p (Kd.int .i64) a6, .p (Kd.sl (Kd.arr 16 (Kd.int .u8))) a7, .p Kd.str a8]))) :: [(sk 3, some (.v (.ptr 3 0))), (sk 4, some (.v (.ptr 4 0))), (sk 8, some (.v (.ptr 17 0))), (ek 3, some (.box [.p (Kd.int .i64) (4 : Int), .p (Kd.arr 16 (Kd.int .u8)) a3, .p (Kd.int .i64) a4, .p (Kd.arr 16 (Kd.int .u8)) a5, .p (Kd.int .i64) a6, .p (Kd.sl (Kd.arr 16 (Kd.int .u8))) a7, .p Kd.str a8])), (ek 4, some (.box [.nilsl])), (ek 17, some (.box [.p (Kd.sl KI) a1, .nilsl, .p (Kd.int .i64) (0 : Int)]))]) (fun c ρ a w hP hn hk sim => hear_region (kind := 4) (f := 56) (j := 3) (M := .agg [.p (Kd.int .i64) (4 : Int), .p (Kd.arr 16 (Kd.int .u8)) a3, .p (Kd.int .i64) a4, .p (Kd.arr 16 (Kd.int .u8)) a5, .p (Kd.int .i64) a6, .p (Kd.sl (Kd.arr 16 (Kd.int .u8))) a7, .p Kd.str a8]) (h := { lend := [], pass := [(17, 1000001)], res := .t [], outs := [(1000001, .box [.p (Kd.sl KI) x.1, .nilsl, .p (Kd.int .i64) x.2])], back := [(1000001, 17)] }) (e := ⟨[(ek 17, some (.box [.p (Kd.sl KI) x.1, .nilsl, .p (Kd.int .i64) x.2])), (ek 17, none), (sk 32, some (.t []))], [_], []⟩) hP (hn.trans (by kernel_rfl)) sim (by kernel_rfl) (by kernel_rfl) (slots_lt (by kernel_rfl)) (by kernel_rfl) (by kernel_rfl) (fun _ => by kernel_rfl) (by kernel_rfl) (by kernel_rfl) ⟨hs, trivial⟩ ?_ ?_ (fun ρ' a' w' hh => ⟨rfl, ρ', hh⟩)) ?_
    · intro q hq; cases hq
    · intro q hq; cases hq
    · refine Abs.Good.norm Abs.fuelN ?_; exact Abs.Good.path_ret hm [.reg [], .co (sk 5) 0 (.nsl KP)] [] Tryd.func33 (cs := []) (by kernel_rfl) trivial (by kernel_rfl)
  cases h
end Go.Proofs.G44
