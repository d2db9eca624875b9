/- The walks: each function of the program that the law reaches computes the Lean function that is printed beside it. No condition but that the Lean function has a result. -/
import Derived.Test.YtbfoafhopmgffaaX4
import Derived.Test.YtbfoafhopmgffaaProg
set_option linter.unusedVariables false
namespace Go.Proofs.G2
open Go.Abs
set_option maxRecDepth 10000
theorem hm : Try.prog.follows .mixedOrders = true := by kernel_rfl
noncomputable abbrev P := Try.prog
open Go.Proofs.I1 (insert41_ok KF Fr framesOut frames_spec)
theorem eq49 : Go.Abs.StructEq P 49 (Kd.pair Kd.bool (Kd.pair (Kd.int .i64) (Kd.pair Kd.str Kd.unit))) := structEq_of (by kernel_rfl)
def link_isBody (k : Nat) (a1 : ByteArray) : Option (Bool) :=
  some ((decide ((ByteArray.size a1 : Int) ≤ (65536 : Int))))
theorem link_isBody_ok (k : Nat) (a1 : ByteArray) (r : Bool) (h : link_isBody k a1 = some r) : SpecOk P ⟨31, [.p Kd.str a1], [], .v (.p Kd.bool r), []⟩ := by
  refine spec_at Try.func31 (by kernel_rfl) (Nat.le_of_ble_eq_true (by kernel_rfl)) ?_
  unfold link_isBody at h
  replace h := Option.some.inj h; subst h
  exact Abs.Good.path_ret hm [.reg [], .reg []] [] Try.func31 (cs := []) (by kernel_rfl) trivial (by kernel_rfl)

def link_within (k : Nat) (a1 : Int) (a2 : Int) : Option (Bool) :=
  if (decide (a1 ≥ (0 : Int))) = true then
    some ((decide (a1 ≤ a2)))
  else
    some (false)
theorem link_within_ok (k : Nat) (a1 : Int) (a2 : Int) (r : Bool) (h : link_within k a1 a2 = some r) : SpecOk P ⟨35, [.p (Kd.int .i64) a1, .p (Kd.int .i64) a2], [], .v (.p Kd.bool r), []⟩ := by
  refine spec_at Try.func35 (by kernel_rfl) (Nat.le_of_ble_eq_true (by kernel_rfl)) ?_
  unfold link_within at h
  rcases br_inv h with ⟨h12, h⟩ | ⟨h12, h⟩
  · replace h := Option.some.inj h; subst h
    exact Abs.Good.path_ret hm [.reg [], .reg [(3, { dec := some true }), (4, { dec := some true }), (5, { dec := some true }), (6, { pick := some true })]] [] Try.func35 (cs := [_, _, _, _]) (by kernel_rfl) ⟨h12, h12, h12, h12, trivial⟩ (by kernel_rfl)
  · replace h := Option.some.inj h; subst h
    exact Abs.Good.path_ret hm [.reg [], .reg [(3, { dec := some false }), (4, { dec := some false }), (5, { dec := some false }), (6, { pick := some false })]] [] Try.func35 (cs := [_, _, _, _]) (by kernel_rfl) ⟨h12, h12, h12, h12, trivial⟩ (by kernel_rfl)

def link_ValidIn_l1 (s0 : Int → (List (Bool × (Int × (ByteArray × Unit)))) → Int → Int → Int → (List (Bool × (Int × (ByteArray × Unit)))) → Option (Bool)) (k : Nat) (p1 : List (Bool × (Int × (ByteArray × Unit)))) (p2 : Int) (p3 : Int) (p4 : Bool) (p5 : Int) (p6 : List (Bool × (Int × (ByteArray × Unit)))) (p7 : Bool) (p8 : Int) (p9 : ByteArray) : Option (Bool) :=
  if p4 = true then
    some (false)
  else
    s0 p8 p1 p2 (IntKind.i64.wrap (p3 + (1 : Int))) p5 p6
def link_ValidIn_l0 : Nat → Int → (List (Bool × (Int × (ByteArray × Unit)))) → Int → Int → Int → (List (Bool × (Int × (ByteArray × Unit)))) → Option (Bool)
  | 0, _, _, _, _, _, _ => none
  | k + 1, p1, p2, p3, p4, p5, p6 =>
    if (decide (p4 < p3)) = true then
      if 0 ≤ p4 ∧ p4 < (List.length p2 : Int) then
        if (List.getD p2 (Int.toNat p4) (Kd.dflt (Kd.pair Kd.bool (Kd.pair (Kd.int .i64) (Kd.pair Kd.str Kd.unit))))).1 = true then
          link_ValidIn_l1 (link_ValidIn_l0 k) k p2 p3 p4 true p5 p6 ((List.getD p2 (Int.toNat p4) (Kd.dflt (Kd.pair Kd.bool (Kd.pair (Kd.int .i64) (Kd.pair Kd.str Kd.unit))))).1) (((List.getD p2 (Int.toNat p4) (Kd.dflt (Kd.pair Kd.bool (Kd.pair (Kd.int .i64) (Kd.pair Kd.str Kd.unit))))).2).1) ((((List.getD p2 (Int.toNat p4) (Kd.dflt (Kd.pair Kd.bool (Kd.pair (Kd.int .i64) (Kd.pair Kd.str Kd.unit))))).2).2).1)
        else
          if (decide (((List.getD p2 (Int.toNat p4) (Kd.dflt (Kd.pair Kd.bool (Kd.pair (Kd.int .i64) (Kd.pair Kd.str Kd.unit))))).2).1 ≤ p1)) = true then
            link_ValidIn_l1 (link_ValidIn_l0 k) k p2 p3 p4 true p5 p6 ((List.getD p2 (Int.toNat p4) (Kd.dflt (Kd.pair Kd.bool (Kd.pair (Kd.int .i64) (Kd.pair Kd.str Kd.unit))))).1) (((List.getD p2 (Int.toNat p4) (Kd.dflt (Kd.pair Kd.bool (Kd.pair (Kd.int .i64) (Kd.pair Kd.str Kd.unit))))).2).1) ((((List.getD p2 (Int.toNat p4) (Kd.dflt (Kd.pair Kd.bool (Kd.pair (Kd.int .i64) (Kd.pair Kd.str Kd.unit))))).2).2).1)
          else
            if (decide (((List.getD p2 (Int.toNat p4) (Kd.dflt (Kd.pair Kd.bool (Kd.pair (Kd.int .i64) (Kd.pair Kd.str Kd.unit))))).2).1 > (2199023255552 : Int))) = true then
              link_ValidIn_l1 (link_ValidIn_l0 k) k p2 p3 p4 true p5 p6 ((List.getD p2 (Int.toNat p4) (Kd.dflt (Kd.pair Kd.bool (Kd.pair (Kd.int .i64) (Kd.pair Kd.str Kd.unit))))).1) (((List.getD p2 (Int.toNat p4) (Kd.dflt (Kd.pair Kd.bool (Kd.pair (Kd.int .i64) (Kd.pair Kd.str Kd.unit))))).2).1) ((((List.getD p2 (Int.toNat p4) (Kd.dflt (Kd.pair Kd.bool (Kd.pair (Kd.int .i64) (Kd.pair Kd.str Kd.unit))))).2).2).1)
            else
              Option.bind (link_isBody k ((((List.getD p2 (Int.toNat p4) (Kd.dflt (Kd.pair Kd.bool (Kd.pair (Kd.int .i64) (Kd.pair Kd.str Kd.unit))))).2).2).1)) fun x21 =>
              link_ValidIn_l1 (link_ValidIn_l0 k) k p2 p3 p4 (!x21) p5 p6 ((List.getD p2 (Int.toNat p4) (Kd.dflt (Kd.pair Kd.bool (Kd.pair (Kd.int .i64) (Kd.pair Kd.str Kd.unit))))).1) (((List.getD p2 (Int.toNat p4) (Kd.dflt (Kd.pair Kd.bool (Kd.pair (Kd.int .i64) (Kd.pair Kd.str Kd.unit))))).2).1) ((((List.getD p2 (Int.toNat p4) (Kd.dflt (Kd.pair Kd.bool (Kd.pair (Kd.int .i64) (Kd.pair Kd.str Kd.unit))))).2).2).1)
      else none
    else
      Option.bind (link_within k p5 (2199023255552 : Int)) fun x23 =>
      if x23 = true then
        some ((decide ((List.length p6 : Int) ≤ (64 : Int))))
      else
        some (false)
def link_ValidIn (k : Nat) (a1 : Int) (a2 : List (Bool × (Int × (ByteArray × Unit)))) : Option (Bool) :=
  link_ValidIn_l0 k a1 a2 (List.length a2 : Int) (0 : Int) a1 a2
theorem link_ValidIn_l1_ok (s0 : Int → (List (Bool × (Int × (ByteArray × Unit)))) → Int → Int → Int → (List (Bool × (Int × (ByteArray × Unit)))) → Option (Bool)) (hs0 : ∀ (p1 : Int) (p2 : List (Bool × (Int × (ByteArray × Unit)))) (p3 : Int) (p4 : Int) (p5 : Int) (p6 : List (Bool × (Int × (ByteArray × Unit)))) (r : Bool), s0 p1 p2 p3 p4 p5 p6 = some r → Abs.Good P 22 Try.f22.ntmps [] [] (.v (.p Kd.bool r)) (pos Try.f22 [.r, .r, .r]) [(sk 1, some (.v (.ptr 500001 0))), (sk 3, some (.v (.p (Kd.int .i64) p1))), (sk 9, some (.v (.p (Kd.sl (Kd.pair Kd.bool (Kd.pair (Kd.int .i64) (Kd.pair Kd.str Kd.unit)))) p2))), (sk 10, some (.v (.p (Kd.int .i64) p3))), (sk 11, some (.v (.p (Kd.int .i64) p4))), (ek 500001, some (.box [.p (Kd.int .i64) p5, .p (Kd.sl (Kd.pair Kd.bool (Kd.pair (Kd.int .i64) (Kd.pair Kd.str Kd.unit)))) p6]))]) (k : Nat) (p1 : List (Bool × (Int × (ByteArray × Unit)))) (p2 : Int) (p3 : Int) (p4 : Bool) (p5 : Int) (p6 : List (Bool × (Int × (ByteArray × Unit)))) (p7 : Bool) (p8 : Int) (p9 : ByteArray) (r : Bool) (h : link_ValidIn_l1 s0 k p1 p2 p3 p4 p5 p6 p7 p8 p9 = some r) :
    Abs.Good P 22 Try.f22.ntmps [] [] (.v (.p Kd.bool r)) (pos Try.f22 [.r, .r, .r, .r, .c true, .r, .r]) [(sk 1, some (.v (.ptr 501001 0))), (sk 5, some (.v (.ptr 501002 0))), (sk 9, some (.v (.p (Kd.sl (Kd.pair Kd.bool (Kd.pair (Kd.int .i64) (Kd.pair Kd.str Kd.unit)))) p1))), (sk 10, some (.v (.p (Kd.int .i64) p2))), (sk 11, some (.v (.p (Kd.int .i64) p3))), (sk 33, some (.v (.p Kd.bool p4))), (ek 501001, some (.box [.p (Kd.int .i64) p5, .p (Kd.sl (Kd.pair Kd.bool (Kd.pair (Kd.int .i64) (Kd.pair Kd.str Kd.unit)))) p6])), (ek 501002, some (.box [.p Kd.bool p7, .p (Kd.int .i64) p8, .p Kd.str p9]))] := by
  unfold link_ValidIn_l1 at h
  rcases br_inv h with ⟨h26, h⟩ | ⟨h26, h⟩
  · replace h := Option.some.inj h; subst h
    exact Abs.Good.path_ret hm [.cond true, .reg []] [] Try.func22 (cs := [_]) (by kernel_rfl) ⟨h26, trivial⟩ (by kernel_rfl)
  · exact Abs.Good.path hm [.cond false, .reg [], .reg [], .keep [sk 1, sk 3, sk 9, sk 10, sk 11, ek 501001], .ren [(501001, 500001)]] (cs := [_]) (by kernel_rfl) ⟨h26, trivial⟩ (hs0 p8 p1 p2 (IntKind.i64.wrap (p3 + (1 : Int))) p5 p6 r h)
theorem link_ValidIn_l0_ok (k : Nat) : ∀ (p1 : Int) (p2 : List (Bool × (Int × (ByteArray × Unit)))) (p3 : Int) (p4 : Int) (p5 : Int) (p6 : List (Bool × (Int × (ByteArray × Unit)))) (r : Bool), link_ValidIn_l0 k p1 p2 p3 p4 p5 p6 = some r →
    Abs.Good P 22 Try.f22.ntmps [] [] (.v (.p Kd.bool r)) (pos Try.f22 [.r, .r, .r]) [(sk 1, some (.v (.ptr 500001 0))), (sk 3, some (.v (.p (Kd.int .i64) p1))), (sk 9, some (.v (.p (Kd.sl (Kd.pair Kd.bool (Kd.pair (Kd.int .i64) (Kd.pair Kd.str Kd.unit)))) p2))), (sk 10, some (.v (.p (Kd.int .i64) p3))), (sk 11, some (.v (.p (Kd.int .i64) p4))), (ek 500001, some (.box [.p (Kd.int .i64) p5, .p (Kd.sl (Kd.pair Kd.bool (Kd.pair (Kd.int .i64) (Kd.pair Kd.str Kd.unit)))) p6]))] := by
  induction k with
  | zero => intro p1 p2 p3 p4 p5 p6 r h; cases h
  | succ k ih =>
    intro p1 p2 p3 p4 p5 p6 r h
    unfold link_ValidIn_l0 at h
    rcases br_inv h with ⟨h16, h⟩ | ⟨h16, h⟩
    · obtain ⟨h17, h⟩ := gd_inv h
      rcases br_inv h with ⟨h18, h⟩ | ⟨h18, h⟩
      · exact Abs.Good.path hm [.reg [], .cond true, .reg [], .reg [(3, { dec := some true }), (4, { dec := some true }), (5, { dec := some true }), (6, { dec := some true }), (7, { pick := some true }), (9, { dec := some true }), (10, { dec := some true }), (11, { dec := some true }), (12, { pick := some true }), (14, { dec := some true }), (15, { dec := some true }), (16, { dec := some true }), (17, { dec := some true }), (18, { pick := some true })], .keep [sk 1, sk 5, sk 9, sk 10, sk 11, sk 33, ek 500001, ek 5], .ren [(500001, 501001), (5, 501002)]] (cs := [_, _, _, _, _, _, _, _, _, _, _, _, _, _, _, _, _]) (by kernel_rfl) ⟨h16, h17.1, h17.2, h18, h18, h18, h18, h18, (rfl : true = true), (rfl : true = true), (rfl : true = true), (rfl : true = true), (rfl : true = true), (rfl : true = true), (rfl : true = true), (rfl : true = true), (rfl : true = true), trivial⟩ (link_ValidIn_l1_ok (link_ValidIn_l0 k) ih k p2 p3 p4 true p5 p6 ((List.getD p2 (Int.toNat p4) (Kd.dflt (Kd.pair Kd.bool (Kd.pair (Kd.int .i64) (Kd.pair Kd.str Kd.unit))))).1) (((List.getD p2 (Int.toNat p4) (Kd.dflt (Kd.pair Kd.bool (Kd.pair (Kd.int .i64) (Kd.pair Kd.str Kd.unit))))).2).1) ((((List.getD p2 (Int.toNat p4) (Kd.dflt (Kd.pair Kd.bool (Kd.pair (Kd.int .i64) (Kd.pair Kd.str Kd.unit))))).2).2).1) r h)
      · rcases br_inv h with ⟨h19, h⟩ | ⟨h19, h⟩
        · exact Abs.Good.path hm [.reg [], .cond true, .reg [], .reg [(3, { dec := some false }), (4, { dec := some false }), (5, { dec := some false }), (6, { dec := some false }), (7, { pick := some false }), (9, { dec := some true }), (10, { dec := some true }), (11, { dec := some true }), (12, { pick := some true }), (14, { dec := some true }), (15, { dec := some true }), (16, { dec := some true }), (17, { dec := some true }), (18, { pick := some true })], .keep [sk 1, sk 5, sk 9, sk 10, sk 11, sk 33, ek 500001, ek 5], .ren [(500001, 501001), (5, 501002)]] (cs := [_, _, _, _, _, _, _, _, _, _, _, _, _, _, _, _, _]) (by kernel_rfl) ⟨h16, h17.1, h17.2, h18, h18, h18, h18, h18, h19, h19, h19, h19, (rfl : true = true), (rfl : true = true), (rfl : true = true), (rfl : true = true), (rfl : true = true), trivial⟩ (link_ValidIn_l1_ok (link_ValidIn_l0 k) ih k p2 p3 p4 true p5 p6 ((List.getD p2 (Int.toNat p4) (Kd.dflt (Kd.pair Kd.bool (Kd.pair (Kd.int .i64) (Kd.pair Kd.str Kd.unit))))).1) (((List.getD p2 (Int.toNat p4) (Kd.dflt (Kd.pair Kd.bool (Kd.pair (Kd.int .i64) (Kd.pair Kd.str Kd.unit))))).2).1) ((((List.getD p2 (Int.toNat p4) (Kd.dflt (Kd.pair Kd.bool (Kd.pair (Kd.int .i64) (Kd.pair Kd.str Kd.unit))))).2).2).1) r h)
        · rcases br_inv h with ⟨h20, h⟩ | ⟨h20, h⟩
          · exact Abs.Good.path hm [.reg [], .cond true, .reg [], .reg [(3, { dec := some false }), (4, { dec := some false }), (5, { dec := some false }), (6, { dec := some false }), (7, { pick := some false }), (9, { dec := some false }), (10, { dec := some false }), (11, { dec := some false }), (12, { pick := some false }), (14, { dec := some true }), (15, { dec := some true }), (16, { dec := some true }), (17, { dec := some true }), (18, { pick := some true })], .keep [sk 1, sk 5, sk 9, sk 10, sk 11, sk 33, ek 500001, ek 5], .ren [(500001, 501001), (5, 501002)]] (cs := [_, _, _, _, _, _, _, _, _, _, _, _, _, _, _, _, _]) (by kernel_rfl) ⟨h16, h17.1, h17.2, h18, h18, h18, h18, h18, h19, h19, h19, h19, h20, h20, h20, h20, h20, trivial⟩ (link_ValidIn_l1_ok (link_ValidIn_l0 k) ih k p2 p3 p4 true p5 p6 ((List.getD p2 (Int.toNat p4) (Kd.dflt (Kd.pair Kd.bool (Kd.pair (Kd.int .i64) (Kd.pair Kd.str Kd.unit))))).1) (((List.getD p2 (Int.toNat p4) (Kd.dflt (Kd.pair Kd.bool (Kd.pair (Kd.int .i64) (Kd.pair Kd.str Kd.unit))))).2).1) ((((List.getD p2 (Int.toNat p4) (Kd.dflt (Kd.pair Kd.bool (Kd.pair (Kd.int .i64) (Kd.pair Kd.str Kd.unit))))).2).2).1) r h)
          · obtain ⟨x21, h22, h⟩ := bind_inv h
            exact Abs.Good.path hm [.reg [], .cond true, .reg [], .reg [(3, { dec := some false }), (4, { dec := some false }), (5, { dec := some false }), (6, { dec := some false }), (7, { pick := some false }), (9, { dec := some false }), (10, { dec := some false }), (11, { dec := some false }), (12, { pick := some false }), (14, { dec := some false }), (15, { dec := some false }), (16, { dec := some false, call := some { lend := [], pass := [], res := .v (.p Kd.bool x21), outs := [], back := [] } }), (17, { dec := some false }), (18, { pick := some false })], .keep [sk 1, sk 5, sk 9, sk 10, sk 11, sk 33, ek 500001, ek 5], .ren [(500001, 501001), (5, 501002)]] (cs := [_, _, _, _, _, _, _, _, _, _, _, _, _, _, _, _, _, _]) (by kernel_rfl) ⟨h16, h17.1, h17.2, h18, h18, h18, h18, h18, h19, h19, h19, h19, h20, h20, h20, (link_isBody_ok k ((((List.getD p2 (Int.toNat p4) (Kd.dflt (Kd.pair Kd.bool (Kd.pair (Kd.int .i64) (Kd.pair Kd.str Kd.unit))))).2).2).1) _ h22), h20, h20, trivial⟩ (link_ValidIn_l1_ok (link_ValidIn_l0 k) ih k p2 p3 p4 (!x21) p5 p6 ((List.getD p2 (Int.toNat p4) (Kd.dflt (Kd.pair Kd.bool (Kd.pair (Kd.int .i64) (Kd.pair Kd.str Kd.unit))))).1) (((List.getD p2 (Int.toNat p4) (Kd.dflt (Kd.pair Kd.bool (Kd.pair (Kd.int .i64) (Kd.pair Kd.str Kd.unit))))).2).1) ((((List.getD p2 (Int.toNat p4) (Kd.dflt (Kd.pair Kd.bool (Kd.pair (Kd.int .i64) (Kd.pair Kd.str Kd.unit))))).2).2).1) r h)
    · obtain ⟨x23, h24, h⟩ := bind_inv h
      rcases br_inv h with ⟨h25, h⟩ | ⟨h25, h⟩
      · replace h := Option.some.inj h; subst h
        exact Abs.Good.path_ret hm [.reg [], .cond false, .reg [(2, { call := some { lend := [], pass := [], res := .v (.p Kd.bool x23), outs := [], back := [] } }), (4, { dec := some true }), (5, { dec := some true }), (6, { dec := some true }), (7, { dec := some true }), (8, { pick := some true })]] [] Try.func22 (cs := [_, _, _, _, _, _, _]) (by kernel_rfl) ⟨h16, (link_within_ok k p5 (2199023255552 : Int) _ h24), h25, h25, h25, h25, h25, trivial⟩ (by kernel_rfl)
      · replace h := Option.some.inj h; subst h
        exact Abs.Good.path_ret hm [.reg [], .cond false, .reg [(2, { call := some { lend := [], pass := [], res := .v (.p Kd.bool x23), outs := [], back := [] } }), (4, { dec := some false }), (5, { dec := some false }), (6, { dec := some false }), (7, { dec := some false }), (8, { pick := some false })]] [] Try.func22 (cs := [_, _, _, _, _, _, _]) (by kernel_rfl) ⟨h16, (link_within_ok k p5 (2199023255552 : Int) _ h24), h25, h25, h25, h25, h25, trivial⟩ (by kernel_rfl)
theorem link_ValidIn_ok (k : Nat) (a1 : Int) (a2 : List (Bool × (Int × (ByteArray × Unit)))) (r : Bool) (h : link_ValidIn k a1 a2 = some r) : SpecOk P ⟨22, [.agg [.p (Kd.int .i64) a1, .p (Kd.sl (Kd.pair Kd.bool (Kd.pair (Kd.int .i64) (Kd.pair Kd.str Kd.unit)))) a2]], [], .v (.p Kd.bool r), []⟩ := by
  refine spec_at Try.func22 (by kernel_rfl) (Nat.le_of_ble_eq_true (by kernel_rfl)) ?_
  unfold link_ValidIn at h
  exact Abs.Good.path hm [.reg [], .reg [], .reg [], .keep [sk 1, sk 3, sk 9, sk 10, sk 11, ek 1], .ren [(1, 500001)]] (cs := []) (by kernel_rfl) trivial (link_ValidIn_l0_ok k a1 a2 (List.length a2 : Int) (0 : Int) a1 a2 r h)

def link_Receive_1 (k : Nat) (a1 : Bool) (a2 : Int) (a3 : ByteArray) (a4 : Int) : Option (Int) :=
  some ((IntKind.i64.wrap (a2 - a4)))
theorem link_Receive_1_ok (k : Nat) (a1 : Bool) (a2 : Int) (a3 : ByteArray) (a4 : Int) (r : Int) (h : link_Receive_1 k a1 a2 a3 a4 = some r) : SpecOk P ⟨40, [.agg [.p Kd.bool a1, .p (Kd.int .i64) a2, .p Kd.str a3], .p (Kd.int .i64) a4], [], .v (.p (Kd.int .i64) r), []⟩ := by
  refine spec_at Try.func40 (by kernel_rfl) (Nat.le_of_ble_eq_true (by kernel_rfl)) ?_
  unfold link_Receive_1 at h
  replace h := Option.some.inj h; subst h
  exact Abs.Good.path_ret hm [.reg [], .reg []] [] Try.func40 (cs := []) (by kernel_rfl) trivial (by kernel_rfl)

def slices_BinarySearchFunc_l0 : Nat → (List (Bool × (Int × (ByteArray × Unit)))) → Int → Int → Int → Int → Option (Int × Bool)
  | 0, _, _, _, _, _ => none
  | k + 1, p1, p2, p3, p4, p5 =>
    if (decide (p4 < p5)) = true then
      if 0 ≤ (IntKind.i64.wrap (Int.fdiv (IntKind.u64.wrap (IntKind.i64.wrap (p4 + p5))) (2 ^ (min (Int.toNat (1 : Int)) (IntKind.bits .u64))))) ∧ (IntKind.i64.wrap (Int.fdiv (IntKind.u64.wrap (IntKind.i64.wrap (p4 + p5))) (2 ^ (min (Int.toNat (1 : Int)) (IntKind.bits .u64))))) < (List.length p1 : Int) then
        Option.bind (link_Receive_1 k ((List.getD p1 (Int.toNat (IntKind.i64.wrap (Int.fdiv (IntKind.u64.wrap (IntKind.i64.wrap (p4 + p5))) (2 ^ (min (Int.toNat (1 : Int)) (IntKind.bits .u64)))))) (Kd.dflt (Kd.pair Kd.bool (Kd.pair (Kd.int .i64) (Kd.pair Kd.str Kd.unit))))).1) (((List.getD p1 (Int.toNat (IntKind.i64.wrap (Int.fdiv (IntKind.u64.wrap (IntKind.i64.wrap (p4 + p5))) (2 ^ (min (Int.toNat (1 : Int)) (IntKind.bits .u64)))))) (Kd.dflt (Kd.pair Kd.bool (Kd.pair (Kd.int .i64) (Kd.pair Kd.str Kd.unit))))).2).1) ((((List.getD p1 (Int.toNat (IntKind.i64.wrap (Int.fdiv (IntKind.u64.wrap (IntKind.i64.wrap (p4 + p5))) (2 ^ (min (Int.toNat (1 : Int)) (IntKind.bits .u64)))))) (Kd.dflt (Kd.pair Kd.bool (Kd.pair (Kd.int .i64) (Kd.pair Kd.str Kd.unit))))).2).2).1) p2) fun x59 =>
        if (decide (x59 < (0 : Int))) = true then
          slices_BinarySearchFunc_l0 k p1 p2 p3 (IntKind.i64.wrap ((IntKind.i64.wrap (Int.fdiv (IntKind.u64.wrap (IntKind.i64.wrap (p4 + p5))) (2 ^ (min (Int.toNat (1 : Int)) (IntKind.bits .u64))))) + (1 : Int))) p5
        else
          slices_BinarySearchFunc_l0 k p1 p2 p3 p4 (IntKind.i64.wrap (Int.fdiv (IntKind.u64.wrap (IntKind.i64.wrap (p4 + p5))) (2 ^ (min (Int.toNat (1 : Int)) (IntKind.bits .u64)))))
      else none
    else
      if (decide (p4 < p3)) = true then
        if 0 ≤ p4 ∧ p4 < (List.length p1 : Int) then
          Option.bind (link_Receive_1 k ((List.getD p1 (Int.toNat p4) (Kd.dflt (Kd.pair Kd.bool (Kd.pair (Kd.int .i64) (Kd.pair Kd.str Kd.unit))))).1) (((List.getD p1 (Int.toNat p4) (Kd.dflt (Kd.pair Kd.bool (Kd.pair (Kd.int .i64) (Kd.pair Kd.str Kd.unit))))).2).1) ((((List.getD p1 (Int.toNat p4) (Kd.dflt (Kd.pair Kd.bool (Kd.pair (Kd.int .i64) (Kd.pair Kd.str Kd.unit))))).2).2).1) p2) fun x64 =>
          some (p4, (x64 == (0 : Int)))
        else none
      else
        some (p4, false)
def slices_BinarySearchFunc (k : Nat) (a1 : List (Bool × (Int × (ByteArray × Unit)))) (a2 : Int) : Option (Int × Bool) :=
  slices_BinarySearchFunc_l0 k a1 a2 (List.length a1 : Int) (0 : Int) (List.length a1 : Int)
theorem slices_BinarySearchFunc_l0_ok (k : Nat) : ∀ (p1 : List (Bool × (Int × (ByteArray × Unit)))) (p2 : Int) (p3 : Int) (p4 : Int) (p5 : Int) (r : Int × Bool), slices_BinarySearchFunc_l0 k p1 p2 p3 p4 p5 = some r →
    Abs.Good P 39 Try.f39.ntmps [] [] (.t [.p (Kd.int .i64) r.1, .p Kd.bool r.2]) (pos Try.f39 [.r, .r, .r]) [(sk 0, some (.v (.p (Kd.sl (Kd.pair Kd.bool (Kd.pair (Kd.int .i64) (Kd.pair Kd.str Kd.unit)))) p1))), (sk 1, some (.v (.p (Kd.int .i64) p2))), (sk 2, some (.v (.fn 40 []))), (sk 8, some (.v (.p (Kd.int .i64) p3))), (sk 9, some (.v (.p (Kd.int .i64) p4))), (sk 10, some (.v (.p (Kd.int .i64) p5)))] := by
  induction k with
  | zero => intro p1 p2 p3 p4 p5 r h; cases h
  | succ k ih =>
    intro p1 p2 p3 p4 p5 r h
    unfold slices_BinarySearchFunc_l0 at h
    rcases br_inv h with ⟨h57, h⟩ | ⟨h57, h⟩
    · obtain ⟨h58, h⟩ := gd_inv h
      obtain ⟨x59, h60, h⟩ := bind_inv h
      rcases br_inv h with ⟨h61, h⟩ | ⟨h61, h⟩
      · exact Abs.Good.path hm [.reg [], .cond true, .reg [], .reg [(6, { call := some { lend := [], pass := [], res := .v (.p (Kd.int .i64) x59), outs := [], back := [] } })], .cond true, .reg [], .keep [sk 0, sk 1, sk 2, sk 8, sk 9, sk 10]] (cs := [_, _, _, _, _, _]) (by kernel_rfl) ⟨h57, (by decide : 0 ≤ (1 : Int)), h58.1, h58.2, (link_Receive_1_ok k ((List.getD p1 (Int.toNat (IntKind.i64.wrap (Int.fdiv (IntKind.u64.wrap (IntKind.i64.wrap (p4 + p5))) (2 ^ (min (Int.toNat (1 : Int)) (IntKind.bits .u64)))))) (Kd.dflt (Kd.pair Kd.bool (Kd.pair (Kd.int .i64) (Kd.pair Kd.str Kd.unit))))).1) (((List.getD p1 (Int.toNat (IntKind.i64.wrap (Int.fdiv (IntKind.u64.wrap (IntKind.i64.wrap (p4 + p5))) (2 ^ (min (Int.toNat (1 : Int)) (IntKind.bits .u64)))))) (Kd.dflt (Kd.pair Kd.bool (Kd.pair (Kd.int .i64) (Kd.pair Kd.str Kd.unit))))).2).1) ((((List.getD p1 (Int.toNat (IntKind.i64.wrap (Int.fdiv (IntKind.u64.wrap (IntKind.i64.wrap (p4 + p5))) (2 ^ (min (Int.toNat (1 : Int)) (IntKind.bits .u64)))))) (Kd.dflt (Kd.pair Kd.bool (Kd.pair (Kd.int .i64) (Kd.pair Kd.str Kd.unit))))).2).2).1) p2 _ h60), h61, trivial⟩ (ih p1 p2 p3 (IntKind.i64.wrap ((IntKind.i64.wrap (Int.fdiv (IntKind.u64.wrap (IntKind.i64.wrap (p4 + p5))) (2 ^ (min (Int.toNat (1 : Int)) (IntKind.bits .u64))))) + (1 : Int))) p5 r h)
      · exact Abs.Good.path hm [.reg [], .cond true, .reg [], .reg [(6, { call := some { lend := [], pass := [], res := .v (.p (Kd.int .i64) x59), outs := [], back := [] } })], .cond false, .reg [], .keep [sk 0, sk 1, sk 2, sk 8, sk 9, sk 10]] (cs := [_, _, _, _, _, _]) (by kernel_rfl) ⟨h57, (by decide : 0 ≤ (1 : Int)), h58.1, h58.2, (link_Receive_1_ok k ((List.getD p1 (Int.toNat (IntKind.i64.wrap (Int.fdiv (IntKind.u64.wrap (IntKind.i64.wrap (p4 + p5))) (2 ^ (min (Int.toNat (1 : Int)) (IntKind.bits .u64)))))) (Kd.dflt (Kd.pair Kd.bool (Kd.pair (Kd.int .i64) (Kd.pair Kd.str Kd.unit))))).1) (((List.getD p1 (Int.toNat (IntKind.i64.wrap (Int.fdiv (IntKind.u64.wrap (IntKind.i64.wrap (p4 + p5))) (2 ^ (min (Int.toNat (1 : Int)) (IntKind.bits .u64)))))) (Kd.dflt (Kd.pair Kd.bool (Kd.pair (Kd.int .i64) (Kd.pair Kd.str Kd.unit))))).2).1) ((((List.getD p1 (Int.toNat (IntKind.i64.wrap (Int.fdiv (IntKind.u64.wrap (IntKind.i64.wrap (p4 + p5))) (2 ^ (min (Int.toNat (1 : Int)) (IntKind.bits .u64)))))) (Kd.dflt (Kd.pair Kd.bool (Kd.pair (Kd.int .i64) (Kd.pair Kd.str Kd.unit))))).2).2).1) p2 _ h60), h61, trivial⟩ (ih p1 p2 p3 p4 (IntKind.i64.wrap (Int.fdiv (IntKind.u64.wrap (IntKind.i64.wrap (p4 + p5))) (2 ^ (min (Int.toNat (1 : Int)) (IntKind.bits .u64))))) r h)
    · rcases br_inv h with ⟨h62, h⟩ | ⟨h62, h⟩
      · obtain ⟨h63, h⟩ := gd_inv h
        obtain ⟨x64, h65, h⟩ := bind_inv h
        replace h := Option.some.inj h; subst h
        exact Abs.Good.path_ret hm [.reg [], .cond false, .reg [(5, { dec := some true }), (6, { dec := some true }), (7, { dec := some true }), (8, { dec := some true }), (9, { dec := some true }), (10, { dec := some true }), (11, { dec := some true, call := some { lend := [], pass := [], res := .v (.p (Kd.int .i64) x64), outs := [], back := [] } }), (12, { dec := some true }), (13, { pick := some true })]] [] Try.func39 (cs := [_, _, _, _, _, _, _, _, _, _, _, _, _]) (by kernel_rfl) ⟨h57, h62, h62, h62, h62, h63.1, h63.2, h62, h62, h62, (link_Receive_1_ok k ((List.getD p1 (Int.toNat p4) (Kd.dflt (Kd.pair Kd.bool (Kd.pair (Kd.int .i64) (Kd.pair Kd.str Kd.unit))))).1) (((List.getD p1 (Int.toNat p4) (Kd.dflt (Kd.pair Kd.bool (Kd.pair (Kd.int .i64) (Kd.pair Kd.str Kd.unit))))).2).1) ((((List.getD p1 (Int.toNat p4) (Kd.dflt (Kd.pair Kd.bool (Kd.pair (Kd.int .i64) (Kd.pair Kd.str Kd.unit))))).2).2).1) p2 _ h65), h62, h62, trivial⟩ (by kernel_rfl)
      · replace h := Option.some.inj h; subst h
        exact Abs.Good.path_ret hm [.reg [], .cond false, .reg [(5, { dec := some false }), (6, { dec := some false }), (7, { dec := some false }), (8, { dec := some false }), (9, { dec := some false }), (10, { dec := some false }), (11, { dec := some false }), (12, { dec := some false }), (13, { pick := some false })]] [] Try.func39 (cs := [_, _, _, _, _, _, _, _, _, _]) (by kernel_rfl) ⟨h57, h62, h62, h62, h62, h62, h62, h62, h62, h62, trivial⟩ (by kernel_rfl)
theorem slices_BinarySearchFunc_ok (k : Nat) (a1 : List (Bool × (Int × (ByteArray × Unit)))) (a2 : Int) (r : Int × Bool) (h : slices_BinarySearchFunc k a1 a2 = some r) : SpecOk P ⟨39, [.p (Kd.sl (Kd.pair Kd.bool (Kd.pair (Kd.int .i64) (Kd.pair Kd.str Kd.unit)))) a1, .p (Kd.int .i64) a2, .fn 40 []], [], .t [.p (Kd.int .i64) r.1, .p Kd.bool r.2], []⟩ := by
  refine spec_at Try.func39 (by kernel_rfl) (Nat.le_of_ble_eq_true (by kernel_rfl)) ?_
  unfold slices_BinarySearchFunc at h
  exact Abs.Good.path hm [.reg [], .reg [], .reg [], .keep [sk 0, sk 1, sk 2, sk 8, sk 9, sk 10]] (cs := []) (by kernel_rfl) trivial (slices_BinarySearchFunc_l0_ok k a1 a2 (List.length a1 : Int) (0 : Int) (List.length a1 : Int) r h)

theorem clone42_ok (x : List (Bool × (Int × (ByteArray × Unit)))) (h : 0 + List.length x ≤ 4398046511104) : SpecOk P ⟨42, [.p (.sl (Kd.pair Kd.bool (Kd.pair (Kd.int .i64) (Kd.pair Kd.str Kd.unit)))) x], [], .v (.row 700001 (List.length x)), [(700001, .row (Kd.pair Kd.bool (Kd.pair (Kd.int .i64) (Kd.pair Kd.str Kd.unit))) 49 x)]⟩ := by
  refine spec_at Try.func42 (by kernel_rfl) (Nat.le_of_ble_eq_true (by kernel_rfl)) ?_
  refine Abs.Good.nilsplit (i := 0) (e := (Kd.pair Kd.bool (Kd.pair (Kd.int .i64) (Kd.pair Kd.str Kd.unit)))) (x := x) rfl (fun hs => ?_) ?_
  · subst hs
    exact Abs.Good.path_ret hm [.reg [], .reg [], .cond true, .reg [], .co (sk 2) 0 (.mk 700001 (Kd.pair Kd.bool (Kd.pair (Kd.int .i64) (Kd.pair Kd.str Kd.unit))) 49)] [] Try.func42 (cs := [_]) (by kernel_rfl) ⟨(rfl : true = true), trivial⟩ (by kernel_rfl)
  · exact Abs.Good.path_ret hm [.reg [], .reg [], .cond false, .co (sk 0) 0 .unn, .reg [], .keep [sk 2, ek 7], .ren [(7, 700001)]] [] Try.func42 (cs := [_, _, _]) (by kernel_rfl) ⟨(rfl : false = false), (rfl : 0 = 0), (appBound (P := P) (et := 49) (b := 32) (by kernel_rfl) (by decide) h), trivial⟩ (by kernel_rfl)

def link_Receive_2 (k : Nat) (a1 : Bool) (a2 : Int) (a3 : ByteArray) (a4 : Int) (a5 : List (Bool × (Int × (ByteArray × Unit)))) (a6 : List (Bool × (Int × (ByteArray × Unit)))) : Option (Bool × Int × List (Bool × (Int × (ByteArray × Unit))) × List (Bool × (Int × (ByteArray × Unit)))) :=
  if (a2 == a4) = true then
    if List.length a6 + List.length ([(a1, (a2, (a3, ())))] : List (Bool × (Int × (ByteArray × Unit)))) ≤ 4398046511104 then
      some (true, (IntKind.i64.wrap (a4 + (1 : Int))), a5, (a6 ++ ([(a1, (a2, (a3, ())))] : List (Bool × (Int × (ByteArray × Unit))))))
    else none
  else
    some ((decide (a2 < a4)), a4, a5, a6)
theorem link_Receive_2_ok (k : Nat) (a1 : Bool) (a2 : Int) (a3 : ByteArray) (a4 : Int) (a5 : List (Bool × (Int × (ByteArray × Unit)))) (a6 : List (Bool × (Int × (ByteArray × Unit)))) (r : Bool × Int × List (Bool × (Int × (ByteArray × Unit))) × List (Bool × (Int × (ByteArray × Unit)))) (h : link_Receive_2 k a1 a2 a3 a4 a5 a6 = some r) : SpecOk P ⟨44, [.agg [.p Kd.bool a1, .p (Kd.int .i64) a2, .p Kd.str a3], .ptr 1000001 0, .ptr 1000002 0], [(1000001, .box [.p (Kd.int .i64) a4, .p (Kd.sl (Kd.pair Kd.bool (Kd.pair (Kd.int .i64) (Kd.pair Kd.str Kd.unit)))) a5]), (1000002, .box [.row 1000003 (List.length a6)]), (1000003, .row (Kd.pair Kd.bool (Kd.pair (Kd.int .i64) (Kd.pair Kd.str Kd.unit))) 49 a6)], .v (.p Kd.bool r.1), [(1000001, .box [.p (Kd.int .i64) r.2.1, .p (Kd.sl (Kd.pair Kd.bool (Kd.pair (Kd.int .i64) (Kd.pair Kd.str Kd.unit)))) r.2.2.1]), (1000002, .box [.row 700001 (List.length r.2.2.2)]), (700001, .row (Kd.pair Kd.bool (Kd.pair (Kd.int .i64) (Kd.pair Kd.str Kd.unit))) 49 r.2.2.2)]⟩ := by
  refine spec_at Try.func44 (by kernel_rfl) (Nat.le_of_ble_eq_true (by kernel_rfl)) ?_
  unfold link_Receive_2 at h
  rcases br_inv h with ⟨h156, h⟩ | ⟨h156, h⟩
  · obtain ⟨h157, h⟩ := gd_inv h
    replace h := Option.some.inj h; subst h
    exact Abs.Good.path_ret hm [.reg [], .reg [], .cond true, .reg [], .reg [], .reg [], .keep [sk 4, ek 1000001, ek 1000002, ek 13], .ren [(1000001, 1000001), (1000002, 1000002), (13, 700001)]] [] Try.func44 (cs := [_, _, _, _]) (by kernel_rfl) ⟨h156, (rfl : (List.length a6) = List.length a6), (appBound (P := P) (et := 49) (b := 32) (by kernel_rfl) (by decide) h157), (rfl : 1 = List.length ([(a1, (a2, (a3, ())))] : List (Bool × (Int × (ByteArray × Unit))))), trivial⟩ (by kernel_rfl)
  · replace h := Option.some.inj h; subst h
    exact Abs.Good.path_ret hm [.reg [], .reg [], .cond false, .reg [], .keep [sk 4, ek 1000001, ek 1000002, ek 1000003], .ren [(1000001, 1000001), (1000002, 1000002), (1000003, 700001)]] [] Try.func44 (cs := [_]) (by kernel_rfl) ⟨h156, trivial⟩ (by kernel_rfl)

def slices_IndexFunc_l0 : Nat → Int → Int → (List (Bool × (Int × (ByteArray × Unit)))) → Int → (List (Bool × (Int × (ByteArray × Unit)))) → (List (Bool × (Int × (ByteArray × Unit)))) → Option (Int × Int × List (Bool × (Int × (ByteArray × Unit))) × List (Bool × (Int × (ByteArray × Unit))))
  | 0, _, _, _, _, _, _ => none
  | k + 1, p1, p2, p3, p4, p5, p6 =>
    if (decide (p2 < p1)) = true then
      if 0 ≤ p2 ∧ p2 < ((List.length p3) : Int) ∧ (List.length p3) ≤ List.length p3 then
        if Int.toNat p2 < List.length p3 then
          Option.bind (link_Receive_2 k ((List.getD p3 (Int.toNat p2) (Kd.dflt (Kd.pair Kd.bool (Kd.pair (Kd.int .i64) (Kd.pair Kd.str Kd.unit))))).1) (((List.getD p3 (Int.toNat p2) (Kd.dflt (Kd.pair Kd.bool (Kd.pair (Kd.int .i64) (Kd.pair Kd.str Kd.unit))))).2).1) ((((List.getD p3 (Int.toNat p2) (Kd.dflt (Kd.pair Kd.bool (Kd.pair (Kd.int .i64) (Kd.pair Kd.str Kd.unit))))).2).2).1) p4 p5 p6) fun x170 =>
          if x170.1 = true then
            some (p2, x170.2.1, x170.2.2.1, x170.2.2.2)
          else
            slices_IndexFunc_l0 k p1 (IntKind.i64.wrap (p2 + (1 : Int))) p3 x170.2.1 x170.2.2.1 x170.2.2.2
        else none
      else none
    else
      some ((-1 : Int), p4, p5, p6)
def slices_IndexFunc (k : Nat) (a1 : List (Bool × (Int × (ByteArray × Unit)))) (a2 : Int) (a3 : List (Bool × (Int × (ByteArray × Unit)))) (a4 : List (Bool × (Int × (ByteArray × Unit)))) : Option (Int × Int × List (Bool × (Int × (ByteArray × Unit))) × List (Bool × (Int × (ByteArray × Unit)))) :=
  slices_IndexFunc_l0 k ((List.length a1) : Int) (0 : Int) a1 a2 a3 a4
theorem slices_IndexFunc_l0_ok (k : Nat) : ∀ (p1 : Int) (p2 : Int) (p3 : List (Bool × (Int × (ByteArray × Unit)))) (p4 : Int) (p5 : List (Bool × (Int × (ByteArray × Unit)))) (p6 : List (Bool × (Int × (ByteArray × Unit)))) (r : Int × Int × List (Bool × (Int × (ByteArray × Unit))) × List (Bool × (Int × (ByteArray × Unit)))), slices_IndexFunc_l0 k p1 p2 p3 p4 p5 p6 = some r →
    Abs.Good P 52 Try.f52.ntmps [1000001, 1000002, 1000003, 1000004] [(1000001, .row (Kd.pair Kd.bool (Kd.pair (Kd.int .i64) (Kd.pair Kd.str Kd.unit))) 49 p3), (1000002, .box [.p (Kd.int .i64) r.2.1, .p (Kd.sl (Kd.pair Kd.bool (Kd.pair (Kd.int .i64) (Kd.pair Kd.str Kd.unit)))) r.2.2.1]), (1000003, .box [.row 700001 (List.length r.2.2.2)]), (700001, .row (Kd.pair Kd.bool (Kd.pair (Kd.int .i64) (Kd.pair Kd.str Kd.unit))) 49 r.2.2.2)] (.v (.p (Kd.int .i64) r.1)) (pos Try.f52 [.r, .r]) [(sk 0, some (.v (.row 1000001 (List.length p3)))), (sk 1, some (.v (.fn 44 [.ptr 1000002 0, .ptr 1000003 0]))), (sk 7, some (.v (.p (Kd.int .i64) p1))), (sk 8, some (.v (.p (Kd.int .i64) p2))), (ek 1000001, some (.row (Kd.pair Kd.bool (Kd.pair (Kd.int .i64) (Kd.pair Kd.str Kd.unit))) 49 p3)), (ek 1000002, some (.box [.p (Kd.int .i64) p4, .p (Kd.sl (Kd.pair Kd.bool (Kd.pair (Kd.int .i64) (Kd.pair Kd.str Kd.unit)))) p5])), (ek 1000003, some (.box [.row 500001 (List.length p6)])), (ek 500001, some (.row (Kd.pair Kd.bool (Kd.pair (Kd.int .i64) (Kd.pair Kd.str Kd.unit))) 49 p6))] := by
  induction k with
  | zero => intro p1 p2 p3 p4 p5 p6 r h; cases h
  | succ k ih =>
    intro p1 p2 p3 p4 p5 p6 r h
    unfold slices_IndexFunc_l0 at h
    rcases br_inv h with ⟨h167, h⟩ | ⟨h167, h⟩
    · obtain ⟨h168, h⟩ := gd_inv h
      obtain ⟨h169, h⟩ := gd_inv h
      obtain ⟨x170, h171, h⟩ := bind_inv h
      rcases br_inv h with ⟨h172, h⟩ | ⟨h172, h⟩
      · replace h := Option.some.inj h; subst h
        exact Abs.Good.path_ret hm [.reg [], .cond true, .reg [], .reg [(5, { call := some { lend := [], pass := [(1000002, 1000001), (1000003, 1000002), (500001, 1000003)], res := .v (.p Kd.bool x170.1), outs := [(1000001, .box [.p (Kd.int .i64) x170.2.1, .p (Kd.sl (Kd.pair Kd.bool (Kd.pair (Kd.int .i64) (Kd.pair Kd.str Kd.unit)))) x170.2.2.1]), (1000002, .box [.row 700001 (List.length x170.2.2.2)]), (700001, .row (Kd.pair Kd.bool (Kd.pair (Kd.int .i64) (Kd.pair Kd.str Kd.unit))) 49 x170.2.2.2)], back := [(1000001, 1000002), (1000002, 1000003), (700001, 2000128)] } })], .cond true, .reg [], .keep [sk 4, ek 1000001, ek 1000002, ek 1000003, ek 2000128], .ren [(1000001, 1000001), (1000002, 1000002), (1000003, 1000003), (2000128, 700001)]] [] Try.func52 (cs := [_, _, _, _, _, _, _]) (by kernel_rfl) ⟨h167, h168.1, h168.2.1, h168.2.2, h169, (link_Receive_2_ok k ((List.getD p3 (Int.toNat p2) (Kd.dflt (Kd.pair Kd.bool (Kd.pair (Kd.int .i64) (Kd.pair Kd.str Kd.unit))))).1) (((List.getD p3 (Int.toNat p2) (Kd.dflt (Kd.pair Kd.bool (Kd.pair (Kd.int .i64) (Kd.pair Kd.str Kd.unit))))).2).1) ((((List.getD p3 (Int.toNat p2) (Kd.dflt (Kd.pair Kd.bool (Kd.pair (Kd.int .i64) (Kd.pair Kd.str Kd.unit))))).2).2).1) p4 p5 p6 _ h171), h172, trivial⟩ (by kernel_rfl)
      · exact Abs.Good.path hm [.reg [], .cond true, .reg [], .reg [(5, { call := some { lend := [], pass := [(1000002, 1000001), (1000003, 1000002), (500001, 1000003)], res := .v (.p Kd.bool x170.1), outs := [(1000001, .box [.p (Kd.int .i64) x170.2.1, .p (Kd.sl (Kd.pair Kd.bool (Kd.pair (Kd.int .i64) (Kd.pair Kd.str Kd.unit)))) x170.2.2.1]), (1000002, .box [.row 700001 (List.length x170.2.2.2)]), (700001, .row (Kd.pair Kd.bool (Kd.pair (Kd.int .i64) (Kd.pair Kd.str Kd.unit))) 49 x170.2.2.2)], back := [(1000001, 1000002), (1000002, 1000003), (700001, 2000128)] } })], .cond false, .reg [], .keep [sk 0, sk 1, sk 7, sk 8, ek 1000001, ek 1000002, ek 1000003, ek 2000128], .ren [(1000001, 1000001), (1000002, 1000002), (1000003, 1000003), (2000128, 500001)]] (cs := [_, _, _, _, _, _, _]) (by kernel_rfl) ⟨h167, h168.1, h168.2.1, h168.2.2, h169, (link_Receive_2_ok k ((List.getD p3 (Int.toNat p2) (Kd.dflt (Kd.pair Kd.bool (Kd.pair (Kd.int .i64) (Kd.pair Kd.str Kd.unit))))).1) (((List.getD p3 (Int.toNat p2) (Kd.dflt (Kd.pair Kd.bool (Kd.pair (Kd.int .i64) (Kd.pair Kd.str Kd.unit))))).2).1) ((((List.getD p3 (Int.toNat p2) (Kd.dflt (Kd.pair Kd.bool (Kd.pair (Kd.int .i64) (Kd.pair Kd.str Kd.unit))))).2).2).1) p4 p5 p6 _ h171), h172, trivial⟩ (ih p1 (IntKind.i64.wrap (p2 + (1 : Int))) p3 x170.2.1 x170.2.2.1 x170.2.2.2 r h)
    · replace h := Option.some.inj h; subst h
      exact Abs.Good.path_ret hm [.reg [], .cond false, .reg [], .keep [sk 4, ek 1000001, ek 1000002, ek 1000003, ek 500001], .ren [(1000001, 1000001), (1000002, 1000002), (1000003, 1000003), (500001, 700001)]] [] Try.func52 (cs := [_]) (by kernel_rfl) ⟨h167, trivial⟩ (by kernel_rfl)
theorem slices_IndexFunc_ok (k : Nat) (a1 : List (Bool × (Int × (ByteArray × Unit)))) (a2 : Int) (a3 : List (Bool × (Int × (ByteArray × Unit)))) (a4 : List (Bool × (Int × (ByteArray × Unit)))) (r : Int × Int × List (Bool × (Int × (ByteArray × Unit))) × List (Bool × (Int × (ByteArray × Unit)))) (h : slices_IndexFunc k a1 a2 a3 a4 = some r) : SpecOk P ⟨52, [.row 1000001 (List.length a1), .fn 44 [.ptr 1000002 0, .ptr 1000003 0]], [(1000001, .row (Kd.pair Kd.bool (Kd.pair (Kd.int .i64) (Kd.pair Kd.str Kd.unit))) 49 a1), (1000002, .box [.p (Kd.int .i64) a2, .p (Kd.sl (Kd.pair Kd.bool (Kd.pair (Kd.int .i64) (Kd.pair Kd.str Kd.unit)))) a3]), (1000003, .box [.row 1000004 (List.length a4)]), (1000004, .row (Kd.pair Kd.bool (Kd.pair (Kd.int .i64) (Kd.pair Kd.str Kd.unit))) 49 a4)], .v (.p (Kd.int .i64) r.1), [(1000001, .row (Kd.pair Kd.bool (Kd.pair (Kd.int .i64) (Kd.pair Kd.str Kd.unit))) 49 a1), (1000002, .box [.p (Kd.int .i64) r.2.1, .p (Kd.sl (Kd.pair Kd.bool (Kd.pair (Kd.int .i64) (Kd.pair Kd.str Kd.unit)))) r.2.2.1]), (1000003, .box [.row 700001 (List.length r.2.2.2)]), (700001, .row (Kd.pair Kd.bool (Kd.pair (Kd.int .i64) (Kd.pair Kd.str Kd.unit))) 49 r.2.2.2)]⟩ := by
  refine spec_at Try.func52 (by kernel_rfl) (Nat.le_of_ble_eq_true (by kernel_rfl)) ?_
  unfold slices_IndexFunc at h
  exact Abs.Good.path hm [.reg [], .reg [], .keep [sk 0, sk 1, sk 7, sk 8, ek 1000001, ek 1000002, ek 1000003, ek 1000004], .ren [(1000001, 1000001), (1000002, 1000002), (1000003, 1000003), (1000004, 500001)]] (cs := []) (by kernel_rfl) trivial (slices_IndexFunc_l0_ok k ((List.length a1) : Int) (0 : Int) a1 a2 a3 a4 r h)

def slices_DeleteFunc_l1 (s0 : Int → Int → (List (Bool × (Int × (ByteArray × Unit)))) → Int → (List (Bool × (Int × (ByteArray × Unit)))) → (List (Bool × (Int × (ByteArray × Unit)))) → Option (Int × List (Bool × (Int × (ByteArray × Unit))) × List (Bool × (Int × (ByteArray × Unit))) × List (Bool × (Int × (ByteArray × Unit))))) (k : Nat) (p1 : Int) (p2 : Int) (p3 : List (Bool × (Int × (ByteArray × Unit)))) (p4 : Int) (p5 : List (Bool × (Int × (ByteArray × Unit)))) (p6 : List (Bool × (Int × (ByteArray × Unit)))) : Option (Int × List (Bool × (Int × (ByteArray × Unit))) × List (Bool × (Int × (ByteArray × Unit))) × List (Bool × (Int × (ByteArray × Unit)))) :=
  s0 p1 (IntKind.i64.wrap (p2 + (1 : Int))) p3 p4 p5 p6
def slices_DeleteFunc_l0 : Nat → Int → Int → (List (Bool × (Int × (ByteArray × Unit)))) → Int → (List (Bool × (Int × (ByteArray × Unit)))) → (List (Bool × (Int × (ByteArray × Unit)))) → Option (Int × List (Bool × (Int × (ByteArray × Unit))) × List (Bool × (Int × (ByteArray × Unit))) × List (Bool × (Int × (ByteArray × Unit))))
  | 0, _, _, _, _, _, _ => none
  | k + 1, p1, p2, p3, p4, p5, p6 =>
    if (decide (p2 < ((List.length p3) : Int))) = true then
      if 0 ≤ p2 ∧ p2 < ((List.length p3) : Int) ∧ (List.length p3) ≤ List.length p3 then
        if Int.toNat p2 < List.length p3 then
          Option.bind (link_Receive_2 k ((List.getD p3 (Int.toNat p2) (Kd.dflt (Kd.pair Kd.bool (Kd.pair (Kd.int .i64) (Kd.pair Kd.str Kd.unit))))).1) (((List.getD p3 (Int.toNat p2) (Kd.dflt (Kd.pair Kd.bool (Kd.pair (Kd.int .i64) (Kd.pair Kd.str Kd.unit))))).2).1) ((((List.getD p3 (Int.toNat p2) (Kd.dflt (Kd.pair Kd.bool (Kd.pair (Kd.int .i64) (Kd.pair Kd.str Kd.unit))))).2).2).1) p4 p5 p6) fun x213 =>
          if (!x213.1) = true then
            if 0 ≤ p1 ∧ p1 < ((List.length p3) : Int) then
              if Int.toNat p1 < List.length p3 then
                slices_DeleteFunc_l1 (slices_DeleteFunc_l0 k) k (IntKind.i64.wrap (p1 + (1 : Int))) p2 (List.set p3 (Int.toNat p1) ((List.getD p3 (Int.toNat p2) (Kd.dflt (Kd.pair Kd.bool (Kd.pair (Kd.int .i64) (Kd.pair Kd.str Kd.unit))))).1, (((List.getD p3 (Int.toNat p2) (Kd.dflt (Kd.pair Kd.bool (Kd.pair (Kd.int .i64) (Kd.pair Kd.str Kd.unit))))).2).1, ((((List.getD p3 (Int.toNat p2) (Kd.dflt (Kd.pair Kd.bool (Kd.pair (Kd.int .i64) (Kd.pair Kd.str Kd.unit))))).2).2).1, ())))) x213.2.1 x213.2.2.1 x213.2.2.2
              else none
            else none
          else
            slices_DeleteFunc_l1 (slices_DeleteFunc_l0 k) k p1 p2 p3 x213.2.1 x213.2.2.1 x213.2.2.2
        else none
      else none
    else
      if 0 ≤ p1 ∧ p1 ≤ ((List.length p3) : Int) then
        if Int.toNat p1 + ((List.length p3) - Int.toNat p1) ≤ List.length p3 then
          if (Int.toNat p1) ≤ List.length (List.take (Int.toNat p1) p3 ++ List.replicate (((List.length p3) - Int.toNat p1)) (Kd.dflt (Kd.pair Kd.bool (Kd.pair (Kd.int .i64) (Kd.pair Kd.str Kd.unit)))) ++ List.drop (Int.toNat p1 + ((List.length p3) - Int.toNat p1)) p3) then
            some (p4, p5, p6, (List.take (Int.toNat p1) (List.take (Int.toNat p1) p3 ++ List.replicate (((List.length p3) - Int.toNat p1)) (Kd.dflt (Kd.pair Kd.bool (Kd.pair (Kd.int .i64) (Kd.pair Kd.str Kd.unit)))) ++ List.drop (Int.toNat p1 + ((List.length p3) - Int.toNat p1)) p3)))
          else none
        else none
      else none
def slices_DeleteFunc (k : Nat) (a1 : List (Bool × (Int × (ByteArray × Unit)))) (a2 : Int) (a3 : List (Bool × (Int × (ByteArray × Unit)))) (a4 : List (Bool × (Int × (ByteArray × Unit)))) : Option (Int × List (Bool × (Int × (ByteArray × Unit))) × List (Bool × (Int × (ByteArray × Unit))) × List (Bool × (Int × (ByteArray × Unit)))) :=
  Option.bind (slices_IndexFunc k a1 a2 a3 a4) fun x207 =>
  if (x207.1 == (-1 : Int)) = true then
    some (x207.2.1, x207.2.2.1, x207.2.2.2, a1)
  else
    slices_DeleteFunc_l0 k x207.1 (IntKind.i64.wrap (x207.1 + (1 : Int))) a1 x207.2.1 x207.2.2.1 x207.2.2.2
theorem slices_DeleteFunc_l1_ok (s0 : Int → Int → (List (Bool × (Int × (ByteArray × Unit)))) → Int → (List (Bool × (Int × (ByteArray × Unit)))) → (List (Bool × (Int × (ByteArray × Unit)))) → Option (Int × List (Bool × (Int × (ByteArray × Unit))) × List (Bool × (Int × (ByteArray × Unit))) × List (Bool × (Int × (ByteArray × Unit))))) (hs0 : ∀ (p1 : Int) (p2 : Int) (p3 : List (Bool × (Int × (ByteArray × Unit)))) (p4 : Int) (p5 : List (Bool × (Int × (ByteArray × Unit)))) (p6 : List (Bool × (Int × (ByteArray × Unit)))) (r : Int × List (Bool × (Int × (ByteArray × Unit))) × List (Bool × (Int × (ByteArray × Unit))) × List (Bool × (Int × (ByteArray × Unit)))), s0 p1 p2 p3 p4 p5 p6 = some r → Abs.Good P 43 Try.f43.ntmps [1000001, 1000002, 1000003, 1000004] [(1000002, .box [.p (Kd.int .i64) r.1, .p (Kd.sl (Kd.pair Kd.bool (Kd.pair (Kd.int .i64) (Kd.pair Kd.str Kd.unit)))) r.2.1]), (1000003, .box [.row 700002 (List.length r.2.2.1)]), (700002, .row (Kd.pair Kd.bool (Kd.pair (Kd.int .i64) (Kd.pair Kd.str Kd.unit))) 49 r.2.2.1), (700001, .row (Kd.pair Kd.bool (Kd.pair (Kd.int .i64) (Kd.pair Kd.str Kd.unit))) 49 r.2.2.2)] (.v (.row 700001 (List.length r.2.2.2))) (pos Try.f43 [.r, .r, .r, .c false, .r]) [(sk 0, some (.v (.row 1000001 (List.length p3)))), (sk 1, some (.v (.fn 44 [.ptr 1000002 0, .ptr 1000003 0]))), (sk 5, some (.v (.p (Kd.int .i64) p1))), (sk 6, some (.v (.p (Kd.int .i64) p2))), (ek 1000001, some (.row (Kd.pair Kd.bool (Kd.pair (Kd.int .i64) (Kd.pair Kd.str Kd.unit))) 49 p3)), (ek 1000002, some (.box [.p (Kd.int .i64) p4, .p (Kd.sl (Kd.pair Kd.bool (Kd.pair (Kd.int .i64) (Kd.pair Kd.str Kd.unit)))) p5])), (ek 1000003, some (.box [.row 500001 (List.length p6)])), (ek 500001, some (.row (Kd.pair Kd.bool (Kd.pair (Kd.int .i64) (Kd.pair Kd.str Kd.unit))) 49 p6))]) (k : Nat) (p1 : Int) (p2 : Int) (p3 : List (Bool × (Int × (ByteArray × Unit)))) (p4 : Int) (p5 : List (Bool × (Int × (ByteArray × Unit)))) (p6 : List (Bool × (Int × (ByteArray × Unit)))) (r : Int × List (Bool × (Int × (ByteArray × Unit))) × List (Bool × (Int × (ByteArray × Unit))) × List (Bool × (Int × (ByteArray × Unit)))) (h : slices_DeleteFunc_l1 s0 k p1 p2 p3 p4 p5 p6 = some r) :
    Abs.Good P 43 Try.f43.ntmps [1000001, 1000002, 1000003, 1000004] [(1000002, .box [.p (Kd.int .i64) r.1, .p (Kd.sl (Kd.pair Kd.bool (Kd.pair (Kd.int .i64) (Kd.pair Kd.str Kd.unit)))) r.2.1]), (1000003, .box [.row 700002 (List.length r.2.2.1)]), (700002, .row (Kd.pair Kd.bool (Kd.pair (Kd.int .i64) (Kd.pair Kd.str Kd.unit))) 49 r.2.2.1), (700001, .row (Kd.pair Kd.bool (Kd.pair (Kd.int .i64) (Kd.pair Kd.str Kd.unit))) 49 r.2.2.2)] (.v (.row 700001 (List.length r.2.2.2))) (pos Try.f43 [.r, .r, .r, .c false, .r, .r, .c true, .r, .r, .c false]) [(sk 0, some (.v (.row 1000001 (List.length p3)))), (sk 1, some (.v (.fn 44 [.ptr 1000002 0, .ptr 1000003 0]))), (sk 5, some (.v (.p (Kd.int .i64) p1))), (sk 6, some (.v (.p (Kd.int .i64) p2))), (ek 1000001, some (.row (Kd.pair Kd.bool (Kd.pair (Kd.int .i64) (Kd.pair Kd.str Kd.unit))) 49 p3)), (ek 1000002, some (.box [.p (Kd.int .i64) p4, .p (Kd.sl (Kd.pair Kd.bool (Kd.pair (Kd.int .i64) (Kd.pair Kd.str Kd.unit)))) p5])), (ek 1000003, some (.box [.row 501001 (List.length p6)])), (ek 501001, some (.row (Kd.pair Kd.bool (Kd.pair (Kd.int .i64) (Kd.pair Kd.str Kd.unit))) 49 p6))] := by
  unfold slices_DeleteFunc_l1 at h
  exact Abs.Good.path hm [.reg [], .keep [sk 0, sk 1, sk 5, sk 6, ek 1000001, ek 1000002, ek 1000003, ek 501001], .ren [(1000001, 1000001), (1000002, 1000002), (1000003, 1000003), (501001, 500001)]] (cs := []) (by kernel_rfl) trivial (hs0 p1 (IntKind.i64.wrap (p2 + (1 : Int))) p3 p4 p5 p6 r h)
theorem slices_DeleteFunc_l0_ok (k : Nat) : ∀ (p1 : Int) (p2 : Int) (p3 : List (Bool × (Int × (ByteArray × Unit)))) (p4 : Int) (p5 : List (Bool × (Int × (ByteArray × Unit)))) (p6 : List (Bool × (Int × (ByteArray × Unit)))) (r : Int × List (Bool × (Int × (ByteArray × Unit))) × List (Bool × (Int × (ByteArray × Unit))) × List (Bool × (Int × (ByteArray × Unit)))), slices_DeleteFunc_l0 k p1 p2 p3 p4 p5 p6 = some r →
    Abs.Good P 43 Try.f43.ntmps [1000001, 1000002, 1000003, 1000004] [(1000002, .box [.p (Kd.int .i64) r.1, .p (Kd.sl (Kd.pair Kd.bool (Kd.pair (Kd.int .i64) (Kd.pair Kd.str Kd.unit)))) r.2.1]), (1000003, .box [.row 700002 (List.length r.2.2.1)]), (700002, .row (Kd.pair Kd.bool (Kd.pair (Kd.int .i64) (Kd.pair Kd.str Kd.unit))) 49 r.2.2.1), (700001, .row (Kd.pair Kd.bool (Kd.pair (Kd.int .i64) (Kd.pair Kd.str Kd.unit))) 49 r.2.2.2)] (.v (.row 700001 (List.length r.2.2.2))) (pos Try.f43 [.r, .r, .r, .c false, .r]) [(sk 0, some (.v (.row 1000001 (List.length p3)))), (sk 1, some (.v (.fn 44 [.ptr 1000002 0, .ptr 1000003 0]))), (sk 5, some (.v (.p (Kd.int .i64) p1))), (sk 6, some (.v (.p (Kd.int .i64) p2))), (ek 1000001, some (.row (Kd.pair Kd.bool (Kd.pair (Kd.int .i64) (Kd.pair Kd.str Kd.unit))) 49 p3)), (ek 1000002, some (.box [.p (Kd.int .i64) p4, .p (Kd.sl (Kd.pair Kd.bool (Kd.pair (Kd.int .i64) (Kd.pair Kd.str Kd.unit)))) p5])), (ek 1000003, some (.box [.row 500001 (List.length p6)])), (ek 500001, some (.row (Kd.pair Kd.bool (Kd.pair (Kd.int .i64) (Kd.pair Kd.str Kd.unit))) 49 p6))] := by
  induction k with
  | zero => intro p1 p2 p3 p4 p5 p6 r h; cases h
  | succ k ih =>
    intro p1 p2 p3 p4 p5 p6 r h
    unfold slices_DeleteFunc_l0 at h
    rcases br_inv h with ⟨h210, h⟩ | ⟨h210, h⟩
    · obtain ⟨h211, h⟩ := gd_inv h
      obtain ⟨h212, h⟩ := gd_inv h
      obtain ⟨x213, h214, h⟩ := bind_inv h
      rcases br_inv h with ⟨h215, h⟩ | ⟨h215, h⟩
      · obtain ⟨h216, h⟩ := gd_inv h
        obtain ⟨h217, h⟩ := gd_inv h
        exact Abs.Good.path hm [.reg [], .cond true, .reg [], .reg [(2, { call := some { lend := [], pass := [(1000002, 1000001), (1000003, 1000002), (500001, 1000003)], res := .v (.p Kd.bool x213.1), outs := [(1000001, .box [.p (Kd.int .i64) x213.2.1, .p (Kd.sl (Kd.pair Kd.bool (Kd.pair (Kd.int .i64) (Kd.pair Kd.str Kd.unit)))) x213.2.2.1]), (1000002, .box [.row 700001 (List.length x213.2.2.2)]), (700001, .row (Kd.pair Kd.bool (Kd.pair (Kd.int .i64) (Kd.pair Kd.str Kd.unit))) 49 x213.2.2.2)], back := [(1000001, 1000002), (1000002, 1000003), (700001, 2000224)] } })], .cond true, .reg [], .reg [], .co (sk 0) 0 (.ln), .keep [sk 0, sk 1, sk 5, sk 6, ek 1000001, ek 1000002, ek 1000003, ek 2000224], .ren [(1000001, 1000001), (1000002, 1000002), (1000003, 1000003), (2000224, 501001)]] (cs := [_, _, _, _, _, _, _, _, _, _, _, _]) (by kernel_rfl) ⟨h210, h211.1, h211.2.1, h211.2.2, h212, (link_Receive_2_ok k ((List.getD p3 (Int.toNat p2) (Kd.dflt (Kd.pair Kd.bool (Kd.pair (Kd.int .i64) (Kd.pair Kd.str Kd.unit))))).1) (((List.getD p3 (Int.toNat p2) (Kd.dflt (Kd.pair Kd.bool (Kd.pair (Kd.int .i64) (Kd.pair Kd.str Kd.unit))))).2).1) ((((List.getD p3 (Int.toNat p2) (Kd.dflt (Kd.pair Kd.bool (Kd.pair (Kd.int .i64) (Kd.pair Kd.str Kd.unit))))).2).2).1) p4 p5 p6 _ h214), h215, h216.1, h216.2, h211.2.2, h217, (by simp only [List.length_set] : (List.length p3) = (List.length (List.set p3 (Int.toNat p1) ((List.getD p3 (Int.toNat p2) (Kd.dflt (Kd.pair Kd.bool (Kd.pair (Kd.int .i64) (Kd.pair Kd.str Kd.unit))))).1, (((List.getD p3 (Int.toNat p2) (Kd.dflt (Kd.pair Kd.bool (Kd.pair (Kd.int .i64) (Kd.pair Kd.str Kd.unit))))).2).1, ((((List.getD p3 (Int.toNat p2) (Kd.dflt (Kd.pair Kd.bool (Kd.pair (Kd.int .i64) (Kd.pair Kd.str Kd.unit))))).2).2).1, ())))))), trivial⟩ (slices_DeleteFunc_l1_ok (slices_DeleteFunc_l0 k) ih k (IntKind.i64.wrap (p1 + (1 : Int))) p2 (List.set p3 (Int.toNat p1) ((List.getD p3 (Int.toNat p2) (Kd.dflt (Kd.pair Kd.bool (Kd.pair (Kd.int .i64) (Kd.pair Kd.str Kd.unit))))).1, (((List.getD p3 (Int.toNat p2) (Kd.dflt (Kd.pair Kd.bool (Kd.pair (Kd.int .i64) (Kd.pair Kd.str Kd.unit))))).2).1, ((((List.getD p3 (Int.toNat p2) (Kd.dflt (Kd.pair Kd.bool (Kd.pair (Kd.int .i64) (Kd.pair Kd.str Kd.unit))))).2).2).1, ())))) x213.2.1 x213.2.2.1 x213.2.2.2 r h)
      · exact Abs.Good.path hm [.reg [], .cond true, .reg [], .reg [(2, { call := some { lend := [], pass := [(1000002, 1000001), (1000003, 1000002), (500001, 1000003)], res := .v (.p Kd.bool x213.1), outs := [(1000001, .box [.p (Kd.int .i64) x213.2.1, .p (Kd.sl (Kd.pair Kd.bool (Kd.pair (Kd.int .i64) (Kd.pair Kd.str Kd.unit)))) x213.2.2.1]), (1000002, .box [.row 700001 (List.length x213.2.2.2)]), (700001, .row (Kd.pair Kd.bool (Kd.pair (Kd.int .i64) (Kd.pair Kd.str Kd.unit))) 49 x213.2.2.2)], back := [(1000001, 1000002), (1000002, 1000003), (700001, 2000224)] } })], .cond false, .keep [sk 0, sk 1, sk 5, sk 6, ek 1000001, ek 1000002, ek 1000003, ek 2000224], .ren [(1000001, 1000001), (1000002, 1000002), (1000003, 1000003), (2000224, 501001)]] (cs := [_, _, _, _, _, _, _]) (by kernel_rfl) ⟨h210, h211.1, h211.2.1, h211.2.2, h212, (link_Receive_2_ok k ((List.getD p3 (Int.toNat p2) (Kd.dflt (Kd.pair Kd.bool (Kd.pair (Kd.int .i64) (Kd.pair Kd.str Kd.unit))))).1) (((List.getD p3 (Int.toNat p2) (Kd.dflt (Kd.pair Kd.bool (Kd.pair (Kd.int .i64) (Kd.pair Kd.str Kd.unit))))).2).1) ((((List.getD p3 (Int.toNat p2) (Kd.dflt (Kd.pair Kd.bool (Kd.pair (Kd.int .i64) (Kd.pair Kd.str Kd.unit))))).2).2).1) p4 p5 p6 _ h214), h215, trivial⟩ (slices_DeleteFunc_l1_ok (slices_DeleteFunc_l0 k) ih k p1 p2 p3 x213.2.1 x213.2.2.1 x213.2.2.2 r h)
    · obtain ⟨h218, h⟩ := gd_inv h
      obtain ⟨h219, h⟩ := gd_inv h
      obtain ⟨h220, h⟩ := gd_inv h
      replace h := Option.some.inj h; subst h
      exact Abs.Good.path_ret hm [.reg [], .cond false, .reg [], .reg [], .co (sk 4) 0 (.mv 900001), .keep [sk 4, ek 1000002, ek 1000003, ek 500001, ek 900001], .ren [(1000002, 1000002), (1000003, 1000003), (500001, 700002), (900001, 700001)]] [] Try.func43 (cs := [_, _, _, _, _, _, _]) (by kernel_rfl) ⟨h210, h218.1, h218.2, h219, h218.1, h218.2, h220, trivial⟩ (by kernel_rfl)
theorem slices_DeleteFunc_ok (k : Nat) (a1 : List (Bool × (Int × (ByteArray × Unit)))) (a2 : Int) (a3 : List (Bool × (Int × (ByteArray × Unit)))) (a4 : List (Bool × (Int × (ByteArray × Unit)))) (r : Int × List (Bool × (Int × (ByteArray × Unit))) × List (Bool × (Int × (ByteArray × Unit))) × List (Bool × (Int × (ByteArray × Unit)))) (h : slices_DeleteFunc k a1 a2 a3 a4 = some r) : SpecOk P ⟨43, [.row 1000001 (List.length a1), .fn 44 [.ptr 1000002 0, .ptr 1000003 0]], [(1000001, .row (Kd.pair Kd.bool (Kd.pair (Kd.int .i64) (Kd.pair Kd.str Kd.unit))) 49 a1), (1000002, .box [.p (Kd.int .i64) a2, .p (Kd.sl (Kd.pair Kd.bool (Kd.pair (Kd.int .i64) (Kd.pair Kd.str Kd.unit)))) a3]), (1000003, .box [.row 1000004 (List.length a4)]), (1000004, .row (Kd.pair Kd.bool (Kd.pair (Kd.int .i64) (Kd.pair Kd.str Kd.unit))) 49 a4)], .v (.row 700001 (List.length r.2.2.2)), [(1000002, .box [.p (Kd.int .i64) r.1, .p (Kd.sl (Kd.pair Kd.bool (Kd.pair (Kd.int .i64) (Kd.pair Kd.str Kd.unit)))) r.2.1]), (1000003, .box [.row 700002 (List.length r.2.2.1)]), (700002, .row (Kd.pair Kd.bool (Kd.pair (Kd.int .i64) (Kd.pair Kd.str Kd.unit))) 49 r.2.2.1), (700001, .row (Kd.pair Kd.bool (Kd.pair (Kd.int .i64) (Kd.pair Kd.str Kd.unit))) 49 r.2.2.2)]⟩ := by
  refine spec_at Try.func43 (by kernel_rfl) (Nat.le_of_ble_eq_true (by kernel_rfl)) ?_
  unfold slices_DeleteFunc at h
  obtain ⟨x207, h208, h⟩ := bind_inv h
  rcases br_inv h with ⟨h209, h⟩ | ⟨h209, h⟩
  · replace h := Option.some.inj h; subst h
    exact Abs.Good.path_ret hm [.reg [], .reg [(2, { call := some { lend := [], pass := [(1000001, 1000001), (1000002, 1000002), (1000003, 1000003), (1000004, 1000004)], res := .v (.p (Kd.int .i64) x207.1), outs := [(1000001, .row (Kd.pair Kd.bool (Kd.pair (Kd.int .i64) (Kd.pair Kd.str Kd.unit))) 49 a1), (1000002, .box [.p (Kd.int .i64) x207.2.1, .p (Kd.sl (Kd.pair Kd.bool (Kd.pair (Kd.int .i64) (Kd.pair Kd.str Kd.unit)))) x207.2.2.1]), (1000003, .box [.row 700001 (List.length x207.2.2.2)]), (700001, .row (Kd.pair Kd.bool (Kd.pair (Kd.int .i64) (Kd.pair Kd.str Kd.unit))) 49 x207.2.2.2)], back := [(1000001, 1000001), (1000002, 1000002), (1000003, 1000003), (700001, 2000080)] } })], .reg [], .cond true, .reg [], .keep [sk 4, ek 1000002, ek 1000003, ek 2000080, ek 1000001], .ren [(1000002, 1000002), (1000003, 1000003), (2000080, 700002), (1000001, 700001)]] [] Try.func43 (cs := [_, _]) (by kernel_rfl) ⟨(slices_IndexFunc_ok k a1 a2 a3 a4 _ h208), h209, trivial⟩ (by kernel_rfl)
  · exact Abs.Good.path hm [.reg [], .reg [(2, { call := some { lend := [], pass := [(1000001, 1000001), (1000002, 1000002), (1000003, 1000003), (1000004, 1000004)], res := .v (.p (Kd.int .i64) x207.1), outs := [(1000001, .row (Kd.pair Kd.bool (Kd.pair (Kd.int .i64) (Kd.pair Kd.str Kd.unit))) 49 a1), (1000002, .box [.p (Kd.int .i64) x207.2.1, .p (Kd.sl (Kd.pair Kd.bool (Kd.pair (Kd.int .i64) (Kd.pair Kd.str Kd.unit)))) x207.2.2.1]), (1000003, .box [.row 700001 (List.length x207.2.2.2)]), (700001, .row (Kd.pair Kd.bool (Kd.pair (Kd.int .i64) (Kd.pair Kd.str Kd.unit))) 49 x207.2.2.2)], back := [(1000001, 1000001), (1000002, 1000002), (1000003, 1000003), (700001, 2000080)] } })], .reg [], .cond false, .reg [], .keep [sk 0, sk 1, sk 5, sk 6, ek 1000001, ek 1000002, ek 1000003, ek 2000080], .ren [(1000001, 1000001), (1000002, 1000002), (1000003, 1000003), (2000080, 500001)]] (cs := [_, _]) (by kernel_rfl) ⟨(slices_IndexFunc_ok k a1 a2 a3 a4 _ h208), h209, trivial⟩ (slices_DeleteFunc_l0_ok k x207.1 (IntKind.i64.wrap (x207.1 + (1 : Int))) a1 x207.2.1 x207.2.2.1 x207.2.2.2 r h)

def link_Receive_l3 (k : Nat) (p1 : Int) (p2 : Bool) (p3 : Int) (p4 : List (Bool × (Int × (ByteArray × Unit)))) (p5 : Bool) (p6 : Int) (p7 : ByteArray) (p8 : Int) : Option (Int × List (Bool × (Int × (ByteArray × Unit))) × List (Bool × (Int × (ByteArray × Unit))) × Int) :=
  if p2 = true then
    if 0 + List.length p4 ≤ 4398046511104 then
      if 0 ≤ p1 ∧ p1 ≤ (List.length p4 : Int) ∧ 0 < List.length ([(p5, (p6, (p7, ())))] : List (Bool × (Int × (ByteArray × Unit)))) ∧ List.length p4 + List.length ([(p5, (p6, (p7, ())))] : List (Bool × (Int × (ByteArray × Unit)))) ≤ 4398046511104 then
        some (p3, (List.take (Int.toNat p1) p4 ++ ([(p5, (p6, (p7, ())))] : List (Bool × (Int × (ByteArray × Unit)))) ++ List.drop (Int.toNat p1) p4), ([] : List (Bool × (Int × (ByteArray × Unit)))), (0 : Int))
      else none
    else none
  else
    some (p3, p4, ([] : List (Bool × (Int × (ByteArray × Unit)))), (0 : Int))
def link_Receive_l4 (k : Nat) (p1 : Int) (p2 : List (Bool × (Int × (ByteArray × Unit)))) (p3 : Int) (p4 : List (Bool × (Int × (ByteArray × Unit)))) : Option (Int × List (Bool × (Int × (ByteArray × Unit))) × List (Bool × (Int × (ByteArray × Unit))) × Int) :=
  if 0 + List.length p2 ≤ 4398046511104 then
    Option.bind (slices_DeleteFunc k p2 p1 p2 p4) fun x251 =>
    some (x251.1, x251.2.2.2, x251.2.2.1, (0 : Int))
  else none
def link_Receive_l2 (k : Nat) (p1 : Int) (p2 : Bool) (p3 : Bool) (p4 : Int) (p5 : List (Bool × (Int × (ByteArray × Unit)))) (p6 : Bool) (p7 : Int) (p8 : ByteArray) (p9 : Int) : Option (Int × List (Bool × (Int × (ByteArray × Unit))) × List (Bool × (Int × (ByteArray × Unit))) × Int) :=
  if p3 = true then
    if (!p2) = true then
      link_Receive_l3 k p1 (decide ((List.length p5 : Int) < (64 : Int))) p4 p5 p6 p7 p8 p9
    else
      link_Receive_l3 k p1 false p4 p5 p6 p7 p8 p9
  else
    if (!p6) = true then
      link_Receive_l4 k (IntKind.i64.wrap (p7 + (1 : Int))) p5 p9 ([(p6, (p7, (p8, ())))] : List (Bool × (Int × (ByteArray × Unit))))
    else
      link_Receive_l4 k p7 p5 p9 ([(p6, (p7, (p8, ())))] : List (Bool × (Int × (ByteArray × Unit))))
def link_Receive_l1 (k : Nat) (p1 : Int) (p2 : Bool) (p3 : Bool) (p4 : Int) (p5 : List (Bool × (Int × (ByteArray × Unit)))) (p6 : Bool) (p7 : Int) (p8 : ByteArray) (p9 : Int) : Option (Int × List (Bool × (Int × (ByteArray × Unit))) × List (Bool × (Int × (ByteArray × Unit))) × Int) :=
  if p3 = true then
    some (p4, p5, ([] : List (Bool × (Int × (ByteArray × Unit)))), (0 : Int))
  else
    if (!p6) = true then
      link_Receive_l2 k p1 p2 (decide (p7 > p4)) p4 p5 p6 p7 p8 p9
    else
      link_Receive_l2 k p1 p2 false p4 p5 p6 p7 p8 p9
def link_Receive_l0 (k : Nat) (p1 : Bool) (p2 : Int) (p3 : List (Bool × (Int × (ByteArray × Unit)))) (p4 : Bool) (p5 : Int) (p6 : ByteArray) (p7 : Int) : Option (Int × List (Bool × (Int × (ByteArray × Unit))) × List (Bool × (Int × (ByteArray × Unit))) × Int) :=
  if p1 = true then
    some (p2, p3, ([] : List (Bool × (Int × (ByteArray × Unit)))), (1 : Int))
  else
    Option.bind (slices_BinarySearchFunc k p3 p5) fun x232 =>
    if (decide (p5 < p2)) = true then
      link_Receive_l1 k x232.1 x232.2 (decide (p5 < p2)) p2 p3 p4 p5 p6 p7
    else
      if p4 = true then
        link_Receive_l1 k x232.1 x232.2 (p5 == p2) p2 p3 p4 p5 p6 p7
      else
        link_Receive_l1 k x232.1 x232.2 false p2 p3 p4 p5 p6 p7
def link_Receive (k : Nat) (a1 : Int) (a2 : List (Bool × (Int × (ByteArray × Unit)))) (a3 : Bool) (a4 : Int) (a5 : ByteArray) : Option (Int × List (Bool × (Int × (ByteArray × Unit))) × List (Bool × (Int × (ByteArray × Unit))) × Int) :=
  Option.bind (link_ValidIn k a1 a2) fun x223 =>
  if (!x223) = true then
    link_Receive_l0 k true a1 a2 a3 a4 a5 (0 : Int)
  else
    Option.bind (link_within k a4 (1099511627776 : Int)) fun x226 =>
    if (!x226) = true then
      link_Receive_l0 k true a1 a2 a3 a4 a5 (0 : Int)
    else
      Option.bind (link_isBody k a5) fun x229 =>
      link_Receive_l0 k (!x229) a1 a2 a3 a4 a5 (0 : Int)
theorem link_Receive_l3_ok (k : Nat) (p1 : Int) (p2 : Bool) (p3 : Int) (p4 : List (Bool × (Int × (ByteArray × Unit)))) (p5 : Bool) (p6 : Int) (p7 : ByteArray) (p8 : Int) (r : Int × List (Bool × (Int × (ByteArray × Unit))) × List (Bool × (Int × (ByteArray × Unit))) × Int) (h : link_Receive_l3 k p1 p2 p3 p4 p5 p6 p7 p8 = some r) :
    Abs.Good P 23 Try.f23.ntmps [] [] (.t [.agg [.p (Kd.int .i64) r.1, .p (Kd.sl (Kd.pair Kd.bool (Kd.pair (Kd.int .i64) (Kd.pair Kd.str Kd.unit)))) r.2.1], .p (Kd.sl (Kd.pair Kd.bool (Kd.pair (Kd.int .i64) (Kd.pair Kd.str Kd.unit)))) r.2.2.1, .p (Kd.int .i64) r.2.2.2]) (pos Try.f23 [.r, .r, .c false, .r, .r, .c true, .c false, .r, .c true, .r]) [(sk 2, some (.v (.ptr 503001 0))), (sk 3, some (.v (.ptr 503002 0))), (sk 4, some (.v (.ptr 503003 0))), (sk 7, some (.v (.p (Kd.int .i64) p1))), (sk 68, some (.v (.p Kd.bool p2))), (ek 503001, some (.box [.p (Kd.int .i64) p3, .p (Kd.sl (Kd.pair Kd.bool (Kd.pair (Kd.int .i64) (Kd.pair Kd.str Kd.unit)))) p4])), (ek 503002, some (.box [.p Kd.bool p5, .p (Kd.int .i64) p6, .p Kd.str p7])), (ek 503003, some (.box [.p (Kd.int .i64) p8, .nilsl]))] := by
  unfold link_Receive_l3 at h
  rcases br_inv h with ⟨h241, h⟩ | ⟨h241, h⟩
  · obtain ⟨h244, h⟩ := gd_inv h
    obtain ⟨h247, h⟩ := gd_inv h
    replace h := Option.some.inj h; subst h
    exact Abs.Good.path_ret hm [.cond true, .reg [(2, { call := some { lend := [], pass := [], res := .v (.row 700001 (List.length p4)), outs := [(700001, .row (Kd.pair Kd.bool (Kd.pair (Kd.int .i64) (Kd.pair Kd.str Kd.unit))) 49 p4)], back := [(700001, 2000568)] } }), (6, { call := some { lend := [], pass := [(2000568, 1000001), (74, 1000002)], res := .v (.row 700001 (List.length (List.take (Int.toNat p1) p4 ++ ([(p5, (p6, (p7, ())))] : List (Bool × (Int × (ByteArray × Unit)))) ++ List.drop (Int.toNat p1) p4))), outs := [(700001, .row (Kd.pair Kd.bool (Kd.pair (Kd.int .i64) (Kd.pair Kd.str Kd.unit))) 49 (List.take (Int.toNat p1) p4 ++ ([(p5, (p6, (p7, ())))] : List (Bool × (Int × (ByteArray × Unit)))) ++ List.drop (Int.toNat p1) p4))], back := [(700001, 2000600)] } })], .reg [], .co (sk 5) 0 (.nsl (Kd.pair Kd.bool (Kd.pair (Kd.int .i64) (Kd.pair Kd.str Kd.unit))))] [2000600] Try.func23 (cs := [_, _, _, _]) (by kernel_rfl) ⟨h241, (clone42_ok p4 h244), (insert41_ok p4 p1 ([(p5, (p6, (p7, ())))] : List (Bool × (Int × (ByteArray × Unit)))) h247.1 h247.2.1 h247.2.2.1 h247.2.2.2), (rfl : (List.length (List.take (Int.toNat p1) p4 ++ ([(p5, (p6, (p7, ())))] : List (Bool × (Int × (ByteArray × Unit)))) ++ List.drop (Int.toNat p1) p4)) = List.length (List.take (Int.toNat p1) p4 ++ ([(p5, (p6, (p7, ())))] : List (Bool × (Int × (ByteArray × Unit)))) ++ List.drop (Int.toNat p1) p4)), trivial⟩ (by kernel_rfl)
  · replace h := Option.some.inj h; subst h
    exact Abs.Good.path_ret hm [.cond false, .reg [], .co (sk 5) 0 (.nsl (Kd.pair Kd.bool (Kd.pair (Kd.int .i64) (Kd.pair Kd.str Kd.unit))))] [] Try.func23 (cs := [_]) (by kernel_rfl) ⟨h241, trivial⟩ (by kernel_rfl)
theorem link_Receive_l4_ok (k : Nat) (p1 : Int) (p2 : List (Bool × (Int × (ByteArray × Unit)))) (p3 : Int) (p4 : List (Bool × (Int × (ByteArray × Unit)))) (r : Int × List (Bool × (Int × (ByteArray × Unit))) × List (Bool × (Int × (ByteArray × Unit))) × Int) (h : link_Receive_l4 k p1 p2 p3 p4 = some r) :
    Abs.Good P 23 Try.f23.ntmps [] [] (.t [.agg [.p (Kd.int .i64) r.1, .p (Kd.sl (Kd.pair Kd.bool (Kd.pair (Kd.int .i64) (Kd.pair Kd.str Kd.unit)))) r.2.1], .p (Kd.sl (Kd.pair Kd.bool (Kd.pair (Kd.int .i64) (Kd.pair Kd.str Kd.unit)))) r.2.2.1, .p (Kd.int .i64) r.2.2.2]) (pos Try.f23 [.r, .r, .c false, .r, .r, .c true, .c false, .r, .c false, .r, .r, .r, .c false]) [(sk 2, some (.v (.ptr 504001 0))), (sk 4, some (.v (.ptr 504002 0))), (sk 9, some (.v (.ptr 504003 0))), (ek 504001, some (.box [.p (Kd.int .i64) p1, .p (Kd.sl (Kd.pair Kd.bool (Kd.pair (Kd.int .i64) (Kd.pair Kd.str Kd.unit)))) p2])), (ek 504002, some (.box [.p (Kd.int .i64) p3, .nilsl])), (ek 504003, some (.box [.row 504004 (List.length p4)])), (ek 504004, some (.row (Kd.pair Kd.bool (Kd.pair (Kd.int .i64) (Kd.pair Kd.str Kd.unit))) 49 p4))] := by
  unfold link_Receive_l4 at h
  obtain ⟨h250, h⟩ := gd_inv h
  obtain ⟨x251, h252, h⟩ := bind_inv h
  replace h := Option.some.inj h; subst h
  exact Abs.Good.path_ret hm [.reg [(2, { call := some { lend := [], pass := [], res := .v (.row 700001 (List.length p2)), outs := [(700001, .row (Kd.pair Kd.bool (Kd.pair (Kd.int .i64) (Kd.pair Kd.str Kd.unit))) 49 p2)], back := [(700001, 2000736)] } }), (4, { call := some { lend := [], pass := [(2000736, 1000001), (504001, 1000002), (504003, 1000003), (504004, 1000004)], res := .v (.row 700001 (List.length x251.2.2.2)), outs := [(1000002, .box [.p (Kd.int .i64) x251.1, .p (Kd.sl (Kd.pair Kd.bool (Kd.pair (Kd.int .i64) (Kd.pair Kd.str Kd.unit)))) x251.2.1]), (1000003, .box [.row 700002 (List.length x251.2.2.1)]), (700002, .row (Kd.pair Kd.bool (Kd.pair (Kd.int .i64) (Kd.pair Kd.str Kd.unit))) 49 x251.2.2.1), (700001, .row (Kd.pair Kd.bool (Kd.pair (Kd.int .i64) (Kd.pair Kd.str Kd.unit))) 49 x251.2.2.2)], back := [(1000002, 504001), (1000003, 504003), (700002, 2000752), (700001, 2000753)] } })], .reg []] [2000753, 2000752] Try.func23 (cs := [_, _, _, _]) (by kernel_rfl) ⟨(clone42_ok p2 h250), (slices_DeleteFunc_ok k p2 p1 p2 p4 _ h252), (rfl : (List.length x251.2.2.2) = List.length x251.2.2.2), (rfl : (List.length x251.2.2.1) = List.length x251.2.2.1), trivial⟩ (by kernel_rfl)
theorem link_Receive_l2_ok (k : Nat) (p1 : Int) (p2 : Bool) (p3 : Bool) (p4 : Int) (p5 : List (Bool × (Int × (ByteArray × Unit)))) (p6 : Bool) (p7 : Int) (p8 : ByteArray) (p9 : Int) (r : Int × List (Bool × (Int × (ByteArray × Unit))) × List (Bool × (Int × (ByteArray × Unit))) × Int) (h : link_Receive_l2 k p1 p2 p3 p4 p5 p6 p7 p8 p9 = some r) :
    Abs.Good P 23 Try.f23.ntmps [] [] (.t [.agg [.p (Kd.int .i64) r.1, .p (Kd.sl (Kd.pair Kd.bool (Kd.pair (Kd.int .i64) (Kd.pair Kd.str Kd.unit)))) r.2.1], .p (Kd.sl (Kd.pair Kd.bool (Kd.pair (Kd.int .i64) (Kd.pair Kd.str Kd.unit)))) r.2.2.1, .p (Kd.int .i64) r.2.2.2]) (pos Try.f23 [.r, .r, .c false, .r, .r, .c true, .c false, .r]) [(sk 2, some (.v (.ptr 502001 0))), (sk 3, some (.v (.ptr 502002 0))), (sk 4, some (.v (.ptr 502003 0))), (sk 7, some (.v (.p (Kd.int .i64) p1))), (sk 8, some (.v (.p Kd.bool p2))), (sk 50, some (.v (.p Kd.bool p3))), (ek 502001, some (.box [.p (Kd.int .i64) p4, .p (Kd.sl (Kd.pair Kd.bool (Kd.pair (Kd.int .i64) (Kd.pair Kd.str Kd.unit)))) p5])), (ek 502002, some (.box [.p Kd.bool p6, .p (Kd.int .i64) p7, .p Kd.str p8])), (ek 502003, some (.box [.p (Kd.int .i64) p9, .nilsl]))] := by
  unfold link_Receive_l2 at h
  rcases br_inv h with ⟨h238, h⟩ | ⟨h238, h⟩
  · rcases br_inv h with ⟨h239, h⟩ | ⟨h239, h⟩
    · exact Abs.Good.path hm [.cond true, .reg [(3, { dec := some true }), (4, { dec := some true }), (5, { dec := some true }), (6, { dec := some true }), (7, { pick := some true })], .keep [sk 2, sk 3, sk 4, sk 7, sk 68, ek 502001, ek 502002, ek 502003], .ren [(502001, 503001), (502002, 503002), (502003, 503003)]] (cs := [_, _, _, _, _, _]) (by kernel_rfl) ⟨h238, h239, h239, h239, h239, h239, trivial⟩ (link_Receive_l3_ok k p1 (decide ((List.length p5 : Int) < (64 : Int))) p4 p5 p6 p7 p8 p9 r h)
    · exact Abs.Good.path hm [.cond true, .reg [(3, { dec := some false }), (4, { dec := some false }), (5, { dec := some false }), (6, { dec := some false }), (7, { pick := some false })], .keep [sk 2, sk 3, sk 4, sk 7, sk 68, ek 502001, ek 502002, ek 502003], .ren [(502001, 503001), (502002, 503002), (502003, 503003)]] (cs := [_, _, _, _, _, _]) (by kernel_rfl) ⟨h238, h239, h239, h239, h239, h239, trivial⟩ (link_Receive_l3_ok k p1 false p4 p5 p6 p7 p8 p9 r h)
  · rcases br_inv h with ⟨h240, h⟩ | ⟨h240, h⟩
    · exact Abs.Good.path hm [.cond false, .reg [], .reg [], .reg [], .cond true, .reg [], .keep [sk 2, sk 4, sk 9, ek 502001, ek 502003, ek 9, ek 79], .ren [(502001, 504001), (502003, 504002), (9, 504003), (79, 504004)]] (cs := [_, _]) (by kernel_rfl) ⟨h238, h240, trivial⟩ (link_Receive_l4_ok k (IntKind.i64.wrap (p7 + (1 : Int))) p5 p9 ([(p6, (p7, (p8, ())))] : List (Bool × (Int × (ByteArray × Unit)))) r h)
    · exact Abs.Good.path hm [.cond false, .reg [], .reg [], .reg [], .cond false, .keep [sk 2, sk 4, sk 9, ek 502001, ek 502003, ek 9, ek 79], .ren [(502001, 504001), (502003, 504002), (9, 504003), (79, 504004)]] (cs := [_, _]) (by kernel_rfl) ⟨h238, h240, trivial⟩ (link_Receive_l4_ok k p7 p5 p9 ([(p6, (p7, (p8, ())))] : List (Bool × (Int × (ByteArray × Unit)))) r h)
theorem link_Receive_l1_ok (k : Nat) (p1 : Int) (p2 : Bool) (p3 : Bool) (p4 : Int) (p5 : List (Bool × (Int × (ByteArray × Unit)))) (p6 : Bool) (p7 : Int) (p8 : ByteArray) (p9 : Int) (r : Int × List (Bool × (Int × (ByteArray × Unit))) × List (Bool × (Int × (ByteArray × Unit))) × Int) (h : link_Receive_l1 k p1 p2 p3 p4 p5 p6 p7 p8 p9 = some r) :
    Abs.Good P 23 Try.f23.ntmps [] [] (.t [.agg [.p (Kd.int .i64) r.1, .p (Kd.sl (Kd.pair Kd.bool (Kd.pair (Kd.int .i64) (Kd.pair Kd.str Kd.unit)))) r.2.1], .p (Kd.sl (Kd.pair Kd.bool (Kd.pair (Kd.int .i64) (Kd.pair Kd.str Kd.unit)))) r.2.2.1, .p (Kd.int .i64) r.2.2.2]) (pos Try.f23 [.r, .r, .c false, .r, .r, .c true]) [(sk 2, some (.v (.ptr 501001 0))), (sk 3, some (.v (.ptr 501002 0))), (sk 4, some (.v (.ptr 501003 0))), (sk 7, some (.v (.p (Kd.int .i64) p1))), (sk 8, some (.v (.p Kd.bool p2))), (sk 34, some (.v (.p Kd.bool p3))), (ek 501001, some (.box [.p (Kd.int .i64) p4, .p (Kd.sl (Kd.pair Kd.bool (Kd.pair (Kd.int .i64) (Kd.pair Kd.str Kd.unit)))) p5])), (ek 501002, some (.box [.p Kd.bool p6, .p (Kd.int .i64) p7, .p Kd.str p8])), (ek 501003, some (.box [.p (Kd.int .i64) p9, .nilsl]))] := by
  unfold link_Receive_l1 at h
  rcases br_inv h with ⟨h236, h⟩ | ⟨h236, h⟩
  · replace h := Option.some.inj h; subst h
    exact Abs.Good.path_ret hm [.cond true, .reg [], .co (sk 5) 0 (.nsl (Kd.pair Kd.bool (Kd.pair (Kd.int .i64) (Kd.pair Kd.str Kd.unit))))] [] Try.func23 (cs := [_]) (by kernel_rfl) ⟨h236, trivial⟩ (by kernel_rfl)
  · rcases br_inv h with ⟨h237, h⟩ | ⟨h237, h⟩
    · exact Abs.Good.path hm [.cond false, .reg [(4, { dec := some true }), (5, { dec := some true }), (6, { dec := some true }), (7, { dec := some true }), (8, { dec := some true }), (9, { pick := some true })], .keep [sk 2, sk 3, sk 4, sk 7, sk 8, sk 50, ek 501001, ek 501002, ek 501003], .ren [(501001, 502001), (501002, 502002), (501003, 502003)]] (cs := [_, _, _, _, _, _, _]) (by kernel_rfl) ⟨h236, h237, h237, h237, h237, h237, h237, trivial⟩ (link_Receive_l2_ok k p1 p2 (decide (p7 > p4)) p4 p5 p6 p7 p8 p9 r h)
    · exact Abs.Good.path hm [.cond false, .reg [(4, { dec := some false }), (5, { dec := some false }), (6, { dec := some false }), (7, { dec := some false }), (8, { dec := some false }), (9, { pick := some false })], .keep [sk 2, sk 3, sk 4, sk 7, sk 8, sk 50, ek 501001, ek 501002, ek 501003], .ren [(501001, 502001), (501002, 502002), (501003, 502003)]] (cs := [_, _, _, _, _, _, _]) (by kernel_rfl) ⟨h236, h237, h237, h237, h237, h237, h237, trivial⟩ (link_Receive_l2_ok k p1 p2 false p4 p5 p6 p7 p8 p9 r h)
theorem link_Receive_l0_ok (k : Nat) (p1 : Bool) (p2 : Int) (p3 : List (Bool × (Int × (ByteArray × Unit)))) (p4 : Bool) (p5 : Int) (p6 : ByteArray) (p7 : Int) (r : Int × List (Bool × (Int × (ByteArray × Unit))) × List (Bool × (Int × (ByteArray × Unit))) × Int) (h : link_Receive_l0 k p1 p2 p3 p4 p5 p6 p7 = some r) :
    Abs.Good P 23 Try.f23.ntmps [] [] (.t [.agg [.p (Kd.int .i64) r.1, .p (Kd.sl (Kd.pair Kd.bool (Kd.pair (Kd.int .i64) (Kd.pair Kd.str Kd.unit)))) r.2.1], .p (Kd.sl (Kd.pair Kd.bool (Kd.pair (Kd.int .i64) (Kd.pair Kd.str Kd.unit)))) r.2.2.1, .p (Kd.int .i64) r.2.2.2]) (pos Try.f23 [.r, .r]) [(sk 2, some (.v (.ptr 500001 0))), (sk 3, some (.v (.ptr 500002 0))), (sk 4, some (.v (.ptr 500003 0))), (sk 24, some (.v (.p Kd.bool p1))), (ek 500001, some (.box [.p (Kd.int .i64) p2, .p (Kd.sl (Kd.pair Kd.bool (Kd.pair (Kd.int .i64) (Kd.pair Kd.str Kd.unit)))) p3])), (ek 500002, some (.box [.p Kd.bool p4, .p (Kd.int .i64) p5, .p Kd.str p6])), (ek 500003, some (.box [.p (Kd.int .i64) p7, .nilsl]))] := by
  unfold link_Receive_l0 at h
  rcases br_inv h with ⟨h231, h⟩ | ⟨h231, h⟩
  · replace h := Option.some.inj h; subst h
    exact Abs.Good.path_ret hm [.cond true, .reg [], .co (sk 5) 0 (.nsl (Kd.pair Kd.bool (Kd.pair (Kd.int .i64) (Kd.pair Kd.str Kd.unit))))] [] Try.func23 (cs := [_]) (by kernel_rfl) ⟨h231, trivial⟩ (by kernel_rfl)
  · obtain ⟨x232, h233, h⟩ := bind_inv h
    rcases br_inv h with ⟨h234, h⟩ | ⟨h234, h⟩
    · exact Abs.Good.path hm [.cond false, .reg [(4, { call := some { lend := [], pass := [], res := .t [.p (Kd.int .i64) x232.1, .p Kd.bool x232.2], outs := [], back := [] } })], .reg [], .cond true, .keep [sk 2, sk 3, sk 4, sk 7, sk 8, sk 34, ek 500001, ek 500002, ek 500003], .ren [(500001, 501001), (500002, 501002), (500003, 501003)]] (cs := [_, _, _]) (by kernel_rfl) ⟨h231, (slices_BinarySearchFunc_ok k p3 p5 _ h233), h234, trivial⟩ (link_Receive_l1_ok k x232.1 x232.2 (decide (p5 < p2)) p2 p3 p4 p5 p6 p7 r h)
    · rcases br_inv h with ⟨h235, h⟩ | ⟨h235, h⟩
      · exact Abs.Good.path hm [.cond false, .reg [(4, { call := some { lend := [], pass := [], res := .t [.p (Kd.int .i64) x232.1, .p Kd.bool x232.2], outs := [], back := [] } })], .reg [], .cond false, .reg [(3, { dec := some true }), (4, { dec := some true }), (5, { dec := some true }), (6, { dec := some true }), (7, { dec := some true }), (8, { pick := some true })], .keep [sk 2, sk 3, sk 4, sk 7, sk 8, sk 34, ek 500001, ek 500002, ek 500003], .ren [(500001, 501001), (500002, 501002), (500003, 501003)]] (cs := [_, _, _, _, _, _, _, _, _]) (by kernel_rfl) ⟨h231, (slices_BinarySearchFunc_ok k p3 p5 _ h233), h234, h235, h235, h235, h235, h235, h235, trivial⟩ (link_Receive_l1_ok k x232.1 x232.2 (p5 == p2) p2 p3 p4 p5 p6 p7 r h)
      · exact Abs.Good.path hm [.cond false, .reg [(4, { call := some { lend := [], pass := [], res := .t [.p (Kd.int .i64) x232.1, .p Kd.bool x232.2], outs := [], back := [] } })], .reg [], .cond false, .reg [(3, { dec := some false }), (4, { dec := some false }), (5, { dec := some false }), (6, { dec := some false }), (7, { dec := some false }), (8, { pick := some false })], .keep [sk 2, sk 3, sk 4, sk 7, sk 8, sk 34, ek 500001, ek 500002, ek 500003], .ren [(500001, 501001), (500002, 501002), (500003, 501003)]] (cs := [_, _, _, _, _, _, _, _, _]) (by kernel_rfl) ⟨h231, (slices_BinarySearchFunc_ok k p3 p5 _ h233), h234, h235, h235, h235, h235, h235, h235, trivial⟩ (link_Receive_l1_ok k x232.1 x232.2 false p2 p3 p4 p5 p6 p7 r h)
theorem link_Receive_ok (k : Nat) (a1 : Int) (a2 : List (Bool × (Int × (ByteArray × Unit)))) (a3 : Bool) (a4 : Int) (a5 : ByteArray) (r : Int × List (Bool × (Int × (ByteArray × Unit))) × List (Bool × (Int × (ByteArray × Unit))) × Int) (h : link_Receive k a1 a2 a3 a4 a5 = some r) : SpecOk P ⟨23, [.agg [.p (Kd.int .i64) a1, .p (Kd.sl (Kd.pair Kd.bool (Kd.pair (Kd.int .i64) (Kd.pair Kd.str Kd.unit)))) a2], .agg [.p Kd.bool a3, .p (Kd.int .i64) a4, .p Kd.str a5]], [], .t [.agg [.p (Kd.int .i64) r.1, .p (Kd.sl (Kd.pair Kd.bool (Kd.pair (Kd.int .i64) (Kd.pair Kd.str Kd.unit)))) r.2.1], .p (Kd.sl (Kd.pair Kd.bool (Kd.pair (Kd.int .i64) (Kd.pair Kd.str Kd.unit)))) r.2.2.1, .p (Kd.int .i64) r.2.2.2], []⟩ := by
  refine spec_at Try.func23 (by kernel_rfl) (Nat.le_of_ble_eq_true (by kernel_rfl)) ?_
  unfold link_Receive at h
  obtain ⟨x223, h224, h⟩ := bind_inv h
  rcases br_inv h with ⟨h225, h⟩ | ⟨h225, h⟩
  · exact Abs.Good.path hm [.reg [], .reg [(1, { call := some { lend := [], pass := [], res := .v (.p Kd.bool x223), outs := [], back := [] } }), (4, { dec := some true }), (5, { dec := some true }), (6, { dec := some true }), (7, { dec := some true }), (8, { pick := some true }), (10, { dec := some true }), (11, { dec := some true }), (12, { dec := some true }), (13, { dec := some true }), (14, { pick := some true })], .keep [sk 2, sk 3, sk 4, sk 24, ek 2, ek 3, ek 4], .ren [(2, 500001), (3, 500002), (4, 500003)]] (cs := [_, _, _, _, _, _, _, _, _, _, _]) (by kernel_rfl) ⟨(link_ValidIn_ok k a1 a2 _ h224), h225, h225, h225, h225, h225, (rfl : true = true), (rfl : true = true), (rfl : true = true), (rfl : true = true), (rfl : true = true), trivial⟩ (link_Receive_l0_ok k true a1 a2 a3 a4 a5 (0 : Int) r h)
  · obtain ⟨x226, h227, h⟩ := bind_inv h
    rcases br_inv h with ⟨h228, h⟩ | ⟨h228, h⟩
    · exact Abs.Good.path hm [.reg [], .reg [(1, { call := some { lend := [], pass := [], res := .v (.p Kd.bool x223), outs := [], back := [] } }), (4, { dec := some false }), (5, { dec := some false }), (6, { dec := some false, call := some { lend := [], pass := [], res := .v (.p Kd.bool x226), outs := [], back := [] } }), (7, { dec := some false }), (8, { pick := some false }), (10, { dec := some true }), (11, { dec := some true }), (12, { dec := some true }), (13, { dec := some true }), (14, { pick := some true })], .keep [sk 2, sk 3, sk 4, sk 24, ek 2, ek 3, ek 4], .ren [(2, 500001), (3, 500002), (4, 500003)]] (cs := [_, _, _, _, _, _, _, _, _, _, _, _]) (by kernel_rfl) ⟨(link_ValidIn_ok k a1 a2 _ h224), h225, h225, h225, (link_within_ok k a4 (1099511627776 : Int) _ h227), h225, h225, h228, h228, h228, h228, h228, trivial⟩ (link_Receive_l0_ok k true a1 a2 a3 a4 a5 (0 : Int) r h)
    · obtain ⟨x229, h230, h⟩ := bind_inv h
      exact Abs.Good.path hm [.reg [], .reg [(1, { call := some { lend := [], pass := [], res := .v (.p Kd.bool x223), outs := [], back := [] } }), (4, { dec := some false }), (5, { dec := some false }), (6, { dec := some false, call := some { lend := [], pass := [], res := .v (.p Kd.bool x226), outs := [], back := [] } }), (7, { dec := some false }), (8, { pick := some false }), (10, { dec := some false }), (11, { dec := some false }), (12, { dec := some false, call := some { lend := [], pass := [], res := .v (.p Kd.bool x229), outs := [], back := [] } }), (13, { dec := some false }), (14, { pick := some false })], .keep [sk 2, sk 3, sk 4, sk 24, ek 2, ek 3, ek 4], .ren [(2, 500001), (3, 500002), (4, 500003)]] (cs := [_, _, _, _, _, _, _, _, _, _, _, _, _]) (by kernel_rfl) ⟨(link_ValidIn_ok k a1 a2 _ h224), h225, h225, h225, (link_within_ok k a4 (1099511627776 : Int) _ h227), h225, h225, h228, h228, h228, (link_isBody_ok k a5 _ h230), h228, h228, trivial⟩ (link_Receive_l0_ok k (!x229) a1 a2 a3 a4 a5 (0 : Int) r h)

def link_ValidOut_1 (k : Nat) (a1 : ByteArray) : Option (Bool) :=
  Option.bind (link_isBody k a1) fun x6 =>
  some ((!x6))
theorem link_ValidOut_1_ok (k : Nat) (a1 : ByteArray) (r : Bool) (h : link_ValidOut_1 k a1 = some r) : SpecOk P ⟨38, [.p Kd.str a1], [], .v (.p Kd.bool r), []⟩ := by
  refine spec_at Try.func38 (by kernel_rfl) (Nat.le_of_ble_eq_true (by kernel_rfl)) ?_
  unfold link_ValidOut_1 at h
  obtain ⟨x6, h7, h⟩ := bind_inv h
  replace h := Option.some.inj h; subst h
  exact Abs.Good.path_ret hm [.reg [], .reg [(1, { call := some { lend := [], pass := [], res := .v (.p Kd.bool x6), outs := [], back := [] } })]] [] Try.func38 (cs := [_]) (by kernel_rfl) ⟨(link_isBody_ok k a1 _ h7), trivial⟩ (by kernel_rfl)

def slices_IndexFunc_49_l0 : Nat → List ByteArray → Int → Int → Option (Int)
  | 0, _, _, _ => none
  | k + 1, p1, p2, p3 =>
    if (decide (p3 < p2)) = true then
      if 0 ≤ p3 ∧ p3 < (List.length p1 : Int) then
        Option.bind (link_ValidOut_1 k (List.getD p1 (Int.toNat p3) (Kd.dflt Kd.str))) fun x13 =>
        if x13 = true then
          some (p3)
        else
          slices_IndexFunc_49_l0 k p1 p2 (IntKind.i64.wrap (p3 + (1 : Int)))
      else none
    else
      some ((-1 : Int))
def slices_IndexFunc_49 (k : Nat) (a1 : List ByteArray) : Option (Int) :=
  slices_IndexFunc_49_l0 k a1 (List.length a1 : Int) (0 : Int)
theorem slices_IndexFunc_49_l0_ok (k : Nat) : ∀ (p1 : List ByteArray) (p2 : Int) (p3 : Int) (r : Int), slices_IndexFunc_49_l0 k p1 p2 p3 = some r →
    Abs.Good P 49 Try.f49.ntmps [] [] (.v (.p (Kd.int .i64) r)) (pos Try.f49 [.r, .r]) [(sk 0, some (.v (.p (Kd.sl Kd.str) p1))), (sk 1, some (.v (.fn 38 []))), (sk 7, some (.v (.p (Kd.int .i64) p2))), (sk 8, some (.v (.p (Kd.int .i64) p3)))] := by
  induction k with
  | zero => intro p1 p2 p3 r h; cases h
  | succ k ih =>
    intro p1 p2 p3 r h
    unfold slices_IndexFunc_49_l0 at h
    rcases br_inv h with ⟨h11, h⟩ | ⟨h11, h⟩
    · obtain ⟨h12, h⟩ := gd_inv h
      obtain ⟨x13, h14, h⟩ := bind_inv h
      rcases br_inv h with ⟨h15, h⟩ | ⟨h15, h⟩
      · replace h := Option.some.inj h; subst h
        exact Abs.Good.path_ret hm [.reg [], .cond true, .reg [], .reg [(5, { call := some { lend := [], pass := [], res := .v (.p Kd.bool x13), outs := [], back := [] } })], .cond true, .reg []] [] Try.func49 (cs := [_, _, _, _, _]) (by kernel_rfl) ⟨h11, h12.1, h12.2, (link_ValidOut_1_ok k (List.getD p1 (Int.toNat p3) (Kd.dflt Kd.str)) _ h14), h15, trivial⟩ (by kernel_rfl)
      · exact Abs.Good.path hm [.reg [], .cond true, .reg [], .reg [(5, { call := some { lend := [], pass := [], res := .v (.p Kd.bool x13), outs := [], back := [] } })], .cond false, .reg [], .keep [sk 0, sk 1, sk 7, sk 8]] (cs := [_, _, _, _, _]) (by kernel_rfl) ⟨h11, h12.1, h12.2, (link_ValidOut_1_ok k (List.getD p1 (Int.toNat p3) (Kd.dflt Kd.str)) _ h14), h15, trivial⟩ (ih p1 p2 (IntKind.i64.wrap (p3 + (1 : Int))) r h)
    · replace h := Option.some.inj h; subst h
      exact Abs.Good.path_ret hm [.reg [], .cond false, .reg []] [] Try.func49 (cs := [_]) (by kernel_rfl) ⟨h11, trivial⟩ (by kernel_rfl)
theorem slices_IndexFunc_49_ok (k : Nat) (a1 : List ByteArray) (r : Int) (h : slices_IndexFunc_49 k a1 = some r) : SpecOk P ⟨49, [.p (Kd.sl Kd.str) a1, .fn 38 []], [], .v (.p (Kd.int .i64) r), []⟩ := by
  refine spec_at Try.func49 (by kernel_rfl) (Nat.le_of_ble_eq_true (by kernel_rfl)) ?_
  unfold slices_IndexFunc_49 at h
  exact Abs.Good.path hm [.reg [], .reg [], .keep [sk 0, sk 1, sk 7, sk 8]] (cs := []) (by kernel_rfl) trivial (slices_IndexFunc_49_l0_ok k a1 (List.length a1 : Int) (0 : Int) r h)

def slices_ContainsFunc (k : Nat) (a1 : List ByteArray) : Option (Bool) :=
  Option.bind (slices_IndexFunc_49 k a1) fun x18 =>
  some ((decide (x18 ≥ (0 : Int))))
theorem slices_ContainsFunc_ok (k : Nat) (a1 : List ByteArray) (r : Bool) (h : slices_ContainsFunc k a1 = some r) : SpecOk P ⟨37, [.p (Kd.sl Kd.str) a1, .fn 38 []], [], .v (.p Kd.bool r), []⟩ := by
  refine spec_at Try.func37 (by kernel_rfl) (Nat.le_of_ble_eq_true (by kernel_rfl)) ?_
  unfold slices_ContainsFunc at h
  obtain ⟨x18, h19, h⟩ := bind_inv h
  replace h := Option.some.inj h; subst h
  exact Abs.Good.path_ret hm [.reg [], .reg [(2, { call := some { lend := [], pass := [], res := .v (.p (Kd.int .i64) x18), outs := [], back := [] } })]] [] Try.func37 (cs := [_]) (by kernel_rfl) ⟨(slices_IndexFunc_49_ok k a1 _ h19), trivial⟩ (by kernel_rfl)

def link_end (k : Nat) (a1 : Int) (a2 : Int) (a3 : ByteArray) (a4 : List ByteArray) : Option (Int) :=
  some ((IntKind.i64.wrap (a1 + (List.length a4 : Int))))
theorem link_end_ok (k : Nat) (a1 : Int) (a2 : Int) (a3 : ByteArray) (a4 : List ByteArray) (r : Int) (h : link_end k a1 a2 a3 a4 = some r) : SpecOk P ⟨32, [.agg [.p (Kd.int .i64) a1, .p (Kd.int .i64) a2, .p Kd.str a3, .p (Kd.sl Kd.str) a4]], [], .v (.p (Kd.int .i64) r), []⟩ := by
  refine spec_at Try.func32 (by kernel_rfl) (Nat.le_of_ble_eq_true (by kernel_rfl)) ?_
  unfold link_end at h
  replace h := Option.some.inj h; subst h
  exact Abs.Good.path_ret hm [.reg [], .reg []] [] Try.func32 (cs := []) (by kernel_rfl) trivial (by kernel_rfl)

def link_ValidOut (k : Nat) (a1 : Int) (a2 : Int) (a3 : ByteArray) (a4 : List ByteArray) : Option (Bool) :=
  Option.bind (slices_ContainsFunc k a4) fun x34 =>
  Option.bind (link_within k a1 (1099511627776 : Int)) fun x36 =>
  if x36 = true then
    Option.bind (link_end k a1 a2 a3 a4) fun x39 =>
    Option.bind (link_within k a2 (mm false (1099511627776 : Int) x39)) fun x41 =>
    if x41 = true then
      if (decide ((List.length a4 : Int) ≤ (1000 : Int))) = true then
        Option.bind (link_isBody k a3) fun x45 =>
        if x45 = true then
          some ((!x34))
        else
          some (false)
      else
        some (false)
    else
      some (false)
  else
    some (false)
theorem link_ValidOut_ok (k : Nat) (a1 : Int) (a2 : Int) (a3 : ByteArray) (a4 : List ByteArray) (r : Bool) (h : link_ValidOut k a1 a2 a3 a4 = some r) : SpecOk P ⟨18, [.agg [.p (Kd.int .i64) a1, .p (Kd.int .i64) a2, .p Kd.str a3, .p (Kd.sl Kd.str) a4]], [], .v (.p Kd.bool r), []⟩ := by
  refine spec_at Try.func18 (by kernel_rfl) (Nat.le_of_ble_eq_true (by kernel_rfl)) ?_
  unfold link_ValidOut at h
  obtain ⟨x34, h35, h⟩ := bind_inv h
  obtain ⟨x36, h37, h⟩ := bind_inv h
  rcases br_inv h with ⟨h38, h⟩ | ⟨h38, h⟩
  · obtain ⟨x39, h40, h⟩ := bind_inv h
    obtain ⟨x41, h42, h⟩ := bind_inv h
    rcases br_inv h with ⟨h43, h⟩ | ⟨h43, h⟩
    · rcases br_inv h with ⟨h44, h⟩ | ⟨h44, h⟩
      · obtain ⟨x45, h46, h⟩ := bind_inv h
        rcases br_inv h with ⟨h47, h⟩ | ⟨h47, h⟩
        · replace h := Option.some.inj h; subst h
          exact Abs.Good.path_ret hm [.reg [], .reg [(2, { call := some { lend := [], pass := [], res := .v (.p Kd.bool x34), outs := [], back := [] } })], .reg [(2, { call := some { lend := [], pass := [], res := .v (.p Kd.bool x36), outs := [], back := [] } }), (4, { dec := some true }), (5, { dec := some true }), (6, { dec := some true }), (7, { dec := some true, call := some { lend := [], pass := [], res := .v (.p (Kd.int .i64) x39), outs := [], back := [] } }), (8, { dec := some true }), (9, { dec := some true, call := some { lend := [], pass := [], res := .v (.p Kd.bool x41), outs := [], back := [] } }), (10, { pick := some true }), (12, { dec := some true }), (13, { dec := some true }), (14, { dec := some true }), (15, { dec := some true }), (16, { pick := some true }), (18, { dec := some true }), (19, { dec := some true }), (20, { dec := some true, call := some { lend := [], pass := [], res := .v (.p Kd.bool x45), outs := [], back := [] } }), (21, { pick := some true }), (23, { dec := some true }), (24, { dec := some true }), (25, { pick := some true })]] [] Try.func18 (cs := [_, _, _, _, _, _, _, _, _, _, _, _, _, _, _, _, _, _, _, _, _, _, _, _]) (by kernel_rfl) ⟨(slices_ContainsFunc_ok k a4 _ h35), (link_within_ok k a1 (1099511627776 : Int) _ h37), h38, h38, h38, h38, (link_end_ok k a1 a2 a3 a4 _ h40), h38, h38, (link_within_ok k a2 (mm false (1099511627776 : Int) x39) _ h42), h38, h43, h43, h43, h43, h43, h44, h44, h44, (link_isBody_ok k a3 _ h46), h44, h47, h47, h47, trivial⟩ (by kernel_rfl)
        · replace h := Option.some.inj h; subst h
          exact Abs.Good.path_ret hm [.reg [], .reg [(2, { call := some { lend := [], pass := [], res := .v (.p Kd.bool x34), outs := [], back := [] } })], .reg [(2, { call := some { lend := [], pass := [], res := .v (.p Kd.bool x36), outs := [], back := [] } }), (4, { dec := some true }), (5, { dec := some true }), (6, { dec := some true }), (7, { dec := some true, call := some { lend := [], pass := [], res := .v (.p (Kd.int .i64) x39), outs := [], back := [] } }), (8, { dec := some true }), (9, { dec := some true, call := some { lend := [], pass := [], res := .v (.p Kd.bool x41), outs := [], back := [] } }), (10, { pick := some true }), (12, { dec := some true }), (13, { dec := some true }), (14, { dec := some true }), (15, { dec := some true }), (16, { pick := some true }), (18, { dec := some true }), (19, { dec := some true }), (20, { dec := some true, call := some { lend := [], pass := [], res := .v (.p Kd.bool x45), outs := [], back := [] } }), (21, { pick := some true }), (23, { dec := some false }), (24, { dec := some false }), (25, { pick := some false })]] [] Try.func18 (cs := [_, _, _, _, _, _, _, _, _, _, _, _, _, _, _, _, _, _, _, _, _, _, _, _]) (by kernel_rfl) ⟨(slices_ContainsFunc_ok k a4 _ h35), (link_within_ok k a1 (1099511627776 : Int) _ h37), h38, h38, h38, h38, (link_end_ok k a1 a2 a3 a4 _ h40), h38, h38, (link_within_ok k a2 (mm false (1099511627776 : Int) x39) _ h42), h38, h43, h43, h43, h43, h43, h44, h44, h44, (link_isBody_ok k a3 _ h46), h44, h47, h47, h47, trivial⟩ (by kernel_rfl)
      · replace h := Option.some.inj h; subst h
        exact Abs.Good.path_ret hm [.reg [], .reg [(2, { call := some { lend := [], pass := [], res := .v (.p Kd.bool x34), outs := [], back := [] } })], .reg [(2, { call := some { lend := [], pass := [], res := .v (.p Kd.bool x36), outs := [], back := [] } }), (4, { dec := some true }), (5, { dec := some true }), (6, { dec := some true }), (7, { dec := some true, call := some { lend := [], pass := [], res := .v (.p (Kd.int .i64) x39), outs := [], back := [] } }), (8, { dec := some true }), (9, { dec := some true, call := some { lend := [], pass := [], res := .v (.p Kd.bool x41), outs := [], back := [] } }), (10, { pick := some true }), (12, { dec := some true }), (13, { dec := some true }), (14, { dec := some true }), (15, { dec := some true }), (16, { pick := some true }), (18, { dec := some false }), (19, { dec := some false }), (20, { dec := some false }), (21, { pick := some false }), (23, { dec := some false }), (24, { dec := some false }), (25, { pick := some false })]] [] Try.func18 (cs := [_, _, _, _, _, _, _, _, _, _, _, _, _, _, _, _, _, _, _, _, _, _, _]) (by kernel_rfl) ⟨(slices_ContainsFunc_ok k a4 _ h35), (link_within_ok k a1 (1099511627776 : Int) _ h37), h38, h38, h38, h38, (link_end_ok k a1 a2 a3 a4 _ h40), h38, h38, (link_within_ok k a2 (mm false (1099511627776 : Int) x39) _ h42), h38, h43, h43, h43, h43, h43, h44, h44, h44, h44, (rfl : false = false), (rfl : false = false), (rfl : false = false), trivial⟩ (by kernel_rfl)
    · replace h := Option.some.inj h; subst h
      exact Abs.Good.path_ret hm [.reg [], .reg [(2, { call := some { lend := [], pass := [], res := .v (.p Kd.bool x34), outs := [], back := [] } })], .reg [(2, { call := some { lend := [], pass := [], res := .v (.p Kd.bool x36), outs := [], back := [] } }), (4, { dec := some true }), (5, { dec := some true }), (6, { dec := some true }), (7, { dec := some true, call := some { lend := [], pass := [], res := .v (.p (Kd.int .i64) x39), outs := [], back := [] } }), (8, { dec := some true }), (9, { dec := some true, call := some { lend := [], pass := [], res := .v (.p Kd.bool x41), outs := [], back := [] } }), (10, { pick := some true }), (12, { dec := some false }), (13, { dec := some false }), (14, { dec := some false }), (15, { dec := some false }), (16, { pick := some false }), (18, { dec := some false }), (19, { dec := some false }), (20, { dec := some false }), (21, { pick := some false }), (23, { dec := some false }), (24, { dec := some false }), (25, { pick := some false })]] [] Try.func18 (cs := [_, _, _, _, _, _, _, _, _, _, _, _, _, _, _, _, _, _, _, _, _, _, _]) (by kernel_rfl) ⟨(slices_ContainsFunc_ok k a4 _ h35), (link_within_ok k a1 (1099511627776 : Int) _ h37), h38, h38, h38, h38, (link_end_ok k a1 a2 a3 a4 _ h40), h38, h38, (link_within_ok k a2 (mm false (1099511627776 : Int) x39) _ h42), h38, h43, h43, h43, h43, h43, (rfl : false = false), (rfl : false = false), (rfl : false = false), (rfl : false = false), (rfl : false = false), (rfl : false = false), (rfl : false = false), trivial⟩ (by kernel_rfl)
  · replace h := Option.some.inj h; subst h
    exact Abs.Good.path_ret hm [.reg [], .reg [(2, { call := some { lend := [], pass := [], res := .v (.p Kd.bool x34), outs := [], back := [] } })], .reg [(2, { call := some { lend := [], pass := [], res := .v (.p Kd.bool x36), outs := [], back := [] } }), (4, { dec := some false }), (5, { dec := some false }), (6, { dec := some false }), (7, { dec := some false }), (8, { dec := some false }), (9, { dec := some false }), (10, { pick := some false }), (12, { dec := some false }), (13, { dec := some false }), (14, { dec := some false }), (15, { dec := some false }), (16, { pick := some false }), (18, { dec := some false }), (19, { dec := some false }), (20, { dec := some false }), (21, { pick := some false }), (23, { dec := some false }), (24, { dec := some false }), (25, { pick := some false })]] [] Try.func18 (cs := [_, _, _, _, _, _, _, _, _, _, _, _, _, _, _, _, _, _, _, _, _]) (by kernel_rfl) ⟨(slices_ContainsFunc_ok k a4 _ h35), (link_within_ok k a1 (1099511627776 : Int) _ h37), h38, h38, h38, h38, h38, h38, h38, (rfl : false = false), (rfl : false = false), (rfl : false = false), (rfl : false = false), (rfl : false = false), (rfl : false = false), (rfl : false = false), (rfl : false = false), (rfl : false = false), (rfl : false = false), (rfl : false = false), (rfl : false = false), trivial⟩ (by kernel_rfl)

theorem clone33_ok (x : List ByteArray) (h : 0 + List.length x ≤ 8796093022208) : SpecOk P ⟨33, [.p (.sl Kd.str) x], [], .v (.row 700001 (List.length x)), [(700001, .row Kd.str 9 x)]⟩ := by
  refine spec_at Try.func33 (by kernel_rfl) (Nat.le_of_ble_eq_true (by kernel_rfl)) ?_
  refine Abs.Good.nilsplit (i := 0) (e := Kd.str) (x := x) rfl (fun hs => ?_) ?_
  · subst hs
    exact Abs.Good.path_ret hm [.reg [], .reg [], .cond true, .reg [], .co (sk 2) 0 (.mk 700001 Kd.str 9)] [] Try.func33 (cs := [_]) (by kernel_rfl) ⟨(rfl : true = true), trivial⟩ (by kernel_rfl)
  · exact Abs.Good.path_ret hm [.reg [], .reg [], .cond false, .co (sk 0) 0 .unn, .reg [], .keep [sk 2, ek 7], .ren [(7, 700001)]] [] Try.func33 (cs := [_, _, _]) (by kernel_rfl) ⟨(rfl : false = false), (rfl : 0 = 0), (appBound (P := P) (et := 9) (b := 16) (by kernel_rfl) (by decide) h), trivial⟩ (by kernel_rfl)

def link_Put_l1 (k : Nat) (p1 : ByteArray) (p2 : Bool) (p3 : Int) (p4 : Int) (p5 : ByteArray) (p6 : List ByteArray) (p7 : Int) (p8 : Int) (p9 : ByteArray) : Option (Int × Int × ByteArray × List ByteArray × Int) :=
  if p2 = true then
    some ((0 : Int), (0 : Int), (⟨#[]⟩ : ByteArray), ([] : List ByteArray), (2 : Int))
  else
    if 0 + List.length p6 ≤ 8796093022208 then
      if List.length p6 + List.length ([p1] : List ByteArray) ≤ 8796093022208 then
        some (p3, p4, p5, (p6 ++ ([p1] : List ByteArray)), (0 : Int))
      else none
    else none
def link_Put_l0 (k : Nat) (p1 : ByteArray) (p2 : Bool) (p3 : Int) (p4 : Int) (p5 : ByteArray) (p6 : List ByteArray) (p7 : Int) (p8 : Int) (p9 : ByteArray) : Option (Int × Int × ByteArray × List ByteArray × Int) :=
  if p2 = true then
    some ((0 : Int), (0 : Int), (⟨#[]⟩ : ByteArray), ([] : List ByteArray), (1 : Int))
  else
    if ((List.length p6 : Int) == (1000 : Int)) = true then
      link_Put_l1 k p1 ((List.length p6 : Int) == (1000 : Int)) p3 p4 p5 p6 p7 p8 p9
    else
      Option.bind (link_end k p3 p4 p5 p6) fun x85 =>
      link_Put_l1 k p1 (decide (x85 ≥ (1099511627776 : Int))) p3 p4 p5 p6 p7 p8 p9
def link_Put (k : Nat) (a1 : Int) (a2 : Int) (a3 : ByteArray) (a4 : List ByteArray) (a5 : ByteArray) : Option (Int × Int × ByteArray × List ByteArray × Int) :=
  Option.bind (link_ValidOut k a1 a2 a3 a4) fun x78 =>
  if (!x78) = true then
    link_Put_l0 k a5 (!x78) a1 a2 a3 a4 (0 : Int) (0 : Int) (⟨#[]⟩ : ByteArray)
  else
    Option.bind (link_isBody k a5) fun x81 =>
    link_Put_l0 k a5 (!x81) a1 a2 a3 a4 (0 : Int) (0 : Int) (⟨#[]⟩ : ByteArray)
theorem link_Put_l1_ok (k : Nat) (p1 : ByteArray) (p2 : Bool) (p3 : Int) (p4 : Int) (p5 : ByteArray) (p6 : List ByteArray) (p7 : Int) (p8 : Int) (p9 : ByteArray) (r : Int × Int × ByteArray × List ByteArray × Int) (h : link_Put_l1 k p1 p2 p3 p4 p5 p6 p7 p8 p9 = some r) :
    Abs.Good P 10 Try.f10.ntmps [] [] (.t [.agg [.p (Kd.int .i64) r.1, .p (Kd.int .i64) r.2.1, .p Kd.str r.2.2.1, .p (Kd.sl Kd.str) r.2.2.2.1], .p (Kd.int .i64) r.2.2.2.2]) (pos Try.f10 [.r, .r, .c true, .c false, .r, .c true]) [(sk 1, some (.v (.p Kd.str p1))), (sk 2, some (.v (.ptr 501001 0))), (sk 4, some (.v (.ptr 501002 0))), (sk 14, some (.v (.p Kd.bool p2))), (ek 501001, some (.box [.p (Kd.int .i64) p3, .p (Kd.int .i64) p4, .p Kd.str p5, .p (Kd.sl Kd.str) p6])), (ek 501002, some (.box [.p (Kd.int .i64) p7, .p (Kd.int .i64) p8, .p Kd.str p9, .nilsl]))] := by
  unfold link_Put_l1 at h
  rcases br_inv h with ⟨h87, h⟩ | ⟨h87, h⟩
  · replace h := Option.some.inj h; subst h
    exact Abs.Good.path_ret hm [.cond true, .reg [], .co (ek 501002) 3 (.nsl Kd.str)] [] Try.func10 (cs := [_]) (by kernel_rfl) ⟨h87, trivial⟩ (by kernel_rfl)
  · obtain ⟨h90, h⟩ := gd_inv h
    obtain ⟨h91, h⟩ := gd_inv h
    replace h := Option.some.inj h; subst h
    exact Abs.Good.path_ret hm [.cond false, .reg [(2, { call := some { lend := [], pass := [], res := .v (.row 700001 (List.length p6)), outs := [(700001, .row Kd.str 9 p6)], back := [(700001, 2000200)] } })], .reg []] [28] Try.func10 (cs := [_, _, _, _, _, _]) (by kernel_rfl) ⟨h87, (clone33_ok p6 h90), (rfl : (List.length p6) = List.length p6), (appBound (P := P) (et := 9) (b := 16) (by kernel_rfl) (by decide) h91), (rfl : 1 = List.length ([p1] : List ByteArray)), (rfl : (List.length (p6 ++ ([p1] : List ByteArray))) = List.length (p6 ++ ([p1] : List ByteArray))), trivial⟩ (by kernel_rfl)
theorem link_Put_l0_ok (k : Nat) (p1 : ByteArray) (p2 : Bool) (p3 : Int) (p4 : Int) (p5 : ByteArray) (p6 : List ByteArray) (p7 : Int) (p8 : Int) (p9 : ByteArray) (r : Int × Int × ByteArray × List ByteArray × Int) (h : link_Put_l0 k p1 p2 p3 p4 p5 p6 p7 p8 p9 = some r) :
    Abs.Good P 10 Try.f10.ntmps [] [] (.t [.agg [.p (Kd.int .i64) r.1, .p (Kd.int .i64) r.2.1, .p Kd.str r.2.2.1, .p (Kd.sl Kd.str) r.2.2.2.1], .p (Kd.int .i64) r.2.2.2.2]) (pos Try.f10 [.r, .r, .c true]) [(sk 1, some (.v (.p Kd.str p1))), (sk 2, some (.v (.ptr 500001 0))), (sk 4, some (.v (.ptr 500002 0))), (sk 6, some (.v (.p Kd.bool p2))), (ek 500001, some (.box [.p (Kd.int .i64) p3, .p (Kd.int .i64) p4, .p Kd.str p5, .p (Kd.sl Kd.str) p6])), (ek 500002, some (.box [.p (Kd.int .i64) p7, .p (Kd.int .i64) p8, .p Kd.str p9, .nilsl]))] := by
  unfold link_Put_l0 at h
  rcases br_inv h with ⟨h83, h⟩ | ⟨h83, h⟩
  · replace h := Option.some.inj h; subst h
    exact Abs.Good.path_ret hm [.cond true, .reg [], .co (ek 500002) 3 (.nsl Kd.str)] [] Try.func10 (cs := [_]) (by kernel_rfl) ⟨h83, trivial⟩ (by kernel_rfl)
  · rcases br_inv h with ⟨h84, h⟩ | ⟨h84, h⟩
    · exact Abs.Good.path hm [.cond false, .reg [], .cond true, .keep [sk 1, sk 2, sk 4, sk 14, ek 500001, ek 500002], .ren [(500001, 501001), (500002, 501002)]] (cs := [_, _]) (by kernel_rfl) ⟨h83, h84, trivial⟩ (link_Put_l1_ok k p1 ((List.length p6 : Int) == (1000 : Int)) p3 p4 p5 p6 p7 p8 p9 r h)
    · obtain ⟨x85, h86, h⟩ := bind_inv h
      exact Abs.Good.path hm [.cond false, .reg [], .cond false, .reg [(1, { call := some { lend := [], pass := [], res := .v (.p (Kd.int .i64) x85), outs := [], back := [] } })], .keep [sk 1, sk 2, sk 4, sk 14, ek 500001, ek 500002], .ren [(500001, 501001), (500002, 501002)]] (cs := [_, _, _]) (by kernel_rfl) ⟨h83, h84, (link_end_ok k p3 p4 p5 p6 _ h86), trivial⟩ (link_Put_l1_ok k p1 (decide (x85 ≥ (1099511627776 : Int))) p3 p4 p5 p6 p7 p8 p9 r h)
theorem link_Put_ok (k : Nat) (a1 : Int) (a2 : Int) (a3 : ByteArray) (a4 : List ByteArray) (a5 : ByteArray) (r : Int × Int × ByteArray × List ByteArray × Int) (h : link_Put k a1 a2 a3 a4 a5 = some r) : SpecOk P ⟨10, [.agg [.p (Kd.int .i64) a1, .p (Kd.int .i64) a2, .p Kd.str a3, .p (Kd.sl Kd.str) a4], .p Kd.str a5], [], .t [.agg [.p (Kd.int .i64) r.1, .p (Kd.int .i64) r.2.1, .p Kd.str r.2.2.1, .p (Kd.sl Kd.str) r.2.2.2.1], .p (Kd.int .i64) r.2.2.2.2], []⟩ := by
  refine spec_at Try.func10 (by kernel_rfl) (Nat.le_of_ble_eq_true (by kernel_rfl)) ?_
  unfold link_Put at h
  obtain ⟨x78, h79, h⟩ := bind_inv h
  rcases br_inv h with ⟨h80, h⟩ | ⟨h80, h⟩
  · exact Abs.Good.path hm [.reg [], .reg [(1, { call := some { lend := [], pass := [], res := .v (.p Kd.bool x78), outs := [], back := [] } })], .cond true, .keep [sk 1, sk 2, sk 4, sk 6, ek 2, ek 4], .ren [(2, 500001), (4, 500002)]] (cs := [_, _]) (by kernel_rfl) ⟨(link_ValidOut_ok k a1 a2 a3 a4 _ h79), h80, trivial⟩ (link_Put_l0_ok k a5 (!x78) a1 a2 a3 a4 (0 : Int) (0 : Int) (⟨#[]⟩ : ByteArray) r h)
  · obtain ⟨x81, h82, h⟩ := bind_inv h
    exact Abs.Good.path hm [.reg [], .reg [(1, { call := some { lend := [], pass := [], res := .v (.p Kd.bool x78), outs := [], back := [] } })], .cond false, .reg [(1, { call := some { lend := [], pass := [], res := .v (.p Kd.bool x81), outs := [], back := [] } })], .keep [sk 1, sk 2, sk 4, sk 6, ek 2, ek 4], .ren [(2, 500001), (4, 500002)]] (cs := [_, _, _]) (by kernel_rfl) ⟨(link_ValidOut_ok k a1 a2 a3 a4 _ h79), h80, (link_isBody_ok k a5 _ h82), trivial⟩ (link_Put_l0_ok k a5 (!x81) a1 a2 a3 a4 (0 : Int) (0 : Int) (⟨#[]⟩ : ByteArray) r h)

def antiquarylaw41_put_l0 : Nat → Int → Int → Int → ByteArray → List ByteArray → Int → Int → ByteArray → List ByteArray → Option (Int × Int × ByteArray × List ByteArray × Bool)
  | 0, _, _, _, _, _, _, _, _, _ => none
  | k + 1, p1, p2, p3, p4, p5, p6, p7, p8, p9 =>
    if (decide (p1 < (3 : Int))) = true then
      Option.bind (link_Put k p6 p7 p8 p9 (strOf (List.take 1 ([(IntKind.u8.wrap (IntKind.i64.wrap ((97 : Int) + p1)))] : List Int)))) fun x96 =>
      if (x96.2.2.2.2 != (0 : Int)) = true then
        some (p6, p7, p8, p9, false)
      else
        antiquarylaw41_put_l0 k (IntKind.i64.wrap (p1 + (1 : Int))) p2 p3 p4 p5 x96.1 x96.2.1 x96.2.2.1 x96.2.2.2.1
    else
      some (p6, p7, p8, p9, true)
def antiquarylaw41_put (k : Nat) : Option (Int × Int × ByteArray × List ByteArray × Bool) :=
  antiquarylaw41_put_l0 k (0 : Int) (0 : Int) (0 : Int) (⟨#[]⟩ : ByteArray) ([] : List ByteArray) (0 : Int) (0 : Int) (⟨#[]⟩ : ByteArray) ([] : List ByteArray)
theorem antiquarylaw41_put_l0_ok (k : Nat) : ∀ (p1 : Int) (p2 : Int) (p3 : Int) (p4 : ByteArray) (p5 : List ByteArray) (p6 : Int) (p7 : Int) (p8 : ByteArray) (p9 : List ByteArray) (r : Int × Int × ByteArray × List ByteArray × Bool), antiquarylaw41_put_l0 k p1 p2 p3 p4 p5 p6 p7 p8 p9 = some r →
    Abs.Good P 30 Try.f30.ntmps [] [] (.t [.agg [.p (Kd.int .i64) r.1, .p (Kd.int .i64) r.2.1, .p Kd.str r.2.2.1, .p (Kd.sl Kd.str) r.2.2.2.1], .p Kd.bool r.2.2.2.2]) (pos Try.f30 [.r, .r, .r]) [(sk 0, some (.v (.ptr 500001 0))), (sk 2, some (.v (.ptr 500002 0))), (sk 3, some (.v (.p (Kd.int .i64) p1))), (ek 500001, some (.box [.p (Kd.int .i64) p2, .p (Kd.int .i64) p3, .p Kd.str p4, .p (Kd.sl Kd.str) p5])), (ek 500002, some (.box [.p (Kd.int .i64) p6, .p (Kd.int .i64) p7, .p Kd.str p8, .p (Kd.sl Kd.str) p9]))] := by
  induction k with
  | zero => intro p1 p2 p3 p4 p5 p6 p7 p8 p9 r h; cases h
  | succ k ih =>
    intro p1 p2 p3 p4 p5 p6 p7 p8 p9 r h
    unfold antiquarylaw41_put_l0 at h
    rcases br_inv h with ⟨h95, h⟩ | ⟨h95, h⟩
    · obtain ⟨x96, h97, h⟩ := bind_inv h
      rcases br_inv h with ⟨h98, h⟩ | ⟨h98, h⟩
      · replace h := Option.some.inj h; subst h
        exact Abs.Good.path_ret hm [.reg [], .cond true, .reg [(6, { call := some { lend := [], pass := [], res := .t [.agg [.p (Kd.int .i64) x96.1, .p (Kd.int .i64) x96.2.1, .p Kd.str x96.2.2.1, .p (Kd.sl Kd.str) x96.2.2.2.1], .p (Kd.int .i64) x96.2.2.2.2], outs := [], back := [] } })], .reg [], .cond true, .reg []] [] Try.func30 (cs := [_, _, _]) (by kernel_rfl) ⟨h95, (link_Put_ok k p6 p7 p8 p9 (strOf (List.take 1 ([(IntKind.u8.wrap (IntKind.i64.wrap ((97 : Int) + p1)))] : List Int))) _ h97), h98, trivial⟩ (by kernel_rfl)
      · exact Abs.Good.path hm [.reg [], .cond true, .reg [(6, { call := some { lend := [], pass := [], res := .t [.agg [.p (Kd.int .i64) x96.1, .p (Kd.int .i64) x96.2.1, .p Kd.str x96.2.2.1, .p (Kd.sl Kd.str) x96.2.2.2.1], .p (Kd.int .i64) x96.2.2.2.2], outs := [], back := [] } })], .reg [], .cond false, .reg [], .reg [], .keep [sk 0, sk 2, sk 3, ek 500001, ek 500002]] (cs := [_, _, _]) (by kernel_rfl) ⟨h95, (link_Put_ok k p6 p7 p8 p9 (strOf (List.take 1 ([(IntKind.u8.wrap (IntKind.i64.wrap ((97 : Int) + p1)))] : List Int))) _ h97), h98, trivial⟩ (ih (IntKind.i64.wrap (p1 + (1 : Int))) p2 p3 p4 p5 x96.1 x96.2.1 x96.2.2.1 x96.2.2.2.1 r h)
    · replace h := Option.some.inj h; subst h
      exact Abs.Good.path_ret hm [.reg [], .cond false, .reg []] [] Try.func30 (cs := [_]) (by kernel_rfl) ⟨h95, trivial⟩ (by kernel_rfl)
theorem antiquarylaw41_put_ok (k : Nat) (r : Int × Int × ByteArray × List ByteArray × Bool) (h : antiquarylaw41_put k = some r) : SpecOk P ⟨30, [], [], .t [.agg [.p (Kd.int .i64) r.1, .p (Kd.int .i64) r.2.1, .p Kd.str r.2.2.1, .p (Kd.sl Kd.str) r.2.2.2.1], .p Kd.bool r.2.2.2.2], []⟩ := by
  refine spec_at Try.func30 (by kernel_rfl) (Nat.le_of_ble_eq_true (by kernel_rfl)) ?_
  unfold antiquarylaw41_put at h
  exact Abs.Good.path hm [.reg [], .co (ek 0) 3 (.nsl Kd.str), .reg [], .co (ek 2) 3 (.nsl Kd.str), .reg [], .keep [sk 0, sk 2, sk 3, ek 0, ek 2], .ren [(0, 500001), (2, 500002)]] (cs := []) (by kernel_rfl) trivial (antiquarylaw41_put_l0_ok k (0 : Int) (0 : Int) (0 : Int) (⟨#[]⟩ : ByteArray) ([] : List ByteArray) (0 : Int) (0 : Int) (⟨#[]⟩ : ByteArray) ([] : List ByteArray) r h)

theorem frames12_ok (k : Nat) (a1 a2 : Int) (a3 : ByteArray) (a4 : List ByteArray) (most : Int) (r : Bool) (h : link_ValidOut k a1 a2 a3 a4 = some r) :
    SpecOk P ⟨12, [.agg [.p (.int .i64) a1, .p (.int .i64) a2, .p .str a3, .p (.sl .str) a4], .p (.int .i64) most], [], .t [.p (.sl KF) (framesOut r a1 a2 a3 a4 most).1, .p (.int .i64) (framesOut r a1 a2 a3 a4 most).2], []⟩ := by
  have hb : r = true → 0 ≤ a1 ∧ a1 ≤ 1099511627776 ∧ 0 ≤ a2 ∧ a2 ≤ a1 + (List.length a4 : Int) ∧ (List.length a4 : Int) ≤ 1000 := by
    intro hr
    subst hr
    unfold link_ValidOut at h
    obtain ⟨x34, _, h⟩ := bind_inv h
    obtain ⟨x36, h1, h⟩ := bind_inv h
    rcases br_inv h with ⟨h2, h⟩ | ⟨_, h⟩
    · obtain ⟨x39, h3, h⟩ := bind_inv h
      obtain ⟨x41, h4, h⟩ := bind_inv h
      rcases br_inv h with ⟨h5, h⟩ | ⟨_, h⟩
      · rcases br_inv h with ⟨h6, h⟩ | ⟨_, h⟩
        · subst h2 h5
          unfold link_within at h1 h4
          unfold link_end at h3
          replace h3 := Option.some.inj h3
          rcases br_inv h1 with ⟨h7, h1⟩ | ⟨_, h1⟩
          · rcases br_inv h4 with ⟨h8, h4⟩ | ⟨_, h4⟩
            · replace h1 := Option.some.inj h1
              replace h4 := Option.some.inj h4
              simp only [decide_eq_true_eq, mm] at h1 h4 h6 h7 h8
              have hw : IntKind.i64.wrap (a1 + (List.length a4 : Int)) = a1 + (List.length a4 : Int) := by rw [IntKind.wrap_i64]; omega
              rw [hw] at h3
              subst h3
              refine ⟨by omega, h1, by omega, ?_, h6⟩
              simp only [Bool.false_eq_true, if_false] at h4
              replace h4 := of_decide_eq_true h4
              split at h4 <;> omega
            · cases h4
          · cases h1
        · cases h
      · cases h
    · cases h
  exact frames_spec r a1 a2 a3 a4 most (link_ValidOut_ok k a1 a2 a3 a4 _ h) (fun e => (hb e).1) (fun e => by have := hb e; omega) (fun e => (hb e).2.2.1) (fun e => (hb e).2.2.2.1) (fun e => by have := hb e; omega)

def link_Acknowledge_l0 (k : Nat) (p1 : Int) (p2 : Bool) (p3 : Int) (p4 : Int) (p5 : ByteArray) (p6 : List ByteArray) (p7 : Int) (p8 : Int) (p9 : ByteArray) : Option (Int × Int × ByteArray × List ByteArray × Int) :=
  if p2 = true then
    some ((0 : Int), (0 : Int), (⟨#[]⟩ : ByteArray), ([] : List ByteArray), (1 : Int))
  else
    if (decide (p1 ≤ p4)) = true then
      some (p3, p4, p5, p6, (0 : Int))
    else
      if (decide (p1 > p3)) = true then
        if 0 ≤ (IntKind.i64.wrap (p1 - p3)) ∧ (IntKind.i64.wrap (p1 - p3)) ≤ (List.length p6 : Int) then
          some (p1, p1, (⟨#[]⟩ : ByteArray), (List.drop (Int.toNat (IntKind.i64.wrap (p1 - p3))) p6), (0 : Int))
        else none
      else
        some (p3, p1, p5, p6, (0 : Int))
def link_Acknowledge (k : Nat) (a1 : Int) (a2 : Int) (a3 : ByteArray) (a4 : List ByteArray) (a5 : Int) : Option (Int × Int × ByteArray × List ByteArray × Int) :=
  Option.bind (link_ValidOut k a1 a2 a3 a4) fun x54 =>
  if (!x54) = true then
    link_Acknowledge_l0 k a5 (!x54) a1 a2 a3 a4 (0 : Int) (0 : Int) (⟨#[]⟩ : ByteArray)
  else
    Option.bind (link_end k a1 a2 a3 a4) fun x57 =>
    Option.bind (link_within k a5 x57) fun x59 =>
    link_Acknowledge_l0 k a5 (!x59) a1 a2 a3 a4 (0 : Int) (0 : Int) (⟨#[]⟩ : ByteArray)
theorem link_Acknowledge_l0_ok (k : Nat) (p1 : Int) (p2 : Bool) (p3 : Int) (p4 : Int) (p5 : ByteArray) (p6 : List ByteArray) (p7 : Int) (p8 : Int) (p9 : ByteArray) (r : Int × Int × ByteArray × List ByteArray × Int) (h : link_Acknowledge_l0 k p1 p2 p3 p4 p5 p6 p7 p8 p9 = some r) :
    Abs.Good P 13 Try.f13.ntmps [] [] (.t [.agg [.p (Kd.int .i64) r.1, .p (Kd.int .i64) r.2.1, .p Kd.str r.2.2.1, .p (Kd.sl Kd.str) r.2.2.2.1], .p (Kd.int .i64) r.2.2.2.2]) (pos Try.f13 [.r, .r, .c true]) [(sk 1, some (.v (.p (Kd.int .i64) p1))), (sk 2, some (.v (.ptr 500001 0))), (sk 4, some (.v (.ptr 500002 0))), (sk 6, some (.v (.p Kd.bool p2))), (ek 500001, some (.box [.p (Kd.int .i64) p3, .p (Kd.int .i64) p4, .p Kd.str p5, .p (Kd.sl Kd.str) p6])), (ek 500002, some (.box [.p (Kd.int .i64) p7, .p (Kd.int .i64) p8, .p Kd.str p9, .nilsl]))] := by
  unfold link_Acknowledge_l0 at h
  rcases br_inv h with ⟨h61, h⟩ | ⟨h61, h⟩
  · replace h := Option.some.inj h; subst h
    exact Abs.Good.path_ret hm [.cond true, .reg [], .co (ek 500002) 3 (.nsl Kd.str)] [] Try.func13 (cs := [_]) (by kernel_rfl) ⟨h61, trivial⟩ (by kernel_rfl)
  · rcases br_inv h with ⟨h62, h⟩ | ⟨h62, h⟩
    · replace h := Option.some.inj h; subst h
      exact Abs.Good.path_ret hm [.cond false, .reg [], .cond true, .reg []] [] Try.func13 (cs := [_, _]) (by kernel_rfl) ⟨h61, h62, trivial⟩ (by kernel_rfl)
    · rcases br_inv h with ⟨h63, h⟩ | ⟨h63, h⟩
      · obtain ⟨h64, h⟩ := gd_inv h
        replace h := Option.some.inj h; subst h
        exact Abs.Good.path_ret hm [.cond false, .reg [], .cond false, .reg [], .reg [], .cond true, .reg [], .reg []] [] Try.func13 (cs := [_, _, _, _, _]) (by kernel_rfl) ⟨h61, h62, h63, h64.1, h64.2, trivial⟩ (by kernel_rfl)
      · replace h := Option.some.inj h; subst h
        exact Abs.Good.path_ret hm [.cond false, .reg [], .cond false, .reg [], .reg [], .cond false, .reg []] [] Try.func13 (cs := [_, _, _]) (by kernel_rfl) ⟨h61, h62, h63, trivial⟩ (by kernel_rfl)
theorem link_Acknowledge_ok (k : Nat) (a1 : Int) (a2 : Int) (a3 : ByteArray) (a4 : List ByteArray) (a5 : Int) (r : Int × Int × ByteArray × List ByteArray × Int) (h : link_Acknowledge k a1 a2 a3 a4 a5 = some r) : SpecOk P ⟨13, [.agg [.p (Kd.int .i64) a1, .p (Kd.int .i64) a2, .p Kd.str a3, .p (Kd.sl Kd.str) a4], .p (Kd.int .i64) a5], [], .t [.agg [.p (Kd.int .i64) r.1, .p (Kd.int .i64) r.2.1, .p Kd.str r.2.2.1, .p (Kd.sl Kd.str) r.2.2.2.1], .p (Kd.int .i64) r.2.2.2.2], []⟩ := by
  refine spec_at Try.func13 (by kernel_rfl) (Nat.le_of_ble_eq_true (by kernel_rfl)) ?_
  unfold link_Acknowledge at h
  obtain ⟨x54, h55, h⟩ := bind_inv h
  rcases br_inv h with ⟨h56, h⟩ | ⟨h56, h⟩
  · exact Abs.Good.path hm [.reg [], .reg [(1, { call := some { lend := [], pass := [], res := .v (.p Kd.bool x54), outs := [], back := [] } })], .cond true, .keep [sk 1, sk 2, sk 4, sk 6, ek 2, ek 4], .ren [(2, 500001), (4, 500002)]] (cs := [_, _]) (by kernel_rfl) ⟨(link_ValidOut_ok k a1 a2 a3 a4 _ h55), h56, trivial⟩ (link_Acknowledge_l0_ok k a5 (!x54) a1 a2 a3 a4 (0 : Int) (0 : Int) (⟨#[]⟩ : ByteArray) r h)
  · obtain ⟨x57, h58, h⟩ := bind_inv h
    obtain ⟨x59, h60, h⟩ := bind_inv h
    exact Abs.Good.path hm [.reg [], .reg [(1, { call := some { lend := [], pass := [], res := .v (.p Kd.bool x54), outs := [], back := [] } })], .cond false, .reg [(2, { call := some { lend := [], pass := [], res := .v (.p (Kd.int .i64) x57), outs := [], back := [] } }), (3, { call := some { lend := [], pass := [], res := .v (.p Kd.bool x59), outs := [], back := [] } })], .keep [sk 1, sk 2, sk 4, sk 6, ek 2, ek 4], .ren [(2, 500001), (4, 500002)]] (cs := [_, _, _, _]) (by kernel_rfl) ⟨(link_ValidOut_ok k a1 a2 a3 a4 _ h55), h56, (link_end_ok k a1 a2 a3 a4 _ h58), (link_within_ok k a5 x57 _ h60), trivial⟩ (link_Acknowledge_l0_ok k a5 (!x59) a1 a2 a3 a4 (0 : Int) (0 : Int) (⟨#[]⟩ : ByteArray) r h)

def link_Fold_l0 (k : Nat) (p1 : Int) (p2 : ByteArray) (p3 : Bool) (p4 : Int) (p5 : Int) (p6 : ByteArray) (p7 : List ByteArray) (p8 : Int) (p9 : Int) (p10 : ByteArray) : Option (Int × Int × ByteArray × List ByteArray × Int) :=
  if p3 = true then
    some ((0 : Int), (0 : Int), (⟨#[]⟩ : ByteArray), ([] : List ByteArray), (1 : Int))
  else
    if 0 ≤ (IntKind.i64.wrap (p1 - p4)) ∧ (IntKind.i64.wrap (p1 - p4)) ≤ (List.length p7 : Int) then
      some (p1, p5, p2, (List.drop (Int.toNat (IntKind.i64.wrap (p1 - p4))) p7), (0 : Int))
    else none
def link_Fold (k : Nat) (a1 : Int) (a2 : Int) (a3 : ByteArray) (a4 : List ByteArray) (a5 : Int) (a6 : ByteArray) : Option (Int × Int × ByteArray × List ByteArray × Int) :=
  Option.bind (link_ValidOut k a1 a2 a3 a4) fun x93 =>
  if (!x93) = true then
    link_Fold_l0 k a5 a6 true a1 a2 a3 a4 (0 : Int) (0 : Int) (⟨#[]⟩ : ByteArray)
  else
    if (decide (a5 < a1)) = true then
      link_Fold_l0 k a5 a6 true a1 a2 a3 a4 (0 : Int) (0 : Int) (⟨#[]⟩ : ByteArray)
    else
      Option.bind (link_end k a1 a2 a3 a4) fun x97 =>
      if (decide (a5 > x97)) = true then
        link_Fold_l0 k a5 a6 true a1 a2 a3 a4 (0 : Int) (0 : Int) (⟨#[]⟩ : ByteArray)
      else
        Option.bind (link_isBody k a6) fun x100 =>
        link_Fold_l0 k a5 a6 (!x100) a1 a2 a3 a4 (0 : Int) (0 : Int) (⟨#[]⟩ : ByteArray)
theorem link_Fold_l0_ok (k : Nat) (p1 : Int) (p2 : ByteArray) (p3 : Bool) (p4 : Int) (p5 : Int) (p6 : ByteArray) (p7 : List ByteArray) (p8 : Int) (p9 : Int) (p10 : ByteArray) (r : Int × Int × ByteArray × List ByteArray × Int) (h : link_Fold_l0 k p1 p2 p3 p4 p5 p6 p7 p8 p9 p10 = some r) :
    Abs.Good P 11 Try.f11.ntmps [] [] (.t [.agg [.p (Kd.int .i64) r.1, .p (Kd.int .i64) r.2.1, .p Kd.str r.2.2.1, .p (Kd.sl Kd.str) r.2.2.2.1], .p (Kd.int .i64) r.2.2.2.2]) (pos Try.f11 [.r, .r]) [(sk 1, some (.v (.p (Kd.int .i64) p1))), (sk 2, some (.v (.p Kd.str p2))), (sk 3, some (.v (.ptr 500001 0))), (sk 6, some (.v (.ptr 500002 0))), (sk 27, some (.v (.p Kd.bool p3))), (ek 500001, some (.box [.p (Kd.int .i64) p4, .p (Kd.int .i64) p5, .p Kd.str p6, .p (Kd.sl Kd.str) p7])), (ek 500002, some (.box [.p (Kd.int .i64) p8, .p (Kd.int .i64) p9, .p Kd.str p10, .nilsl]))] := by
  unfold link_Fold_l0 at h
  rcases br_inv h with ⟨h102, h⟩ | ⟨h102, h⟩
  · replace h := Option.some.inj h; subst h
    exact Abs.Good.path_ret hm [.cond true, .reg [], .co (ek 500002) 3 (.nsl Kd.str)] [] Try.func11 (cs := [_]) (by kernel_rfl) ⟨h102, trivial⟩ (by kernel_rfl)
  · obtain ⟨h103, h⟩ := gd_inv h
    replace h := Option.some.inj h; subst h
    exact Abs.Good.path_ret hm [.cond false, .reg [], .reg []] [] Try.func11 (cs := [_, _, _]) (by kernel_rfl) ⟨h102, h103.1, h103.2, trivial⟩ (by kernel_rfl)
theorem link_Fold_ok (k : Nat) (a1 : Int) (a2 : Int) (a3 : ByteArray) (a4 : List ByteArray) (a5 : Int) (a6 : ByteArray) (r : Int × Int × ByteArray × List ByteArray × Int) (h : link_Fold k a1 a2 a3 a4 a5 a6 = some r) : SpecOk P ⟨11, [.agg [.p (Kd.int .i64) a1, .p (Kd.int .i64) a2, .p Kd.str a3, .p (Kd.sl Kd.str) a4], .p (Kd.int .i64) a5, .p Kd.str a6], [], .t [.agg [.p (Kd.int .i64) r.1, .p (Kd.int .i64) r.2.1, .p Kd.str r.2.2.1, .p (Kd.sl Kd.str) r.2.2.2.1], .p (Kd.int .i64) r.2.2.2.2], []⟩ := by
  refine spec_at Try.func11 (by kernel_rfl) (Nat.le_of_ble_eq_true (by kernel_rfl)) ?_
  unfold link_Fold at h
  obtain ⟨x93, h94, h⟩ := bind_inv h
  rcases br_inv h with ⟨h95, h⟩ | ⟨h95, h⟩
  · exact Abs.Good.path hm [.reg [], .reg [(1, { call := some { lend := [], pass := [], res := .v (.p Kd.bool x93), outs := [], back := [] } }), (4, { dec := some true }), (5, { dec := some true }), (6, { dec := some true }), (7, { dec := some true }), (8, { pick := some true }), (10, { dec := some true }), (11, { dec := some true }), (12, { dec := some true }), (13, { dec := some true }), (14, { pick := some true }), (16, { dec := some true }), (17, { dec := some true }), (18, { dec := some true }), (19, { pick := some true })], .keep [sk 1, sk 2, sk 3, sk 6, sk 27, ek 3, ek 6], .ren [(3, 500001), (6, 500002)]] (cs := [_, _, _, _, _, _, _, _, _, _, _, _, _, _, _]) (by kernel_rfl) ⟨(link_ValidOut_ok k a1 a2 a3 a4 _ h94), h95, h95, h95, h95, h95, (rfl : true = true), (rfl : true = true), (rfl : true = true), (rfl : true = true), (rfl : true = true), (rfl : true = true), (rfl : true = true), (rfl : true = true), (rfl : true = true), trivial⟩ (link_Fold_l0_ok k a5 a6 true a1 a2 a3 a4 (0 : Int) (0 : Int) (⟨#[]⟩ : ByteArray) r h)
  · rcases br_inv h with ⟨h96, h⟩ | ⟨h96, h⟩
    · exact Abs.Good.path hm [.reg [], .reg [(1, { call := some { lend := [], pass := [], res := .v (.p Kd.bool x93), outs := [], back := [] } }), (4, { dec := some false }), (5, { dec := some false }), (6, { dec := some false }), (7, { dec := some false }), (8, { pick := some false }), (10, { dec := some true }), (11, { dec := some true }), (12, { dec := some true }), (13, { dec := some true }), (14, { pick := some true }), (16, { dec := some true }), (17, { dec := some true }), (18, { dec := some true }), (19, { pick := some true })], .keep [sk 1, sk 2, sk 3, sk 6, sk 27, ek 3, ek 6], .ren [(3, 500001), (6, 500002)]] (cs := [_, _, _, _, _, _, _, _, _, _, _, _, _, _, _]) (by kernel_rfl) ⟨(link_ValidOut_ok k a1 a2 a3 a4 _ h94), h95, h95, h95, h95, h95, h96, h96, h96, h96, h96, (rfl : true = true), (rfl : true = true), (rfl : true = true), (rfl : true = true), trivial⟩ (link_Fold_l0_ok k a5 a6 true a1 a2 a3 a4 (0 : Int) (0 : Int) (⟨#[]⟩ : ByteArray) r h)
    · obtain ⟨x97, h98, h⟩ := bind_inv h
      rcases br_inv h with ⟨h99, h⟩ | ⟨h99, h⟩
      · exact Abs.Good.path hm [.reg [], .reg [(1, { call := some { lend := [], pass := [], res := .v (.p Kd.bool x93), outs := [], back := [] } }), (4, { dec := some false }), (5, { dec := some false }), (6, { dec := some false }), (7, { dec := some false }), (8, { pick := some false }), (10, { dec := some false }), (11, { dec := some false }), (12, { dec := some false, call := some { lend := [], pass := [], res := .v (.p (Kd.int .i64) x97), outs := [], back := [] } }), (13, { dec := some false }), (14, { pick := some false }), (16, { dec := some true }), (17, { dec := some true }), (18, { dec := some true }), (19, { pick := some true })], .keep [sk 1, sk 2, sk 3, sk 6, sk 27, ek 3, ek 6], .ren [(3, 500001), (6, 500002)]] (cs := [_, _, _, _, _, _, _, _, _, _, _, _, _, _, _, _]) (by kernel_rfl) ⟨(link_ValidOut_ok k a1 a2 a3 a4 _ h94), h95, h95, h95, h95, h95, h96, h96, h96, (link_end_ok k a1 a2 a3 a4 _ h98), h96, h96, h99, h99, h99, h99, trivial⟩ (link_Fold_l0_ok k a5 a6 true a1 a2 a3 a4 (0 : Int) (0 : Int) (⟨#[]⟩ : ByteArray) r h)
      · obtain ⟨x100, h101, h⟩ := bind_inv h
        exact Abs.Good.path hm [.reg [], .reg [(1, { call := some { lend := [], pass := [], res := .v (.p Kd.bool x93), outs := [], back := [] } }), (4, { dec := some false }), (5, { dec := some false }), (6, { dec := some false }), (7, { dec := some false }), (8, { pick := some false }), (10, { dec := some false }), (11, { dec := some false }), (12, { dec := some false, call := some { lend := [], pass := [], res := .v (.p (Kd.int .i64) x97), outs := [], back := [] } }), (13, { dec := some false }), (14, { pick := some false }), (16, { dec := some false }), (17, { dec := some false, call := some { lend := [], pass := [], res := .v (.p Kd.bool x100), outs := [], back := [] } }), (18, { dec := some false }), (19, { pick := some false })], .keep [sk 1, sk 2, sk 3, sk 6, sk 27, ek 3, ek 6], .ren [(3, 500001), (6, 500002)]] (cs := [_, _, _, _, _, _, _, _, _, _, _, _, _, _, _, _, _]) (by kernel_rfl) ⟨(link_ValidOut_ok k a1 a2 a3 a4 _ h94), h95, h95, h95, h95, h95, h96, h96, h96, (link_end_ok k a1 a2 a3 a4 _ h98), h96, h96, h99, h99, (link_isBody_ok k a6 _ h101), h99, h99, trivial⟩ (link_Fold_l0_ok k a5 a6 (!x100) a1 a2 a3 a4 (0 : Int) (0 : Int) (⟨#[]⟩ : ByteArray) r h)

def antiquaryref41_SameFrames_l0 : Nat → (List (Bool × (Int × (ByteArray × Unit)))) → (List (Bool × (Int × (ByteArray × Unit)))) → Int → Option (Bool)
  | 0, _, _, _ => none
  | k + 1, p1, p2, p3 =>
    if (decide (p3 < (List.length p1 : Int))) = true then
      if 0 ≤ p3 ∧ p3 < (List.length p1 : Int) then
        if p3 < (List.length p2 : Int) then
          if (!(Kd.eqb (Kd.pair Kd.bool (Kd.pair (Kd.int .i64) (Kd.pair Kd.str Kd.unit))) ((List.getD p1 (Int.toNat p3) (Kd.dflt (Kd.pair Kd.bool (Kd.pair (Kd.int .i64) (Kd.pair Kd.str Kd.unit))))).1, (((List.getD p1 (Int.toNat p3) (Kd.dflt (Kd.pair Kd.bool (Kd.pair (Kd.int .i64) (Kd.pair Kd.str Kd.unit))))).2).1, ((((List.getD p1 (Int.toNat p3) (Kd.dflt (Kd.pair Kd.bool (Kd.pair (Kd.int .i64) (Kd.pair Kd.str Kd.unit))))).2).2).1, ()))) ((List.getD p2 (Int.toNat p3) (Kd.dflt (Kd.pair Kd.bool (Kd.pair (Kd.int .i64) (Kd.pair Kd.str Kd.unit))))).1, (((List.getD p2 (Int.toNat p3) (Kd.dflt (Kd.pair Kd.bool (Kd.pair (Kd.int .i64) (Kd.pair Kd.str Kd.unit))))).2).1, ((((List.getD p2 (Int.toNat p3) (Kd.dflt (Kd.pair Kd.bool (Kd.pair (Kd.int .i64) (Kd.pair Kd.str Kd.unit))))).2).2).1, ()))))) = true then
            some (false)
          else
            antiquaryref41_SameFrames_l0 k p1 p2 (IntKind.i64.wrap (p3 + (1 : Int)))
        else none
      else none
    else
      some (true)
def antiquaryref41_SameFrames (k : Nat) (a1 : List (Bool × (Int × (ByteArray × Unit)))) (a2 : List (Bool × (Int × (ByteArray × Unit)))) : Option (Bool) :=
  if ((List.length a1 : Int) != (List.length a2 : Int)) = true then
    some (false)
  else
    antiquaryref41_SameFrames_l0 k a1 a2 (0 : Int)
theorem antiquaryref41_SameFrames_l0_ok (k : Nat) : ∀ (p1 : List (Bool × (Int × (ByteArray × Unit)))) (p2 : List (Bool × (Int × (ByteArray × Unit)))) (p3 : Int) (r : Bool), antiquaryref41_SameFrames_l0 k p1 p2 p3 = some r →
    Abs.Good P 21 Try.f21.ntmps [] [] (.v (.p Kd.bool r)) (pos Try.f21 [.r, .r, .c false, .r]) [(sk 0, some (.v (.p (Kd.sl (Kd.pair Kd.bool (Kd.pair (Kd.int .i64) (Kd.pair Kd.str Kd.unit)))) p1))), (sk 1, some (.v (.p (Kd.sl (Kd.pair Kd.bool (Kd.pair (Kd.int .i64) (Kd.pair Kd.str Kd.unit)))) p2))), (sk 5, some (.v (.p (Kd.int .i64) p3)))] := by
  induction k with
  | zero => intro p1 p2 p3 r h; cases h
  | succ k ih =>
    intro p1 p2 p3 r h
    unfold antiquaryref41_SameFrames_l0 at h
    rcases br_inv h with ⟨h151, h⟩ | ⟨h151, h⟩
    · obtain ⟨h152, h⟩ := gd_inv h
      obtain ⟨h153, h⟩ := gd_inv h
      rcases br_inv h with ⟨h154, h⟩ | ⟨h154, h⟩
      · replace h := Option.some.inj h; subst h
        exact Abs.Good.path_ret hm [.reg [], .cond true, .reg [], .cond true, .reg []] [] Try.func21 (cs := [_, _, _, _, _, _, _]) (by kernel_rfl) ⟨h151, h152.1, h152.2, h152.1, h153, eq49, h154, trivial⟩ (by kernel_rfl)
      · exact Abs.Good.path hm [.reg [], .cond true, .reg [], .cond false, .reg [], .keep [sk 0, sk 1, sk 5]] (cs := [_, _, _, _, _, _, _]) (by kernel_rfl) ⟨h151, h152.1, h152.2, h152.1, h153, eq49, h154, trivial⟩ (ih p1 p2 (IntKind.i64.wrap (p3 + (1 : Int))) r h)
    · replace h := Option.some.inj h; subst h
      exact Abs.Good.path_ret hm [.reg [], .cond false, .reg []] [] Try.func21 (cs := [_]) (by kernel_rfl) ⟨h151, trivial⟩ (by kernel_rfl)
theorem antiquaryref41_SameFrames_ok (k : Nat) (a1 : List (Bool × (Int × (ByteArray × Unit)))) (a2 : List (Bool × (Int × (ByteArray × Unit)))) (r : Bool) (h : antiquaryref41_SameFrames k a1 a2 = some r) : SpecOk P ⟨21, [.p (Kd.sl (Kd.pair Kd.bool (Kd.pair (Kd.int .i64) (Kd.pair Kd.str Kd.unit)))) a1, .p (Kd.sl (Kd.pair Kd.bool (Kd.pair (Kd.int .i64) (Kd.pair Kd.str Kd.unit)))) a2], [], .v (.p Kd.bool r), []⟩ := by
  refine spec_at Try.func21 (by kernel_rfl) (Nat.le_of_ble_eq_true (by kernel_rfl)) ?_
  unfold antiquaryref41_SameFrames at h
  rcases br_inv h with ⟨h150, h⟩ | ⟨h150, h⟩
  · replace h := Option.some.inj h; subst h
    exact Abs.Good.path_ret hm [.reg [], .reg [], .cond true, .reg []] [] Try.func21 (cs := [_]) (by kernel_rfl) ⟨h150, trivial⟩ (by kernel_rfl)
  · exact Abs.Good.path hm [.reg [], .reg [], .cond false, .reg [], .keep [sk 0, sk 1, sk 5]] (cs := [_]) (by kernel_rfl) ⟨h150, trivial⟩ (antiquaryref41_SameFrames_l0_ok k a1 a2 (0 : Int) r h)

def antiquarylaw41_sanity_l2 (k : Nat) (p1 : List (Bool × (Int × (ByteArray × Unit)))) (p2 : List (Bool × (Int × (ByteArray × Unit)))) (p3 : Int) (p4 : List (Bool × (Int × (ByteArray × Unit)))) (p5 : Int) (p6 : Bool) (p7 : Int) (p8 : List (Bool × (Int × (ByteArray × Unit)))) : Option (Bool) :=
  if p6 = true then
    if (p3 == (0 : Int)) = true then
      if (p5 == (0 : Int)) = true then
        if ((List.length p2 : Int) == (0 : Int)) = true then
          Option.bind (antiquaryref41_SameFrames k p4 p1) fun x214 =>
          if x214 = true then
            some ((p7 == (3 : Int)))
          else
            some (false)
        else
          some (false)
      else
        some (false)
    else
      some (false)
  else
    some (false)
def antiquarylaw41_sanity_l1 (k : Nat) (p1 : List (Bool × (Int × (ByteArray × Unit)))) (p2 : List (Bool × (Int × (ByteArray × Unit)))) (p3 : List (Bool × (Int × (ByteArray × Unit)))) (p4 : List (Bool × (Int × (ByteArray × Unit)))) (p5 : List (Bool × (Int × (ByteArray × Unit)))) (p6 : Bool) (p7 : Int) (p8 : List (Bool × (Int × (ByteArray × Unit)))) (p9 : Int) (p10 : Int) (p11 : ByteArray) (p12 : List ByteArray) : Option (Bool) :=
  if p6 = true then
    some (false)
  else
    if (1 : Int) < (List.length p5 : Int) then
      Option.bind (link_Receive k (0 : Int) ([] : List (Bool × (Int × (ByteArray × Unit)))) ((List.getD p5 (1) (Kd.dflt (Kd.pair Kd.bool (Kd.pair (Kd.int .i64) (Kd.pair Kd.str Kd.unit))))).1) (((List.getD p5 (1) (Kd.dflt (Kd.pair Kd.bool (Kd.pair (Kd.int .i64) (Kd.pair Kd.str Kd.unit))))).2).1) ((((List.getD p5 (1) (Kd.dflt (Kd.pair Kd.bool (Kd.pair (Kd.int .i64) (Kd.pair Kd.str Kd.unit))))).2).2).1)) fun x196 =>
      if (0 : Int) < (List.length p5 : Int) then
        Option.bind (link_Receive k x196.1 x196.2.1 ((List.getD p5 (0) (Kd.dflt (Kd.pair Kd.bool (Kd.pair (Kd.int .i64) (Kd.pair Kd.str Kd.unit))))).1) (((List.getD p5 (0) (Kd.dflt (Kd.pair Kd.bool (Kd.pair (Kd.int .i64) (Kd.pair Kd.str Kd.unit))))).2).1) ((((List.getD p5 (0) (Kd.dflt (Kd.pair Kd.bool (Kd.pair (Kd.int .i64) (Kd.pair Kd.str Kd.unit))))).2).2).1)) fun x199 =>
        if ((List.length p2 : Int) == (0 : Int)) = true then
          Option.bind (antiquaryref41_SameFrames k p3 p1) fun x202 =>
          if x202 = true then
            if (p7 == (2 : Int)) = true then
              if (p9 == (2 : Int)) = true then
                Option.bind (antiquaryref41_SameFrames k p4 ([(false, ((2 : Int), ((⟨#[99]⟩ : ByteArray), ())))] : List (Bool × (Int × (ByteArray × Unit))))) fun x207 =>
                if x207 = true then
                  antiquarylaw41_sanity_l2 k p5 x196.2.2.1 x196.2.2.2 x199.2.2.1 x199.2.2.2 (Kd.eqb (Kd.pair Kd.bool (Kd.pair (Kd.int .i64) (Kd.pair Kd.str Kd.unit))) ((List.getD p5 (0) (Kd.dflt (Kd.pair Kd.bool (Kd.pair (Kd.int .i64) (Kd.pair Kd.str Kd.unit))))).1, (((List.getD p5 (0) (Kd.dflt (Kd.pair Kd.bool (Kd.pair (Kd.int .i64) (Kd.pair Kd.str Kd.unit))))).2).1, ((((List.getD p5 (0) (Kd.dflt (Kd.pair Kd.bool (Kd.pair (Kd.int .i64) (Kd.pair Kd.str Kd.unit))))).2).2).1, ()))) (true, ((2 : Int), ((⟨#[97, 98]⟩ : ByteArray), ())))) x199.1 x199.2.1
                else
                  antiquarylaw41_sanity_l2 k p5 x196.2.2.1 x196.2.2.2 x199.2.2.1 x199.2.2.2 false x199.1 x199.2.1
              else
                antiquarylaw41_sanity_l2 k p5 x196.2.2.1 x196.2.2.2 x199.2.2.1 x199.2.2.2 false x199.1 x199.2.1
            else
              antiquarylaw41_sanity_l2 k p5 x196.2.2.1 x196.2.2.2 x199.2.2.1 x199.2.2.2 false x199.1 x199.2.1
          else
            antiquarylaw41_sanity_l2 k p5 x196.2.2.1 x196.2.2.2 x199.2.2.1 x199.2.2.2 false x199.1 x199.2.1
        else
          antiquarylaw41_sanity_l2 k p5 x196.2.2.1 x196.2.2.2 x199.2.2.1 x199.2.2.2 false x199.1 x199.2.1
      else none
    else none
def antiquarylaw41_sanity_l0 (k : Nat) (p1 : List (Bool × (Int × (ByteArray × Unit)))) (p2 : Bool) (p3 : Int) (p4 : Int) (p5 : ByteArray) (p6 : List ByteArray) : Option (Bool) :=
  if p2 = true then
    some (false)
  else
    if (1 : Int) < (List.length p1 : Int) then
      Option.bind (link_Receive k (0 : Int) ([] : List (Bool × (Int × (ByteArray × Unit)))) ((List.getD p1 (1) (Kd.dflt (Kd.pair Kd.bool (Kd.pair (Kd.int .i64) (Kd.pair Kd.str Kd.unit))))).1) (((List.getD p1 (1) (Kd.dflt (Kd.pair Kd.bool (Kd.pair (Kd.int .i64) (Kd.pair Kd.str Kd.unit))))).2).1) ((((List.getD p1 (1) (Kd.dflt (Kd.pair Kd.bool (Kd.pair (Kd.int .i64) (Kd.pair Kd.str Kd.unit))))).2).2).1)) fun x175 =>
      if (0 : Int) < (List.length p1 : Int) then
        Option.bind (link_Receive k x175.1 x175.2.1 ((List.getD p1 (0) (Kd.dflt (Kd.pair Kd.bool (Kd.pair (Kd.int .i64) (Kd.pair Kd.str Kd.unit))))).1) (((List.getD p1 (0) (Kd.dflt (Kd.pair Kd.bool (Kd.pair (Kd.int .i64) (Kd.pair Kd.str Kd.unit))))).2).1) ((((List.getD p1 (0) (Kd.dflt (Kd.pair Kd.bool (Kd.pair (Kd.int .i64) (Kd.pair Kd.str Kd.unit))))).2).2).1)) fun x178 =>
        Option.bind (link_Acknowledge k p3 p4 p5 p6 (2 : Int)) fun x180 =>
        Option.bind (link_ValidOut k x180.1 x180.2.1 x180.2.2.1 x180.2.2.2.1) fun x182 =>
        Option.bind (link_Fold k p3 p4 p5 p6 (2 : Int) (⟨#[97, 98]⟩ : ByteArray)) fun x184 =>
        Option.bind (link_ValidOut k x184.1 x184.2.1 x184.2.2.1 x184.2.2.2.1) fun x186 =>
        if (x175.2.2.2 != (0 : Int)) = true then
          antiquarylaw41_sanity_l1 k p1 x175.2.2.1 x178.2.2.1 ((framesOut x182 x180.1 x180.2.1 x180.2.2.1 x180.2.2.2.1 (9 : Int)).1) ((framesOut x186 x184.1 x184.2.1 x184.2.2.1 x184.2.2.2.1 (9 : Int)).1) true x178.1 x178.2.1 x180.1 x180.2.1 x180.2.2.1 x180.2.2.2.1
        else
          if (x178.2.2.2 != (0 : Int)) = true then
            antiquarylaw41_sanity_l1 k p1 x175.2.2.1 x178.2.2.1 ((framesOut x182 x180.1 x180.2.1 x180.2.2.1 x180.2.2.2.1 (9 : Int)).1) ((framesOut x186 x184.1 x184.2.1 x184.2.2.1 x184.2.2.2.1 (9 : Int)).1) true x178.1 x178.2.1 x180.1 x180.2.1 x180.2.2.1 x180.2.2.2.1
          else
            if (x180.2.2.2.2 != (0 : Int)) = true then
              antiquarylaw41_sanity_l1 k p1 x175.2.2.1 x178.2.2.1 ((framesOut x182 x180.1 x180.2.1 x180.2.2.1 x180.2.2.2.1 (9 : Int)).1) ((framesOut x186 x184.1 x184.2.1 x184.2.2.1 x184.2.2.2.1 (9 : Int)).1) true x178.1 x178.2.1 x180.1 x180.2.1 x180.2.2.1 x180.2.2.2.1
            else
              if ((framesOut x182 x180.1 x180.2.1 x180.2.2.1 x180.2.2.2.1 (9 : Int)).2 != (0 : Int)) = true then
                antiquarylaw41_sanity_l1 k p1 x175.2.2.1 x178.2.2.1 ((framesOut x182 x180.1 x180.2.1 x180.2.2.1 x180.2.2.2.1 (9 : Int)).1) ((framesOut x186 x184.1 x184.2.1 x184.2.2.1 x184.2.2.2.1 (9 : Int)).1) true x178.1 x178.2.1 x180.1 x180.2.1 x180.2.2.1 x180.2.2.2.1
              else
                if (x184.2.2.2.2 != (0 : Int)) = true then
                  antiquarylaw41_sanity_l1 k p1 x175.2.2.1 x178.2.2.1 ((framesOut x182 x180.1 x180.2.1 x180.2.2.1 x180.2.2.2.1 (9 : Int)).1) ((framesOut x186 x184.1 x184.2.1 x184.2.2.1 x184.2.2.2.1 (9 : Int)).1) true x178.1 x178.2.1 x180.1 x180.2.1 x180.2.2.1 x180.2.2.2.1
                else
                  if ((framesOut x186 x184.1 x184.2.1 x184.2.2.1 x184.2.2.2.1 (9 : Int)).2 != (0 : Int)) = true then
                    antiquarylaw41_sanity_l1 k p1 x175.2.2.1 x178.2.2.1 ((framesOut x182 x180.1 x180.2.1 x180.2.2.1 x180.2.2.2.1 (9 : Int)).1) ((framesOut x186 x184.1 x184.2.1 x184.2.2.1 x184.2.2.2.1 (9 : Int)).1) true x178.1 x178.2.1 x180.1 x180.2.1 x180.2.2.1 x180.2.2.2.1
                  else
                    antiquarylaw41_sanity_l1 k p1 x175.2.2.1 x178.2.2.1 ((framesOut x182 x180.1 x180.2.1 x180.2.2.1 x180.2.2.2.1 (9 : Int)).1) ((framesOut x186 x184.1 x184.2.1 x184.2.2.1 x184.2.2.2.1 (9 : Int)).1) ((List.length ((framesOut x186 x184.1 x184.2.1 x184.2.2.1 x184.2.2.2.1 (9 : Int)).1) : Int) != (2 : Int)) x178.1 x178.2.1 x180.1 x180.2.1 x180.2.2.1 x180.2.2.2.1
      else none
    else none
def antiquarylaw41_sanity (k : Nat) : Option (Bool) :=
  Option.bind (antiquarylaw41_put k) fun x163 =>
  Option.bind (link_ValidOut k x163.1 x163.2.1 x163.2.2.1 x163.2.2.2.1) fun x165 =>
  if (!x163.2.2.2.2) = true then
    antiquarylaw41_sanity_l0 k ((framesOut x165 x163.1 x163.2.1 x163.2.2.1 x163.2.2.2.1 (2 : Int)).1) true x163.1 x163.2.1 x163.2.2.1 x163.2.2.2.1
  else
    if ((framesOut x165 x163.1 x163.2.1 x163.2.2.1 x163.2.2.2.1 (2 : Int)).2 != (0 : Int)) = true then
      antiquarylaw41_sanity_l0 k ((framesOut x165 x163.1 x163.2.1 x163.2.2.1 x163.2.2.2.1 (2 : Int)).1) true x163.1 x163.2.1 x163.2.2.1 x163.2.2.2.1
    else
      if ((List.length ((framesOut x165 x163.1 x163.2.1 x163.2.2.1 x163.2.2.2.1 (2 : Int)).1) : Int) != (2 : Int)) = true then
        antiquarylaw41_sanity_l0 k ((framesOut x165 x163.1 x163.2.1 x163.2.2.1 x163.2.2.2.1 (2 : Int)).1) true x163.1 x163.2.1 x163.2.2.1 x163.2.2.2.1
      else
        if (0 : Int) < (List.length ((framesOut x165 x163.1 x163.2.1 x163.2.2.1 x163.2.2.2.1 (2 : Int)).1) : Int) then
          if (!(Kd.eqb (Kd.pair Kd.bool (Kd.pair (Kd.int .i64) (Kd.pair Kd.str Kd.unit))) ((List.getD ((framesOut x165 x163.1 x163.2.1 x163.2.2.1 x163.2.2.2.1 (2 : Int)).1) (0) (Kd.dflt (Kd.pair Kd.bool (Kd.pair (Kd.int .i64) (Kd.pair Kd.str Kd.unit))))).1, (((List.getD ((framesOut x165 x163.1 x163.2.1 x163.2.2.1 x163.2.2.2.1 (2 : Int)).1) (0) (Kd.dflt (Kd.pair Kd.bool (Kd.pair (Kd.int .i64) (Kd.pair Kd.str Kd.unit))))).2).1, ((((List.getD ((framesOut x165 x163.1 x163.2.1 x163.2.2.1 x163.2.2.2.1 (2 : Int)).1) (0) (Kd.dflt (Kd.pair Kd.bool (Kd.pair (Kd.int .i64) (Kd.pair Kd.str Kd.unit))))).2).2).1, ()))) (false, ((0 : Int), ((⟨#[97]⟩ : ByteArray), ()))))) = true then
            antiquarylaw41_sanity_l0 k ((framesOut x165 x163.1 x163.2.1 x163.2.2.1 x163.2.2.2.1 (2 : Int)).1) true x163.1 x163.2.1 x163.2.2.1 x163.2.2.2.1
          else
            if (1 : Int) < (List.length ((framesOut x165 x163.1 x163.2.1 x163.2.2.1 x163.2.2.2.1 (2 : Int)).1) : Int) then
              antiquarylaw41_sanity_l0 k ((framesOut x165 x163.1 x163.2.1 x163.2.2.1 x163.2.2.2.1 (2 : Int)).1) (!(Kd.eqb (Kd.pair Kd.bool (Kd.pair (Kd.int .i64) (Kd.pair Kd.str Kd.unit))) ((List.getD ((framesOut x165 x163.1 x163.2.1 x163.2.2.1 x163.2.2.2.1 (2 : Int)).1) (1) (Kd.dflt (Kd.pair Kd.bool (Kd.pair (Kd.int .i64) (Kd.pair Kd.str Kd.unit))))).1, (((List.getD ((framesOut x165 x163.1 x163.2.1 x163.2.2.1 x163.2.2.2.1 (2 : Int)).1) (1) (Kd.dflt (Kd.pair Kd.bool (Kd.pair (Kd.int .i64) (Kd.pair Kd.str Kd.unit))))).2).1, ((((List.getD ((framesOut x165 x163.1 x163.2.1 x163.2.2.1 x163.2.2.2.1 (2 : Int)).1) (1) (Kd.dflt (Kd.pair Kd.bool (Kd.pair (Kd.int .i64) (Kd.pair Kd.str Kd.unit))))).2).2).1, ()))) (false, ((1 : Int), ((⟨#[98]⟩ : ByteArray), ()))))) x163.1 x163.2.1 x163.2.2.1 x163.2.2.2.1
            else none
        else none
theorem antiquarylaw41_sanity_l2_ok (k : Nat) (p1 : List (Bool × (Int × (ByteArray × Unit)))) (p2 : List (Bool × (Int × (ByteArray × Unit)))) (p3 : Int) (p4 : List (Bool × (Int × (ByteArray × Unit)))) (p5 : Int) (p6 : Bool) (p7 : Int) (p8 : List (Bool × (Int × (ByteArray × Unit)))) (r : Bool) (h : antiquarylaw41_sanity_l2 k p1 p2 p3 p4 p5 p6 p7 p8 = some r) :
    Abs.Good P 9 Try.f9.ntmps [] [] (.v (.p Kd.bool r)) (pos Try.f9 [.r, .r, .r, .r, .c false, .r, .r, .r, .r, .r, .r, .r, .r, .c false, .r, .r, .r, .r]) [(sk 16, some (.v (.p (Kd.sl (Kd.pair Kd.bool (Kd.pair (Kd.int .i64) (Kd.pair Kd.str Kd.unit)))) p1))), (sk 18, some (.v (.ptr 502001 0))), (sk 19, some (.v (.p (Kd.sl (Kd.pair Kd.bool (Kd.pair (Kd.int .i64) (Kd.pair Kd.str Kd.unit)))) p2))), (sk 20, some (.v (.p (Kd.int .i64) p3))), (sk 21, some (.v (.p (Kd.sl (Kd.pair Kd.bool (Kd.pair (Kd.int .i64) (Kd.pair Kd.str Kd.unit)))) p4))), (sk 22, some (.v (.p (Kd.int .i64) p5))), (sk 23, some (.v (.p Kd.bool p6))), (ek 502001, some (.box [.p (Kd.int .i64) p7, .p (Kd.sl (Kd.pair Kd.bool (Kd.pair (Kd.int .i64) (Kd.pair Kd.str Kd.unit)))) p8]))] := by
  unfold antiquarylaw41_sanity_l2 at h
  rcases br_inv h with ⟨h210, h⟩ | ⟨h210, h⟩
  · rcases br_inv h with ⟨h211, h⟩ | ⟨h211, h⟩
    · rcases br_inv h with ⟨h212, h⟩ | ⟨h212, h⟩
      · rcases br_inv h with ⟨h213, h⟩ | ⟨h213, h⟩
        · obtain ⟨x214, h215, h⟩ := bind_inv h
          rcases br_inv h with ⟨h216, h⟩ | ⟨h216, h⟩
          · replace h := Option.some.inj h; subst h
            exact Abs.Good.path_ret hm [.reg [(2, { dec := some true }), (3, { dec := some true }), (4, { pick := some true }), (6, { dec := some true }), (7, { dec := some true }), (8, { pick := some true }), (10, { dec := some true }), (11, { dec := some true }), (12, { dec := some true }), (13, { pick := some true }), (15, { dec := some true }), (16, { dec := some true }), (17, { dec := some true, call := some { lend := [], pass := [], res := .v (.p Kd.bool x214), outs := [], back := [] } }), (18, { pick := some true }), (20, { dec := some true }), (21, { dec := some true }), (22, { dec := some true }), (23, { pick := some true })]] [] Try.func9 (cs := [_, _, _, _, _, _, _, _, _, _, _, _, _, _, _, _, _, _, _]) (by kernel_rfl) ⟨h210, h210, h210, h211, h211, h211, h212, h212, h212, h212, h213, h213, h213, (antiquaryref41_SameFrames_ok k p4 p1 _ h215), h213, h216, h216, h216, h216, trivial⟩ (by kernel_rfl)
          · replace h := Option.some.inj h; subst h
            exact Abs.Good.path_ret hm [.reg [(2, { dec := some true }), (3, { dec := some true }), (4, { pick := some true }), (6, { dec := some true }), (7, { dec := some true }), (8, { pick := some true }), (10, { dec := some true }), (11, { dec := some true }), (12, { dec := some true }), (13, { pick := some true }), (15, { dec := some true }), (16, { dec := some true }), (17, { dec := some true, call := some { lend := [], pass := [], res := .v (.p Kd.bool x214), outs := [], back := [] } }), (18, { pick := some true }), (20, { dec := some false }), (21, { dec := some false }), (22, { dec := some false }), (23, { pick := some false })]] [] Try.func9 (cs := [_, _, _, _, _, _, _, _, _, _, _, _, _, _, _, _, _, _, _]) (by kernel_rfl) ⟨h210, h210, h210, h211, h211, h211, h212, h212, h212, h212, h213, h213, h213, (antiquaryref41_SameFrames_ok k p4 p1 _ h215), h213, h216, h216, h216, h216, trivial⟩ (by kernel_rfl)
        · replace h := Option.some.inj h; subst h
          exact Abs.Good.path_ret hm [.reg [(2, { dec := some true }), (3, { dec := some true }), (4, { pick := some true }), (6, { dec := some true }), (7, { dec := some true }), (8, { pick := some true }), (10, { dec := some true }), (11, { dec := some true }), (12, { dec := some true }), (13, { pick := some true }), (15, { dec := some false }), (16, { dec := some false }), (17, { dec := some false }), (18, { pick := some false }), (20, { dec := some false }), (21, { dec := some false }), (22, { dec := some false }), (23, { pick := some false })]] [] Try.func9 (cs := [_, _, _, _, _, _, _, _, _, _, _, _, _, _, _, _, _, _]) (by kernel_rfl) ⟨h210, h210, h210, h211, h211, h211, h212, h212, h212, h212, h213, h213, h213, h213, (rfl : false = false), (rfl : false = false), (rfl : false = false), (rfl : false = false), trivial⟩ (by kernel_rfl)
      · replace h := Option.some.inj h; subst h
        exact Abs.Good.path_ret hm [.reg [(2, { dec := some true }), (3, { dec := some true }), (4, { pick := some true }), (6, { dec := some true }), (7, { dec := some true }), (8, { pick := some true }), (10, { dec := some false }), (11, { dec := some false }), (12, { dec := some false }), (13, { pick := some false }), (15, { dec := some false }), (16, { dec := some false }), (17, { dec := some false }), (18, { pick := some false }), (20, { dec := some false }), (21, { dec := some false }), (22, { dec := some false }), (23, { pick := some false })]] [] Try.func9 (cs := [_, _, _, _, _, _, _, _, _, _, _, _, _, _, _, _, _, _]) (by kernel_rfl) ⟨h210, h210, h210, h211, h211, h211, h212, h212, h212, h212, (rfl : false = false), (rfl : false = false), (rfl : false = false), (rfl : false = false), (rfl : false = false), (rfl : false = false), (rfl : false = false), (rfl : false = false), trivial⟩ (by kernel_rfl)
    · replace h := Option.some.inj h; subst h
      exact Abs.Good.path_ret hm [.reg [(2, { dec := some true }), (3, { dec := some true }), (4, { pick := some true }), (6, { dec := some false }), (7, { dec := some false }), (8, { pick := some false }), (10, { dec := some false }), (11, { dec := some false }), (12, { dec := some false }), (13, { pick := some false }), (15, { dec := some false }), (16, { dec := some false }), (17, { dec := some false }), (18, { pick := some false }), (20, { dec := some false }), (21, { dec := some false }), (22, { dec := some false }), (23, { pick := some false })]] [] Try.func9 (cs := [_, _, _, _, _, _, _, _, _, _, _, _, _, _, _, _, _, _]) (by kernel_rfl) ⟨h210, h210, h210, h211, h211, h211, (rfl : false = false), (rfl : false = false), (rfl : false = false), (rfl : false = false), (rfl : false = false), (rfl : false = false), (rfl : false = false), (rfl : false = false), (rfl : false = false), (rfl : false = false), (rfl : false = false), (rfl : false = false), trivial⟩ (by kernel_rfl)
  · replace h := Option.some.inj h; subst h
    exact Abs.Good.path_ret hm [.reg [(2, { dec := some false }), (3, { dec := some false }), (4, { pick := some false }), (6, { dec := some false }), (7, { dec := some false }), (8, { pick := some false }), (10, { dec := some false }), (11, { dec := some false }), (12, { dec := some false }), (13, { pick := some false }), (15, { dec := some false }), (16, { dec := some false }), (17, { dec := some false }), (18, { pick := some false }), (20, { dec := some false }), (21, { dec := some false }), (22, { dec := some false }), (23, { pick := some false })]] [] Try.func9 (cs := [_, _, _, _, _, _, _, _, _, _, _, _, _, _, _, _, _, _]) (by kernel_rfl) ⟨h210, h210, h210, (rfl : false = false), (rfl : false = false), (rfl : false = false), (rfl : false = false), (rfl : false = false), (rfl : false = false), (rfl : false = false), (rfl : false = false), (rfl : false = false), (rfl : false = false), (rfl : false = false), (rfl : false = false), (rfl : false = false), (rfl : false = false), (rfl : false = false), trivial⟩ (by kernel_rfl)
theorem antiquarylaw41_sanity_l1_ok (k : Nat) (p1 : List (Bool × (Int × (ByteArray × Unit)))) (p2 : List (Bool × (Int × (ByteArray × Unit)))) (p3 : List (Bool × (Int × (ByteArray × Unit)))) (p4 : List (Bool × (Int × (ByteArray × Unit)))) (p5 : List (Bool × (Int × (ByteArray × Unit)))) (p6 : Bool) (p7 : Int) (p8 : List (Bool × (Int × (ByteArray × Unit)))) (p9 : Int) (p10 : Int) (p11 : ByteArray) (p12 : List ByteArray) (r : Bool) (h : antiquarylaw41_sanity_l1 k p1 p2 p3 p4 p5 p6 p7 p8 p9 p10 p11 p12 = some r) :
    Abs.Good P 9 Try.f9.ntmps [] [] (.v (.p Kd.bool r)) (pos Try.f9 [.r, .r, .r, .r, .c false, .r, .r, .r, .r, .r, .r, .r, .r]) [(sk 3, some (.v (.p (Kd.sl (Kd.pair Kd.bool (Kd.pair (Kd.int .i64) (Kd.pair Kd.str Kd.unit)))) p1))), (sk 5, some (.v (.ptr 501001 0))), (sk 6, some (.v (.p (Kd.sl (Kd.pair Kd.bool (Kd.pair (Kd.int .i64) (Kd.pair Kd.str Kd.unit)))) p2))), (sk 8, some (.v (.p (Kd.sl (Kd.pair Kd.bool (Kd.pair (Kd.int .i64) (Kd.pair Kd.str Kd.unit)))) p3))), (sk 10, some (.v (.ptr 501002 0))), (sk 12, some (.v (.p (Kd.sl (Kd.pair Kd.bool (Kd.pair (Kd.int .i64) (Kd.pair Kd.str Kd.unit)))) p4))), (sk 16, some (.v (.p (Kd.sl (Kd.pair Kd.bool (Kd.pair (Kd.int .i64) (Kd.pair Kd.str Kd.unit)))) p5))), (sk 122, some (.v (.p Kd.bool p6))), (ek 501001, some (.box [.p (Kd.int .i64) p7, .p (Kd.sl (Kd.pair Kd.bool (Kd.pair (Kd.int .i64) (Kd.pair Kd.str Kd.unit)))) p8])), (ek 501002, some (.box [.p (Kd.int .i64) p9, .p (Kd.int .i64) p10, .p Kd.str p11, .p (Kd.sl Kd.str) p12]))] := by
  unfold antiquarylaw41_sanity_l1 at h
  rcases br_inv h with ⟨h194, h⟩ | ⟨h194, h⟩
  · replace h := Option.some.inj h; subst h
    exact Abs.Good.path_ret hm [.cond true, .reg []] [] Try.func9 (cs := [_]) (by kernel_rfl) ⟨h194, trivial⟩ (by kernel_rfl)
  · obtain ⟨h195, h⟩ := gd_inv h
    obtain ⟨x196, h197, h⟩ := bind_inv h
    obtain ⟨h198, h⟩ := gd_inv h
    obtain ⟨x199, h200, h⟩ := bind_inv h
    rcases br_inv h with ⟨h201, h⟩ | ⟨h201, h⟩
    · obtain ⟨x202, h203, h⟩ := bind_inv h
      rcases br_inv h with ⟨h204, h⟩ | ⟨h204, h⟩
      · rcases br_inv h with ⟨h205, h⟩ | ⟨h205, h⟩
        · rcases br_inv h with ⟨h206, h⟩ | ⟨h206, h⟩
          · obtain ⟨x207, h208, h⟩ := bind_inv h
            rcases br_inv h with ⟨h209, h⟩ | ⟨h209, h⟩
            · exact Abs.Good.path hm [.cond false, .reg [], .co (ek 18) 1 (.nsl (Kd.pair Kd.bool (Kd.pair (Kd.int .i64) (Kd.pair Kd.str Kd.unit)))), .reg [(4, { call := some { lend := [], pass := [], res := .t [.agg [.p (Kd.int .i64) x196.1, .p (Kd.sl (Kd.pair Kd.bool (Kd.pair (Kd.int .i64) (Kd.pair Kd.str Kd.unit)))) x196.2.1], .p (Kd.sl (Kd.pair Kd.bool (Kd.pair (Kd.int .i64) (Kd.pair Kd.str Kd.unit)))) x196.2.2.1, .p (Kd.int .i64) x196.2.2.2], outs := [], back := [] } })], .reg [(4, { call := some { lend := [], pass := [], res := .t [.agg [.p (Kd.int .i64) x199.1, .p (Kd.sl (Kd.pair Kd.bool (Kd.pair (Kd.int .i64) (Kd.pair Kd.str Kd.unit)))) x199.2.1], .p (Kd.sl (Kd.pair Kd.bool (Kd.pair (Kd.int .i64) (Kd.pair Kd.str Kd.unit)))) x199.2.2.1, .p (Kd.int .i64) x199.2.2.2], outs := [], back := [] } })], .reg [(4, { dec := some true }), (5, { dec := some true }), (6, { dec := some true, call := some { lend := [], pass := [], res := .v (.p Kd.bool x202), outs := [], back := [] } }), (7, { pick := some true }), (9, { dec := some true }), (10, { dec := some true }), (11, { dec := some true }), (12, { pick := some true }), (14, { dec := some true }), (15, { dec := some true }), (16, { dec := some true }), (17, { pick := some true }), (19, { dec := some true }), (20, { dec := some true }), (21, { dec := some true }), (22, { dec := some true, call := some { lend := [(162, false)], pass := [], res := .v (.p Kd.bool x207), outs := [], back := [] } }), (23, { pick := some true }), (25, { dec := some true }), (26, { dec := some true }), (27, { dec := some true }), (28, { dec := some true }), (29, { dec := some true }), (30, { pick := some true })], .keep [sk 16, sk 18, sk 19, sk 20, sk 21, sk 22, sk 23, ek 18], .ren [(18, 502001)]] (cs := [_, _, _, _, _, _, _, _, _, _, _, _, _, _, _, _, _, _, _, _, _, _, _, _, _, _, _, _, _, _, _, _, _, _, _, _]) (by kernel_rfl) ⟨h194, (by decide : 0 ≤ (1 : Int)), h195, (link_Receive_ok k (0 : Int) ([] : List (Bool × (Int × (ByteArray × Unit)))) ((List.getD p5 (1) (Kd.dflt (Kd.pair Kd.bool (Kd.pair (Kd.int .i64) (Kd.pair Kd.str Kd.unit))))).1) (((List.getD p5 (1) (Kd.dflt (Kd.pair Kd.bool (Kd.pair (Kd.int .i64) (Kd.pair Kd.str Kd.unit))))).2).1) ((((List.getD p5 (1) (Kd.dflt (Kd.pair Kd.bool (Kd.pair (Kd.int .i64) (Kd.pair Kd.str Kd.unit))))).2).2).1) _ h197), (by decide : 0 ≤ (0 : Int)), h198, (link_Receive_ok k x196.1 x196.2.1 ((List.getD p5 (0) (Kd.dflt (Kd.pair Kd.bool (Kd.pair (Kd.int .i64) (Kd.pair Kd.str Kd.unit))))).1) (((List.getD p5 (0) (Kd.dflt (Kd.pair Kd.bool (Kd.pair (Kd.int .i64) (Kd.pair Kd.str Kd.unit))))).2).1) ((((List.getD p5 (0) (Kd.dflt (Kd.pair Kd.bool (Kd.pair (Kd.int .i64) (Kd.pair Kd.str Kd.unit))))).2).2).1) _ h200), h201, h201, h201, (antiquaryref41_SameFrames_ok k p3 p1 _ h203), h201, h204, h204, h204, h204, h205, h205, h205, h205, h206, h206, h206, h206, (antiquaryref41_SameFrames_ok k p4 ([(false, ((2 : Int), ((⟨#[99]⟩ : ByteArray), ())))] : List (Bool × (Int × (ByteArray × Unit)))) _ h208), (rfl : 1 = List.length ([(false, ((2 : Int), ((⟨#[99]⟩ : ByteArray), ())))] : List (Bool × (Int × (ByteArray × Unit))))), h206, h209, h209, (by decide : 0 ≤ (0 : Int)), h198, h209, h209, h209, eq49, h209, trivial⟩ (antiquarylaw41_sanity_l2_ok k p5 x196.2.2.1 x196.2.2.2 x199.2.2.1 x199.2.2.2 (Kd.eqb (Kd.pair Kd.bool (Kd.pair (Kd.int .i64) (Kd.pair Kd.str Kd.unit))) ((List.getD p5 (0) (Kd.dflt (Kd.pair Kd.bool (Kd.pair (Kd.int .i64) (Kd.pair Kd.str Kd.unit))))).1, (((List.getD p5 (0) (Kd.dflt (Kd.pair Kd.bool (Kd.pair (Kd.int .i64) (Kd.pair Kd.str Kd.unit))))).2).1, ((((List.getD p5 (0) (Kd.dflt (Kd.pair Kd.bool (Kd.pair (Kd.int .i64) (Kd.pair Kd.str Kd.unit))))).2).2).1, ()))) (true, ((2 : Int), ((⟨#[97, 98]⟩ : ByteArray), ())))) x199.1 x199.2.1 r h)
            · exact Abs.Good.path hm [.cond false, .reg [], .co (ek 18) 1 (.nsl (Kd.pair Kd.bool (Kd.pair (Kd.int .i64) (Kd.pair Kd.str Kd.unit)))), .reg [(4, { call := some { lend := [], pass := [], res := .t [.agg [.p (Kd.int .i64) x196.1, .p (Kd.sl (Kd.pair Kd.bool (Kd.pair (Kd.int .i64) (Kd.pair Kd.str Kd.unit)))) x196.2.1], .p (Kd.sl (Kd.pair Kd.bool (Kd.pair (Kd.int .i64) (Kd.pair Kd.str Kd.unit)))) x196.2.2.1, .p (Kd.int .i64) x196.2.2.2], outs := [], back := [] } })], .reg [(4, { call := some { lend := [], pass := [], res := .t [.agg [.p (Kd.int .i64) x199.1, .p (Kd.sl (Kd.pair Kd.bool (Kd.pair (Kd.int .i64) (Kd.pair Kd.str Kd.unit)))) x199.2.1], .p (Kd.sl (Kd.pair Kd.bool (Kd.pair (Kd.int .i64) (Kd.pair Kd.str Kd.unit)))) x199.2.2.1, .p (Kd.int .i64) x199.2.2.2], outs := [], back := [] } })], .reg [(4, { dec := some true }), (5, { dec := some true }), (6, { dec := some true, call := some { lend := [], pass := [], res := .v (.p Kd.bool x202), outs := [], back := [] } }), (7, { pick := some true }), (9, { dec := some true }), (10, { dec := some true }), (11, { dec := some true }), (12, { pick := some true }), (14, { dec := some true }), (15, { dec := some true }), (16, { dec := some true }), (17, { pick := some true }), (19, { dec := some true }), (20, { dec := some true }), (21, { dec := some true }), (22, { dec := some true, call := some { lend := [(162, false)], pass := [], res := .v (.p Kd.bool x207), outs := [], back := [] } }), (23, { pick := some true }), (25, { dec := some false }), (26, { dec := some false }), (27, { dec := some false }), (28, { dec := some false }), (29, { dec := some false }), (30, { pick := some false })], .keep [sk 16, sk 18, sk 19, sk 20, sk 21, sk 22, sk 23, ek 18], .ren [(18, 502001)]] (cs := [_, _, _, _, _, _, _, _, _, _, _, _, _, _, _, _, _, _, _, _, _, _, _, _, _, _, _, _, _, _, _, _, _]) (by kernel_rfl) ⟨h194, (by decide : 0 ≤ (1 : Int)), h195, (link_Receive_ok k (0 : Int) ([] : List (Bool × (Int × (ByteArray × Unit)))) ((List.getD p5 (1) (Kd.dflt (Kd.pair Kd.bool (Kd.pair (Kd.int .i64) (Kd.pair Kd.str Kd.unit))))).1) (((List.getD p5 (1) (Kd.dflt (Kd.pair Kd.bool (Kd.pair (Kd.int .i64) (Kd.pair Kd.str Kd.unit))))).2).1) ((((List.getD p5 (1) (Kd.dflt (Kd.pair Kd.bool (Kd.pair (Kd.int .i64) (Kd.pair Kd.str Kd.unit))))).2).2).1) _ h197), (by decide : 0 ≤ (0 : Int)), h198, (link_Receive_ok k x196.1 x196.2.1 ((List.getD p5 (0) (Kd.dflt (Kd.pair Kd.bool (Kd.pair (Kd.int .i64) (Kd.pair Kd.str Kd.unit))))).1) (((List.getD p5 (0) (Kd.dflt (Kd.pair Kd.bool (Kd.pair (Kd.int .i64) (Kd.pair Kd.str Kd.unit))))).2).1) ((((List.getD p5 (0) (Kd.dflt (Kd.pair Kd.bool (Kd.pair (Kd.int .i64) (Kd.pair Kd.str Kd.unit))))).2).2).1) _ h200), h201, h201, h201, (antiquaryref41_SameFrames_ok k p3 p1 _ h203), h201, h204, h204, h204, h204, h205, h205, h205, h205, h206, h206, h206, h206, (antiquaryref41_SameFrames_ok k p4 ([(false, ((2 : Int), ((⟨#[99]⟩ : ByteArray), ())))] : List (Bool × (Int × (ByteArray × Unit)))) _ h208), (rfl : 1 = List.length ([(false, ((2 : Int), ((⟨#[99]⟩ : ByteArray), ())))] : List (Bool × (Int × (ByteArray × Unit))))), h206, h209, h209, h209, h209, h209, h209, trivial⟩ (antiquarylaw41_sanity_l2_ok k p5 x196.2.2.1 x196.2.2.2 x199.2.2.1 x199.2.2.2 false x199.1 x199.2.1 r h)
          · exact Abs.Good.path hm [.cond false, .reg [], .co (ek 18) 1 (.nsl (Kd.pair Kd.bool (Kd.pair (Kd.int .i64) (Kd.pair Kd.str Kd.unit)))), .reg [(4, { call := some { lend := [], pass := [], res := .t [.agg [.p (Kd.int .i64) x196.1, .p (Kd.sl (Kd.pair Kd.bool (Kd.pair (Kd.int .i64) (Kd.pair Kd.str Kd.unit)))) x196.2.1], .p (Kd.sl (Kd.pair Kd.bool (Kd.pair (Kd.int .i64) (Kd.pair Kd.str Kd.unit)))) x196.2.2.1, .p (Kd.int .i64) x196.2.2.2], outs := [], back := [] } })], .reg [(4, { call := some { lend := [], pass := [], res := .t [.agg [.p (Kd.int .i64) x199.1, .p (Kd.sl (Kd.pair Kd.bool (Kd.pair (Kd.int .i64) (Kd.pair Kd.str Kd.unit)))) x199.2.1], .p (Kd.sl (Kd.pair Kd.bool (Kd.pair (Kd.int .i64) (Kd.pair Kd.str Kd.unit)))) x199.2.2.1, .p (Kd.int .i64) x199.2.2.2], outs := [], back := [] } })], .reg [(4, { dec := some true }), (5, { dec := some true }), (6, { dec := some true, call := some { lend := [], pass := [], res := .v (.p Kd.bool x202), outs := [], back := [] } }), (7, { pick := some true }), (9, { dec := some true }), (10, { dec := some true }), (11, { dec := some true }), (12, { pick := some true }), (14, { dec := some true }), (15, { dec := some true }), (16, { dec := some true }), (17, { pick := some true }), (19, { dec := some false }), (20, { dec := some false }), (21, { dec := some false }), (22, { dec := some false }), (23, { pick := some false }), (25, { dec := some false }), (26, { dec := some false }), (27, { dec := some false }), (28, { dec := some false }), (29, { dec := some false }), (30, { pick := some false })], .keep [sk 16, sk 18, sk 19, sk 20, sk 21, sk 22, sk 23, ek 18], .ren [(18, 502001)]] (cs := [_, _, _, _, _, _, _, _, _, _, _, _, _, _, _, _, _, _, _, _, _, _, _, _, _, _, _, _, _, _, _]) (by kernel_rfl) ⟨h194, (by decide : 0 ≤ (1 : Int)), h195, (link_Receive_ok k (0 : Int) ([] : List (Bool × (Int × (ByteArray × Unit)))) ((List.getD p5 (1) (Kd.dflt (Kd.pair Kd.bool (Kd.pair (Kd.int .i64) (Kd.pair Kd.str Kd.unit))))).1) (((List.getD p5 (1) (Kd.dflt (Kd.pair Kd.bool (Kd.pair (Kd.int .i64) (Kd.pair Kd.str Kd.unit))))).2).1) ((((List.getD p5 (1) (Kd.dflt (Kd.pair Kd.bool (Kd.pair (Kd.int .i64) (Kd.pair Kd.str Kd.unit))))).2).2).1) _ h197), (by decide : 0 ≤ (0 : Int)), h198, (link_Receive_ok k x196.1 x196.2.1 ((List.getD p5 (0) (Kd.dflt (Kd.pair Kd.bool (Kd.pair (Kd.int .i64) (Kd.pair Kd.str Kd.unit))))).1) (((List.getD p5 (0) (Kd.dflt (Kd.pair Kd.bool (Kd.pair (Kd.int .i64) (Kd.pair Kd.str Kd.unit))))).2).1) ((((List.getD p5 (0) (Kd.dflt (Kd.pair Kd.bool (Kd.pair (Kd.int .i64) (Kd.pair Kd.str Kd.unit))))).2).2).1) _ h200), h201, h201, h201, (antiquaryref41_SameFrames_ok k p3 p1 _ h203), h201, h204, h204, h204, h204, h205, h205, h205, h205, h206, h206, h206, h206, h206, (rfl : false = false), (rfl : false = false), (rfl : false = false), (rfl : false = false), (rfl : false = false), (rfl : false = false), trivial⟩ (antiquarylaw41_sanity_l2_ok k p5 x196.2.2.1 x196.2.2.2 x199.2.2.1 x199.2.2.2 false x199.1 x199.2.1 r h)
        · exact Abs.Good.path hm [.cond false, .reg [], .co (ek 18) 1 (.nsl (Kd.pair Kd.bool (Kd.pair (Kd.int .i64) (Kd.pair Kd.str Kd.unit)))), .reg [(4, { call := some { lend := [], pass := [], res := .t [.agg [.p (Kd.int .i64) x196.1, .p (Kd.sl (Kd.pair Kd.bool (Kd.pair (Kd.int .i64) (Kd.pair Kd.str Kd.unit)))) x196.2.1], .p (Kd.sl (Kd.pair Kd.bool (Kd.pair (Kd.int .i64) (Kd.pair Kd.str Kd.unit)))) x196.2.2.1, .p (Kd.int .i64) x196.2.2.2], outs := [], back := [] } })], .reg [(4, { call := some { lend := [], pass := [], res := .t [.agg [.p (Kd.int .i64) x199.1, .p (Kd.sl (Kd.pair Kd.bool (Kd.pair (Kd.int .i64) (Kd.pair Kd.str Kd.unit)))) x199.2.1], .p (Kd.sl (Kd.pair Kd.bool (Kd.pair (Kd.int .i64) (Kd.pair Kd.str Kd.unit)))) x199.2.2.1, .p (Kd.int .i64) x199.2.2.2], outs := [], back := [] } })], .reg [(4, { dec := some true }), (5, { dec := some true }), (6, { dec := some true, call := some { lend := [], pass := [], res := .v (.p Kd.bool x202), outs := [], back := [] } }), (7, { pick := some true }), (9, { dec := some true }), (10, { dec := some true }), (11, { dec := some true }), (12, { pick := some true }), (14, { dec := some false }), (15, { dec := some false }), (16, { dec := some false }), (17, { pick := some false }), (19, { dec := some false }), (20, { dec := some false }), (21, { dec := some false }), (22, { dec := some false }), (23, { pick := some false }), (25, { dec := some false }), (26, { dec := some false }), (27, { dec := some false }), (28, { dec := some false }), (29, { dec := some false }), (30, { pick := some false })], .keep [sk 16, sk 18, sk 19, sk 20, sk 21, sk 22, sk 23, ek 18], .ren [(18, 502001)]] (cs := [_, _, _, _, _, _, _, _, _, _, _, _, _, _, _, _, _, _, _, _, _, _, _, _, _, _, _, _, _, _, _]) (by kernel_rfl) ⟨h194, (by decide : 0 ≤ (1 : Int)), h195, (link_Receive_ok k (0 : Int) ([] : List (Bool × (Int × (ByteArray × Unit)))) ((List.getD p5 (1) (Kd.dflt (Kd.pair Kd.bool (Kd.pair (Kd.int .i64) (Kd.pair Kd.str Kd.unit))))).1) (((List.getD p5 (1) (Kd.dflt (Kd.pair Kd.bool (Kd.pair (Kd.int .i64) (Kd.pair Kd.str Kd.unit))))).2).1) ((((List.getD p5 (1) (Kd.dflt (Kd.pair Kd.bool (Kd.pair (Kd.int .i64) (Kd.pair Kd.str Kd.unit))))).2).2).1) _ h197), (by decide : 0 ≤ (0 : Int)), h198, (link_Receive_ok k x196.1 x196.2.1 ((List.getD p5 (0) (Kd.dflt (Kd.pair Kd.bool (Kd.pair (Kd.int .i64) (Kd.pair Kd.str Kd.unit))))).1) (((List.getD p5 (0) (Kd.dflt (Kd.pair Kd.bool (Kd.pair (Kd.int .i64) (Kd.pair Kd.str Kd.unit))))).2).1) ((((List.getD p5 (0) (Kd.dflt (Kd.pair Kd.bool (Kd.pair (Kd.int .i64) (Kd.pair Kd.str Kd.unit))))).2).2).1) _ h200), h201, h201, h201, (antiquaryref41_SameFrames_ok k p3 p1 _ h203), h201, h204, h204, h204, h204, h205, h205, h205, h205, (rfl : false = false), (rfl : false = false), (rfl : false = false), (rfl : false = false), (rfl : false = false), (rfl : false = false), (rfl : false = false), (rfl : false = false), (rfl : false = false), (rfl : false = false), (rfl : false = false), trivial⟩ (antiquarylaw41_sanity_l2_ok k p5 x196.2.2.1 x196.2.2.2 x199.2.2.1 x199.2.2.2 false x199.1 x199.2.1 r h)
      · exact Abs.Good.path hm [.cond false, .reg [], .co (ek 18) 1 (.nsl (Kd.pair Kd.bool (Kd.pair (Kd.int .i64) (Kd.pair Kd.str Kd.unit)))), .reg [(4, { call := some { lend := [], pass := [], res := .t [.agg [.p (Kd.int .i64) x196.1, .p (Kd.sl (Kd.pair Kd.bool (Kd.pair (Kd.int .i64) (Kd.pair Kd.str Kd.unit)))) x196.2.1], .p (Kd.sl (Kd.pair Kd.bool (Kd.pair (Kd.int .i64) (Kd.pair Kd.str Kd.unit)))) x196.2.2.1, .p (Kd.int .i64) x196.2.2.2], outs := [], back := [] } })], .reg [(4, { call := some { lend := [], pass := [], res := .t [.agg [.p (Kd.int .i64) x199.1, .p (Kd.sl (Kd.pair Kd.bool (Kd.pair (Kd.int .i64) (Kd.pair Kd.str Kd.unit)))) x199.2.1], .p (Kd.sl (Kd.pair Kd.bool (Kd.pair (Kd.int .i64) (Kd.pair Kd.str Kd.unit)))) x199.2.2.1, .p (Kd.int .i64) x199.2.2.2], outs := [], back := [] } })], .reg [(4, { dec := some true }), (5, { dec := some true }), (6, { dec := some true, call := some { lend := [], pass := [], res := .v (.p Kd.bool x202), outs := [], back := [] } }), (7, { pick := some true }), (9, { dec := some false }), (10, { dec := some false }), (11, { dec := some false }), (12, { pick := some false }), (14, { dec := some false }), (15, { dec := some false }), (16, { dec := some false }), (17, { pick := some false }), (19, { dec := some false }), (20, { dec := some false }), (21, { dec := some false }), (22, { dec := some false }), (23, { pick := some false }), (25, { dec := some false }), (26, { dec := some false }), (27, { dec := some false }), (28, { dec := some false }), (29, { dec := some false }), (30, { pick := some false })], .keep [sk 16, sk 18, sk 19, sk 20, sk 21, sk 22, sk 23, ek 18], .ren [(18, 502001)]] (cs := [_, _, _, _, _, _, _, _, _, _, _, _, _, _, _, _, _, _, _, _, _, _, _, _, _, _, _, _, _, _, _]) (by kernel_rfl) ⟨h194, (by decide : 0 ≤ (1 : Int)), h195, (link_Receive_ok k (0 : Int) ([] : List (Bool × (Int × (ByteArray × Unit)))) ((List.getD p5 (1) (Kd.dflt (Kd.pair Kd.bool (Kd.pair (Kd.int .i64) (Kd.pair Kd.str Kd.unit))))).1) (((List.getD p5 (1) (Kd.dflt (Kd.pair Kd.bool (Kd.pair (Kd.int .i64) (Kd.pair Kd.str Kd.unit))))).2).1) ((((List.getD p5 (1) (Kd.dflt (Kd.pair Kd.bool (Kd.pair (Kd.int .i64) (Kd.pair Kd.str Kd.unit))))).2).2).1) _ h197), (by decide : 0 ≤ (0 : Int)), h198, (link_Receive_ok k x196.1 x196.2.1 ((List.getD p5 (0) (Kd.dflt (Kd.pair Kd.bool (Kd.pair (Kd.int .i64) (Kd.pair Kd.str Kd.unit))))).1) (((List.getD p5 (0) (Kd.dflt (Kd.pair Kd.bool (Kd.pair (Kd.int .i64) (Kd.pair Kd.str Kd.unit))))).2).1) ((((List.getD p5 (0) (Kd.dflt (Kd.pair Kd.bool (Kd.pair (Kd.int .i64) (Kd.pair Kd.str Kd.unit))))).2).2).1) _ h200), h201, h201, h201, (antiquaryref41_SameFrames_ok k p3 p1 _ h203), h201, h204, h204, h204, h204, (rfl : false = false), (rfl : false = false), (rfl : false = false), (rfl : false = false), (rfl : false = false), (rfl : false = false), (rfl : false = false), (rfl : false = false), (rfl : false = false), (rfl : false = false), (rfl : false = false), (rfl : false = false), (rfl : false = false), (rfl : false = false), (rfl : false = false), trivial⟩ (antiquarylaw41_sanity_l2_ok k p5 x196.2.2.1 x196.2.2.2 x199.2.2.1 x199.2.2.2 false x199.1 x199.2.1 r h)
    · exact Abs.Good.path hm [.cond false, .reg [], .co (ek 18) 1 (.nsl (Kd.pair Kd.bool (Kd.pair (Kd.int .i64) (Kd.pair Kd.str Kd.unit)))), .reg [(4, { call := some { lend := [], pass := [], res := .t [.agg [.p (Kd.int .i64) x196.1, .p (Kd.sl (Kd.pair Kd.bool (Kd.pair (Kd.int .i64) (Kd.pair Kd.str Kd.unit)))) x196.2.1], .p (Kd.sl (Kd.pair Kd.bool (Kd.pair (Kd.int .i64) (Kd.pair Kd.str Kd.unit)))) x196.2.2.1, .p (Kd.int .i64) x196.2.2.2], outs := [], back := [] } })], .reg [(4, { call := some { lend := [], pass := [], res := .t [.agg [.p (Kd.int .i64) x199.1, .p (Kd.sl (Kd.pair Kd.bool (Kd.pair (Kd.int .i64) (Kd.pair Kd.str Kd.unit)))) x199.2.1], .p (Kd.sl (Kd.pair Kd.bool (Kd.pair (Kd.int .i64) (Kd.pair Kd.str Kd.unit)))) x199.2.2.1, .p (Kd.int .i64) x199.2.2.2], outs := [], back := [] } })], .reg [(4, { dec := some false }), (5, { dec := some false }), (6, { dec := some false }), (7, { pick := some false }), (9, { dec := some false }), (10, { dec := some false }), (11, { dec := some false }), (12, { pick := some false }), (14, { dec := some false }), (15, { dec := some false }), (16, { dec := some false }), (17, { pick := some false }), (19, { dec := some false }), (20, { dec := some false }), (21, { dec := some false }), (22, { dec := some false }), (23, { pick := some false }), (25, { dec := some false }), (26, { dec := some false }), (27, { dec := some false }), (28, { dec := some false }), (29, { dec := some false }), (30, { pick := some false })], .keep [sk 16, sk 18, sk 19, sk 20, sk 21, sk 22, sk 23, ek 18], .ren [(18, 502001)]] (cs := [_, _, _, _, _, _, _, _, _, _, _, _, _, _, _, _, _, _, _, _, _, _, _, _, _, _, _, _, _, _]) (by kernel_rfl) ⟨h194, (by decide : 0 ≤ (1 : Int)), h195, (link_Receive_ok k (0 : Int) ([] : List (Bool × (Int × (ByteArray × Unit)))) ((List.getD p5 (1) (Kd.dflt (Kd.pair Kd.bool (Kd.pair (Kd.int .i64) (Kd.pair Kd.str Kd.unit))))).1) (((List.getD p5 (1) (Kd.dflt (Kd.pair Kd.bool (Kd.pair (Kd.int .i64) (Kd.pair Kd.str Kd.unit))))).2).1) ((((List.getD p5 (1) (Kd.dflt (Kd.pair Kd.bool (Kd.pair (Kd.int .i64) (Kd.pair Kd.str Kd.unit))))).2).2).1) _ h197), (by decide : 0 ≤ (0 : Int)), h198, (link_Receive_ok k x196.1 x196.2.1 ((List.getD p5 (0) (Kd.dflt (Kd.pair Kd.bool (Kd.pair (Kd.int .i64) (Kd.pair Kd.str Kd.unit))))).1) (((List.getD p5 (0) (Kd.dflt (Kd.pair Kd.bool (Kd.pair (Kd.int .i64) (Kd.pair Kd.str Kd.unit))))).2).1) ((((List.getD p5 (0) (Kd.dflt (Kd.pair Kd.bool (Kd.pair (Kd.int .i64) (Kd.pair Kd.str Kd.unit))))).2).2).1) _ h200), h201, h201, h201, h201, (rfl : false = false), (rfl : false = false), (rfl : false = false), (rfl : false = false), (rfl : false = false), (rfl : false = false), (rfl : false = false), (rfl : false = false), (rfl : false = false), (rfl : false = false), (rfl : false = false), (rfl : false = false), (rfl : false = false), (rfl : false = false), (rfl : false = false), (rfl : false = false), (rfl : false = false), (rfl : false = false), (rfl : false = false), trivial⟩ (antiquarylaw41_sanity_l2_ok k p5 x196.2.2.1 x196.2.2.2 x199.2.2.1 x199.2.2.2 false x199.1 x199.2.1 r h)
theorem antiquarylaw41_sanity_l0_ok (k : Nat) (p1 : List (Bool × (Int × (ByteArray × Unit)))) (p2 : Bool) (p3 : Int) (p4 : Int) (p5 : ByteArray) (p6 : List ByteArray) (r : Bool) (h : antiquarylaw41_sanity_l0 k p1 p2 p3 p4 p5 p6 = some r) :
    Abs.Good P 9 Try.f9.ntmps [] [] (.v (.p Kd.bool r)) (pos Try.f9 [.r, .r, .r, .r]) [(sk 1, some (.v (.ptr 500001 0))), (sk 3, some (.v (.p (Kd.sl (Kd.pair Kd.bool (Kd.pair (Kd.int .i64) (Kd.pair Kd.str Kd.unit)))) p1))), (sk 57, some (.v (.p Kd.bool p2))), (ek 500001, some (.box [.p (Kd.int .i64) p3, .p (Kd.int .i64) p4, .p Kd.str p5, .p (Kd.sl Kd.str) p6]))] := by
  unfold antiquarylaw41_sanity_l0 at h
  rcases br_inv h with ⟨h173, h⟩ | ⟨h173, h⟩
  · replace h := Option.some.inj h; subst h
    exact Abs.Good.path_ret hm [.cond true, .reg []] [] Try.func9 (cs := [_]) (by kernel_rfl) ⟨h173, trivial⟩ (by kernel_rfl)
  · obtain ⟨h174, h⟩ := gd_inv h
    obtain ⟨x175, h176, h⟩ := bind_inv h
    obtain ⟨h177, h⟩ := gd_inv h
    obtain ⟨x178, h179, h⟩ := bind_inv h
    obtain ⟨x180, h181, h⟩ := bind_inv h
    obtain ⟨x182, h183, h⟩ := bind_inv h
    obtain ⟨x184, h185, h⟩ := bind_inv h
    obtain ⟨x186, h187, h⟩ := bind_inv h
    rcases br_inv h with ⟨h188, h⟩ | ⟨h188, h⟩
    · exact Abs.Good.path hm [.cond false, .reg [], .co (ek 5) 1 (.nsl (Kd.pair Kd.bool (Kd.pair (Kd.int .i64) (Kd.pair Kd.str Kd.unit)))), .reg [(4, { call := some { lend := [], pass := [], res := .t [.agg [.p (Kd.int .i64) x175.1, .p (Kd.sl (Kd.pair Kd.bool (Kd.pair (Kd.int .i64) (Kd.pair Kd.str Kd.unit)))) x175.2.1], .p (Kd.sl (Kd.pair Kd.bool (Kd.pair (Kd.int .i64) (Kd.pair Kd.str Kd.unit)))) x175.2.2.1, .p (Kd.int .i64) x175.2.2.2], outs := [], back := [] } })], .reg [(4, { call := some { lend := [], pass := [], res := .t [.agg [.p (Kd.int .i64) x178.1, .p (Kd.sl (Kd.pair Kd.bool (Kd.pair (Kd.int .i64) (Kd.pair Kd.str Kd.unit)))) x178.2.1], .p (Kd.sl (Kd.pair Kd.bool (Kd.pair (Kd.int .i64) (Kd.pair Kd.str Kd.unit)))) x178.2.2.1, .p (Kd.int .i64) x178.2.2.2], outs := [], back := [] } })], .reg [(1, { call := some { lend := [], pass := [], res := .t [.agg [.p (Kd.int .i64) x180.1, .p (Kd.int .i64) x180.2.1, .p Kd.str x180.2.2.1, .p (Kd.sl Kd.str) x180.2.2.2.1], .p (Kd.int .i64) x180.2.2.2.2], outs := [], back := [] } })], .reg [(1, { call := some { lend := [], pass := [], res := .t [.p (Kd.sl (Kd.pair Kd.bool (Kd.pair (Kd.int .i64) (Kd.pair Kd.str Kd.unit)))) ((framesOut x182 x180.1 x180.2.1 x180.2.2.1 x180.2.2.2.1 (9 : Int)).1), .p (Kd.int .i64) ((framesOut x182 x180.1 x180.2.1 x180.2.2.1 x180.2.2.2.1 (9 : Int)).2)], outs := [], back := [] } })], .reg [(1, { call := some { lend := [], pass := [], res := .t [.agg [.p (Kd.int .i64) x184.1, .p (Kd.int .i64) x184.2.1, .p Kd.str x184.2.2.1, .p (Kd.sl Kd.str) x184.2.2.2.1], .p (Kd.int .i64) x184.2.2.2.2], outs := [], back := [] } })], .reg [(1, { call := some { lend := [], pass := [], res := .t [.p (Kd.sl (Kd.pair Kd.bool (Kd.pair (Kd.int .i64) (Kd.pair Kd.str Kd.unit)))) ((framesOut x186 x184.1 x184.2.1 x184.2.2.1 x184.2.2.2.1 (9 : Int)).1), .p (Kd.int .i64) ((framesOut x186 x184.1 x184.2.1 x184.2.2.1 x184.2.2.2.1 (9 : Int)).2)], outs := [], back := [] } })], .reg [(3, { dec := some true }), (4, { dec := some true }), (5, { pick := some true }), (7, { dec := some true }), (8, { dec := some true }), (9, { pick := some true }), (11, { dec := some true }), (12, { dec := some true }), (13, { pick := some true }), (15, { dec := some true }), (16, { dec := some true }), (17, { pick := some true }), (19, { dec := some true }), (20, { dec := some true }), (21, { pick := some true }), (23, { dec := some true }), (24, { dec := some true }), (25, { dec := some true }), (26, { pick := some true })], .keep [sk 3, sk 5, sk 6, sk 8, sk 10, sk 12, sk 16, sk 122, ek 5, ek 10], .ren [(5, 501001), (10, 501002)]] (cs := [_, _, _, _, _, _, _, _, _, _, _, _, _, _, _, _, _, _, _, _, _, _, _, _, _, _, _, _, _, _]) (by kernel_rfl) ⟨h173, (by decide : 0 ≤ (1 : Int)), h174, (link_Receive_ok k (0 : Int) ([] : List (Bool × (Int × (ByteArray × Unit)))) ((List.getD p1 (1) (Kd.dflt (Kd.pair Kd.bool (Kd.pair (Kd.int .i64) (Kd.pair Kd.str Kd.unit))))).1) (((List.getD p1 (1) (Kd.dflt (Kd.pair Kd.bool (Kd.pair (Kd.int .i64) (Kd.pair Kd.str Kd.unit))))).2).1) ((((List.getD p1 (1) (Kd.dflt (Kd.pair Kd.bool (Kd.pair (Kd.int .i64) (Kd.pair Kd.str Kd.unit))))).2).2).1) _ h176), (by decide : 0 ≤ (0 : Int)), h177, (link_Receive_ok k x175.1 x175.2.1 ((List.getD p1 (0) (Kd.dflt (Kd.pair Kd.bool (Kd.pair (Kd.int .i64) (Kd.pair Kd.str Kd.unit))))).1) (((List.getD p1 (0) (Kd.dflt (Kd.pair Kd.bool (Kd.pair (Kd.int .i64) (Kd.pair Kd.str Kd.unit))))).2).1) ((((List.getD p1 (0) (Kd.dflt (Kd.pair Kd.bool (Kd.pair (Kd.int .i64) (Kd.pair Kd.str Kd.unit))))).2).2).1) _ h179), (link_Acknowledge_ok k p3 p4 p5 p6 (2 : Int) _ h181), (frames12_ok k x180.1 x180.2.1 x180.2.2.1 x180.2.2.2.1 (9 : Int) _ h183), (link_Fold_ok k p3 p4 p5 p6 (2 : Int) (⟨#[97, 98]⟩ : ByteArray) _ h185), (frames12_ok k x184.1 x184.2.1 x184.2.2.1 x184.2.2.2.1 (9 : Int) _ h187), h188, h188, h188, (rfl : true = true), (rfl : true = true), (rfl : true = true), (rfl : true = true), (rfl : true = true), (rfl : true = true), (rfl : true = true), (rfl : true = true), (rfl : true = true), (rfl : true = true), (rfl : true = true), (rfl : true = true), (rfl : true = true), (rfl : true = true), (rfl : true = true), (rfl : true = true), trivial⟩ (antiquarylaw41_sanity_l1_ok k p1 x175.2.2.1 x178.2.2.1 ((framesOut x182 x180.1 x180.2.1 x180.2.2.1 x180.2.2.2.1 (9 : Int)).1) ((framesOut x186 x184.1 x184.2.1 x184.2.2.1 x184.2.2.2.1 (9 : Int)).1) true x178.1 x178.2.1 x180.1 x180.2.1 x180.2.2.1 x180.2.2.2.1 r h)
    · rcases br_inv h with ⟨h189, h⟩ | ⟨h189, h⟩
      · exact Abs.Good.path hm [.cond false, .reg [], .co (ek 5) 1 (.nsl (Kd.pair Kd.bool (Kd.pair (Kd.int .i64) (Kd.pair Kd.str Kd.unit)))), .reg [(4, { call := some { lend := [], pass := [], res := .t [.agg [.p (Kd.int .i64) x175.1, .p (Kd.sl (Kd.pair Kd.bool (Kd.pair (Kd.int .i64) (Kd.pair Kd.str Kd.unit)))) x175.2.1], .p (Kd.sl (Kd.pair Kd.bool (Kd.pair (Kd.int .i64) (Kd.pair Kd.str Kd.unit)))) x175.2.2.1, .p (Kd.int .i64) x175.2.2.2], outs := [], back := [] } })], .reg [(4, { call := some { lend := [], pass := [], res := .t [.agg [.p (Kd.int .i64) x178.1, .p (Kd.sl (Kd.pair Kd.bool (Kd.pair (Kd.int .i64) (Kd.pair Kd.str Kd.unit)))) x178.2.1], .p (Kd.sl (Kd.pair Kd.bool (Kd.pair (Kd.int .i64) (Kd.pair Kd.str Kd.unit)))) x178.2.2.1, .p (Kd.int .i64) x178.2.2.2], outs := [], back := [] } })], .reg [(1, { call := some { lend := [], pass := [], res := .t [.agg [.p (Kd.int .i64) x180.1, .p (Kd.int .i64) x180.2.1, .p Kd.str x180.2.2.1, .p (Kd.sl Kd.str) x180.2.2.2.1], .p (Kd.int .i64) x180.2.2.2.2], outs := [], back := [] } })], .reg [(1, { call := some { lend := [], pass := [], res := .t [.p (Kd.sl (Kd.pair Kd.bool (Kd.pair (Kd.int .i64) (Kd.pair Kd.str Kd.unit)))) ((framesOut x182 x180.1 x180.2.1 x180.2.2.1 x180.2.2.2.1 (9 : Int)).1), .p (Kd.int .i64) ((framesOut x182 x180.1 x180.2.1 x180.2.2.1 x180.2.2.2.1 (9 : Int)).2)], outs := [], back := [] } })], .reg [(1, { call := some { lend := [], pass := [], res := .t [.agg [.p (Kd.int .i64) x184.1, .p (Kd.int .i64) x184.2.1, .p Kd.str x184.2.2.1, .p (Kd.sl Kd.str) x184.2.2.2.1], .p (Kd.int .i64) x184.2.2.2.2], outs := [], back := [] } })], .reg [(1, { call := some { lend := [], pass := [], res := .t [.p (Kd.sl (Kd.pair Kd.bool (Kd.pair (Kd.int .i64) (Kd.pair Kd.str Kd.unit)))) ((framesOut x186 x184.1 x184.2.1 x184.2.2.1 x184.2.2.2.1 (9 : Int)).1), .p (Kd.int .i64) ((framesOut x186 x184.1 x184.2.1 x184.2.2.1 x184.2.2.2.1 (9 : Int)).2)], outs := [], back := [] } })], .reg [(3, { dec := some false }), (4, { dec := some false }), (5, { pick := some false }), (7, { dec := some true }), (8, { dec := some true }), (9, { pick := some true }), (11, { dec := some true }), (12, { dec := some true }), (13, { pick := some true }), (15, { dec := some true }), (16, { dec := some true }), (17, { pick := some true }), (19, { dec := some true }), (20, { dec := some true }), (21, { pick := some true }), (23, { dec := some true }), (24, { dec := some true }), (25, { dec := some true }), (26, { pick := some true })], .keep [sk 3, sk 5, sk 6, sk 8, sk 10, sk 12, sk 16, sk 122, ek 5, ek 10], .ren [(5, 501001), (10, 501002)]] (cs := [_, _, _, _, _, _, _, _, _, _, _, _, _, _, _, _, _, _, _, _, _, _, _, _, _, _, _, _, _, _]) (by kernel_rfl) ⟨h173, (by decide : 0 ≤ (1 : Int)), h174, (link_Receive_ok k (0 : Int) ([] : List (Bool × (Int × (ByteArray × Unit)))) ((List.getD p1 (1) (Kd.dflt (Kd.pair Kd.bool (Kd.pair (Kd.int .i64) (Kd.pair Kd.str Kd.unit))))).1) (((List.getD p1 (1) (Kd.dflt (Kd.pair Kd.bool (Kd.pair (Kd.int .i64) (Kd.pair Kd.str Kd.unit))))).2).1) ((((List.getD p1 (1) (Kd.dflt (Kd.pair Kd.bool (Kd.pair (Kd.int .i64) (Kd.pair Kd.str Kd.unit))))).2).2).1) _ h176), (by decide : 0 ≤ (0 : Int)), h177, (link_Receive_ok k x175.1 x175.2.1 ((List.getD p1 (0) (Kd.dflt (Kd.pair Kd.bool (Kd.pair (Kd.int .i64) (Kd.pair Kd.str Kd.unit))))).1) (((List.getD p1 (0) (Kd.dflt (Kd.pair Kd.bool (Kd.pair (Kd.int .i64) (Kd.pair Kd.str Kd.unit))))).2).1) ((((List.getD p1 (0) (Kd.dflt (Kd.pair Kd.bool (Kd.pair (Kd.int .i64) (Kd.pair Kd.str Kd.unit))))).2).2).1) _ h179), (link_Acknowledge_ok k p3 p4 p5 p6 (2 : Int) _ h181), (frames12_ok k x180.1 x180.2.1 x180.2.2.1 x180.2.2.2.1 (9 : Int) _ h183), (link_Fold_ok k p3 p4 p5 p6 (2 : Int) (⟨#[97, 98]⟩ : ByteArray) _ h185), (frames12_ok k x184.1 x184.2.1 x184.2.2.1 x184.2.2.2.1 (9 : Int) _ h187), h188, h188, h188, h189, h189, h189, (rfl : true = true), (rfl : true = true), (rfl : true = true), (rfl : true = true), (rfl : true = true), (rfl : true = true), (rfl : true = true), (rfl : true = true), (rfl : true = true), (rfl : true = true), (rfl : true = true), (rfl : true = true), (rfl : true = true), trivial⟩ (antiquarylaw41_sanity_l1_ok k p1 x175.2.2.1 x178.2.2.1 ((framesOut x182 x180.1 x180.2.1 x180.2.2.1 x180.2.2.2.1 (9 : Int)).1) ((framesOut x186 x184.1 x184.2.1 x184.2.2.1 x184.2.2.2.1 (9 : Int)).1) true x178.1 x178.2.1 x180.1 x180.2.1 x180.2.2.1 x180.2.2.2.1 r h)
      · rcases br_inv h with ⟨h190, h⟩ | ⟨h190, h⟩
        · exact Abs.Good.path hm [.cond false, .reg [], .co (ek 5) 1 (.nsl (Kd.pair Kd.bool (Kd.pair (Kd.int .i64) (Kd.pair Kd.str Kd.unit)))), .reg [(4, { call := some { lend := [], pass := [], res := .t [.agg [.p (Kd.int .i64) x175.1, .p (Kd.sl (Kd.pair Kd.bool (Kd.pair (Kd.int .i64) (Kd.pair Kd.str Kd.unit)))) x175.2.1], .p (Kd.sl (Kd.pair Kd.bool (Kd.pair (Kd.int .i64) (Kd.pair Kd.str Kd.unit)))) x175.2.2.1, .p (Kd.int .i64) x175.2.2.2], outs := [], back := [] } })], .reg [(4, { call := some { lend := [], pass := [], res := .t [.agg [.p (Kd.int .i64) x178.1, .p (Kd.sl (Kd.pair Kd.bool (Kd.pair (Kd.int .i64) (Kd.pair Kd.str Kd.unit)))) x178.2.1], .p (Kd.sl (Kd.pair Kd.bool (Kd.pair (Kd.int .i64) (Kd.pair Kd.str Kd.unit)))) x178.2.2.1, .p (Kd.int .i64) x178.2.2.2], outs := [], back := [] } })], .reg [(1, { call := some { lend := [], pass := [], res := .t [.agg [.p (Kd.int .i64) x180.1, .p (Kd.int .i64) x180.2.1, .p Kd.str x180.2.2.1, .p (Kd.sl Kd.str) x180.2.2.2.1], .p (Kd.int .i64) x180.2.2.2.2], outs := [], back := [] } })], .reg [(1, { call := some { lend := [], pass := [], res := .t [.p (Kd.sl (Kd.pair Kd.bool (Kd.pair (Kd.int .i64) (Kd.pair Kd.str Kd.unit)))) ((framesOut x182 x180.1 x180.2.1 x180.2.2.1 x180.2.2.2.1 (9 : Int)).1), .p (Kd.int .i64) ((framesOut x182 x180.1 x180.2.1 x180.2.2.1 x180.2.2.2.1 (9 : Int)).2)], outs := [], back := [] } })], .reg [(1, { call := some { lend := [], pass := [], res := .t [.agg [.p (Kd.int .i64) x184.1, .p (Kd.int .i64) x184.2.1, .p Kd.str x184.2.2.1, .p (Kd.sl Kd.str) x184.2.2.2.1], .p (Kd.int .i64) x184.2.2.2.2], outs := [], back := [] } })], .reg [(1, { call := some { lend := [], pass := [], res := .t [.p (Kd.sl (Kd.pair Kd.bool (Kd.pair (Kd.int .i64) (Kd.pair Kd.str Kd.unit)))) ((framesOut x186 x184.1 x184.2.1 x184.2.2.1 x184.2.2.2.1 (9 : Int)).1), .p (Kd.int .i64) ((framesOut x186 x184.1 x184.2.1 x184.2.2.1 x184.2.2.2.1 (9 : Int)).2)], outs := [], back := [] } })], .reg [(3, { dec := some false }), (4, { dec := some false }), (5, { pick := some false }), (7, { dec := some false }), (8, { dec := some false }), (9, { pick := some false }), (11, { dec := some true }), (12, { dec := some true }), (13, { pick := some true }), (15, { dec := some true }), (16, { dec := some true }), (17, { pick := some true }), (19, { dec := some true }), (20, { dec := some true }), (21, { pick := some true }), (23, { dec := some true }), (24, { dec := some true }), (25, { dec := some true }), (26, { pick := some true })], .keep [sk 3, sk 5, sk 6, sk 8, sk 10, sk 12, sk 16, sk 122, ek 5, ek 10], .ren [(5, 501001), (10, 501002)]] (cs := [_, _, _, _, _, _, _, _, _, _, _, _, _, _, _, _, _, _, _, _, _, _, _, _, _, _, _, _, _, _]) (by kernel_rfl) ⟨h173, (by decide : 0 ≤ (1 : Int)), h174, (link_Receive_ok k (0 : Int) ([] : List (Bool × (Int × (ByteArray × Unit)))) ((List.getD p1 (1) (Kd.dflt (Kd.pair Kd.bool (Kd.pair (Kd.int .i64) (Kd.pair Kd.str Kd.unit))))).1) (((List.getD p1 (1) (Kd.dflt (Kd.pair Kd.bool (Kd.pair (Kd.int .i64) (Kd.pair Kd.str Kd.unit))))).2).1) ((((List.getD p1 (1) (Kd.dflt (Kd.pair Kd.bool (Kd.pair (Kd.int .i64) (Kd.pair Kd.str Kd.unit))))).2).2).1) _ h176), (by decide : 0 ≤ (0 : Int)), h177, (link_Receive_ok k x175.1 x175.2.1 ((List.getD p1 (0) (Kd.dflt (Kd.pair Kd.bool (Kd.pair (Kd.int .i64) (Kd.pair Kd.str Kd.unit))))).1) (((List.getD p1 (0) (Kd.dflt (Kd.pair Kd.bool (Kd.pair (Kd.int .i64) (Kd.pair Kd.str Kd.unit))))).2).1) ((((List.getD p1 (0) (Kd.dflt (Kd.pair Kd.bool (Kd.pair (Kd.int .i64) (Kd.pair Kd.str Kd.unit))))).2).2).1) _ h179), (link_Acknowledge_ok k p3 p4 p5 p6 (2 : Int) _ h181), (frames12_ok k x180.1 x180.2.1 x180.2.2.1 x180.2.2.2.1 (9 : Int) _ h183), (link_Fold_ok k p3 p4 p5 p6 (2 : Int) (⟨#[97, 98]⟩ : ByteArray) _ h185), (frames12_ok k x184.1 x184.2.1 x184.2.2.1 x184.2.2.2.1 (9 : Int) _ h187), h188, h188, h188, h189, h189, h189, h190, h190, h190, (rfl : true = true), (rfl : true = true), (rfl : true = true), (rfl : true = true), (rfl : true = true), (rfl : true = true), (rfl : true = true), (rfl : true = true), (rfl : true = true), (rfl : true = true), trivial⟩ (antiquarylaw41_sanity_l1_ok k p1 x175.2.2.1 x178.2.2.1 ((framesOut x182 x180.1 x180.2.1 x180.2.2.1 x180.2.2.2.1 (9 : Int)).1) ((framesOut x186 x184.1 x184.2.1 x184.2.2.1 x184.2.2.2.1 (9 : Int)).1) true x178.1 x178.2.1 x180.1 x180.2.1 x180.2.2.1 x180.2.2.2.1 r h)
        · rcases br_inv h with ⟨h191, h⟩ | ⟨h191, h⟩
          · exact Abs.Good.path hm [.cond false, .reg [], .co (ek 5) 1 (.nsl (Kd.pair Kd.bool (Kd.pair (Kd.int .i64) (Kd.pair Kd.str Kd.unit)))), .reg [(4, { call := some { lend := [], pass := [], res := .t [.agg [.p (Kd.int .i64) x175.1, .p (Kd.sl (Kd.pair Kd.bool (Kd.pair (Kd.int .i64) (Kd.pair Kd.str Kd.unit)))) x175.2.1], .p (Kd.sl (Kd.pair Kd.bool (Kd.pair (Kd.int .i64) (Kd.pair Kd.str Kd.unit)))) x175.2.2.1, .p (Kd.int .i64) x175.2.2.2], outs := [], back := [] } })], .reg [(4, { call := some { lend := [], pass := [], res := .t [.agg [.p (Kd.int .i64) x178.1, .p (Kd.sl (Kd.pair Kd.bool (Kd.pair (Kd.int .i64) (Kd.pair Kd.str Kd.unit)))) x178.2.1], .p (Kd.sl (Kd.pair Kd.bool (Kd.pair (Kd.int .i64) (Kd.pair Kd.str Kd.unit)))) x178.2.2.1, .p (Kd.int .i64) x178.2.2.2], outs := [], back := [] } })], .reg [(1, { call := some { lend := [], pass := [], res := .t [.agg [.p (Kd.int .i64) x180.1, .p (Kd.int .i64) x180.2.1, .p Kd.str x180.2.2.1, .p (Kd.sl Kd.str) x180.2.2.2.1], .p (Kd.int .i64) x180.2.2.2.2], outs := [], back := [] } })], .reg [(1, { call := some { lend := [], pass := [], res := .t [.p (Kd.sl (Kd.pair Kd.bool (Kd.pair (Kd.int .i64) (Kd.pair Kd.str Kd.unit)))) ((framesOut x182 x180.1 x180.2.1 x180.2.2.1 x180.2.2.2.1 (9 : Int)).1), .p (Kd.int .i64) ((framesOut x182 x180.1 x180.2.1 x180.2.2.1 x180.2.2.2.1 (9 : Int)).2)], outs := [], back := [] } })], .reg [(1, { call := some { lend := [], pass := [], res := .t [.agg [.p (Kd.int .i64) x184.1, .p (Kd.int .i64) x184.2.1, .p Kd.str x184.2.2.1, .p (Kd.sl Kd.str) x184.2.2.2.1], .p (Kd.int .i64) x184.2.2.2.2], outs := [], back := [] } })], .reg [(1, { call := some { lend := [], pass := [], res := .t [.p (Kd.sl (Kd.pair Kd.bool (Kd.pair (Kd.int .i64) (Kd.pair Kd.str Kd.unit)))) ((framesOut x186 x184.1 x184.2.1 x184.2.2.1 x184.2.2.2.1 (9 : Int)).1), .p (Kd.int .i64) ((framesOut x186 x184.1 x184.2.1 x184.2.2.1 x184.2.2.2.1 (9 : Int)).2)], outs := [], back := [] } })], .reg [(3, { dec := some false }), (4, { dec := some false }), (5, { pick := some false }), (7, { dec := some false }), (8, { dec := some false }), (9, { pick := some false }), (11, { dec := some false }), (12, { dec := some false }), (13, { pick := some false }), (15, { dec := some true }), (16, { dec := some true }), (17, { pick := some true }), (19, { dec := some true }), (20, { dec := some true }), (21, { pick := some true }), (23, { dec := some true }), (24, { dec := some true }), (25, { dec := some true }), (26, { pick := some true })], .keep [sk 3, sk 5, sk 6, sk 8, sk 10, sk 12, sk 16, sk 122, ek 5, ek 10], .ren [(5, 501001), (10, 501002)]] (cs := [_, _, _, _, _, _, _, _, _, _, _, _, _, _, _, _, _, _, _, _, _, _, _, _, _, _, _, _, _, _]) (by kernel_rfl) ⟨h173, (by decide : 0 ≤ (1 : Int)), h174, (link_Receive_ok k (0 : Int) ([] : List (Bool × (Int × (ByteArray × Unit)))) ((List.getD p1 (1) (Kd.dflt (Kd.pair Kd.bool (Kd.pair (Kd.int .i64) (Kd.pair Kd.str Kd.unit))))).1) (((List.getD p1 (1) (Kd.dflt (Kd.pair Kd.bool (Kd.pair (Kd.int .i64) (Kd.pair Kd.str Kd.unit))))).2).1) ((((List.getD p1 (1) (Kd.dflt (Kd.pair Kd.bool (Kd.pair (Kd.int .i64) (Kd.pair Kd.str Kd.unit))))).2).2).1) _ h176), (by decide : 0 ≤ (0 : Int)), h177, (link_Receive_ok k x175.1 x175.2.1 ((List.getD p1 (0) (Kd.dflt (Kd.pair Kd.bool (Kd.pair (Kd.int .i64) (Kd.pair Kd.str Kd.unit))))).1) (((List.getD p1 (0) (Kd.dflt (Kd.pair Kd.bool (Kd.pair (Kd.int .i64) (Kd.pair Kd.str Kd.unit))))).2).1) ((((List.getD p1 (0) (Kd.dflt (Kd.pair Kd.bool (Kd.pair (Kd.int .i64) (Kd.pair Kd.str Kd.unit))))).2).2).1) _ h179), (link_Acknowledge_ok k p3 p4 p5 p6 (2 : Int) _ h181), (frames12_ok k x180.1 x180.2.1 x180.2.2.1 x180.2.2.2.1 (9 : Int) _ h183), (link_Fold_ok k p3 p4 p5 p6 (2 : Int) (⟨#[97, 98]⟩ : ByteArray) _ h185), (frames12_ok k x184.1 x184.2.1 x184.2.2.1 x184.2.2.2.1 (9 : Int) _ h187), h188, h188, h188, h189, h189, h189, h190, h190, h190, h191, h191, h191, (rfl : true = true), (rfl : true = true), (rfl : true = true), (rfl : true = true), (rfl : true = true), (rfl : true = true), (rfl : true = true), trivial⟩ (antiquarylaw41_sanity_l1_ok k p1 x175.2.2.1 x178.2.2.1 ((framesOut x182 x180.1 x180.2.1 x180.2.2.1 x180.2.2.2.1 (9 : Int)).1) ((framesOut x186 x184.1 x184.2.1 x184.2.2.1 x184.2.2.2.1 (9 : Int)).1) true x178.1 x178.2.1 x180.1 x180.2.1 x180.2.2.1 x180.2.2.2.1 r h)
          · rcases br_inv h with ⟨h192, h⟩ | ⟨h192, h⟩
            · exact Abs.Good.path hm [.cond false, .reg [], .co (ek 5) 1 (.nsl (Kd.pair Kd.bool (Kd.pair (Kd.int .i64) (Kd.pair Kd.str Kd.unit)))), .reg [(4, { call := some { lend := [], pass := [], res := .t [.agg [.p (Kd.int .i64) x175.1, .p (Kd.sl (Kd.pair Kd.bool (Kd.pair (Kd.int .i64) (Kd.pair Kd.str Kd.unit)))) x175.2.1], .p (Kd.sl (Kd.pair Kd.bool (Kd.pair (Kd.int .i64) (Kd.pair Kd.str Kd.unit)))) x175.2.2.1, .p (Kd.int .i64) x175.2.2.2], outs := [], back := [] } })], .reg [(4, { call := some { lend := [], pass := [], res := .t [.agg [.p (Kd.int .i64) x178.1, .p (Kd.sl (Kd.pair Kd.bool (Kd.pair (Kd.int .i64) (Kd.pair Kd.str Kd.unit)))) x178.2.1], .p (Kd.sl (Kd.pair Kd.bool (Kd.pair (Kd.int .i64) (Kd.pair Kd.str Kd.unit)))) x178.2.2.1, .p (Kd.int .i64) x178.2.2.2], outs := [], back := [] } })], .reg [(1, { call := some { lend := [], pass := [], res := .t [.agg [.p (Kd.int .i64) x180.1, .p (Kd.int .i64) x180.2.1, .p Kd.str x180.2.2.1, .p (Kd.sl Kd.str) x180.2.2.2.1], .p (Kd.int .i64) x180.2.2.2.2], outs := [], back := [] } })], .reg [(1, { call := some { lend := [], pass := [], res := .t [.p (Kd.sl (Kd.pair Kd.bool (Kd.pair (Kd.int .i64) (Kd.pair Kd.str Kd.unit)))) ((framesOut x182 x180.1 x180.2.1 x180.2.2.1 x180.2.2.2.1 (9 : Int)).1), .p (Kd.int .i64) ((framesOut x182 x180.1 x180.2.1 x180.2.2.1 x180.2.2.2.1 (9 : Int)).2)], outs := [], back := [] } })], .reg [(1, { call := some { lend := [], pass := [], res := .t [.agg [.p (Kd.int .i64) x184.1, .p (Kd.int .i64) x184.2.1, .p Kd.str x184.2.2.1, .p (Kd.sl Kd.str) x184.2.2.2.1], .p (Kd.int .i64) x184.2.2.2.2], outs := [], back := [] } })], .reg [(1, { call := some { lend := [], pass := [], res := .t [.p (Kd.sl (Kd.pair Kd.bool (Kd.pair (Kd.int .i64) (Kd.pair Kd.str Kd.unit)))) ((framesOut x186 x184.1 x184.2.1 x184.2.2.1 x184.2.2.2.1 (9 : Int)).1), .p (Kd.int .i64) ((framesOut x186 x184.1 x184.2.1 x184.2.2.1 x184.2.2.2.1 (9 : Int)).2)], outs := [], back := [] } })], .reg [(3, { dec := some false }), (4, { dec := some false }), (5, { pick := some false }), (7, { dec := some false }), (8, { dec := some false }), (9, { pick := some false }), (11, { dec := some false }), (12, { dec := some false }), (13, { pick := some false }), (15, { dec := some false }), (16, { dec := some false }), (17, { pick := some false }), (19, { dec := some true }), (20, { dec := some true }), (21, { pick := some true }), (23, { dec := some true }), (24, { dec := some true }), (25, { dec := some true }), (26, { pick := some true })], .keep [sk 3, sk 5, sk 6, sk 8, sk 10, sk 12, sk 16, sk 122, ek 5, ek 10], .ren [(5, 501001), (10, 501002)]] (cs := [_, _, _, _, _, _, _, _, _, _, _, _, _, _, _, _, _, _, _, _, _, _, _, _, _, _, _, _, _, _]) (by kernel_rfl) ⟨h173, (by decide : 0 ≤ (1 : Int)), h174, (link_Receive_ok k (0 : Int) ([] : List (Bool × (Int × (ByteArray × Unit)))) ((List.getD p1 (1) (Kd.dflt (Kd.pair Kd.bool (Kd.pair (Kd.int .i64) (Kd.pair Kd.str Kd.unit))))).1) (((List.getD p1 (1) (Kd.dflt (Kd.pair Kd.bool (Kd.pair (Kd.int .i64) (Kd.pair Kd.str Kd.unit))))).2).1) ((((List.getD p1 (1) (Kd.dflt (Kd.pair Kd.bool (Kd.pair (Kd.int .i64) (Kd.pair Kd.str Kd.unit))))).2).2).1) _ h176), (by decide : 0 ≤ (0 : Int)), h177, (link_Receive_ok k x175.1 x175.2.1 ((List.getD p1 (0) (Kd.dflt (Kd.pair Kd.bool (Kd.pair (Kd.int .i64) (Kd.pair Kd.str Kd.unit))))).1) (((List.getD p1 (0) (Kd.dflt (Kd.pair Kd.bool (Kd.pair (Kd.int .i64) (Kd.pair Kd.str Kd.unit))))).2).1) ((((List.getD p1 (0) (Kd.dflt (Kd.pair Kd.bool (Kd.pair (Kd.int .i64) (Kd.pair Kd.str Kd.unit))))).2).2).1) _ h179), (link_Acknowledge_ok k p3 p4 p5 p6 (2 : Int) _ h181), (frames12_ok k x180.1 x180.2.1 x180.2.2.1 x180.2.2.2.1 (9 : Int) _ h183), (link_Fold_ok k p3 p4 p5 p6 (2 : Int) (⟨#[97, 98]⟩ : ByteArray) _ h185), (frames12_ok k x184.1 x184.2.1 x184.2.2.1 x184.2.2.2.1 (9 : Int) _ h187), h188, h188, h188, h189, h189, h189, h190, h190, h190, h191, h191, h191, h192, h192, h192, (rfl : true = true), (rfl : true = true), (rfl : true = true), (rfl : true = true), trivial⟩ (antiquarylaw41_sanity_l1_ok k p1 x175.2.2.1 x178.2.2.1 ((framesOut x182 x180.1 x180.2.1 x180.2.2.1 x180.2.2.2.1 (9 : Int)).1) ((framesOut x186 x184.1 x184.2.1 x184.2.2.1 x184.2.2.2.1 (9 : Int)).1) true x178.1 x178.2.1 x180.1 x180.2.1 x180.2.2.1 x180.2.2.2.1 r h)
            · rcases br_inv h with ⟨h193, h⟩ | ⟨h193, h⟩
              · exact Abs.Good.path hm [.cond false, .reg [], .co (ek 5) 1 (.nsl (Kd.pair Kd.bool (Kd.pair (Kd.int .i64) (Kd.pair Kd.str Kd.unit)))), .reg [(4, { call := some { lend := [], pass := [], res := .t [.agg [.p (Kd.int .i64) x175.1, .p (Kd.sl (Kd.pair Kd.bool (Kd.pair (Kd.int .i64) (Kd.pair Kd.str Kd.unit)))) x175.2.1], .p (Kd.sl (Kd.pair Kd.bool (Kd.pair (Kd.int .i64) (Kd.pair Kd.str Kd.unit)))) x175.2.2.1, .p (Kd.int .i64) x175.2.2.2], outs := [], back := [] } })], .reg [(4, { call := some { lend := [], pass := [], res := .t [.agg [.p (Kd.int .i64) x178.1, .p (Kd.sl (Kd.pair Kd.bool (Kd.pair (Kd.int .i64) (Kd.pair Kd.str Kd.unit)))) x178.2.1], .p (Kd.sl (Kd.pair Kd.bool (Kd.pair (Kd.int .i64) (Kd.pair Kd.str Kd.unit)))) x178.2.2.1, .p (Kd.int .i64) x178.2.2.2], outs := [], back := [] } })], .reg [(1, { call := some { lend := [], pass := [], res := .t [.agg [.p (Kd.int .i64) x180.1, .p (Kd.int .i64) x180.2.1, .p Kd.str x180.2.2.1, .p (Kd.sl Kd.str) x180.2.2.2.1], .p (Kd.int .i64) x180.2.2.2.2], outs := [], back := [] } })], .reg [(1, { call := some { lend := [], pass := [], res := .t [.p (Kd.sl (Kd.pair Kd.bool (Kd.pair (Kd.int .i64) (Kd.pair Kd.str Kd.unit)))) ((framesOut x182 x180.1 x180.2.1 x180.2.2.1 x180.2.2.2.1 (9 : Int)).1), .p (Kd.int .i64) ((framesOut x182 x180.1 x180.2.1 x180.2.2.1 x180.2.2.2.1 (9 : Int)).2)], outs := [], back := [] } })], .reg [(1, { call := some { lend := [], pass := [], res := .t [.agg [.p (Kd.int .i64) x184.1, .p (Kd.int .i64) x184.2.1, .p Kd.str x184.2.2.1, .p (Kd.sl Kd.str) x184.2.2.2.1], .p (Kd.int .i64) x184.2.2.2.2], outs := [], back := [] } })], .reg [(1, { call := some { lend := [], pass := [], res := .t [.p (Kd.sl (Kd.pair Kd.bool (Kd.pair (Kd.int .i64) (Kd.pair Kd.str Kd.unit)))) ((framesOut x186 x184.1 x184.2.1 x184.2.2.1 x184.2.2.2.1 (9 : Int)).1), .p (Kd.int .i64) ((framesOut x186 x184.1 x184.2.1 x184.2.2.1 x184.2.2.2.1 (9 : Int)).2)], outs := [], back := [] } })], .reg [(3, { dec := some false }), (4, { dec := some false }), (5, { pick := some false }), (7, { dec := some false }), (8, { dec := some false }), (9, { pick := some false }), (11, { dec := some false }), (12, { dec := some false }), (13, { pick := some false }), (15, { dec := some false }), (16, { dec := some false }), (17, { pick := some false }), (19, { dec := some false }), (20, { dec := some false }), (21, { pick := some false }), (23, { dec := some true }), (24, { dec := some true }), (25, { dec := some true }), (26, { pick := some true })], .keep [sk 3, sk 5, sk 6, sk 8, sk 10, sk 12, sk 16, sk 122, ek 5, ek 10], .ren [(5, 501001), (10, 501002)]] (cs := [_, _, _, _, _, _, _, _, _, _, _, _, _, _, _, _, _, _, _, _, _, _, _, _, _, _, _, _, _, _]) (by kernel_rfl) ⟨h173, (by decide : 0 ≤ (1 : Int)), h174, (link_Receive_ok k (0 : Int) ([] : List (Bool × (Int × (ByteArray × Unit)))) ((List.getD p1 (1) (Kd.dflt (Kd.pair Kd.bool (Kd.pair (Kd.int .i64) (Kd.pair Kd.str Kd.unit))))).1) (((List.getD p1 (1) (Kd.dflt (Kd.pair Kd.bool (Kd.pair (Kd.int .i64) (Kd.pair Kd.str Kd.unit))))).2).1) ((((List.getD p1 (1) (Kd.dflt (Kd.pair Kd.bool (Kd.pair (Kd.int .i64) (Kd.pair Kd.str Kd.unit))))).2).2).1) _ h176), (by decide : 0 ≤ (0 : Int)), h177, (link_Receive_ok k x175.1 x175.2.1 ((List.getD p1 (0) (Kd.dflt (Kd.pair Kd.bool (Kd.pair (Kd.int .i64) (Kd.pair Kd.str Kd.unit))))).1) (((List.getD p1 (0) (Kd.dflt (Kd.pair Kd.bool (Kd.pair (Kd.int .i64) (Kd.pair Kd.str Kd.unit))))).2).1) ((((List.getD p1 (0) (Kd.dflt (Kd.pair Kd.bool (Kd.pair (Kd.int .i64) (Kd.pair Kd.str Kd.unit))))).2).2).1) _ h179), (link_Acknowledge_ok k p3 p4 p5 p6 (2 : Int) _ h181), (frames12_ok k x180.1 x180.2.1 x180.2.2.1 x180.2.2.2.1 (9 : Int) _ h183), (link_Fold_ok k p3 p4 p5 p6 (2 : Int) (⟨#[97, 98]⟩ : ByteArray) _ h185), (frames12_ok k x184.1 x184.2.1 x184.2.2.1 x184.2.2.2.1 (9 : Int) _ h187), h188, h188, h188, h189, h189, h189, h190, h190, h190, h191, h191, h191, h192, h192, h192, h193, h193, h193, h193, trivial⟩ (antiquarylaw41_sanity_l1_ok k p1 x175.2.2.1 x178.2.2.1 ((framesOut x182 x180.1 x180.2.1 x180.2.2.1 x180.2.2.2.1 (9 : Int)).1) ((framesOut x186 x184.1 x184.2.1 x184.2.2.1 x184.2.2.2.1 (9 : Int)).1) true x178.1 x178.2.1 x180.1 x180.2.1 x180.2.2.1 x180.2.2.2.1 r h)
              · exact Abs.Good.path hm [.cond false, .reg [], .co (ek 5) 1 (.nsl (Kd.pair Kd.bool (Kd.pair (Kd.int .i64) (Kd.pair Kd.str Kd.unit)))), .reg [(4, { call := some { lend := [], pass := [], res := .t [.agg [.p (Kd.int .i64) x175.1, .p (Kd.sl (Kd.pair Kd.bool (Kd.pair (Kd.int .i64) (Kd.pair Kd.str Kd.unit)))) x175.2.1], .p (Kd.sl (Kd.pair Kd.bool (Kd.pair (Kd.int .i64) (Kd.pair Kd.str Kd.unit)))) x175.2.2.1, .p (Kd.int .i64) x175.2.2.2], outs := [], back := [] } })], .reg [(4, { call := some { lend := [], pass := [], res := .t [.agg [.p (Kd.int .i64) x178.1, .p (Kd.sl (Kd.pair Kd.bool (Kd.pair (Kd.int .i64) (Kd.pair Kd.str Kd.unit)))) x178.2.1], .p (Kd.sl (Kd.pair Kd.bool (Kd.pair (Kd.int .i64) (Kd.pair Kd.str Kd.unit)))) x178.2.2.1, .p (Kd.int .i64) x178.2.2.2], outs := [], back := [] } })], .reg [(1, { call := some { lend := [], pass := [], res := .t [.agg [.p (Kd.int .i64) x180.1, .p (Kd.int .i64) x180.2.1, .p Kd.str x180.2.2.1, .p (Kd.sl Kd.str) x180.2.2.2.1], .p (Kd.int .i64) x180.2.2.2.2], outs := [], back := [] } })], .reg [(1, { call := some { lend := [], pass := [], res := .t [.p (Kd.sl (Kd.pair Kd.bool (Kd.pair (Kd.int .i64) (Kd.pair Kd.str Kd.unit)))) ((framesOut x182 x180.1 x180.2.1 x180.2.2.1 x180.2.2.2.1 (9 : Int)).1), .p (Kd.int .i64) ((framesOut x182 x180.1 x180.2.1 x180.2.2.1 x180.2.2.2.1 (9 : Int)).2)], outs := [], back := [] } })], .reg [(1, { call := some { lend := [], pass := [], res := .t [.agg [.p (Kd.int .i64) x184.1, .p (Kd.int .i64) x184.2.1, .p Kd.str x184.2.2.1, .p (Kd.sl Kd.str) x184.2.2.2.1], .p (Kd.int .i64) x184.2.2.2.2], outs := [], back := [] } })], .reg [(1, { call := some { lend := [], pass := [], res := .t [.p (Kd.sl (Kd.pair Kd.bool (Kd.pair (Kd.int .i64) (Kd.pair Kd.str Kd.unit)))) ((framesOut x186 x184.1 x184.2.1 x184.2.2.1 x184.2.2.2.1 (9 : Int)).1), .p (Kd.int .i64) ((framesOut x186 x184.1 x184.2.1 x184.2.2.1 x184.2.2.2.1 (9 : Int)).2)], outs := [], back := [] } })], .reg [(3, { dec := some false }), (4, { dec := some false }), (5, { pick := some false }), (7, { dec := some false }), (8, { dec := some false }), (9, { pick := some false }), (11, { dec := some false }), (12, { dec := some false }), (13, { pick := some false }), (15, { dec := some false }), (16, { dec := some false }), (17, { pick := some false }), (19, { dec := some false }), (20, { dec := some false }), (21, { pick := some false }), (23, { dec := some false }), (24, { dec := some false }), (25, { dec := some false }), (26, { pick := some false })], .keep [sk 3, sk 5, sk 6, sk 8, sk 10, sk 12, sk 16, sk 122, ek 5, ek 10], .ren [(5, 501001), (10, 501002)]] (cs := [_, _, _, _, _, _, _, _, _, _, _, _, _, _, _, _, _, _, _, _, _, _, _, _, _, _, _, _, _, _]) (by kernel_rfl) ⟨h173, (by decide : 0 ≤ (1 : Int)), h174, (link_Receive_ok k (0 : Int) ([] : List (Bool × (Int × (ByteArray × Unit)))) ((List.getD p1 (1) (Kd.dflt (Kd.pair Kd.bool (Kd.pair (Kd.int .i64) (Kd.pair Kd.str Kd.unit))))).1) (((List.getD p1 (1) (Kd.dflt (Kd.pair Kd.bool (Kd.pair (Kd.int .i64) (Kd.pair Kd.str Kd.unit))))).2).1) ((((List.getD p1 (1) (Kd.dflt (Kd.pair Kd.bool (Kd.pair (Kd.int .i64) (Kd.pair Kd.str Kd.unit))))).2).2).1) _ h176), (by decide : 0 ≤ (0 : Int)), h177, (link_Receive_ok k x175.1 x175.2.1 ((List.getD p1 (0) (Kd.dflt (Kd.pair Kd.bool (Kd.pair (Kd.int .i64) (Kd.pair Kd.str Kd.unit))))).1) (((List.getD p1 (0) (Kd.dflt (Kd.pair Kd.bool (Kd.pair (Kd.int .i64) (Kd.pair Kd.str Kd.unit))))).2).1) ((((List.getD p1 (0) (Kd.dflt (Kd.pair Kd.bool (Kd.pair (Kd.int .i64) (Kd.pair Kd.str Kd.unit))))).2).2).1) _ h179), (link_Acknowledge_ok k p3 p4 p5 p6 (2 : Int) _ h181), (frames12_ok k x180.1 x180.2.1 x180.2.2.1 x180.2.2.2.1 (9 : Int) _ h183), (link_Fold_ok k p3 p4 p5 p6 (2 : Int) (⟨#[97, 98]⟩ : ByteArray) _ h185), (frames12_ok k x184.1 x184.2.1 x184.2.2.1 x184.2.2.2.1 (9 : Int) _ h187), h188, h188, h188, h189, h189, h189, h190, h190, h190, h191, h191, h191, h192, h192, h192, h193, h193, h193, h193, trivial⟩ (antiquarylaw41_sanity_l1_ok k p1 x175.2.2.1 x178.2.2.1 ((framesOut x182 x180.1 x180.2.1 x180.2.2.1 x180.2.2.2.1 (9 : Int)).1) ((framesOut x186 x184.1 x184.2.1 x184.2.2.1 x184.2.2.2.1 (9 : Int)).1) ((List.length ((framesOut x186 x184.1 x184.2.1 x184.2.2.1 x184.2.2.2.1 (9 : Int)).1) : Int) != (2 : Int)) x178.1 x178.2.1 x180.1 x180.2.1 x180.2.2.1 x180.2.2.2.1 r h)
theorem antiquarylaw41_sanity_ok (k : Nat) (r : Bool) (h : antiquarylaw41_sanity k = some r) : SpecOk P ⟨9, [], [], .v (.p Kd.bool r), []⟩ := by
  refine spec_at Try.func9 (by kernel_rfl) (Nat.le_of_ble_eq_true (by kernel_rfl)) ?_
  unfold antiquarylaw41_sanity at h
  obtain ⟨x163, h164, h⟩ := bind_inv h
  obtain ⟨x165, h166, h⟩ := bind_inv h
  rcases br_inv h with ⟨h167, h⟩ | ⟨h167, h⟩
  · exact Abs.Good.path hm [.reg [], .reg [(0, { call := some { lend := [], pass := [], res := .t [.agg [.p (Kd.int .i64) x163.1, .p (Kd.int .i64) x163.2.1, .p Kd.str x163.2.2.1, .p (Kd.sl Kd.str) x163.2.2.2.1], .p Kd.bool x163.2.2.2.2], outs := [], back := [] } })], .reg [(1, { call := some { lend := [], pass := [], res := .t [.p (Kd.sl (Kd.pair Kd.bool (Kd.pair (Kd.int .i64) (Kd.pair Kd.str Kd.unit)))) ((framesOut x165 x163.1 x163.2.1 x163.2.2.1 x163.2.2.2.1 (2 : Int)).1), .p (Kd.int .i64) ((framesOut x165 x163.1 x163.2.1 x163.2.2.1 x163.2.2.2.1 (2 : Int)).2)], outs := [], back := [] } })], .reg [(3, { dec := some true }), (4, { dec := some true }), (5, { pick := some true }), (7, { dec := some true }), (8, { dec := some true }), (9, { dec := some true }), (10, { pick := some true }), (12, { dec := some true }), (13, { dec := some true }), (14, { dec := some true }), (15, { dec := some true }), (16, { dec := some true }), (17, { pick := some true }), (19, { dec := some true }), (20, { dec := some true }), (21, { dec := some true }), (22, { dec := some true }), (23, { dec := some true }), (24, { pick := some true })], .keep [sk 1, sk 3, sk 57, ek 1], .ren [(1, 500001)]] (cs := [_, _, _, _, _, _, _, _, _, _, _, _, _, _, _, _, _, _, _, _, _]) (by kernel_rfl) ⟨(antiquarylaw41_put_ok k  _ h164), (frames12_ok k x163.1 x163.2.1 x163.2.2.1 x163.2.2.2.1 (2 : Int) _ h166), h167, h167, h167, (rfl : true = true), (rfl : true = true), (rfl : true = true), (rfl : true = true), (rfl : true = true), (rfl : true = true), (rfl : true = true), (rfl : true = true), (rfl : true = true), (rfl : true = true), (rfl : true = true), (rfl : true = true), (rfl : true = true), (rfl : true = true), (rfl : true = true), (rfl : true = true), trivial⟩ (antiquarylaw41_sanity_l0_ok k ((framesOut x165 x163.1 x163.2.1 x163.2.2.1 x163.2.2.2.1 (2 : Int)).1) true x163.1 x163.2.1 x163.2.2.1 x163.2.2.2.1 r h)
  · rcases br_inv h with ⟨h168, h⟩ | ⟨h168, h⟩
    · exact Abs.Good.path hm [.reg [], .reg [(0, { call := some { lend := [], pass := [], res := .t [.agg [.p (Kd.int .i64) x163.1, .p (Kd.int .i64) x163.2.1, .p Kd.str x163.2.2.1, .p (Kd.sl Kd.str) x163.2.2.2.1], .p Kd.bool x163.2.2.2.2], outs := [], back := [] } })], .reg [(1, { call := some { lend := [], pass := [], res := .t [.p (Kd.sl (Kd.pair Kd.bool (Kd.pair (Kd.int .i64) (Kd.pair Kd.str Kd.unit)))) ((framesOut x165 x163.1 x163.2.1 x163.2.2.1 x163.2.2.2.1 (2 : Int)).1), .p (Kd.int .i64) ((framesOut x165 x163.1 x163.2.1 x163.2.2.1 x163.2.2.2.1 (2 : Int)).2)], outs := [], back := [] } })], .reg [(3, { dec := some false }), (4, { dec := some false }), (5, { pick := some false }), (7, { dec := some true }), (8, { dec := some true }), (9, { dec := some true }), (10, { pick := some true }), (12, { dec := some true }), (13, { dec := some true }), (14, { dec := some true }), (15, { dec := some true }), (16, { dec := some true }), (17, { pick := some true }), (19, { dec := some true }), (20, { dec := some true }), (21, { dec := some true }), (22, { dec := some true }), (23, { dec := some true }), (24, { pick := some true })], .keep [sk 1, sk 3, sk 57, ek 1], .ren [(1, 500001)]] (cs := [_, _, _, _, _, _, _, _, _, _, _, _, _, _, _, _, _, _, _, _, _]) (by kernel_rfl) ⟨(antiquarylaw41_put_ok k  _ h164), (frames12_ok k x163.1 x163.2.1 x163.2.2.1 x163.2.2.2.1 (2 : Int) _ h166), h167, h167, h167, h168, h168, h168, h168, (rfl : true = true), (rfl : true = true), (rfl : true = true), (rfl : true = true), (rfl : true = true), (rfl : true = true), (rfl : true = true), (rfl : true = true), (rfl : true = true), (rfl : true = true), (rfl : true = true), (rfl : true = true), trivial⟩ (antiquarylaw41_sanity_l0_ok k ((framesOut x165 x163.1 x163.2.1 x163.2.2.1 x163.2.2.2.1 (2 : Int)).1) true x163.1 x163.2.1 x163.2.2.1 x163.2.2.2.1 r h)
    · rcases br_inv h with ⟨h169, h⟩ | ⟨h169, h⟩
      · exact Abs.Good.path hm [.reg [], .reg [(0, { call := some { lend := [], pass := [], res := .t [.agg [.p (Kd.int .i64) x163.1, .p (Kd.int .i64) x163.2.1, .p Kd.str x163.2.2.1, .p (Kd.sl Kd.str) x163.2.2.2.1], .p Kd.bool x163.2.2.2.2], outs := [], back := [] } })], .reg [(1, { call := some { lend := [], pass := [], res := .t [.p (Kd.sl (Kd.pair Kd.bool (Kd.pair (Kd.int .i64) (Kd.pair Kd.str Kd.unit)))) ((framesOut x165 x163.1 x163.2.1 x163.2.2.1 x163.2.2.2.1 (2 : Int)).1), .p (Kd.int .i64) ((framesOut x165 x163.1 x163.2.1 x163.2.2.1 x163.2.2.2.1 (2 : Int)).2)], outs := [], back := [] } })], .reg [(3, { dec := some false }), (4, { dec := some false }), (5, { pick := some false }), (7, { dec := some false }), (8, { dec := some false }), (9, { dec := some false }), (10, { pick := some false }), (12, { dec := some true }), (13, { dec := some true }), (14, { dec := some true }), (15, { dec := some true }), (16, { dec := some true }), (17, { pick := some true }), (19, { dec := some true }), (20, { dec := some true }), (21, { dec := some true }), (22, { dec := some true }), (23, { dec := some true }), (24, { pick := some true })], .keep [sk 1, sk 3, sk 57, ek 1], .ren [(1, 500001)]] (cs := [_, _, _, _, _, _, _, _, _, _, _, _, _, _, _, _, _, _, _, _, _]) (by kernel_rfl) ⟨(antiquarylaw41_put_ok k  _ h164), (frames12_ok k x163.1 x163.2.1 x163.2.2.1 x163.2.2.2.1 (2 : Int) _ h166), h167, h167, h167, h168, h168, h168, h168, h169, h169, h169, h169, h169, h169, (rfl : true = true), (rfl : true = true), (rfl : true = true), (rfl : true = true), (rfl : true = true), (rfl : true = true), trivial⟩ (antiquarylaw41_sanity_l0_ok k ((framesOut x165 x163.1 x163.2.1 x163.2.2.1 x163.2.2.2.1 (2 : Int)).1) true x163.1 x163.2.1 x163.2.2.1 x163.2.2.2.1 r h)
      · obtain ⟨h170, h⟩ := gd_inv h
        rcases br_inv h with ⟨h171, h⟩ | ⟨h171, h⟩
        · exact Abs.Good.path hm [.reg [], .reg [(0, { call := some { lend := [], pass := [], res := .t [.agg [.p (Kd.int .i64) x163.1, .p (Kd.int .i64) x163.2.1, .p Kd.str x163.2.2.1, .p (Kd.sl Kd.str) x163.2.2.2.1], .p Kd.bool x163.2.2.2.2], outs := [], back := [] } })], .reg [(1, { call := some { lend := [], pass := [], res := .t [.p (Kd.sl (Kd.pair Kd.bool (Kd.pair (Kd.int .i64) (Kd.pair Kd.str Kd.unit)))) ((framesOut x165 x163.1 x163.2.1 x163.2.2.1 x163.2.2.2.1 (2 : Int)).1), .p (Kd.int .i64) ((framesOut x165 x163.1 x163.2.1 x163.2.2.1 x163.2.2.2.1 (2 : Int)).2)], outs := [], back := [] } })], .reg [(3, { dec := some false }), (4, { dec := some false }), (5, { pick := some false }), (7, { dec := some false }), (8, { dec := some false }), (9, { dec := some false }), (10, { pick := some false }), (12, { dec := some false }), (13, { dec := some false }), (14, { dec := some false }), (15, { dec := some false }), (16, { dec := some false }), (17, { pick := some false }), (19, { dec := some true }), (20, { dec := some true }), (21, { dec := some true }), (22, { dec := some true }), (23, { dec := some true }), (24, { pick := some true })], .keep [sk 1, sk 3, sk 57, ek 1], .ren [(1, 500001)]] (cs := [_, _, _, _, _, _, _, _, _, _, _, _, _, _, _, _, _, _, _, _, _, _, _, _]) (by kernel_rfl) ⟨(antiquarylaw41_put_ok k  _ h164), (frames12_ok k x163.1 x163.2.1 x163.2.2.1 x163.2.2.2.1 (2 : Int) _ h166), h167, h167, h167, h168, h168, h168, h168, h169, h169, (by decide : 0 ≤ (0 : Int)), h170, h169, h169, h169, eq49, h169, h171, h171, h171, h171, h171, h171, trivial⟩ (antiquarylaw41_sanity_l0_ok k ((framesOut x165 x163.1 x163.2.1 x163.2.2.1 x163.2.2.2.1 (2 : Int)).1) true x163.1 x163.2.1 x163.2.2.1 x163.2.2.2.1 r h)
        · obtain ⟨h172, h⟩ := gd_inv h
          exact Abs.Good.path hm [.reg [], .reg [(0, { call := some { lend := [], pass := [], res := .t [.agg [.p (Kd.int .i64) x163.1, .p (Kd.int .i64) x163.2.1, .p Kd.str x163.2.2.1, .p (Kd.sl Kd.str) x163.2.2.2.1], .p Kd.bool x163.2.2.2.2], outs := [], back := [] } })], .reg [(1, { call := some { lend := [], pass := [], res := .t [.p (Kd.sl (Kd.pair Kd.bool (Kd.pair (Kd.int .i64) (Kd.pair Kd.str Kd.unit)))) ((framesOut x165 x163.1 x163.2.1 x163.2.2.1 x163.2.2.2.1 (2 : Int)).1), .p (Kd.int .i64) ((framesOut x165 x163.1 x163.2.1 x163.2.2.1 x163.2.2.2.1 (2 : Int)).2)], outs := [], back := [] } })], .reg [(3, { dec := some false }), (4, { dec := some false }), (5, { pick := some false }), (7, { dec := some false }), (8, { dec := some false }), (9, { dec := some false }), (10, { pick := some false }), (12, { dec := some false }), (13, { dec := some false }), (14, { dec := some false }), (15, { dec := some false }), (16, { dec := some false }), (17, { pick := some false }), (19, { dec := some false }), (20, { dec := some false }), (21, { dec := some false }), (22, { dec := some false }), (23, { dec := some false }), (24, { pick := some false })], .keep [sk 1, sk 3, sk 57, ek 1], .ren [(1, 500001)]] (cs := [_, _, _, _, _, _, _, _, _, _, _, _, _, _, _, _, _, _, _, _, _, _, _, _, _, _, _]) (by kernel_rfl) ⟨(antiquarylaw41_put_ok k  _ h164), (frames12_ok k x163.1 x163.2.1 x163.2.2.1 x163.2.2.2.1 (2 : Int) _ h166), h167, h167, h167, h168, h168, h168, h168, h169, h169, (by decide : 0 ≤ (0 : Int)), h170, h169, h169, h169, eq49, h169, h171, h171, (by decide : 0 ≤ (1 : Int)), h172, h171, h171, h171, eq49, h171, trivial⟩ (antiquarylaw41_sanity_l0_ok k ((framesOut x165 x163.1 x163.2.1 x163.2.2.1 x163.2.2.2.1 (2 : Int)).1) (!(Kd.eqb (Kd.pair Kd.bool (Kd.pair (Kd.int .i64) (Kd.pair Kd.str Kd.unit))) ((List.getD ((framesOut x165 x163.1 x163.2.1 x163.2.2.1 x163.2.2.2.1 (2 : Int)).1) (1) (Kd.dflt (Kd.pair Kd.bool (Kd.pair (Kd.int .i64) (Kd.pair Kd.str Kd.unit))))).1, (((List.getD ((framesOut x165 x163.1 x163.2.1 x163.2.2.1 x163.2.2.2.1 (2 : Int)).1) (1) (Kd.dflt (Kd.pair Kd.bool (Kd.pair (Kd.int .i64) (Kd.pair Kd.str Kd.unit))))).2).1, ((((List.getD ((framesOut x165 x163.1 x163.2.1 x163.2.2.1 x163.2.2.2.1 (2 : Int)).1) (1) (Kd.dflt (Kd.pair Kd.bool (Kd.pair (Kd.int .i64) (Kd.pair Kd.str Kd.unit))))).2).2).1, ()))) (false, ((1 : Int), ((⟨#[98]⟩ : ByteArray), ()))))) x163.1 x163.2.1 x163.2.2.1 x163.2.2.2.1 r h)

def antiquarylaw41_fewOut_l1 : Nat → Int → Int → Int → ByteArray → List ByteArray → Option (Bool)
  | 0, _, _, _, _, _ => none
  | k + 1, p1, p2, p3, p4, p5 =>
    if (decide (p1 < (List.length p5 : Int))) = true then
      if 0 ≤ p1 ∧ p1 < (List.length p5 : Int) then
        if (decide ((ByteArray.size (List.getD p5 (Int.toNat p1) (Kd.dflt Kd.str)) : Int) > (100 : Int))) = true then
          some (false)
        else
          antiquarylaw41_fewOut_l1 k (IntKind.i64.wrap (p1 + (1 : Int))) p2 p3 p4 p5
      else none
    else
      some (true)
def antiquarylaw41_fewOut_l0 (k : Nat) (p1 : Bool) (p2 : Int) (p3 : Int) (p4 : ByteArray) (p5 : List ByteArray) : Option (Bool) :=
  if p1 = true then
    some (false)
  else
    antiquarylaw41_fewOut_l1 k (0 : Int) p2 p3 p4 p5
def antiquarylaw41_fewOut (k : Nat) (a1 : Int) (a2 : Int) (a3 : ByteArray) (a4 : List ByteArray) : Option (Bool) :=
  if (decide ((List.length a4 : Int) > (40 : Int))) = true then
    if (decide ((List.length a4 : Int) < (1000 : Int))) = true then
      antiquarylaw41_fewOut_l0 k true a1 a2 a3 a4
    else
      if (decide ((List.length a4 : Int) > (1001 : Int))) = true then
        antiquarylaw41_fewOut_l0 k true a1 a2 a3 a4
      else
        antiquarylaw41_fewOut_l0 k (decide ((ByteArray.size a3 : Int) > (100 : Int))) a1 a2 a3 a4
  else
    if (decide ((List.length a4 : Int) > (1001 : Int))) = true then
      antiquarylaw41_fewOut_l0 k true a1 a2 a3 a4
    else
      antiquarylaw41_fewOut_l0 k (decide ((ByteArray.size a3 : Int) > (100 : Int))) a1 a2 a3 a4
theorem antiquarylaw41_fewOut_l1_ok (k : Nat) : ∀ (p1 : Int) (p2 : Int) (p3 : Int) (p4 : ByteArray) (p5 : List ByteArray) (r : Bool), antiquarylaw41_fewOut_l1 k p1 p2 p3 p4 p5 = some r →
    Abs.Good P 8 Try.f8.ntmps [] [] (.v (.p Kd.bool r)) (pos Try.f8 [.r, .r, .c false, .r]) [(sk 1, some (.v (.ptr 501001 0))), (sk 3, some (.v (.p (Kd.int .i64) p1))), (ek 501001, some (.box [.p (Kd.int .i64) p2, .p (Kd.int .i64) p3, .p Kd.str p4, .p (Kd.sl Kd.str) p5]))] := by
  induction k with
  | zero => intro p1 p2 p3 p4 p5 r h; cases h
  | succ k ih =>
    intro p1 p2 p3 p4 p5 r h
    unfold antiquarylaw41_fewOut_l1 at h
    rcases br_inv h with ⟨h18, h⟩ | ⟨h18, h⟩
    · obtain ⟨h19, h⟩ := gd_inv h
      rcases br_inv h with ⟨h20, h⟩ | ⟨h20, h⟩
      · replace h := Option.some.inj h; subst h
        exact Abs.Good.path_ret hm [.reg [], .cond true, .reg [], .cond true, .reg []] [] Try.func8 (cs := [_, _, _, _]) (by kernel_rfl) ⟨h18, h19.1, h19.2, h20, trivial⟩ (by kernel_rfl)
      · exact Abs.Good.path hm [.reg [], .cond true, .reg [], .cond false, .reg [], .keep [sk 1, sk 3, ek 501001]] (cs := [_, _, _, _]) (by kernel_rfl) ⟨h18, h19.1, h19.2, h20, trivial⟩ (ih (IntKind.i64.wrap (p1 + (1 : Int))) p2 p3 p4 p5 r h)
    · replace h := Option.some.inj h; subst h
      exact Abs.Good.path_ret hm [.reg [], .cond false, .reg []] [] Try.func8 (cs := [_]) (by kernel_rfl) ⟨h18, trivial⟩ (by kernel_rfl)
theorem antiquarylaw41_fewOut_l0_ok (k : Nat) (p1 : Bool) (p2 : Int) (p3 : Int) (p4 : ByteArray) (p5 : List ByteArray) (r : Bool) (h : antiquarylaw41_fewOut_l0 k p1 p2 p3 p4 p5 = some r) :
    Abs.Good P 8 Try.f8.ntmps [] [] (.v (.p Kd.bool r)) (pos Try.f8 [.r, .r]) [(sk 1, some (.v (.ptr 500001 0))), (sk 25, some (.v (.p Kd.bool p1))), (ek 500001, some (.box [.p (Kd.int .i64) p2, .p (Kd.int .i64) p3, .p Kd.str p4, .p (Kd.sl Kd.str) p5]))] := by
  unfold antiquarylaw41_fewOut_l0 at h
  rcases br_inv h with ⟨h17, h⟩ | ⟨h17, h⟩
  · replace h := Option.some.inj h; subst h
    exact Abs.Good.path_ret hm [.cond true, .reg []] [] Try.func8 (cs := [_]) (by kernel_rfl) ⟨h17, trivial⟩ (by kernel_rfl)
  · exact Abs.Good.path hm [.cond false, .reg [], .keep [sk 1, sk 3, ek 500001], .ren [(500001, 501001)]] (cs := [_]) (by kernel_rfl) ⟨h17, trivial⟩ (antiquarylaw41_fewOut_l1_ok k (0 : Int) p2 p3 p4 p5 r h)
theorem antiquarylaw41_fewOut_ok (k : Nat) (a1 : Int) (a2 : Int) (a3 : ByteArray) (a4 : List ByteArray) (r : Bool) (h : antiquarylaw41_fewOut k a1 a2 a3 a4 = some r) : SpecOk P ⟨8, [.agg [.p (Kd.int .i64) a1, .p (Kd.int .i64) a2, .p Kd.str a3, .p (Kd.sl Kd.str) a4]], [], .v (.p Kd.bool r), []⟩ := by
  refine spec_at Try.func8 (by kernel_rfl) (Nat.le_of_ble_eq_true (by kernel_rfl)) ?_
  unfold antiquarylaw41_fewOut at h
  rcases br_inv h with ⟨h13, h⟩ | ⟨h13, h⟩
  · rcases br_inv h with ⟨h14, h⟩ | ⟨h14, h⟩
    · exact Abs.Good.path hm [.reg [], .reg [(5, { dec := some true }), (6, { dec := some true }), (7, { dec := some true }), (8, { dec := some true }), (9, { pick := some true }), (11, { dec := some true }), (12, { dec := some true }), (13, { dec := some true }), (14, { dec := some true }), (15, { pick := some true }), (17, { dec := some true }), (18, { dec := some true }), (19, { dec := some true }), (20, { dec := some true }), (21, { pick := some true })], .keep [sk 1, sk 25, ek 1], .ren [(1, 500001)]] (cs := [_, _, _, _, _, _, _, _, _, _, _, _, _, _, _]) (by kernel_rfl) ⟨h13, h13, h13, h13, h13, h14, h14, h14, h14, h14, (rfl : true = true), (rfl : true = true), (rfl : true = true), (rfl : true = true), (rfl : true = true), trivial⟩ (antiquarylaw41_fewOut_l0_ok k true a1 a2 a3 a4 r h)
    · rcases br_inv h with ⟨h15, h⟩ | ⟨h15, h⟩
      · exact Abs.Good.path hm [.reg [], .reg [(5, { dec := some true }), (6, { dec := some true }), (7, { dec := some true }), (8, { dec := some true }), (9, { pick := some true }), (11, { dec := some false }), (12, { dec := some false }), (13, { dec := some false }), (14, { dec := some false }), (15, { pick := some false }), (17, { dec := some true }), (18, { dec := some true }), (19, { dec := some true }), (20, { dec := some true }), (21, { pick := some true })], .keep [sk 1, sk 25, ek 1], .ren [(1, 500001)]] (cs := [_, _, _, _, _, _, _, _, _, _, _, _, _, _, _]) (by kernel_rfl) ⟨h13, h13, h13, h13, h13, h14, h14, h14, h14, h14, h15, h15, h15, h15, h15, trivial⟩ (antiquarylaw41_fewOut_l0_ok k true a1 a2 a3 a4 r h)
      · exact Abs.Good.path hm [.reg [], .reg [(5, { dec := some true }), (6, { dec := some true }), (7, { dec := some true }), (8, { dec := some true }), (9, { pick := some true }), (11, { dec := some false }), (12, { dec := some false }), (13, { dec := some false }), (14, { dec := some false }), (15, { pick := some false }), (17, { dec := some false }), (18, { dec := some false }), (19, { dec := some false }), (20, { dec := some false }), (21, { pick := some false })], .keep [sk 1, sk 25, ek 1], .ren [(1, 500001)]] (cs := [_, _, _, _, _, _, _, _, _, _, _, _, _, _, _]) (by kernel_rfl) ⟨h13, h13, h13, h13, h13, h14, h14, h14, h14, h14, h15, h15, h15, h15, h15, trivial⟩ (antiquarylaw41_fewOut_l0_ok k (decide ((ByteArray.size a3 : Int) > (100 : Int))) a1 a2 a3 a4 r h)
  · rcases br_inv h with ⟨h16, h⟩ | ⟨h16, h⟩
    · exact Abs.Good.path hm [.reg [], .reg [(5, { dec := some false }), (6, { dec := some false }), (7, { dec := some false }), (8, { dec := some false }), (9, { pick := some false }), (11, { dec := some false }), (12, { dec := some false }), (13, { dec := some false }), (14, { dec := some false }), (15, { pick := some false }), (17, { dec := some true }), (18, { dec := some true }), (19, { dec := some true }), (20, { dec := some true }), (21, { pick := some true })], .keep [sk 1, sk 25, ek 1], .ren [(1, 500001)]] (cs := [_, _, _, _, _, _, _, _, _, _, _, _, _, _, _]) (by kernel_rfl) ⟨h13, h13, h13, h13, h13, (rfl : false = false), (rfl : false = false), (rfl : false = false), (rfl : false = false), (rfl : false = false), h16, h16, h16, h16, h16, trivial⟩ (antiquarylaw41_fewOut_l0_ok k true a1 a2 a3 a4 r h)
    · exact Abs.Good.path hm [.reg [], .reg [(5, { dec := some false }), (6, { dec := some false }), (7, { dec := some false }), (8, { dec := some false }), (9, { pick := some false }), (11, { dec := some false }), (12, { dec := some false }), (13, { dec := some false }), (14, { dec := some false }), (15, { pick := some false }), (17, { dec := some false }), (18, { dec := some false }), (19, { dec := some false }), (20, { dec := some false }), (21, { pick := some false })], .keep [sk 1, sk 25, ek 1], .ren [(1, 500001)]] (cs := [_, _, _, _, _, _, _, _, _, _, _, _, _, _, _]) (by kernel_rfl) ⟨h13, h13, h13, h13, h13, (rfl : false = false), (rfl : false = false), (rfl : false = false), (rfl : false = false), (rfl : false = false), h16, h16, h16, h16, h16, trivial⟩ (antiquarylaw41_fewOut_l0_ok k (decide ((ByteArray.size a3 : Int) > (100 : Int))) a1 a2 a3 a4 r h)

def antiquaryref41_End (k : Nat) (a1 : Int) (a2 : Int) (a3 : ByteArray) (a4 : List ByteArray) : Option (Int) :=
  some ((IntKind.i64.wrap (a1 + (List.length a4 : Int))))
theorem antiquaryref41_End_ok (k : Nat) (a1 : Int) (a2 : Int) (a3 : ByteArray) (a4 : List ByteArray) (r : Int) (h : antiquaryref41_End k a1 a2 a3 a4 = some r) : SpecOk P ⟨36, [.agg [.p (Kd.int .i64) a1, .p (Kd.int .i64) a2, .p Kd.str a3, .p (Kd.sl Kd.str) a4]], [], .v (.p (Kd.int .i64) r), []⟩ := by
  refine spec_at Try.func36 (by kernel_rfl) (Nat.le_of_ble_eq_true (by kernel_rfl)) ?_
  unfold antiquaryref41_End at h
  replace h := Option.some.inj h; subst h
  exact Abs.Good.path_ret hm [.reg [], .reg []] [] Try.func36 (cs := []) (by kernel_rfl) trivial (by kernel_rfl)

def antiquaryref41_ValidOut_l1 : Nat → Int → Int → Int → ByteArray → List ByteArray → Option (Bool)
  | 0, _, _, _, _, _ => none
  | k + 1, p1, p2, p3, p4, p5 =>
    if (decide (p1 < (List.length p5 : Int))) = true then
      if 0 ≤ p1 ∧ p1 < (List.length p5 : Int) then
        if (decide ((ByteArray.size (List.getD p5 (Int.toNat p1) (Kd.dflt Kd.str)) : Int) > (65536 : Int))) = true then
          some (false)
        else
          antiquaryref41_ValidOut_l1 k (IntKind.i64.wrap (p1 + (1 : Int))) p2 p3 p4 p5
      else none
    else
      some (true)
def antiquaryref41_ValidOut_l0 (k : Nat) (p1 : Bool) (p2 : Int) (p3 : Int) (p4 : ByteArray) (p5 : List ByteArray) : Option (Bool) :=
  if p1 = true then
    some (false)
  else
    antiquaryref41_ValidOut_l1 k (0 : Int) p2 p3 p4 p5
def antiquaryref41_ValidOut (k : Nat) (a1 : Int) (a2 : Int) (a3 : ByteArray) (a4 : List ByteArray) : Option (Bool) :=
  if (decide (a1 < (0 : Int))) = true then
    antiquaryref41_ValidOut_l0 k true a1 a2 a3 a4
  else
    if (decide (a1 > (1099511627776 : Int))) = true then
      antiquaryref41_ValidOut_l0 k true a1 a2 a3 a4
    else
      if (decide (a2 < (0 : Int))) = true then
        antiquaryref41_ValidOut_l0 k true a1 a2 a3 a4
      else
        if (decide (a2 > (1099511627776 : Int))) = true then
          antiquaryref41_ValidOut_l0 k true a1 a2 a3 a4
        else
          if (decide ((List.length a4 : Int) > (1000 : Int))) = true then
            antiquaryref41_ValidOut_l0 k true a1 a2 a3 a4
          else
            if (decide ((ByteArray.size a3 : Int) > (65536 : Int))) = true then
              antiquaryref41_ValidOut_l0 k true a1 a2 a3 a4
            else
              Option.bind (antiquaryref41_End k a1 a2 a3 a4) fun x69 =>
              antiquaryref41_ValidOut_l0 k (decide (a2 > x69)) a1 a2 a3 a4
theorem antiquaryref41_ValidOut_l1_ok (k : Nat) : ∀ (p1 : Int) (p2 : Int) (p3 : Int) (p4 : ByteArray) (p5 : List ByteArray) (r : Bool), antiquaryref41_ValidOut_l1 k p1 p2 p3 p4 p5 = some r →
    Abs.Good P 19 Try.f19.ntmps [] [] (.v (.p Kd.bool r)) (pos Try.f19 [.r, .r, .c false, .r]) [(sk 1, some (.v (.ptr 501001 0))), (sk 3, some (.v (.p (Kd.int .i64) p1))), (ek 501001, some (.box [.p (Kd.int .i64) p2, .p (Kd.int .i64) p3, .p Kd.str p4, .p (Kd.sl Kd.str) p5]))] := by
  induction k with
  | zero => intro p1 p2 p3 p4 p5 r h; cases h
  | succ k ih =>
    intro p1 p2 p3 p4 p5 r h
    unfold antiquaryref41_ValidOut_l1 at h
    rcases br_inv h with ⟨h72, h⟩ | ⟨h72, h⟩
    · obtain ⟨h73, h⟩ := gd_inv h
      rcases br_inv h with ⟨h74, h⟩ | ⟨h74, h⟩
      · replace h := Option.some.inj h; subst h
        exact Abs.Good.path_ret hm [.reg [], .cond true, .reg [], .cond true, .reg []] [] Try.func19 (cs := [_, _, _, _]) (by kernel_rfl) ⟨h72, h73.1, h73.2, h74, trivial⟩ (by kernel_rfl)
      · exact Abs.Good.path hm [.reg [], .cond true, .reg [], .cond false, .reg [], .keep [sk 1, sk 3, ek 501001]] (cs := [_, _, _, _]) (by kernel_rfl) ⟨h72, h73.1, h73.2, h74, trivial⟩ (ih (IntKind.i64.wrap (p1 + (1 : Int))) p2 p3 p4 p5 r h)
    · replace h := Option.some.inj h; subst h
      exact Abs.Good.path_ret hm [.reg [], .cond false, .reg []] [] Try.func19 (cs := [_]) (by kernel_rfl) ⟨h72, trivial⟩ (by kernel_rfl)
theorem antiquaryref41_ValidOut_l0_ok (k : Nat) (p1 : Bool) (p2 : Int) (p3 : Int) (p4 : ByteArray) (p5 : List ByteArray) (r : Bool) (h : antiquaryref41_ValidOut_l0 k p1 p2 p3 p4 p5 = some r) :
    Abs.Good P 19 Try.f19.ntmps [] [] (.v (.p Kd.bool r)) (pos Try.f19 [.r, .r]) [(sk 1, some (.v (.ptr 500001 0))), (sk 40, some (.v (.p Kd.bool p1))), (ek 500001, some (.box [.p (Kd.int .i64) p2, .p (Kd.int .i64) p3, .p Kd.str p4, .p (Kd.sl Kd.str) p5]))] := by
  unfold antiquaryref41_ValidOut_l0 at h
  rcases br_inv h with ⟨h71, h⟩ | ⟨h71, h⟩
  · replace h := Option.some.inj h; subst h
    exact Abs.Good.path_ret hm [.cond true, .reg []] [] Try.func19 (cs := [_]) (by kernel_rfl) ⟨h71, trivial⟩ (by kernel_rfl)
  · exact Abs.Good.path hm [.cond false, .reg [], .keep [sk 1, sk 3, ek 500001], .ren [(500001, 501001)]] (cs := [_]) (by kernel_rfl) ⟨h71, trivial⟩ (antiquaryref41_ValidOut_l1_ok k (0 : Int) p2 p3 p4 p5 r h)
theorem antiquaryref41_ValidOut_ok (k : Nat) (a1 : Int) (a2 : Int) (a3 : ByteArray) (a4 : List ByteArray) (r : Bool) (h : antiquaryref41_ValidOut k a1 a2 a3 a4 = some r) : SpecOk P ⟨19, [.agg [.p (Kd.int .i64) a1, .p (Kd.int .i64) a2, .p Kd.str a3, .p (Kd.sl Kd.str) a4]], [], .v (.p Kd.bool r), []⟩ := by
  refine spec_at Try.func19 (by kernel_rfl) (Nat.le_of_ble_eq_true (by kernel_rfl)) ?_
  unfold antiquaryref41_ValidOut at h
  rcases br_inv h with ⟨h63, h⟩ | ⟨h63, h⟩
  · exact Abs.Good.path hm [.reg [], .reg [(4, { dec := some true }), (5, { dec := some true }), (6, { dec := some true }), (7, { pick := some true }), (9, { dec := some true }), (10, { dec := some true }), (11, { dec := some true }), (12, { pick := some true }), (14, { dec := some true }), (15, { dec := some true }), (16, { dec := some true }), (17, { pick := some true }), (19, { dec := some true }), (20, { dec := some true }), (21, { dec := some true }), (22, { dec := some true }), (23, { pick := some true }), (25, { dec := some true }), (26, { dec := some true }), (27, { dec := some true }), (28, { dec := some true }), (29, { pick := some true }), (31, { dec := some true }), (32, { dec := some true }), (33, { dec := some true }), (34, { dec := some true }), (35, { dec := some true }), (36, { pick := some true })], .keep [sk 1, sk 40, ek 1], .ren [(1, 500001)]] (cs := [_, _, _, _, _, _, _, _, _, _, _, _, _, _, _, _, _, _, _, _, _, _, _, _, _, _, _, _]) (by kernel_rfl) ⟨h63, h63, h63, h63, (rfl : true = true), (rfl : true = true), (rfl : true = true), (rfl : true = true), (rfl : true = true), (rfl : true = true), (rfl : true = true), (rfl : true = true), (rfl : true = true), (rfl : true = true), (rfl : true = true), (rfl : true = true), (rfl : true = true), (rfl : true = true), (rfl : true = true), (rfl : true = true), (rfl : true = true), (rfl : true = true), (rfl : true = true), (rfl : true = true), (rfl : true = true), (rfl : true = true), (rfl : true = true), (rfl : true = true), trivial⟩ (antiquaryref41_ValidOut_l0_ok k true a1 a2 a3 a4 r h)
  · rcases br_inv h with ⟨h64, h⟩ | ⟨h64, h⟩
    · exact Abs.Good.path hm [.reg [], .reg [(4, { dec := some false }), (5, { dec := some false }), (6, { dec := some false }), (7, { pick := some false }), (9, { dec := some true }), (10, { dec := some true }), (11, { dec := some true }), (12, { pick := some true }), (14, { dec := some true }), (15, { dec := some true }), (16, { dec := some true }), (17, { pick := some true }), (19, { dec := some true }), (20, { dec := some true }), (21, { dec := some true }), (22, { dec := some true }), (23, { pick := some true }), (25, { dec := some true }), (26, { dec := some true }), (27, { dec := some true }), (28, { dec := some true }), (29, { pick := some true }), (31, { dec := some true }), (32, { dec := some true }), (33, { dec := some true }), (34, { dec := some true }), (35, { dec := some true }), (36, { pick := some true })], .keep [sk 1, sk 40, ek 1], .ren [(1, 500001)]] (cs := [_, _, _, _, _, _, _, _, _, _, _, _, _, _, _, _, _, _, _, _, _, _, _, _, _, _, _, _]) (by kernel_rfl) ⟨h63, h63, h63, h63, h64, h64, h64, h64, (rfl : true = true), (rfl : true = true), (rfl : true = true), (rfl : true = true), (rfl : true = true), (rfl : true = true), (rfl : true = true), (rfl : true = true), (rfl : true = true), (rfl : true = true), (rfl : true = true), (rfl : true = true), (rfl : true = true), (rfl : true = true), (rfl : true = true), (rfl : true = true), (rfl : true = true), (rfl : true = true), (rfl : true = true), (rfl : true = true), trivial⟩ (antiquaryref41_ValidOut_l0_ok k true a1 a2 a3 a4 r h)
    · rcases br_inv h with ⟨h65, h⟩ | ⟨h65, h⟩
      · exact Abs.Good.path hm [.reg [], .reg [(4, { dec := some false }), (5, { dec := some false }), (6, { dec := some false }), (7, { pick := some false }), (9, { dec := some false }), (10, { dec := some false }), (11, { dec := some false }), (12, { pick := some false }), (14, { dec := some true }), (15, { dec := some true }), (16, { dec := some true }), (17, { pick := some true }), (19, { dec := some true }), (20, { dec := some true }), (21, { dec := some true }), (22, { dec := some true }), (23, { pick := some true }), (25, { dec := some true }), (26, { dec := some true }), (27, { dec := some true }), (28, { dec := some true }), (29, { pick := some true }), (31, { dec := some true }), (32, { dec := some true }), (33, { dec := some true }), (34, { dec := some true }), (35, { dec := some true }), (36, { pick := some true })], .keep [sk 1, sk 40, ek 1], .ren [(1, 500001)]] (cs := [_, _, _, _, _, _, _, _, _, _, _, _, _, _, _, _, _, _, _, _, _, _, _, _, _, _, _, _]) (by kernel_rfl) ⟨h63, h63, h63, h63, h64, h64, h64, h64, h65, h65, h65, h65, (rfl : true = true), (rfl : true = true), (rfl : true = true), (rfl : true = true), (rfl : true = true), (rfl : true = true), (rfl : true = true), (rfl : true = true), (rfl : true = true), (rfl : true = true), (rfl : true = true), (rfl : true = true), (rfl : true = true), (rfl : true = true), (rfl : true = true), (rfl : true = true), trivial⟩ (antiquaryref41_ValidOut_l0_ok k true a1 a2 a3 a4 r h)
      · rcases br_inv h with ⟨h66, h⟩ | ⟨h66, h⟩
        · exact Abs.Good.path hm [.reg [], .reg [(4, { dec := some false }), (5, { dec := some false }), (6, { dec := some false }), (7, { pick := some false }), (9, { dec := some false }), (10, { dec := some false }), (11, { dec := some false }), (12, { pick := some false }), (14, { dec := some false }), (15, { dec := some false }), (16, { dec := some false }), (17, { pick := some false }), (19, { dec := some true }), (20, { dec := some true }), (21, { dec := some true }), (22, { dec := some true }), (23, { pick := some true }), (25, { dec := some true }), (26, { dec := some true }), (27, { dec := some true }), (28, { dec := some true }), (29, { pick := some true }), (31, { dec := some true }), (32, { dec := some true }), (33, { dec := some true }), (34, { dec := some true }), (35, { dec := some true }), (36, { pick := some true })], .keep [sk 1, sk 40, ek 1], .ren [(1, 500001)]] (cs := [_, _, _, _, _, _, _, _, _, _, _, _, _, _, _, _, _, _, _, _, _, _, _, _, _, _, _, _]) (by kernel_rfl) ⟨h63, h63, h63, h63, h64, h64, h64, h64, h65, h65, h65, h65, h66, h66, h66, h66, h66, (rfl : true = true), (rfl : true = true), (rfl : true = true), (rfl : true = true), (rfl : true = true), (rfl : true = true), (rfl : true = true), (rfl : true = true), (rfl : true = true), (rfl : true = true), (rfl : true = true), trivial⟩ (antiquaryref41_ValidOut_l0_ok k true a1 a2 a3 a4 r h)
        · rcases br_inv h with ⟨h67, h⟩ | ⟨h67, h⟩
          · exact Abs.Good.path hm [.reg [], .reg [(4, { dec := some false }), (5, { dec := some false }), (6, { dec := some false }), (7, { pick := some false }), (9, { dec := some false }), (10, { dec := some false }), (11, { dec := some false }), (12, { pick := some false }), (14, { dec := some false }), (15, { dec := some false }), (16, { dec := some false }), (17, { pick := some false }), (19, { dec := some false }), (20, { dec := some false }), (21, { dec := some false }), (22, { dec := some false }), (23, { pick := some false }), (25, { dec := some true }), (26, { dec := some true }), (27, { dec := some true }), (28, { dec := some true }), (29, { pick := some true }), (31, { dec := some true }), (32, { dec := some true }), (33, { dec := some true }), (34, { dec := some true }), (35, { dec := some true }), (36, { pick := some true })], .keep [sk 1, sk 40, ek 1], .ren [(1, 500001)]] (cs := [_, _, _, _, _, _, _, _, _, _, _, _, _, _, _, _, _, _, _, _, _, _, _, _, _, _, _, _]) (by kernel_rfl) ⟨h63, h63, h63, h63, h64, h64, h64, h64, h65, h65, h65, h65, h66, h66, h66, h66, h66, h67, h67, h67, h67, h67, (rfl : true = true), (rfl : true = true), (rfl : true = true), (rfl : true = true), (rfl : true = true), (rfl : true = true), trivial⟩ (antiquaryref41_ValidOut_l0_ok k true a1 a2 a3 a4 r h)
          · rcases br_inv h with ⟨h68, h⟩ | ⟨h68, h⟩
            · exact Abs.Good.path hm [.reg [], .reg [(4, { dec := some false }), (5, { dec := some false }), (6, { dec := some false }), (7, { pick := some false }), (9, { dec := some false }), (10, { dec := some false }), (11, { dec := some false }), (12, { pick := some false }), (14, { dec := some false }), (15, { dec := some false }), (16, { dec := some false }), (17, { pick := some false }), (19, { dec := some false }), (20, { dec := some false }), (21, { dec := some false }), (22, { dec := some false }), (23, { pick := some false }), (25, { dec := some false }), (26, { dec := some false }), (27, { dec := some false }), (28, { dec := some false }), (29, { pick := some false }), (31, { dec := some true }), (32, { dec := some true }), (33, { dec := some true }), (34, { dec := some true }), (35, { dec := some true }), (36, { pick := some true })], .keep [sk 1, sk 40, ek 1], .ren [(1, 500001)]] (cs := [_, _, _, _, _, _, _, _, _, _, _, _, _, _, _, _, _, _, _, _, _, _, _, _, _, _, _, _]) (by kernel_rfl) ⟨h63, h63, h63, h63, h64, h64, h64, h64, h65, h65, h65, h65, h66, h66, h66, h66, h66, h67, h67, h67, h67, h67, h68, h68, h68, h68, h68, h68, trivial⟩ (antiquaryref41_ValidOut_l0_ok k true a1 a2 a3 a4 r h)
            · obtain ⟨x69, h70, h⟩ := bind_inv h
              exact Abs.Good.path hm [.reg [], .reg [(4, { dec := some false }), (5, { dec := some false }), (6, { dec := some false }), (7, { pick := some false }), (9, { dec := some false }), (10, { dec := some false }), (11, { dec := some false }), (12, { pick := some false }), (14, { dec := some false }), (15, { dec := some false }), (16, { dec := some false }), (17, { pick := some false }), (19, { dec := some false }), (20, { dec := some false }), (21, { dec := some false }), (22, { dec := some false }), (23, { pick := some false }), (25, { dec := some false }), (26, { dec := some false }), (27, { dec := some false }), (28, { dec := some false }), (29, { pick := some false }), (31, { dec := some false }), (32, { dec := some false }), (33, { dec := some false }), (34, { dec := some false, call := some { lend := [], pass := [], res := .v (.p (Kd.int .i64) x69), outs := [], back := [] } }), (35, { dec := some false }), (36, { pick := some false })], .keep [sk 1, sk 40, ek 1], .ren [(1, 500001)]] (cs := [_, _, _, _, _, _, _, _, _, _, _, _, _, _, _, _, _, _, _, _, _, _, _, _, _, _, _, _, _]) (by kernel_rfl) ⟨h63, h63, h63, h63, h64, h64, h64, h64, h65, h65, h65, h65, h66, h66, h66, h66, h66, h67, h67, h67, h67, h67, h68, h68, h68, h68, (antiquaryref41_End_ok k a1 a2 a3 a4 _ h70), h68, h68, trivial⟩ (antiquaryref41_ValidOut_l0_ok k (decide (a2 > x69)) a1 a2 a3 a4 r h)

def antiquaryref41_Put_l1 (k : Nat) (p1 : ByteArray) (p2 : Bool) (p3 : Int) (p4 : Int) (p5 : ByteArray) (p6 : List ByteArray) (p7 : Int) (p8 : Int) (p9 : ByteArray) (p10 : Int) : Option (Int × Int × ByteArray × List ByteArray × Int) :=
  if p2 = true then
    some ((0 : Int), (0 : Int), (⟨#[]⟩ : ByteArray), ([] : List ByteArray), (2 : Int))
  else
    if List.length ([] : List ByteArray) + List.length p6 ≤ 8796093022208 then
      if List.length (([] : List ByteArray) ++ p6) + List.length ([p1] : List ByteArray) ≤ 8796093022208 then
        some (p3, p4, p5, ((([] : List ByteArray) ++ p6) ++ ([p1] : List ByteArray)), (0 : Int))
      else none
    else none
def antiquaryref41_Put_l0 (k : Nat) (p1 : ByteArray) (p2 : Bool) (p3 : Int) (p4 : Int) (p5 : ByteArray) (p6 : List ByteArray) (p7 : Int) (p8 : Int) (p9 : ByteArray) (p10 : Int) : Option (Int × Int × ByteArray × List ByteArray × Int) :=
  if p2 = true then
    some ((0 : Int), (0 : Int), (⟨#[]⟩ : ByteArray), ([] : List ByteArray), (1 : Int))
  else
    if ((List.length p6 : Int) == (1000 : Int)) = true then
      antiquaryref41_Put_l1 k p1 true p3 p4 p5 p6 p7 p8 p9 p10
    else
      Option.bind (antiquaryref41_End k p3 p4 p5 p6) fun x102 =>
      antiquaryref41_Put_l1 k p1 (decide (x102 ≥ (1099511627776 : Int))) p3 p4 p5 p6 p7 p8 p9 p10
def antiquaryref41_Put (k : Nat) (a1 : Int) (a2 : Int) (a3 : ByteArray) (a4 : List ByteArray) (a5 : ByteArray) : Option (Int × Int × ByteArray × List ByteArray × Int) :=
  Option.bind (antiquaryref41_ValidOut k a1 a2 a3 a4) fun x97 =>
  if (!x97) = true then
    antiquaryref41_Put_l0 k a5 true a1 a2 a3 a4 (0 : Int) (0 : Int) (⟨#[]⟩ : ByteArray) (0 : Int)
  else
    antiquaryref41_Put_l0 k a5 (decide ((ByteArray.size a5 : Int) > (65536 : Int))) a1 a2 a3 a4 (0 : Int) (0 : Int) (⟨#[]⟩ : ByteArray) (0 : Int)
theorem antiquaryref41_Put_l1_ok (k : Nat) (p1 : ByteArray) (p2 : Bool) (p3 : Int) (p4 : Int) (p5 : ByteArray) (p6 : List ByteArray) (p7 : Int) (p8 : Int) (p9 : ByteArray) (p10 : Int) (r : Int × Int × ByteArray × List ByteArray × Int) (h : antiquaryref41_Put_l1 k p1 p2 p3 p4 p5 p6 p7 p8 p9 p10 = some r) :
    Abs.Good P 14 Try.f14.ntmps [] [] (.v (.agg [.p (Kd.int .i64) r.1, .p (Kd.int .i64) r.2.1, .p Kd.str r.2.2.1, .p (Kd.sl Kd.str) r.2.2.2.1, .p (Kd.int .i64) r.2.2.2.2])) (pos Try.f14 [.r, .r, .c false, .r]) [(sk 1, some (.v (.p Kd.str p1))), (sk 2, some (.v (.ptr 501001 0))), (sk 4, some (.v (.ptr 501002 0))), (sk 22, some (.v (.p Kd.bool p2))), (ek 501001, some (.box [.p (Kd.int .i64) p3, .p (Kd.int .i64) p4, .p Kd.str p5, .p (Kd.sl Kd.str) p6])), (ek 501002, some (.box [.p (Kd.int .i64) p7, .p (Kd.int .i64) p8, .p Kd.str p9, .nilsl, .p (Kd.int .i64) p10]))] := by
  unfold antiquaryref41_Put_l1 at h
  rcases br_inv h with ⟨h104, h⟩ | ⟨h104, h⟩
  · replace h := Option.some.inj h; subst h
    exact Abs.Good.path_ret hm [.cond true, .reg [], .co (ek 501002) 3 (.nsl Kd.str)] [] Try.func14 (cs := [_]) (by kernel_rfl) ⟨h104, trivial⟩ (by kernel_rfl)
  · obtain ⟨h105, h⟩ := gd_inv h
    obtain ⟨h106, h⟩ := gd_inv h
    replace h := Option.some.inj h; subst h
    exact Abs.Good.path_ret hm [.cond false, .reg [], .reg []] [30] Try.func14 (cs := [_, _, _, _, _, _, _]) (by kernel_rfl) ⟨h104, (rfl : 0 = List.length ([] : List ByteArray)), (appBound (P := P) (et := 9) (b := 16) (by kernel_rfl) (by decide) h105), (rfl : (List.length (([] : List ByteArray) ++ p6)) = List.length (([] : List ByteArray) ++ p6)), (appBound (P := P) (et := 9) (b := 16) (by kernel_rfl) (by decide) h106), (rfl : 1 = List.length ([p1] : List ByteArray)), (rfl : (List.length ((([] : List ByteArray) ++ p6) ++ ([p1] : List ByteArray))) = List.length ((([] : List ByteArray) ++ p6) ++ ([p1] : List ByteArray))), trivial⟩ (by kernel_rfl)
theorem antiquaryref41_Put_l0_ok (k : Nat) (p1 : ByteArray) (p2 : Bool) (p3 : Int) (p4 : Int) (p5 : ByteArray) (p6 : List ByteArray) (p7 : Int) (p8 : Int) (p9 : ByteArray) (p10 : Int) (r : Int × Int × ByteArray × List ByteArray × Int) (h : antiquaryref41_Put_l0 k p1 p2 p3 p4 p5 p6 p7 p8 p9 p10 = some r) :
    Abs.Good P 14 Try.f14.ntmps [] [] (.v (.agg [.p (Kd.int .i64) r.1, .p (Kd.int .i64) r.2.1, .p Kd.str r.2.2.1, .p (Kd.sl Kd.str) r.2.2.2.1, .p (Kd.int .i64) r.2.2.2.2])) (pos Try.f14 [.r, .r]) [(sk 1, some (.v (.p Kd.str p1))), (sk 2, some (.v (.ptr 500001 0))), (sk 4, some (.v (.ptr 500002 0))), (sk 12, some (.v (.p Kd.bool p2))), (ek 500001, some (.box [.p (Kd.int .i64) p3, .p (Kd.int .i64) p4, .p Kd.str p5, .p (Kd.sl Kd.str) p6])), (ek 500002, some (.box [.p (Kd.int .i64) p7, .p (Kd.int .i64) p8, .p Kd.str p9, .nilsl, .p (Kd.int .i64) p10]))] := by
  unfold antiquaryref41_Put_l0 at h
  rcases br_inv h with ⟨h100, h⟩ | ⟨h100, h⟩
  · replace h := Option.some.inj h; subst h
    exact Abs.Good.path_ret hm [.cond true, .reg [], .co (ek 500002) 3 (.nsl Kd.str)] [] Try.func14 (cs := [_]) (by kernel_rfl) ⟨h100, trivial⟩ (by kernel_rfl)
  · rcases br_inv h with ⟨h101, h⟩ | ⟨h101, h⟩
    · exact Abs.Good.path hm [.cond false, .reg [(5, { dec := some true }), (6, { dec := some true }), (7, { dec := some true }), (8, { pick := some true })], .keep [sk 1, sk 2, sk 4, sk 22, ek 500001, ek 500002], .ren [(500001, 501001), (500002, 501002)]] (cs := [_, _, _, _, _]) (by kernel_rfl) ⟨h100, h101, h101, h101, h101, trivial⟩ (antiquaryref41_Put_l1_ok k p1 true p3 p4 p5 p6 p7 p8 p9 p10 r h)
    · obtain ⟨x102, h103, h⟩ := bind_inv h
      exact Abs.Good.path hm [.cond false, .reg [(5, { dec := some false }), (6, { dec := some false, call := some { lend := [], pass := [], res := .v (.p (Kd.int .i64) x102), outs := [], back := [] } }), (7, { dec := some false }), (8, { pick := some false })], .keep [sk 1, sk 2, sk 4, sk 22, ek 500001, ek 500002], .ren [(500001, 501001), (500002, 501002)]] (cs := [_, _, _, _, _, _]) (by kernel_rfl) ⟨h100, h101, h101, (antiquaryref41_End_ok k p3 p4 p5 p6 _ h103), h101, h101, trivial⟩ (antiquaryref41_Put_l1_ok k p1 (decide (x102 ≥ (1099511627776 : Int))) p3 p4 p5 p6 p7 p8 p9 p10 r h)
theorem antiquaryref41_Put_ok (k : Nat) (a1 : Int) (a2 : Int) (a3 : ByteArray) (a4 : List ByteArray) (a5 : ByteArray) (r : Int × Int × ByteArray × List ByteArray × Int) (h : antiquaryref41_Put k a1 a2 a3 a4 a5 = some r) : SpecOk P ⟨14, [.agg [.p (Kd.int .i64) a1, .p (Kd.int .i64) a2, .p Kd.str a3, .p (Kd.sl Kd.str) a4], .p Kd.str a5], [], .v (.agg [.p (Kd.int .i64) r.1, .p (Kd.int .i64) r.2.1, .p Kd.str r.2.2.1, .p (Kd.sl Kd.str) r.2.2.2.1, .p (Kd.int .i64) r.2.2.2.2]), []⟩ := by
  refine spec_at Try.func14 (by kernel_rfl) (Nat.le_of_ble_eq_true (by kernel_rfl)) ?_
  unfold antiquaryref41_Put at h
  obtain ⟨x97, h98, h⟩ := bind_inv h
  rcases br_inv h with ⟨h99, h⟩ | ⟨h99, h⟩
  · exact Abs.Good.path hm [.reg [], .reg [(1, { call := some { lend := [], pass := [], res := .v (.p Kd.bool x97), outs := [], back := [] } }), (4, { dec := some true }), (5, { dec := some true }), (6, { dec := some true }), (7, { pick := some true })], .keep [sk 1, sk 2, sk 4, sk 12, ek 2, ek 4], .ren [(2, 500001), (4, 500002)]] (cs := [_, _, _, _, _]) (by kernel_rfl) ⟨(antiquaryref41_ValidOut_ok k a1 a2 a3 a4 _ h98), h99, h99, h99, h99, trivial⟩ (antiquaryref41_Put_l0_ok k a5 true a1 a2 a3 a4 (0 : Int) (0 : Int) (⟨#[]⟩ : ByteArray) (0 : Int) r h)
  · exact Abs.Good.path hm [.reg [], .reg [(1, { call := some { lend := [], pass := [], res := .v (.p Kd.bool x97), outs := [], back := [] } }), (4, { dec := some false }), (5, { dec := some false }), (6, { dec := some false }), (7, { pick := some false })], .keep [sk 1, sk 2, sk 4, sk 12, ek 2, ek 4], .ren [(2, 500001), (4, 500002)]] (cs := [_, _, _, _, _]) (by kernel_rfl) ⟨(antiquaryref41_ValidOut_ok k a1 a2 a3 a4 _ h98), h99, h99, h99, h99, trivial⟩ (antiquaryref41_Put_l0_ok k a5 (decide ((ByteArray.size a5 : Int) > (65536 : Int))) a1 a2 a3 a4 (0 : Int) (0 : Int) (⟨#[]⟩ : ByteArray) (0 : Int) r h)

def antiquaryref41_Fold_l0 (k : Nat) (p1 : Int) (p2 : ByteArray) (p3 : Bool) (p4 : Int) (p5 : Int) (p6 : ByteArray) (p7 : List ByteArray) (p8 : Int) (p9 : Int) (p10 : ByteArray) (p11 : Int) : Option (Int × Int × ByteArray × List ByteArray × Int) :=
  if p3 = true then
    some ((0 : Int), (0 : Int), (⟨#[]⟩ : ByteArray), ([] : List ByteArray), (1 : Int))
  else
    if 0 ≤ (IntKind.i64.wrap (p1 - p4)) ∧ (IntKind.i64.wrap (p1 - p4)) ≤ (List.length p7 : Int) then
      if List.length ([] : List ByteArray) + List.length (List.drop (Int.toNat (IntKind.i64.wrap (p1 - p4))) p7) ≤ 8796093022208 then
        some (p1, p5, p2, (([] : List ByteArray) ++ (List.drop (Int.toNat (IntKind.i64.wrap (p1 - p4))) p7)), (0 : Int))
      else none
    else none
def antiquaryref41_Fold (k : Nat) (a1 : Int) (a2 : Int) (a3 : ByteArray) (a4 : List ByteArray) (a5 : Int) (a6 : ByteArray) : Option (Int × Int × ByteArray × List ByteArray × Int) :=
  Option.bind (antiquaryref41_ValidOut k a1 a2 a3 a4) fun x130 =>
  if (!x130) = true then
    antiquaryref41_Fold_l0 k a5 a6 true a1 a2 a3 a4 (0 : Int) (0 : Int) (⟨#[]⟩ : ByteArray) (0 : Int)
  else
    if (decide (a5 < a1)) = true then
      antiquaryref41_Fold_l0 k a5 a6 true a1 a2 a3 a4 (0 : Int) (0 : Int) (⟨#[]⟩ : ByteArray) (0 : Int)
    else
      Option.bind (antiquaryref41_End k a1 a2 a3 a4) fun x134 =>
      if (decide (a5 > x134)) = true then
        antiquaryref41_Fold_l0 k a5 a6 true a1 a2 a3 a4 (0 : Int) (0 : Int) (⟨#[]⟩ : ByteArray) (0 : Int)
      else
        antiquaryref41_Fold_l0 k a5 a6 (decide ((ByteArray.size a6 : Int) > (65536 : Int))) a1 a2 a3 a4 (0 : Int) (0 : Int) (⟨#[]⟩ : ByteArray) (0 : Int)
theorem antiquaryref41_Fold_l0_ok (k : Nat) (p1 : Int) (p2 : ByteArray) (p3 : Bool) (p4 : Int) (p5 : Int) (p6 : ByteArray) (p7 : List ByteArray) (p8 : Int) (p9 : Int) (p10 : ByteArray) (p11 : Int) (r : Int × Int × ByteArray × List ByteArray × Int) (h : antiquaryref41_Fold_l0 k p1 p2 p3 p4 p5 p6 p7 p8 p9 p10 p11 = some r) :
    Abs.Good P 15 Try.f15.ntmps [] [] (.v (.agg [.p (Kd.int .i64) r.1, .p (Kd.int .i64) r.2.1, .p Kd.str r.2.2.1, .p (Kd.sl Kd.str) r.2.2.2.1, .p (Kd.int .i64) r.2.2.2.2])) (pos Try.f15 [.r, .r]) [(sk 1, some (.v (.p (Kd.int .i64) p1))), (sk 2, some (.v (.p Kd.str p2))), (sk 3, some (.v (.ptr 500001 0))), (sk 6, some (.v (.ptr 500002 0))), (sk 27, some (.v (.p Kd.bool p3))), (ek 500001, some (.box [.p (Kd.int .i64) p4, .p (Kd.int .i64) p5, .p Kd.str p6, .p (Kd.sl Kd.str) p7])), (ek 500002, some (.box [.p (Kd.int .i64) p8, .p (Kd.int .i64) p9, .p Kd.str p10, .nilsl, .p (Kd.int .i64) p11]))] := by
  unfold antiquaryref41_Fold_l0 at h
  rcases br_inv h with ⟨h137, h⟩ | ⟨h137, h⟩
  · replace h := Option.some.inj h; subst h
    exact Abs.Good.path_ret hm [.cond true, .reg [], .co (ek 500002) 3 (.nsl Kd.str)] [] Try.func15 (cs := [_]) (by kernel_rfl) ⟨h137, trivial⟩ (by kernel_rfl)
  · obtain ⟨h138, h⟩ := gd_inv h
    obtain ⟨h139, h⟩ := gd_inv h
    replace h := Option.some.inj h; subst h
    exact Abs.Good.path_ret hm [.cond false, .reg [], .reg []] [37] Try.func15 (cs := [_, _, _, _, _, _]) (by kernel_rfl) ⟨h137, h138.1, h138.2, (rfl : 0 = List.length ([] : List ByteArray)), (appBound (P := P) (et := 9) (b := 16) (by kernel_rfl) (by decide) h139), (rfl : (List.length (([] : List ByteArray) ++ (List.drop (Int.toNat (IntKind.i64.wrap (p1 - p4))) p7))) = List.length (([] : List ByteArray) ++ (List.drop (Int.toNat (IntKind.i64.wrap (p1 - p4))) p7))), trivial⟩ (by kernel_rfl)
theorem antiquaryref41_Fold_ok (k : Nat) (a1 : Int) (a2 : Int) (a3 : ByteArray) (a4 : List ByteArray) (a5 : Int) (a6 : ByteArray) (r : Int × Int × ByteArray × List ByteArray × Int) (h : antiquaryref41_Fold k a1 a2 a3 a4 a5 a6 = some r) : SpecOk P ⟨15, [.agg [.p (Kd.int .i64) a1, .p (Kd.int .i64) a2, .p Kd.str a3, .p (Kd.sl Kd.str) a4], .p (Kd.int .i64) a5, .p Kd.str a6], [], .v (.agg [.p (Kd.int .i64) r.1, .p (Kd.int .i64) r.2.1, .p Kd.str r.2.2.1, .p (Kd.sl Kd.str) r.2.2.2.1, .p (Kd.int .i64) r.2.2.2.2]), []⟩ := by
  refine spec_at Try.func15 (by kernel_rfl) (Nat.le_of_ble_eq_true (by kernel_rfl)) ?_
  unfold antiquaryref41_Fold at h
  obtain ⟨x130, h131, h⟩ := bind_inv h
  rcases br_inv h with ⟨h132, h⟩ | ⟨h132, h⟩
  · exact Abs.Good.path hm [.reg [], .reg [(1, { call := some { lend := [], pass := [], res := .v (.p Kd.bool x130), outs := [], back := [] } }), (4, { dec := some true }), (5, { dec := some true }), (6, { dec := some true }), (7, { dec := some true }), (8, { pick := some true }), (10, { dec := some true }), (11, { dec := some true }), (12, { dec := some true }), (13, { dec := some true }), (14, { pick := some true }), (16, { dec := some true }), (17, { dec := some true }), (18, { dec := some true }), (19, { pick := some true })], .keep [sk 1, sk 2, sk 3, sk 6, sk 27, ek 3, ek 6], .ren [(3, 500001), (6, 500002)]] (cs := [_, _, _, _, _, _, _, _, _, _, _, _, _, _, _]) (by kernel_rfl) ⟨(antiquaryref41_ValidOut_ok k a1 a2 a3 a4 _ h131), h132, h132, h132, h132, h132, (rfl : true = true), (rfl : true = true), (rfl : true = true), (rfl : true = true), (rfl : true = true), (rfl : true = true), (rfl : true = true), (rfl : true = true), (rfl : true = true), trivial⟩ (antiquaryref41_Fold_l0_ok k a5 a6 true a1 a2 a3 a4 (0 : Int) (0 : Int) (⟨#[]⟩ : ByteArray) (0 : Int) r h)
  · rcases br_inv h with ⟨h133, h⟩ | ⟨h133, h⟩
    · exact Abs.Good.path hm [.reg [], .reg [(1, { call := some { lend := [], pass := [], res := .v (.p Kd.bool x130), outs := [], back := [] } }), (4, { dec := some false }), (5, { dec := some false }), (6, { dec := some false }), (7, { dec := some false }), (8, { pick := some false }), (10, { dec := some true }), (11, { dec := some true }), (12, { dec := some true }), (13, { dec := some true }), (14, { pick := some true }), (16, { dec := some true }), (17, { dec := some true }), (18, { dec := some true }), (19, { pick := some true })], .keep [sk 1, sk 2, sk 3, sk 6, sk 27, ek 3, ek 6], .ren [(3, 500001), (6, 500002)]] (cs := [_, _, _, _, _, _, _, _, _, _, _, _, _, _, _]) (by kernel_rfl) ⟨(antiquaryref41_ValidOut_ok k a1 a2 a3 a4 _ h131), h132, h132, h132, h132, h132, h133, h133, h133, h133, h133, (rfl : true = true), (rfl : true = true), (rfl : true = true), (rfl : true = true), trivial⟩ (antiquaryref41_Fold_l0_ok k a5 a6 true a1 a2 a3 a4 (0 : Int) (0 : Int) (⟨#[]⟩ : ByteArray) (0 : Int) r h)
    · obtain ⟨x134, h135, h⟩ := bind_inv h
      rcases br_inv h with ⟨h136, h⟩ | ⟨h136, h⟩
      · exact Abs.Good.path hm [.reg [], .reg [(1, { call := some { lend := [], pass := [], res := .v (.p Kd.bool x130), outs := [], back := [] } }), (4, { dec := some false }), (5, { dec := some false }), (6, { dec := some false }), (7, { dec := some false }), (8, { pick := some false }), (10, { dec := some false }), (11, { dec := some false }), (12, { dec := some false, call := some { lend := [], pass := [], res := .v (.p (Kd.int .i64) x134), outs := [], back := [] } }), (13, { dec := some false }), (14, { pick := some false }), (16, { dec := some true }), (17, { dec := some true }), (18, { dec := some true }), (19, { pick := some true })], .keep [sk 1, sk 2, sk 3, sk 6, sk 27, ek 3, ek 6], .ren [(3, 500001), (6, 500002)]] (cs := [_, _, _, _, _, _, _, _, _, _, _, _, _, _, _, _]) (by kernel_rfl) ⟨(antiquaryref41_ValidOut_ok k a1 a2 a3 a4 _ h131), h132, h132, h132, h132, h132, h133, h133, h133, (antiquaryref41_End_ok k a1 a2 a3 a4 _ h135), h133, h133, h136, h136, h136, h136, trivial⟩ (antiquaryref41_Fold_l0_ok k a5 a6 true a1 a2 a3 a4 (0 : Int) (0 : Int) (⟨#[]⟩ : ByteArray) (0 : Int) r h)
      · exact Abs.Good.path hm [.reg [], .reg [(1, { call := some { lend := [], pass := [], res := .v (.p Kd.bool x130), outs := [], back := [] } }), (4, { dec := some false }), (5, { dec := some false }), (6, { dec := some false }), (7, { dec := some false }), (8, { pick := some false }), (10, { dec := some false }), (11, { dec := some false }), (12, { dec := some false, call := some { lend := [], pass := [], res := .v (.p (Kd.int .i64) x134), outs := [], back := [] } }), (13, { dec := some false }), (14, { pick := some false }), (16, { dec := some false }), (17, { dec := some false }), (18, { dec := some false }), (19, { pick := some false })], .keep [sk 1, sk 2, sk 3, sk 6, sk 27, ek 3, ek 6], .ren [(3, 500001), (6, 500002)]] (cs := [_, _, _, _, _, _, _, _, _, _, _, _, _, _, _, _]) (by kernel_rfl) ⟨(antiquaryref41_ValidOut_ok k a1 a2 a3 a4 _ h131), h132, h132, h132, h132, h132, h133, h133, h133, (antiquaryref41_End_ok k a1 a2 a3 a4 _ h135), h133, h133, h136, h136, h136, h136, trivial⟩ (antiquaryref41_Fold_l0_ok k a5 a6 (decide ((ByteArray.size a6 : Int) > (65536 : Int))) a1 a2 a3 a4 (0 : Int) (0 : Int) (⟨#[]⟩ : ByteArray) (0 : Int) r h)

def antiquaryref41_Frames_l2 : Nat → Int → Int → Int → Int → ByteArray → List ByteArray → Int → (List (Bool × (Int × (ByteArray × Unit)))) → Option (List (Bool × (Int × (ByteArray × Unit))) × Int)
  | 0, _, _, _, _, _, _, _, _ => none
  | k + 1, p1, p2, p3, p4, p5, p6, p7, p8 =>
    Option.bind (antiquaryref41_End k p3 p4 p5 p6) fun x180 =>
    if (decide (p2 < x180)) = true then
      if 0 ≤ (IntKind.i64.wrap (p2 - p3)) ∧ (IntKind.i64.wrap (p2 - p3)) < (List.length p6 : Int) then
        if List.length p8 + List.length ([(false, (p2, ((List.getD p6 (Int.toNat (IntKind.i64.wrap (p2 - p3))) (Kd.dflt Kd.str)), ())))] : List (Bool × (Int × (ByteArray × Unit)))) ≤ 4398046511104 then
          antiquaryref41_Frames_l2 k p1 (IntKind.i64.wrap (p2 + (1 : Int))) p3 p4 p5 p6 p7 (p8 ++ ([(false, (p2, ((List.getD p6 (Int.toNat (IntKind.i64.wrap (p2 - p3))) (Kd.dflt Kd.str)), ())))] : List (Bool × (Int × (ByteArray × Unit)))))
        else none
      else none
    else
      if 0 ≤ (mm false p1 ((List.length p8) : Int)) ∧ (mm false p1 ((List.length p8) : Int)) ≤ ((List.length p8) : Int) then
        if List.length ([] : List (Bool × (Int × (ByteArray × Unit)))) + List.length (List.take (Int.toNat (mm false p1 ((List.length p8) : Int))) p8) ≤ 4398046511104 ∧ (Int.toNat (mm false p1 ((List.length p8) : Int))) ≤ List.length p8 then
          some ((([] : List (Bool × (Int × (ByteArray × Unit)))) ++ (List.take (Int.toNat (mm false p1 ((List.length p8) : Int))) p8)), (0 : Int))
        else none
      else none
def antiquaryref41_Frames_l1 (k : Nat) (p1 : Int) (p2 : Int) (p3 : Int) (p4 : ByteArray) (p5 : List ByteArray) (p6 : Int) (p7 : List (Bool × (Int × (ByteArray × Unit)))) : Option (List (Bool × (Int × (ByteArray × Unit))) × Int) :=
  antiquaryref41_Frames_l2 k p1 (mm true p3 p2) p2 p3 p4 p5 p6 p7
def antiquaryref41_Frames_l0 (k : Nat) (p1 : Int) (p2 : Bool) (p3 : Int) (p4 : Int) (p5 : ByteArray) (p6 : List ByteArray) (p7 : Int) : Option (List (Bool × (Int × (ByteArray × Unit))) × Int) :=
  if p2 = true then
    some (([] : List (Bool × (Int × (ByteArray × Unit)))), (1 : Int))
  else
    if (decide (p4 < p3)) = true then
      if 0 + List.length ([(true, (p3, (p5, ())))] : List (Bool × (Int × (ByteArray × Unit)))) ≤ 4398046511104 then
        antiquaryref41_Frames_l1 k p1 p3 p4 p5 p6 p7 ([(true, (p3, (p5, ())))] : List (Bool × (Int × (ByteArray × Unit))))
      else none
    else
      antiquaryref41_Frames_l1 k p1 p3 p4 p5 p6 p7 ([] : List (Bool × (Int × (ByteArray × Unit))))
def antiquaryref41_Frames (k : Nat) (a1 : Int) (a2 : Int) (a3 : ByteArray) (a4 : List ByteArray) (a5 : Int) : Option (List (Bool × (Int × (ByteArray × Unit))) × Int) :=
  Option.bind (antiquaryref41_ValidOut k a1 a2 a3 a4) fun x174 =>
  if (!x174) = true then
    antiquaryref41_Frames_l0 k a5 true a1 a2 a3 a4 (0 : Int)
  else
    antiquaryref41_Frames_l0 k a5 (decide (a5 < (0 : Int))) a1 a2 a3 a4 (0 : Int)
theorem antiquaryref41_Frames_l2_ok (k : Nat) : ∀ (p1 : Int) (p2 : Int) (p3 : Int) (p4 : Int) (p5 : ByteArray) (p6 : List ByteArray) (p7 : Int) (p8 : List (Bool × (Int × (ByteArray × Unit)))) (r : List (Bool × (Int × (ByteArray × Unit))) × Int), antiquaryref41_Frames_l2 k p1 p2 p3 p4 p5 p6 p7 p8 = some r →
    Abs.Good P 16 Try.f16.ntmps [] [] (.v (.agg [.p (Kd.sl (Kd.pair Kd.bool (Kd.pair (Kd.int .i64) (Kd.pair Kd.str Kd.unit)))) r.1, .p (Kd.int .i64) r.2])) (pos Try.f16 [.r, .r, .c false, .r, .r, .c false, .r]) [(sk 1, some (.v (.p (Kd.int .i64) p1))), (sk 2, some (.v (.ptr 502001 0))), (sk 4, some (.v (.ptr 502002 0))), (sk 5, some (.v (.row 502003 (List.length p8)))), (sk 6, some (.v (.p (Kd.int .i64) p2))), (ek 502001, some (.box [.p (Kd.int .i64) p3, .p (Kd.int .i64) p4, .p Kd.str p5, .p (Kd.sl Kd.str) p6])), (ek 502002, some (.box [.nilsl, .p (Kd.int .i64) p7])), (ek 502003, some (.row (Kd.pair Kd.bool (Kd.pair (Kd.int .i64) (Kd.pair Kd.str Kd.unit))) 49 p8))] := by
  induction k with
  | zero => intro p1 p2 p3 p4 p5 p6 p7 p8 r h; cases h
  | succ k ih =>
    intro p1 p2 p3 p4 p5 p6 p7 p8 r h
    unfold antiquaryref41_Frames_l2 at h
    obtain ⟨x180, h181, h⟩ := bind_inv h
    rcases br_inv h with ⟨h182, h⟩ | ⟨h182, h⟩
    · obtain ⟨h183, h⟩ := gd_inv h
      obtain ⟨h184, h⟩ := gd_inv h
      exact Abs.Good.path hm [.reg [(2, { call := some { lend := [], pass := [], res := .v (.p (Kd.int .i64) x180), outs := [], back := [] } })], .cond true, .reg [], .reg [], .keep [sk 1, sk 2, sk 4, sk 5, sk 6, ek 502001, ek 502002, ek 51], .ren [(502001, 502001), (502002, 502002), (51, 502003)]] (cs := [_, _, _, _, _, _, _]) (by kernel_rfl) ⟨(antiquaryref41_End_ok k p3 p4 p5 p6 _ h181), h182, h183.1, h183.2, (rfl : (List.length p8) = List.length p8), (appBound (P := P) (et := 49) (b := 32) (by kernel_rfl) (by decide) h184), (rfl : 1 = List.length ([(false, (p2, ((List.getD p6 (Int.toNat (IntKind.i64.wrap (p2 - p3))) (Kd.dflt Kd.str)), ())))] : List (Bool × (Int × (ByteArray × Unit))))), trivial⟩ (ih p1 (IntKind.i64.wrap (p2 + (1 : Int))) p3 p4 p5 p6 p7 (p8 ++ ([(false, (p2, ((List.getD p6 (Int.toNat (IntKind.i64.wrap (p2 - p3))) (Kd.dflt Kd.str)), ())))] : List (Bool × (Int × (ByteArray × Unit))))) r h)
    · obtain ⟨h185, h⟩ := gd_inv h
      obtain ⟨h186, h⟩ := gd_inv h
      replace h := Option.some.inj h; subst h
      exact Abs.Good.path_ret hm [.reg [(2, { call := some { lend := [], pass := [], res := .v (.p (Kd.int .i64) x180), outs := [], back := [] } })], .cond false, .reg [(7, { pick := some true })]] [59] Try.func16 (cs := [_, _, _, _, _, _, _, _]) (by kernel_rfl) ⟨(antiquaryref41_End_ok k p3 p4 p5 p6 _ h181), h182, h185.1, h185.2, (rfl : 0 = List.length ([] : List (Bool × (Int × (ByteArray × Unit))))), (appBound (P := P) (et := 49) (b := 32) (by kernel_rfl) (by decide) h186.1), h186.2, (rfl : (List.length (([] : List (Bool × (Int × (ByteArray × Unit)))) ++ (List.take (Int.toNat (mm false p1 ((List.length p8) : Int))) p8))) = List.length (([] : List (Bool × (Int × (ByteArray × Unit)))) ++ (List.take (Int.toNat (mm false p1 ((List.length p8) : Int))) p8))), trivial⟩ (by kernel_rfl)
theorem antiquaryref41_Frames_l1_ok (k : Nat) (p1 : Int) (p2 : Int) (p3 : Int) (p4 : ByteArray) (p5 : List ByteArray) (p6 : Int) (p7 : List (Bool × (Int × (ByteArray × Unit)))) (r : List (Bool × (Int × (ByteArray × Unit))) × Int) (h : antiquaryref41_Frames_l1 k p1 p2 p3 p4 p5 p6 p7 = some r) :
    Abs.Good P 16 Try.f16.ntmps [] [] (.v (.agg [.p (Kd.sl (Kd.pair Kd.bool (Kd.pair (Kd.int .i64) (Kd.pair Kd.str Kd.unit)))) r.1, .p (Kd.int .i64) r.2])) (pos Try.f16 [.r, .r, .c false, .r, .r, .c false]) [(sk 1, some (.v (.p (Kd.int .i64) p1))), (sk 2, some (.v (.ptr 501001 0))), (sk 4, some (.v (.ptr 501002 0))), (sk 5, some (.v (.row 501003 (List.length p7)))), (ek 501001, some (.box [.p (Kd.int .i64) p2, .p (Kd.int .i64) p3, .p Kd.str p4, .p (Kd.sl Kd.str) p5])), (ek 501002, some (.box [.nilsl, .p (Kd.int .i64) p6])), (ek 501003, some (.row (Kd.pair Kd.bool (Kd.pair (Kd.int .i64) (Kd.pair Kd.str Kd.unit))) 49 p7))] := by
  unfold antiquaryref41_Frames_l1 at h
  exact Abs.Good.path hm [.reg [], .keep [sk 1, sk 2, sk 4, sk 5, sk 6, ek 501001, ek 501002, ek 501003], .ren [(501001, 502001), (501002, 502002), (501003, 502003)]] (cs := []) (by kernel_rfl) trivial (antiquaryref41_Frames_l2_ok k p1 (mm true p3 p2) p2 p3 p4 p5 p6 p7 r h)
theorem antiquaryref41_Frames_l0_ok (k : Nat) (p1 : Int) (p2 : Bool) (p3 : Int) (p4 : Int) (p5 : ByteArray) (p6 : List ByteArray) (p7 : Int) (r : List (Bool × (Int × (ByteArray × Unit))) × Int) (h : antiquaryref41_Frames_l0 k p1 p2 p3 p4 p5 p6 p7 = some r) :
    Abs.Good P 16 Try.f16.ntmps [] [] (.v (.agg [.p (Kd.sl (Kd.pair Kd.bool (Kd.pair (Kd.int .i64) (Kd.pair Kd.str Kd.unit)))) r.1, .p (Kd.int .i64) r.2])) (pos Try.f16 [.r, .r]) [(sk 1, some (.v (.p (Kd.int .i64) p1))), (sk 2, some (.v (.ptr 500001 0))), (sk 4, some (.v (.ptr 500002 0))), (sk 13, some (.v (.p Kd.bool p2))), (ek 500001, some (.box [.p (Kd.int .i64) p3, .p (Kd.int .i64) p4, .p Kd.str p5, .p (Kd.sl Kd.str) p6])), (ek 500002, some (.box [.nilsl, .p (Kd.int .i64) p7]))] := by
  unfold antiquaryref41_Frames_l0 at h
  rcases br_inv h with ⟨h177, h⟩ | ⟨h177, h⟩
  · replace h := Option.some.inj h; subst h
    exact Abs.Good.path_ret hm [.cond true, .reg [], .co (ek 500002) 0 (.nsl (Kd.pair Kd.bool (Kd.pair (Kd.int .i64) (Kd.pair Kd.str Kd.unit))))] [] Try.func16 (cs := [_]) (by kernel_rfl) ⟨h177, trivial⟩ (by kernel_rfl)
  · rcases br_inv h with ⟨h178, h⟩ | ⟨h178, h⟩
    · obtain ⟨h179, h⟩ := gd_inv h
      exact Abs.Good.path hm [.cond false, .reg [], .reg [], .cond true, .reg [], .keep [sk 1, sk 2, sk 4, sk 5, ek 500001, ek 500002, ek 27], .ren [(500001, 501001), (500002, 501002), (27, 501003)]] (cs := [_, _, _, _]) (by kernel_rfl) ⟨h177, h178, (appBound (P := P) (et := 49) (b := 32) (by kernel_rfl) (by decide) h179), (rfl : 1 = List.length ([(true, (p3, (p5, ())))] : List (Bool × (Int × (ByteArray × Unit))))), trivial⟩ (antiquaryref41_Frames_l1_ok k p1 p3 p4 p5 p6 p7 ([(true, (p3, (p5, ())))] : List (Bool × (Int × (ByteArray × Unit)))) r h)
    · exact Abs.Good.path hm [.cond false, .reg [], .reg [], .cond false, .co (sk 5) 0 (.mk 900001 (Kd.pair Kd.bool (Kd.pair (Kd.int .i64) (Kd.pair Kd.str Kd.unit))) 49), .keep [sk 1, sk 2, sk 4, sk 5, ek 500001, ek 500002, ek 900001], .ren [(500001, 501001), (500002, 501002), (900001, 501003)]] (cs := [_, _]) (by kernel_rfl) ⟨h177, h178, trivial⟩ (antiquaryref41_Frames_l1_ok k p1 p3 p4 p5 p6 p7 ([] : List (Bool × (Int × (ByteArray × Unit)))) r h)
theorem antiquaryref41_Frames_ok (k : Nat) (a1 : Int) (a2 : Int) (a3 : ByteArray) (a4 : List ByteArray) (a5 : Int) (r : List (Bool × (Int × (ByteArray × Unit))) × Int) (h : antiquaryref41_Frames k a1 a2 a3 a4 a5 = some r) : SpecOk P ⟨16, [.agg [.p (Kd.int .i64) a1, .p (Kd.int .i64) a2, .p Kd.str a3, .p (Kd.sl Kd.str) a4], .p (Kd.int .i64) a5], [], .v (.agg [.p (Kd.sl (Kd.pair Kd.bool (Kd.pair (Kd.int .i64) (Kd.pair Kd.str Kd.unit)))) r.1, .p (Kd.int .i64) r.2]), []⟩ := by
  refine spec_at Try.func16 (by kernel_rfl) (Nat.le_of_ble_eq_true (by kernel_rfl)) ?_
  unfold antiquaryref41_Frames at h
  obtain ⟨x174, h175, h⟩ := bind_inv h
  rcases br_inv h with ⟨h176, h⟩ | ⟨h176, h⟩
  · exact Abs.Good.path hm [.reg [], .reg [(1, { call := some { lend := [], pass := [], res := .v (.p Kd.bool x174), outs := [], back := [] } }), (4, { dec := some true }), (5, { dec := some true }), (6, { pick := some true })], .keep [sk 1, sk 2, sk 4, sk 13, ek 2, ek 4], .ren [(2, 500001), (4, 500002)]] (cs := [_, _, _, _]) (by kernel_rfl) ⟨(antiquaryref41_ValidOut_ok k a1 a2 a3 a4 _ h175), h176, h176, h176, trivial⟩ (antiquaryref41_Frames_l0_ok k a5 true a1 a2 a3 a4 (0 : Int) r h)
  · exact Abs.Good.path hm [.reg [], .reg [(1, { call := some { lend := [], pass := [], res := .v (.p Kd.bool x174), outs := [], back := [] } }), (4, { dec := some false }), (5, { dec := some false }), (6, { pick := some false })], .keep [sk 1, sk 2, sk 4, sk 13, ek 2, ek 4], .ren [(2, 500001), (4, 500002)]] (cs := [_, _, _, _]) (by kernel_rfl) ⟨(antiquaryref41_ValidOut_ok k a1 a2 a3 a4 _ h175), h176, h176, h176, trivial⟩ (antiquaryref41_Frames_l0_ok k a5 (decide (a5 < (0 : Int))) a1 a2 a3 a4 (0 : Int) r h)

def antiquaryref41_Acknowledge_l0 (k : Nat) (p1 : Int) (p2 : Bool) (p3 : Int) (p4 : Int) (p5 : ByteArray) (p6 : List ByteArray) (p7 : Int) (p8 : Int) (p9 : ByteArray) (p10 : Int) : Option (Int × Int × ByteArray × List ByteArray × Int) :=
  if p2 = true then
    some ((0 : Int), (0 : Int), (⟨#[]⟩ : ByteArray), ([] : List ByteArray), (1 : Int))
  else
    if (decide (p1 ≤ p4)) = true then
      some (p3, p4, p5, p6, (0 : Int))
    else
      if (decide (p1 > p3)) = true then
        if 0 ≤ (IntKind.i64.wrap (p1 - p3)) ∧ (IntKind.i64.wrap (p1 - p3)) ≤ (List.length p6 : Int) then
          if List.length ([] : List ByteArray) + List.length (List.drop (Int.toNat (IntKind.i64.wrap (p1 - p3))) p6) ≤ 8796093022208 then
            some (p1, p1, (⟨#[]⟩ : ByteArray), (([] : List ByteArray) ++ (List.drop (Int.toNat (IntKind.i64.wrap (p1 - p3))) p6)), (0 : Int))
          else none
        else none
      else
        some (p3, p1, p5, p6, (0 : Int))
def antiquaryref41_Acknowledge (k : Nat) (a1 : Int) (a2 : Int) (a3 : ByteArray) (a4 : List ByteArray) (a5 : Int) : Option (Int × Int × ByteArray × List ByteArray × Int) :=
  Option.bind (antiquaryref41_ValidOut k a1 a2 a3 a4) fun x207 =>
  if (!x207) = true then
    antiquaryref41_Acknowledge_l0 k a5 true a1 a2 a3 a4 (0 : Int) (0 : Int) (⟨#[]⟩ : ByteArray) (0 : Int)
  else
    if (decide (a5 < (0 : Int))) = true then
      antiquaryref41_Acknowledge_l0 k a5 true a1 a2 a3 a4 (0 : Int) (0 : Int) (⟨#[]⟩ : ByteArray) (0 : Int)
    else
      Option.bind (antiquaryref41_End k a1 a2 a3 a4) fun x211 =>
      antiquaryref41_Acknowledge_l0 k a5 (decide (a5 > x211)) a1 a2 a3 a4 (0 : Int) (0 : Int) (⟨#[]⟩ : ByteArray) (0 : Int)
theorem antiquaryref41_Acknowledge_l0_ok (k : Nat) (p1 : Int) (p2 : Bool) (p3 : Int) (p4 : Int) (p5 : ByteArray) (p6 : List ByteArray) (p7 : Int) (p8 : Int) (p9 : ByteArray) (p10 : Int) (r : Int × Int × ByteArray × List ByteArray × Int) (h : antiquaryref41_Acknowledge_l0 k p1 p2 p3 p4 p5 p6 p7 p8 p9 p10 = some r) :
    Abs.Good P 17 Try.f17.ntmps [] [] (.v (.agg [.p (Kd.int .i64) r.1, .p (Kd.int .i64) r.2.1, .p Kd.str r.2.2.1, .p (Kd.sl Kd.str) r.2.2.2.1, .p (Kd.int .i64) r.2.2.2.2])) (pos Try.f17 [.r, .r]) [(sk 1, some (.v (.p (Kd.int .i64) p1))), (sk 2, some (.v (.ptr 500001 0))), (sk 4, some (.v (.ptr 500002 0))), (sk 17, some (.v (.p Kd.bool p2))), (ek 500001, some (.box [.p (Kd.int .i64) p3, .p (Kd.int .i64) p4, .p Kd.str p5, .p (Kd.sl Kd.str) p6])), (ek 500002, some (.box [.p (Kd.int .i64) p7, .p (Kd.int .i64) p8, .p Kd.str p9, .nilsl, .p (Kd.int .i64) p10]))] := by
  unfold antiquaryref41_Acknowledge_l0 at h
  rcases br_inv h with ⟨h213, h⟩ | ⟨h213, h⟩
  · replace h := Option.some.inj h; subst h
    exact Abs.Good.path_ret hm [.cond true, .reg [], .co (ek 500002) 3 (.nsl Kd.str)] [] Try.func17 (cs := [_]) (by kernel_rfl) ⟨h213, trivial⟩ (by kernel_rfl)
  · rcases br_inv h with ⟨h214, h⟩ | ⟨h214, h⟩
    · replace h := Option.some.inj h; subst h
      exact Abs.Good.path_ret hm [.cond false, .reg [], .cond true, .reg []] [] Try.func17 (cs := [_, _]) (by kernel_rfl) ⟨h213, h214, trivial⟩ (by kernel_rfl)
    · rcases br_inv h with ⟨h215, h⟩ | ⟨h215, h⟩
      · obtain ⟨h216, h⟩ := gd_inv h
        obtain ⟨h217, h⟩ := gd_inv h
        replace h := Option.some.inj h; subst h
        exact Abs.Good.path_ret hm [.cond false, .reg [], .cond false, .reg [], .reg [], .cond true, .reg [], .reg [], .reg [], .reg []] [39] Try.func17 (cs := [_, _, _, _, _, _, _, _]) (by kernel_rfl) ⟨h213, h214, h215, h216.1, h216.2, (rfl : 0 = List.length ([] : List ByteArray)), (appBound (P := P) (et := 9) (b := 16) (by kernel_rfl) (by decide) h217), (rfl : (List.length (([] : List ByteArray) ++ (List.drop (Int.toNat (IntKind.i64.wrap (p1 - p3))) p6))) = List.length (([] : List ByteArray) ++ (List.drop (Int.toNat (IntKind.i64.wrap (p1 - p3))) p6))), trivial⟩ (by kernel_rfl)
      · replace h := Option.some.inj h; subst h
        exact Abs.Good.path_ret hm [.cond false, .reg [], .cond false, .reg [], .reg [], .cond false, .reg []] [] Try.func17 (cs := [_, _, _]) (by kernel_rfl) ⟨h213, h214, h215, trivial⟩ (by kernel_rfl)
theorem antiquaryref41_Acknowledge_ok (k : Nat) (a1 : Int) (a2 : Int) (a3 : ByteArray) (a4 : List ByteArray) (a5 : Int) (r : Int × Int × ByteArray × List ByteArray × Int) (h : antiquaryref41_Acknowledge k a1 a2 a3 a4 a5 = some r) : SpecOk P ⟨17, [.agg [.p (Kd.int .i64) a1, .p (Kd.int .i64) a2, .p Kd.str a3, .p (Kd.sl Kd.str) a4], .p (Kd.int .i64) a5], [], .v (.agg [.p (Kd.int .i64) r.1, .p (Kd.int .i64) r.2.1, .p Kd.str r.2.2.1, .p (Kd.sl Kd.str) r.2.2.2.1, .p (Kd.int .i64) r.2.2.2.2]), []⟩ := by
  refine spec_at Try.func17 (by kernel_rfl) (Nat.le_of_ble_eq_true (by kernel_rfl)) ?_
  unfold antiquaryref41_Acknowledge at h
  obtain ⟨x207, h208, h⟩ := bind_inv h
  rcases br_inv h with ⟨h209, h⟩ | ⟨h209, h⟩
  · exact Abs.Good.path hm [.reg [], .reg [(1, { call := some { lend := [], pass := [], res := .v (.p Kd.bool x207), outs := [], back := [] } }), (4, { dec := some true }), (5, { dec := some true }), (6, { pick := some true }), (8, { dec := some true }), (9, { dec := some true }), (10, { dec := some true }), (11, { dec := some true }), (12, { pick := some true })], .keep [sk 1, sk 2, sk 4, sk 17, ek 2, ek 4], .ren [(2, 500001), (4, 500002)]] (cs := [_, _, _, _, _, _, _, _, _]) (by kernel_rfl) ⟨(antiquaryref41_ValidOut_ok k a1 a2 a3 a4 _ h208), h209, h209, h209, (rfl : true = true), (rfl : true = true), (rfl : true = true), (rfl : true = true), (rfl : true = true), trivial⟩ (antiquaryref41_Acknowledge_l0_ok k a5 true a1 a2 a3 a4 (0 : Int) (0 : Int) (⟨#[]⟩ : ByteArray) (0 : Int) r h)
  · rcases br_inv h with ⟨h210, h⟩ | ⟨h210, h⟩
    · exact Abs.Good.path hm [.reg [], .reg [(1, { call := some { lend := [], pass := [], res := .v (.p Kd.bool x207), outs := [], back := [] } }), (4, { dec := some false }), (5, { dec := some false }), (6, { pick := some false }), (8, { dec := some true }), (9, { dec := some true }), (10, { dec := some true }), (11, { dec := some true }), (12, { pick := some true })], .keep [sk 1, sk 2, sk 4, sk 17, ek 2, ek 4], .ren [(2, 500001), (4, 500002)]] (cs := [_, _, _, _, _, _, _, _, _]) (by kernel_rfl) ⟨(antiquaryref41_ValidOut_ok k a1 a2 a3 a4 _ h208), h209, h209, h209, h210, h210, h210, h210, h210, trivial⟩ (antiquaryref41_Acknowledge_l0_ok k a5 true a1 a2 a3 a4 (0 : Int) (0 : Int) (⟨#[]⟩ : ByteArray) (0 : Int) r h)
    · obtain ⟨x211, h212, h⟩ := bind_inv h
      exact Abs.Good.path hm [.reg [], .reg [(1, { call := some { lend := [], pass := [], res := .v (.p Kd.bool x207), outs := [], back := [] } }), (4, { dec := some false }), (5, { dec := some false }), (6, { pick := some false }), (8, { dec := some false }), (9, { dec := some false }), (10, { dec := some false, call := some { lend := [], pass := [], res := .v (.p (Kd.int .i64) x211), outs := [], back := [] } }), (11, { dec := some false }), (12, { pick := some false })], .keep [sk 1, sk 2, sk 4, sk 17, ek 2, ek 4], .ren [(2, 500001), (4, 500002)]] (cs := [_, _, _, _, _, _, _, _, _, _]) (by kernel_rfl) ⟨(antiquaryref41_ValidOut_ok k a1 a2 a3 a4 _ h208), h209, h209, h209, h210, h210, h210, (antiquaryref41_End_ok k a1 a2 a3 a4 _ h212), h210, h210, trivial⟩ (antiquaryref41_Acknowledge_l0_ok k a5 (decide (a5 > x211)) a1 a2 a3 a4 (0 : Int) (0 : Int) (⟨#[]⟩ : ByteArray) (0 : Int) r h)

def antiquaryref41_SameOut_l1 : Nat → Int → Int → Int → ByteArray → List ByteArray → Int → Int → ByteArray → List ByteArray → Option (Bool)
  | 0, _, _, _, _, _, _, _, _, _ => none
  | k + 1, p1, p2, p3, p4, p5, p6, p7, p8, p9 =>
    if (decide (p1 < (List.length p5 : Int))) = true then
      if 0 ≤ p1 ∧ p1 < (List.length p5 : Int) then
        if p1 < (List.length p9 : Int) then
          if (!(ByteArray.toList (List.getD p5 (Int.toNat p1) (Kd.dflt Kd.str)) == ByteArray.toList (List.getD p9 (Int.toNat p1) (Kd.dflt Kd.str)))) = true then
            some (false)
          else
            antiquaryref41_SameOut_l1 k (IntKind.i64.wrap (p1 + (1 : Int))) p2 p3 p4 p5 p6 p7 p8 p9
        else none
      else none
    else
      some (true)
def antiquaryref41_SameOut_l0 (k : Nat) (p1 : Bool) (p2 : Int) (p3 : Int) (p4 : ByteArray) (p5 : List ByteArray) (p6 : Int) (p7 : Int) (p8 : ByteArray) (p9 : List ByteArray) : Option (Bool) :=
  if p1 = true then
    some (false)
  else
    antiquaryref41_SameOut_l1 k (0 : Int) p2 p3 p4 p5 p6 p7 p8 p9
def antiquaryref41_SameOut (k : Nat) (a1 : Int) (a2 : Int) (a3 : ByteArray) (a4 : List ByteArray) (a5 : Int) (a6 : Int) (a7 : ByteArray) (a8 : List ByteArray) : Option (Bool) :=
  if (a1 != a5) = true then
    antiquaryref41_SameOut_l0 k true a1 a2 a3 a4 a5 a6 a7 a8
  else
    if (a2 != a6) = true then
      antiquaryref41_SameOut_l0 k true a1 a2 a3 a4 a5 a6 a7 a8
    else
      if (!(ByteArray.toList a3 == ByteArray.toList a7)) = true then
        antiquaryref41_SameOut_l0 k true a1 a2 a3 a4 a5 a6 a7 a8
      else
        antiquaryref41_SameOut_l0 k ((List.length a4 : Int) != (List.length a8 : Int)) a1 a2 a3 a4 a5 a6 a7 a8
end Go.Proofs.G2
