/- The plain laws: what those Lean functions compute. No program in sight. -/
import Derived.Test.YtbcbhhpbgnmpaaaDoorP0
import Derived.Test.YtbcbhhpbgnmpaaaDoorRows
import Derived.Test.YtbcbhhpbgnmpaaaDoorTie
import Derived.Test.YtbcbhhpbgnmpaaaDoorCards
import Derived.WalkKit
import Derived.ProofKit
import Derived.OpenShut
import Derived.LaidMore
import Derived.Stop.Joined
import Derived.SevenTiedAt
set_option linter.unusedVariables false
namespace Go.Proofs.YtbcbhhpbgnmpaaaDoor
open Go.ChangeShapes Go.WideShapes Go.ChangeAt Go.RowKit
open Go.Abs (Kd AV GlobOk Cells All2)
open Go.Proofs.K1 (gK1 gK2)

theorem gRef : Tryd.prog.globalNamed "antiquary/antiquaryref02.constants" = some 2 := by kernel_rfl
theorem gHash : Tryd.prog.globalNamed "antiquary/hash.constants" = some 1 := by kernel_rfl
theorem tRef : (Tryd.prog.globals[2]?).map (·.type) = some 126 := by kernel_rfl
theorem tHash : (Tryd.prog.globals[1]?).map (·.type) = some 126 := by kernel_rfl
noncomputable def laid2 : List (String × DataW Unit) := [("antiquary/antiquaryref02.constants", Rows.laid_antiquary_antiquaryref02_constants), ("antiquary/hash.constants", Rows.laid_antiquary_hash_constants)]

theorem door_met (os : Os) (args : Array Value) : laidMetH Tryd.prog laid2 ((World.doorLaid Tryd.prog 400 os).forCall (fun _ _ => 0) ⟨#[], args, []⟩).memory :=
  laidMetH_of_parts3 (fuel := 8) (laidMet_of_run' 8 (by kernel_rfl) (by kernel_rfl)) (by kernel_rfl) (by kernel_rfl)

theorem words_cells {H : Type} {enc : TypeId × Value → H} {W : World} {base : Nat} {spare : Nat → Bool} {held : Bool} {fuel : Nat} {cs : List Value} {ps : List MemPlace} {l : List Int} (hl : l.length = 64)
    (h : DataW.trod enc Tryd.prog W base spare held fuel 126 cs = some (.agg (l.map fun n => .lit (.int .u32 n)), ps)) : cs = l.map (Value.int .u32) := by
  obtain ⟨xs, m, rfl, hx, hlen, hxl, hel⟩ := DataW.trod_array Tryd.underlying126 h
  have c1 : Tryd.prog.cellsOf 101 = 1 := by kernel_rfl
  have c126 : Tryd.prog.cellsOf 126 = 64 := by kernel_rfl
  rw [c126] at hlen
  simp only [Prod.mk.injEq, DataW.agg.injEq] at hx
  apply List.ext_getElem?
  intro i
  rcases Nat.lt_or_ge i 64 with hi | hi
  · have h1 := hel i hi
    rw [c1, Nat.mul_one] at h1
    cases hxi : xs[i]? with
    | none => rw [List.getElem?_eq_none_iff] at hxi; omega
    | some x =>
      rw [hxi] at h1
      obtain ⟨k, e1, e2, _⟩ := DataW.trod_int Tryd.underlying101 h1
      have h2 : (l.map fun n => (DataW.lit (.int .u32 n) : DataW H))[i]? = some (.lit (.int .u32 k)) := by
        rw [hx.1, List.getElem?_map, hxi, e2]; rfl
      rw [List.getElem?_map] at h2
      have hlt : i < l.length := by omega
      rw [List.getElem?_eq_getElem hlt] at h2
      simp only [Option.map_some, Option.some.injEq, DataW.lit.injEq, Lit.int.injEq, true_and] at h2
      rw [List.getElem?_map, List.getElem?_eq_getElem hlt, h2]
      have h3 : ((cs.drop i).take 1)[0]? = some (.int .u32 k) := by rw [e1]; rfl
      rw [List.getElem?_take] at h3
      simpa using h3
  · rw [List.getElem?_eq_none (by omega), List.getElem?_eq_none (by rw [List.length_map]; omega)]

theorem flat_one (f : Int → Value) : ∀ l : List Int, l.map f = (l.map fun n => [f n]).flatten
  | [] => rfl
  | a :: l => by rw [List.map_cons, List.map_cons, List.flatten_cons, ← flat_one f l]; rfl

theorem globals_hold {W : World} (h : laidMetH Tryd.prog laid2 W) : GlobOk (fun _ => False) W := by
  rw [MakeChecks.laidMetH_plain _ _ _ (by kernel_rfl)] at h
  obtain ⟨ps, ⟨g0, t0, cs0, f0, p0, q0, hg0, ht0, hv0, hd0, ⟨g1, t1, cs1, f1, p1, q1, hg1, ht1, hv1, hd1, _, _⟩, _⟩, _, _⟩ := h
  obtain rfl := Option.some.inj (gRef.symm.trans hg0)
  obtain rfl := Option.some.inj (gHash.symm.trans hg1)
  obtain rfl := Option.some.inj (tRef.symm.trans ht0)
  obtain rfl := Option.some.inj (tHash.symm.trans ht1)
  have r0 := words_cells (l := gK2) (by kernel_rfl) hd0
  have r1 := words_cells (l := gK1) (by kernel_rfl) hd1
  have one : ∀ (g : Nat) (l : List Int), l.length = 64 → (∀ i : Nat, W.cell? ⟨g, i, none⟩ = (l.map (Value.int .u32))[i]?) →
      ∃ css : List (List Value), All2 (Cells (fun _ => False) W (.arr 64 (.int .u32))) [(l : (Kd.arr 64 (.int .u32)).T)] css ∧ (css.flatten ≠ [] → ¬ (fun _ => False) g) ∧ W.rangeAt g 0 css.flatten := by
    intro g l hl hc
    refine ⟨[l.map (Value.int .u32)], ⟨⟨hl, l.map fun n => [Value.int .u32 n], ?_, ?_⟩, trivial⟩, fun _ h => h, fun j v hj => ?_⟩
    · exact flat_one _ l
    · clear hl hc
      induction l with
      | nil => trivial
      | cons a l ih => exact ⟨rfl, ih⟩
    · rw [List.flatten_cons, List.flatten_nil, List.append_nil] at hj
      rw [Nat.zero_add, hc]; exact hj
  intro g y hy
  match g, hy with
  | 1, hy =>
    cases hy
    exact one 1 gK1 (by kernel_rfl) (fun i => by rw [World.var?_cell hg1 hv1 i, ← r1]; simp)
  | 2, hy =>
    cases hy
    exact one 2 gK2 (by kernel_rfl) (fun i => by rw [World.var?_cell hg0 hv0 i, ← r0]; simp)

end Go.Proofs.YtbcbhhpbgnmpaaaDoor
