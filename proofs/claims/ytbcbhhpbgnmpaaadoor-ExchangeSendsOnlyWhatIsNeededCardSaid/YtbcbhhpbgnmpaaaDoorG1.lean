/- The walks: each function of the program that the law reaches computes the Lean function that is printed beside it. No condition but that the Lean function has a result. -/
import Derived.Test.YtbcbhhpbgnmpaaaDoorG0
import Derived.Shelf.RegionOpenPlain
import Derived.WalkKit
import Derived.Lib.Walk
import Derived.Lib.SliceRun
import Derived.Lib.JoinLaws
import Derived.Lib.AppendZeros
import Derived.Lib.Overlaps
import Derived.Laws.Externs
import Derived.Laws.IdiomCopy
import Derived.Lib.AppendZerosOnto
import Derived.Laws.NewBlocks
set_option linter.unusedVariables false
set_option linter.unusedSimpArgs false
namespace Go.Proofs.K1
open Go Go.RowKit Go.Lib Go.Proofs

theorem run_copy_cells_n {P : Program} (w : World) (dT sT ty elem : TypeId) (sz b o dLen dCap : Nat) (a : Addr) (sLen sCap : Nat) (cs : List Value)
    (hu : P.underlying dT = some (.slice elem)) (hs : (P.info? elem).map (·.size) = some sz) (hn : cs.length = Nat.min sLen dLen * sz)
    (hsrc : ∀ j v, cs[j]? = some v → w.cell? (a.add j) = some v) (hc : ∀ j, j < cs.length → (w.cell? ⟨b, o + j, none⟩).isSome = true) (hf : ∀ j, j < cs.length → w.frozen? ⟨b, o + j, none⟩ = false) (h1 : ∀ v ∈ cs, v.oneCell' = true) :
    (Builtin.copy_ #[dT, sT] ty #[.slice (some ⟨b, o, none⟩) dLen dCap, .slice (some a) sLen sCap]).run P w = .ok (goInt (Nat.min sLen dLen)) (w.setCells b o cs) := by
  have hl := run_loadCells_list (P := P) w a cs hsrc
  have hst := run_storeCells_cells (P := P) b o cs 0 w (by simpa using hc) (by simpa using hf) h1
  cases hq : P.info? elem with
  | none => simp [hq] at hs
  | some i =>
    have hi : i.size = sz := by simpa [hq] using hs
    simp [Builtin.copy_, run_underlying hu, Builtin.lenOf, Builtin.firstCells, sizeOf, typeInfo, hq, hi, ← hn, hl, hst]

theorem wp_copy_runI {P : Program} (w : World) {o : Oper} {a : Act} {K : Act → World → Prop} {Q : Exit → Act → World → Prop} (d s : Operand) (t t' : TypeId)
    (ho : o.op = .call { callee := .builtin .copy, args := #[d, s], argTypes := #[t, t'] }) (v u : Value) (hd : a.eval d = v) (hs : a.eval s = u) {v' : Value} {w' : World}
    (hr : (Builtin.copy_ #[t, t'] o.type #[v, u]).run P w = .ok v' w') (h : K (a.put o.dst v') w') : o.wp P a w K Q := by
  unfold Oper.wp execOp
  simp only [ho, resolve, invoke, builtin, Sem.run_bind, Sem.run_pure, Result.andThen_ok, List.map_toArray, List.map_cons, List.map_nil, hd, hs, hr]
  exact h

theorem wpList_copy_runI {P : Program} (w : World) {ops : Array Oper} {rest : List Oper} {o : Oper} {a : Act} {Q : Exit → Act → World → Prop} (hgd : o.guard = none) (d s : Operand) (t t' : TypeId)
    (ho : o.op = .call { callee := .builtin .copy, args := #[d, s], argTypes := #[t, t'] }) (v u : Value) (hd : a.eval d = v) (hs : a.eval s = u) {v' : Value} {w' : World}
    (hr : (Builtin.copy_ #[t, t'] o.type #[v, u]).run P w = .ok v' w') (h : wpList P ops Q rest (a.put o.dst v') w') : wpList P ops Q (o :: rest) a w :=
  wpList_plain hgd fun _ hK => wp_copy_runI w d s t t' ho v u hd hs hr (hK _ _ h)

theorem step_copy_runI {P : Program} {ops : Array Oper} {o : Oper} {a : Act} {w : World} {K : Act → World → Prop} {Q : Exit → Act → World → Prop} {E : Prop}
    (hg : o.guard = none) (d x : Operand) (dT sT : TypeId) (hop : o.op = Op.call { callee := Callee.builtin Builtin.copy, args := #[d, x], argTypes := #[dT, sT] })
    (v u : Value) (hd : a.eval d = v) (hx : a.eval x = u) {v' : Value} {w' : World} (hr : (Builtin.copy_ #[dT, sT] o.type #[v, u]).run P w = .ok v' w') (hK : K (a.put o.dst v') w') :
    if Region.wanted o (yielded ops a.tmps) = true then Oper.wp P o a w K Q else E := by
  have hw : Region.wanted o (yielded ops a.tmps) = true := by simp [Region.wanted, hg]
  rw [if_pos hw]
  unfold Oper.wp
  simp [execOp, hop, resolve, invoke, builtin, hd, hx, hr, Result.andThen]
  exact hK

theorem isSome_setCells (b : Nat) (vs : List Value) (o : Nat) (w : World) (h : ∀ j, j < vs.length → (w.cell? ⟨b, o + j, none⟩).isSome = true) (k : Nat) (hk : (w.cell? ⟨b, k, none⟩).isSome = true) : ((w.setCells b o vs).cell? ⟨b, k, none⟩).isSome = true := by
  by_cases hin : o ≤ k ∧ k < o + vs.length
  · have := World.cell?_setCells_in b vs o w h (k - o) (by omega)
    rw [show o + (k - o) = k by omega] at this
    rw [this]; rfl
  · rw [World.cell?_setCells_out b vs o w ⟨b, k, none⟩ (fun _ _ => by show k < o ∨ o + vs.length ≤ k; omega)]
    exact hk

theorem z50 : (Tryd.prog.info? 50).map (·.size) = some 17 := by kernel_rfl
theorem mixed : Tryd.prog.follows .mixedOrders = true := by kernel_rfl
theorem sizeOf50 (w : World) : (Go.sizeOf 50).run Tryd.prog w = .ok 17 w := by
  cases hq : Tryd.prog.info? 50 with
  | none => have := z50; rw [hq] at this; cases this
  | some i =>
    have hi : i.size = 17 := by have := z50; rw [hq] at this; simpa using this
    simp [Go.sizeOf, typeInfo, hq, hi]

set_option maxHeartbeats 4000000 in
set_option maxRecDepth 100000 in
theorem walk_shift (b n c i vb m vc : Nat) (cs vs : List Value) (w : World) (hi : i < n) (hm : 0 < m) (hroom : n + m ≤ c) (hc63 : c ≤ 9223372036854775807) (hvb : vb ≠ b)
    (hcl : cs.length = n * 17) (hvl : vs.length = m * 17)
    (hcs : ∀ j v, cs[j]? = some v → w.cell? ⟨b, j, none⟩ = some v) (hsp : ∀ j, j < (n + m) * 17 → (w.cell? ⟨b, j, none⟩).isSome = true) (hfz : ∀ j, j < (n + m) * 17 → w.frozen? ⟨b, j, none⟩ = false)
    (hvs : ∀ j v, vs[j]? = some v → w.cell? ⟨vb, j, none⟩ = some v) (h1c : ∀ v ∈ cs, v.oneCell' = true) (h1v : ∀ v ∈ vs, v.oneCell' = true)
    (tA tB : TypeId) (kA kB : Nat) (hsa : w.shape? vb = some (tA, kA)) (hsb : w.shape? b = some (tB, kB)) (hkB : kB ≠ 0) (hfa : w.frozen? ⟨vb, 0, none⟩ = false) (hfe : w.frozen? ⟨vb, kA, none⟩ = false) :
    Calls Tryd.prog 47 #[.slice (some ⟨b, 0, none⟩) n c, .int .i64 i, .slice (some ⟨vb, 0, none⟩) m vc] w fun e w' =>
      e = .returned (.slice (some ⟨b, 0, none⟩) (n + m) c) ∧ w' = (w.drew.setCells b ((i + m) * 17) (cs.drop (i * 17))).setCells b (i * 17) vs := by
  have u22 := run_underlying Tryd.underlying22
  have mixed := mixed
  have hz1 : ¬ ((m : Int) = 0) := by omega
  have hz2 : ¬ ((i : Int) = (n : Int)) := by omega
  have hw1 : IntKind.i64.wrap ((i : Int) + (m : Int)) = (i : Int) + (m : Int) := by rw [IntKind.wrap_i64]; omega
  have hb1 : (0 : Int) ≤ (i : Int) + (m : Int) := by omega
  have hin : i ≤ n := by omega
  have htn : ((i : Int) + (m : Int)).toNat = i + m := by omega
  have hb2 : ¬ (c = i + m) := by omega
  have hb3 : (i : Int) ≤ (n : Int) + (m : Int) := by omega
  have hb4 : ¬ (c = i) := by omega
  have hov : ∀ (W : World), W.heap = w.heap → ∀ lb cb, (callFunc 69 #[.slice (some ⟨vb, 0, none⟩) m vc, .slice (some ⟨b, (i + m) * 17, none⟩) lb cb]).run Tryd.prog W = .ok (.value (.bool false)) W := fun W hW lb cb => by
    have e1 : W.shape? vb = w.shape? vb := by simp [World.shape?, hW]
    have e2 : W.shape? b = w.shape? b := by simp [World.shape?, hW]
    have e3 : ∀ x, W.frozen? x = w.frozen? x := fun x => by simp [World.frozen?, hW]
    rw [run_callFunc_extern Tryd.func69 (by kernel_rfl) (by kernel_rfl) (by kernel_rfl) (e := Extern.SlicesOverlaps.overlaps #[22, 22] #[4]) (by kernel_rfl),
      Lib.run_overlaps_apart W 22 4 50 Tryd.underlying22 17 sizeOf50 ⟨vb, 0, none⟩ ⟨b, (i + m) * 17, none⟩ m vc lb cb hvb tA tB kA kB (by rw [e1]; exact hsa) (by rw [e2]; exact hsb) hkB (by rw [e3]; exact hfa) (by rw [e3]; exact hfe)]
    rfl
  have hdl : (cs.drop (i * 17)).length = (n - i) * 17 := by rw [List.length_drop, hcl]; omega
  have hov' := hov w rfl
  have hov'' := hov w.drew rfl
  have hmin1 : Nat.min (n + m - i) (n + m - (i + m)) = n - i := by simp only [Nat.min_def]; split <;> omega
  have hcp1 : ∀ ty dc sc, (Builtin.copy_ #[22, 22] ty #[.slice (some ⟨b, (i + m) * 17, none⟩) (n + m - (i + m)) dc, .slice (some ⟨b, i * 17, none⟩) (n + m - i) sc]).run Tryd.prog w.drew = .ok (goInt (n - i : Nat)) (w.drew.setCells b ((i + m) * 17) (cs.drop (i * 17))) := fun ty dc sc => by
    have h := run_copy_cells_n (P := Tryd.prog) w.drew 22 22 ty 50 17 b ((i + m) * 17) (n + m - (i + m)) dc ⟨b, i * 17, none⟩ (n + m - i) sc (cs.drop (i * 17)) Tryd.underlying22 z50 (by rw [hdl, hmin1])
      (fun j v hj => by rw [Addr.add_lit]; exact hcs (i * 17 + j) v (by rwa [List.getElem?_drop] at hj))
      (fun j hj => hsp _ (by omega)) (fun j hj => hfz _ (by omega)) (fun v hv => h1c v (List.mem_of_mem_drop hv))
    rw [hmin1] at h
    exact h
  obtain ⟨W1, hW1⟩ : ∃ W1, W1 = w.drew.setCells b ((i + m) * 17) (cs.drop (i * 17)) := ⟨_, rfl⟩
  have hsp1 : ∀ k, k < (n + m) * 17 → (W1.cell? ⟨b, k, none⟩).isSome = true := fun k hk => by
    rw [hW1]
    have hs2 : ∀ j, j < (cs.drop (i * 17)).length → (w.drew.cell? ⟨b, (i + m) * 17 + j, none⟩).isSome = true := fun j hj => hsp ((i + m) * 17 + j) (by rw [hdl] at hj; omega)
    exact isSome_setCells b _ _ _ hs2 _ (hsp k hk)
  have hmin2 : Nat.min m (n + m - i) = m := by simp only [Nat.min_def]; split <;> omega
  have hcp2 : ∀ (W : World), (∀ x, W.cell? x = W1.cell? x) → (∀ x, W.frozen? x = W1.frozen? x) → ∀ ty dc, (Builtin.copy_ #[22, 22] ty #[.slice (some ⟨b, i * 17, none⟩) (n + m - i) dc, .slice (some ⟨vb, 0, none⟩) m vc]).run Tryd.prog W = .ok (goInt m) (W.setCells b (i * 17) vs) := fun W hWc hWf ty dc => by
    have h := run_copy_cells_n (P := Tryd.prog) W 22 22 ty 50 17 b (i * 17) (n + m - i) dc ⟨vb, 0, none⟩ m vc vs Tryd.underlying22 z50 (by rw [hvl, hmin2])
      (fun j v hj => by
        rw [Addr.add_lit, hWc, hW1, World.cell?_setCells_out b _ _ _ _ (fun h _ => absurd h hvb), Nat.zero_add]
        exact hvs j v hj)
      (fun j hj => by rw [hWc]; exact hsp1 _ (by omega)) (fun j hj => by rw [hWf, hW1, World.frozen?_setCells]; exact hfz _ (by omega)) h1v
    rw [hmin2] at h
    exact h
  rw [← hW1] at hcp1
  go_enter Tryd.func47, Tryd.ntmps47
  go_wp2_with (simp only [hov', hov''])
  go_region_law_o (refine step_copy_runI rfl _ _ 22 22 rfl _ _ (by simp [Act.eval, Act.put]) (by simp [Act.eval, Act.put]) (hcp1 _ _ _) ?_)
  go_wp2_with (at_builtin; refine wpList_copy_runI _ rfl _ _ 22 22 rfl _ _ rfl rfl (hcp2 _ (fun _ => rfl) (fun _ => rfl) _ _) ?_)
  go_ret
  first | exact ⟨rfl, rfl⟩ | exact ⟨rfl, by rw [hW1]⟩
end Go.Proofs.K1
set_option linter.unusedVariables false
set_option linter.unusedSimpArgs false
namespace Go.Proofs.K1
open Go Go.RowKit Go.Lib Go.Proofs

theorem i50 : (Tryd.prog.info? 50).map (fun i => (i.zero, i.size, i.bytes)) = some (some (.agg #[.int .u8 0, .int .u8 0, .int .u8 0, .int .u8 0, .int .u8 0, .int .u8 0, .int .u8 0, .int .u8 0, .int .u8 0, .int .u8 0, .int .u8 0, .int .u8 0, .int .u8 0, .int .u8 0, .int .u8 0, .int .u8 0, .string ⟨#[]⟩]), 17, 32) := by kernel_rfl

def rowG (w : World) (n m i c : Nat) (cs : List Value) : Array Value :=
  (cs.take (i * 17)).toArray ++ Builtin.zeroCells #[.int .u8 0, .int .u8 0, .int .u8 0, .int .u8 0, .int .u8 0, .int .u8 0, .int .u8 0, .int .u8 0, .int .u8 0, .int .u8 0, .int .u8 0, .int .u8 0, .int .u8 0, .int .u8 0, .int .u8 0, .int .u8 0, .string ⟨#[]⟩] (n + m - i) ++ Builtin.zeroCells #[.int .u8 0, .int .u8 0, .int .u8 0, .int .u8 0, .int .u8 0, .int .u8 0, .int .u8 0, .int .u8 0, .int .u8 0, .int .u8 0, .int .u8 0, .int .u8 0, .int .u8 0, .int .u8 0, .int .u8 0, .int .u8 0, .string ⟨#[]⟩] (grownCap w (n + m) c 50 - (n + m))

set_option maxHeartbeats 4000000 in
set_option maxRecDepth 100000 in
theorem walk_grow (b n c i vb m vc : Nat) (cs vs : List Value) (w : World) (hi : i < n) (hm : 0 < m) (hnc : n ≤ c) (hroom : c < n + m) (hbig : (n + m) * 32 ≤ 140737488355328)
    (hcl : cs.length = n * 17) (hvl : vs.length = m * 17)
    (hcs : ∀ j v, cs[j]? = some v → w.cell? ⟨b, j, none⟩ = some v) (hvs : ∀ j v, vs[j]? = some v → w.cell? ⟨vb, j, none⟩ = some v) (h1c : ∀ v ∈ cs, v.oneCell' = true) (h1v : ∀ v ∈ vs, v.oneCell' = true) :
    Calls Tryd.prog 47 #[.slice (some ⟨b, 0, none⟩) n c, .int .i64 i, .slice (some ⟨vb, 0, none⟩) m vc] w fun e w' =>
      e = .returned (.slice (some ⟨w.heap.size, 0, none⟩) (n + m) (grownCap w (n + m) c 50)) ∧
      w' = (((w.alloc (.cells (rowG w n m i c cs) 50)).drew.setCells w.heap.size (i * 17) vs).drew).setCells w.heap.size ((i + m) * 17) (cs.drop (i * 17)) := by
  have u22 := run_underlying Tryd.underlying22
  have mixed := mixed
  obtain ⟨i0, hi0, hz0, hzs, hzb⟩ := info_parts i50
  have hz1 : ¬ ((m : Int) = 0) := by omega
  have hz2 : ¬ ((i : Int) = (n : Int)) := by omega
  have hz3 : (c : Int) < (n : Int) + (m : Int) := by omega
  have hcl' : 0 < cs.length := by omega
  have hvl' : 0 < vs.length := by omega
  have hbw : b < w.heap.size := World.block_lt_of_cell? w ⟨b, 0, none⟩ (hcs 0 _ (List.getElem?_eq_getElem hcl'))
  have hvw : vb < w.heap.size := World.block_lt_of_cell? w ⟨vb, 0, none⟩ (hvs 0 _ (List.getElem?_eq_getElem hvl'))
  have hkk : (n : Int) + (m : Int) - (i : Int) = ((n + m - i : Nat) : Int) := by omega
  have hik : i + (n + m - i) = n + m := by omega
  have hold : (Builtin.firstCells i0.size i (.slice (some ⟨b, 0, none⟩) i c)).run Tryd.prog w.drew = .ok (cs.take (i * 17)).toArray w.drew := by
    rw [hzs]
    exact run_firstCells_some w.drew 17 i ⟨b, 0, none⟩ i c (cs.take (i * 17)) (by rw [List.length_take]; omega) (fun j v hj => by
      rw [Addr.add_lit, Nat.zero_add]
      rw [List.getElem?_take] at hj
      split at hj
      · exact hcs j v hj
      · cases hj)
  obtain ⟨G, hG⟩ : ∃ G, G = grownCap w (n + m) c 50 := ⟨_, rfl⟩
  obtain ⟨ROW, hROW⟩ : ∃ ROW : Array Value, ROW = rowG w n m i c cs := ⟨_, rfl⟩
  have hrz : ∀ ty, (Builtin.append_ #[22, 3] ty #[.slice (some ⟨b, 0, none⟩) i c, .int .i64 ((n : Int) + (m : Int) - (i : Int))]).run Tryd.prog w =
      .ok (.slice (some ⟨w.heap.size, 0, none⟩) (n + m) G) (w.drew.alloc (.cells ROW 50)) := fun ty => by
    have h := Lib.run_append_grow_zeros w 22 3 ty 50 i0 _ .i64 .i64 Tryd.underlying22 Tryd.underlying3 hi0 hz0 (some ⟨b, 0, none⟩) i c (cs.take (i * 17)) hold (n + m - i) (by omega) (by omega) (by omega) (by omega) (by rw [hzb]; omega) (by rw [hzb, hik]; exact growslice_fits hroom hbig)
    rw [hik] at h
    rw [hkk, hG, hROW]
    exact h
  rw [← hG, ← hROW]
  have hGn : n + m ≤ G := by rw [hG]; exact grownCap_ge w _ _ _
  have hRl : (n + m) * 17 ≤ ROW.size := by
    rw [hROW]
    simp [rowG, Builtin.zeroCells, hcl]
    omega
  obtain ⟨W1, hW1⟩ : ∃ W1, W1 = w.drew.alloc (.cells ROW 50) := ⟨_, rfl⟩
  rw [← hW1] at hrz
  have hN : ∀ j, j < (n + m) * 17 → (W1.cell? ⟨w.heap.size, j, none⟩).isSome = true := fun j hj => by
    rw [hW1, World.cell?_alloc_at (w := w.drew) ROW _ w.heap.size j rfl, Array.getElem?_eq_getElem (by omega)]; rfl
  have hNf : ∀ j, W1.frozen? ⟨w.heap.size, j, none⟩ = false := fun j => by rw [hW1]; exact World.frozen?_alloc_at (w := w.drew) ROW _ w.heap.size j rfl
  have hOb : ∀ j v, w.cell? ⟨b, j, none⟩ = some v → W1.cell? ⟨b, j, none⟩ = some v := fun j v h => by rw [hW1, World.cell?_alloc_past (w := w.drew) _ b j hbw]; exact h
  have hOv : ∀ j v, w.cell? ⟨vb, j, none⟩ = some v → W1.cell? ⟨vb, j, none⟩ = some v := fun j v h => by rw [hW1, World.cell?_alloc_past (w := w.drew) _ vb j hvw]; exact h
  have hdl : (cs.drop (i * 17)).length = (n - i) * 17 := by rw [List.length_drop, hcl]; omega
  have hminA : Nat.min m (n + m - i) = m := by simp only [Nat.min_def]; split <;> omega
  have hminB : Nat.min (n - i) (n + m - (i + m)) = n - i := by simp only [Nat.min_def]; split <;> omega
  have hcpA : ∀ (W : World), (∀ x, W.cell? x = W1.cell? x) → (∀ x, W.frozen? x = W1.frozen? x) → ∀ ty dc, (Builtin.copy_ #[22, 22] ty #[.slice (some ⟨w.heap.size, i * 17, none⟩) (n + m - i) dc, .slice (some ⟨vb, 0, none⟩) m vc]).run Tryd.prog W = .ok (goInt m) (W.setCells w.heap.size (i * 17) vs) := fun W hWc hWf ty dc => by
    have h := run_copy_cells_n (P := Tryd.prog) W 22 22 ty 50 17 w.heap.size (i * 17) (n + m - i) dc ⟨vb, 0, none⟩ m vc vs Tryd.underlying22 z50 (by rw [hvl, hminA])
      (fun j v hj => by rw [Addr.add_lit, hWc, Nat.zero_add]; exact hOv _ v (hvs j v hj))
      (fun j hj => by rw [hWc]; exact hN _ (by omega)) (fun j hj => by rw [hWf]; exact hNf _) h1v
    rw [hminA] at h
    exact h
  have hG63 : G ≤ 9223372036854775807 := by
    have := grownCap_le_maxLen w (n + m) c 50 (by unfold maxLen; omega)
    rw [← hG] at this
    unfold maxLen at this
    omega
  have hGi : ¬ (G = i) := by omega
  have hGim : ¬ (G = i + m) := by omega
  have hci : ¬ (c = i) := by omega
  have hbN : b ≠ w.heap.size := by omega
  have hcpB : ∀ (W : World), (∀ x, W.cell? x = (W1.setCells w.heap.size (i * 17) vs).cell? x) → (∀ x, W.frozen? x = (W1.setCells w.heap.size (i * 17) vs).frozen? x) → ∀ ty dc sc, (Builtin.copy_ #[22, 22] ty #[.slice (some ⟨w.heap.size, (i + m) * 17, none⟩) (n + m - (i + m)) dc, .slice (some ⟨b, i * 17, none⟩) (n - i) sc]).run Tryd.prog W = .ok (goInt (n - i : Nat)) (W.setCells w.heap.size ((i + m) * 17) (cs.drop (i * 17))) := fun W hWc hWf ty dc sc => by
    have hs2 : ∀ j, j < vs.length → (W1.cell? ⟨w.heap.size, i * 17 + j, none⟩).isSome = true := fun j hj => hN (i * 17 + j) (by omega)
    have h := run_copy_cells_n (P := Tryd.prog) W 22 22 ty 50 17 w.heap.size ((i + m) * 17) (n + m - (i + m)) dc ⟨b, i * 17, none⟩ (n - i) sc (cs.drop (i * 17)) Tryd.underlying22 z50 (by rw [hdl, hminB])
      (fun j v hj => by
        rw [Addr.add_lit, hWc, World.cell?_setCells_out _ _ _ _ _ (fun h _ => absurd h hbN)]
        exact hOb _ v (hcs (i * 17 + j) v (by rwa [List.getElem?_drop] at hj)))
      (fun j hj => by
        have hj' : (i + m) * 17 + j < (n + m) * 17 := by rw [hdl] at hj; omega
        rw [hWc]; exact isSome_setCells _ _ _ _ hs2 _ (hN _ hj'))
      (fun j hj => by rw [hWf, World.frozen?_setCells]; exact hNf _) (fun v hv => h1c v (List.mem_of_mem_drop hv))
    rw [hminB] at h
    exact h
  subst hW1
  have hE1 : ∀ x, ((w.alloc (.cells ROW 50)).drew).cell? x = (w.drew.alloc (.cells ROW 50)).cell? x := fun x => rfl
  have hE2 : ∀ x, ((w.alloc (.cells ROW 50)).drew).frozen? x = (w.drew.alloc (.cells ROW 50)).frozen? x := fun x => rfl
  have hF1 : ∀ x, (((w.alloc (.cells ROW 50)).drew.setCells w.heap.size (i * 17) vs).drew).cell? x = ((w.drew.alloc (.cells ROW 50)).setCells w.heap.size (i * 17) vs).cell? x := fun x => by
    show ((w.alloc (.cells ROW 50)).drew.setCells w.heap.size (i * 17) vs).cell? x = _
    rfl
  have hF2 : ∀ x, (((w.alloc (.cells ROW 50)).drew.setCells w.heap.size (i * 17) vs).drew).frozen? x = ((w.drew.alloc (.cells ROW 50)).setCells w.heap.size (i * 17) vs).frozen? x := fun x => rfl
  have hw1 : IntKind.i64.wrap ((i : Int) + (m : Int)) = (i : Int) + (m : Int) := by rw [IntKind.wrap_i64]; omega
  have hb1 : (0 : Int) ≤ (i : Int) + (m : Int) := by omega
  have hin : i ≤ n := by omega
  have htn : ((i : Int) + (m : Int)).toNat = i + m := by omega
  have hb3 : (i : Int) ≤ (n : Int) := by omega
  clear hkk hik hold hROW hG hRl
  go_enter Tryd.func47, Tryd.ntmps47
  go_wp2_with (first
    | (at_builtin; refine Lib.wpList_append_run _ rfl _ _ _ _ rfl _ _ rfl rfl _ _ (hrz _) ?_)
    | (at_builtin; refine wpList_copy_runI _ rfl _ _ 22 22 rfl _ _ rfl rfl (hcpA _ hE1 hE2 _ _) ?_)
    | (at_builtin; refine wpList_copy_runI _ rfl _ _ 22 22 rfl _ _ rfl rfl (hcpB _ (fun _ => rfl) (fun _ => rfl) _ _ _) ?_))
  go_region_law_o (refine step_copy_runI rfl _ _ 22 22 rfl (.slice (some ⟨w.heap.size, (i + m) * 17, none⟩) (n + m - (i + m)) (G - (i + m))) (.slice (some ⟨b, i * 17, none⟩) (n - i) (c - i)) (by simp [Act.eval, Act.put]) (by simp [Act.eval, Act.put]) (hcpB _ hF1 hF2 3 (G - (i + m)) (c - i)) ?_)
  go_wp2
  go_ret
  exact ⟨rfl, rfl⟩
end Go.Proofs.K1
set_option linter.unusedVariables false
set_option linter.unusedSimpArgs false
namespace Go.Proofs.K1
open Go Go.RowKit Go.Lib Go.Proofs Go.Abs


theorem blk_set {g : Nat} {w : World} {cur : Array Value} {e : TypeId} (h : w.heap[g]? = some (.cells cur e (0, 0))) (o : Nat) (v : Value) : (w.setCell ⟨g, o, none⟩ v).heap[g]? = some (.cells (cur.setIfInBounds o v) e (0, 0)) := by
  simp [World.setCell, Array.getElem?_modify, h]

theorem setCells_row {g : Nat} {e : TypeId} : ∀ (vs : List Value) (o : Nat) (w : World) (cur : Array Value), w.heap[g]? = some (.cells cur e (0, 0)) → o + vs.length ≤ cur.size →
    ∃ cur', (w.setCells g o vs).heap[g]? = some (.cells cur' e (0, 0)) ∧ cur'.size = cur.size ∧ cur'.toList = cur.toList.take o ++ vs ++ cur.toList.drop (o + vs.length)
  | [], o, w, cur, h, _ => ⟨cur, h, rfl, by simp⟩
  | v :: r, o, w, cur, h, hl => by
    have h2 := blk_set h o v
    simp only [List.length_cons] at hl
    obtain ⟨cur', h3, h4, h5⟩ := setCells_row r (o + 1) (w.setCell ⟨g, o, none⟩ v) _ h2 (by simp; omega)
    refine ⟨cur', h3, by rw [h4]; simp, ?_⟩
    rw [h5, Array.toList_setIfInBounds]
    have ho : o < cur.toList.length := by rw [Array.length_toList]; omega
    rw [List.take_set, List.drop_set_of_lt (by omega)]
    simp only [List.length_cons]
    have ho2 : o < cur.size := by omega
    rw [show o + 1 + r.length = o + (r.length + 1) by omega, List.take_succ_eq_append_getElem ho, List.set_append_right _ _ (by rw [List.length_take]; omega)]
    simp [Nat.min_eq_left (Nat.le_of_lt ho2)]

theorem setCells_far {g : Nat} : ∀ (vs : List Value) (o : Nat) {w : World} (k : Nat), k ≠ g → (w.setCells g o vs).heap[k]? = w.heap[k]?
  | [], _, _, _, _ => rfl
  | v :: r, o, w, k, hk => by
    rw [World.setCells, setCells_far r (o + 1) k hk]
    exact Below.heap_setCell w ⟨g, o, none⟩ v k hk

theorem setCells_same (g : Nat) : ∀ (vs : List Value) (o : Nat) (w : World), (w.setCells g o vs).os = w.os ∧ (w.setCells g o vs).tape = w.tape ∧ (w.setCells g o vs).output = w.output ∧ (w.setCells g o vs).heap.size = w.heap.size
  | [], _, _ => ⟨rfl, rfl, rfl, rfl⟩
  | v :: r, o, w => by
    obtain ⟨h1, h2, h3, h4⟩ := setCells_same g r (o + 1) (w.setCell ⟨g, o, none⟩ v)
    rw [World.setCells]
    exact ⟨h1, h2, h3, by rw [h4]; simp [World.setCell]⟩

theorem cells_flat {O O' : Nat → Prop} {w w' : World} {k : Kd} (hk : k.flat = true) {l : List k.T} {css : List (List Value)} (h : All2 (Cells O w k) l css) : All2 (Cells O' w' k) l css :=
  All2.mono (fun _ _ h => Cells.stays (O := fun _ => True) (fun b _ hb => absurd trivial hb) (Cells.flat hk h)) h

theorem out_row {w w' : World} {base : Nat → Prop} {ρ : Nat → Abs.Loc} {ents : List (Nat × Val)} {k : Kd} {et : TypeId} {L : List k.T} {css : List (List Value)} {O : Nat → Prop} {g cap : Nat} {cur : Array Value}
    (hk : k.flat = true) (hent : St.get (ek 700001) (est ents) = none) (hb : ¬ base g) (hl : Live (est ents) ρ g ∨ w.heap.size ≤ g) (hcells : All2 (Cells O w k) L css)
    (hheap : w'.heap[g]? = some (.cells cur et (0, 0))) (hle : L.length ≤ cap) (hcap : cap ≤ maxLen) (hsz : cur.size = cap * k.size) (htk : cur.toList.take (L.length * k.size) = css.flatten) (hframe : Frm (Live (est ents) ρ) w w') :
    ∃ v ρ', Ending.returned (.slice (some ⟨g, 0, none⟩) L.length cap) = .returned v ∧
      (∀ r, (St.get (ek r) (est ents)).isSome = true → (St.get (ek r) (est [(700001, Val.row k et L)])).isSome = true → ρ' r = ρ r) ∧
      HeldR base ρ' (est [(700001, Val.row k et L)]) w' ∧ SRel (Own base (est [(700001, Val.row k et L)]) ρ') ρ' w' (.v (.row 700001 (List.length L))) v ∧
      (∀ b, Live (est [(700001, Val.row k et L)]) ρ' b → Live (est ents) ρ b ∨ w.heap.size ≤ b) ∧ Frm (Live (est ents) ρ) w w' := by
  have one : ∀ r x, St.get (ek r) (est [(700001, Val.row k et L)]) = some x → r = 700001 ∧ x = .row k et L := by
    intro r x h
    by_cases hr : ek r = ek 700001
    · have := ek_inj hr
      subst this
      exact ⟨rfl, by
        have h2 : St.get (ek 700001) (est [(700001, Val.row k et L)]) = some (.row k et L) := get_cons_eq _ _ _
        rw [h2] at h; cases h; rfl⟩
    · have h2 : St.get (ek r) (est [(700001, Val.row k et L)]) = St.get (ek r) [] := get_cons_ne _ _ hr
      rw [h2] at h; cases h
  have live : ∀ r, (St.get (ek r) (est [(700001, Val.row k et L)])).isSome = true → r = 700001 := fun r h => by
    obtain ⟨x, hx⟩ := Option.isSome_iff_exists.1 h
    exact (one r x hx).1
  let ρ' : Nat → Abs.Loc := fun r => if r = 700001 then .row (.slice (some ⟨g, 0, none⟩) L.length cap) else ρ r
  have e1 : ρ' 700001 = .row (.slice (some ⟨g, 0, none⟩) L.length cap) := if_pos rfl
  have blk : ∀ r b, (St.get (ek r) (est [(700001, Val.row k et L)])).isSome = true → (ρ' r).block = some b → b = g := by
    intro r b h hb
    rw [live r h, e1] at hb
    cases hb; rfl
  refine ⟨_, ρ', rfl, fun r h1 h2 => ?_, ⟨fun r x hx => ?_, fun r r' b h1 h2 _ _ => by rw [live r h1, live r' h2], fun r b h1 h2 => ?_⟩, ?_, fun b hb => ?_, hframe⟩
  · rw [live r h2, hent] at h1; cases h1
  · obtain ⟨rfl, rfl⟩ := one r x hx
    rw [e1]
    have hc := cells_flat (O' := Own base (est [(700001, Val.row k et L)]) ρ') (w' := w') hk hcells
    exact ⟨_, css, rfl, hc, flatten_length hc, .inr ⟨g, cap, cur, rfl, Nat.zero_le _, hheap, hle, hcap, hsz, htk⟩⟩
  · have := blk r b h1 h2
    subst this
    exact ⟨hb, (Array.getElem?_eq_some_iff.1 hheap).1⟩
  · exact .inr (.inr ⟨rfl, .row e1 (Nat.le_refl _)⟩)
  · obtain ⟨r, h1, h2⟩ := hb
    rw [blk r b h1 h2]; exact hl
end Go.Proofs.K1
set_option linter.unusedVariables false
set_option linter.unusedSimpArgs false
namespace Go.Proofs.K1
open Go Go.RowKit Go.Lib Go.Proofs Go.Abs

theorem cell_of {w : World} {g : Nat} {cur : Array Value} {e : TypeId} (h : w.heap[g]? = some (.cells cur e (0, 0))) (j : Nat) : w.cell? ⟨g, j, none⟩ = cur[j]? := by simp [World.cell?, h]
theorem frozen_of {w : World} {g : Nat} {cur : Array Value} {e : TypeId} (h : w.heap[g]? = some (.cells cur e (0, 0))) (j : Nat) : w.frozen? ⟨g, j, none⟩ = false := by simp [World.frozen?, h]
theorem shape_of {w : World} {g : Nat} {cur : Array Value} {e : TypeId} (h : w.heap[g]? = some (.cells cur e (0, 0))) : w.shape? g = some (e, cur.size) := by simp [World.shape?, h]
theorem get_of_take {cur : Array Value} {n j : Nat} {cs : List Value} {u : Value} (h : cur.toList.take n = cs) (hu : cs[j]? = some u) : cur[j]? = some u := by
  subst h
  rw [List.getElem?_take] at hu
  split at hu
  · simpa using hu
  · cases hu

theorem put_in {α : Type} {cur cs vs a b : List α} {i m n : Nat} (hi : i ≤ n) (hcs : cur.take n = cs) (hn : n + m ≤ cur.length) (hcl : cs.length = n) (hvl : vs.length = m)
    (ha : a = cur.take (i + m) ++ cs.drop i ++ cur.drop (i + m + (cs.drop i).length)) (hb : b = a.take i ++ vs ++ a.drop (i + vs.length)) : b.take (n + m) = cs.take i ++ vs ++ cs.drop i := by
  subst hcs
  have h1 : a.take i = cur.take i := by
    rw [ha, List.append_assoc, List.take_append_of_le_length (by rw [List.length_take]; omega), List.take_take]
    congr 1; omega
  have h2 : a.drop (i + vs.length) = (cur.take n).drop i ++ cur.drop (i + m + ((cur.take n).drop i).length) := by
    rw [ha, hvl, List.append_assoc, List.drop_left' (by rw [List.length_take]; omega)]
  rw [hb, h1, h2, List.take_take, Nat.min_eq_left hi, ← List.append_assoc]
  rw [List.take_left' ]
  simp [List.length_take, List.length_drop, hvl]
  omega
end Go.Proofs.K1
set_option linter.unusedVariables false
set_option linter.unusedSimpArgs false
namespace Go.Proofs.K1
open Go Go.RowKit Go.Lib Go.Proofs Go.Abs

theorem put_new {α : Type} {row cs vs a b : List α} {i m n : Nat} (hi : i ≤ n) (hrow : row.take i = cs.take i) (hn : n + m ≤ row.length) (hcl : cs.length = n) (hvl : vs.length = m)
    (ha : a = row.take i ++ vs ++ row.drop (i + vs.length)) (hb : b = a.take (i + m) ++ cs.drop i ++ a.drop (i + m + (cs.drop i).length)) : b.take (n + m) = cs.take i ++ vs ++ cs.drop i := by
  have h0 : (row.take i).length = i := by rw [List.length_take]; omega
  have h1 : a.take (i + m) = cs.take i ++ vs := by
    rw [ha, List.take_left' (by rw [List.length_append, h0, hvl]), hrow]
  have h2 : (cs.take i).length = i := by rw [← hrow]; exact h0
  rw [hb, h1]
  rw [List.take_left' ]
  simp only [List.length_append, h2, hvl, List.length_drop]
  omega

theorem insert_mid (l v : List It) (i : Nat) (hi : i < l.length) (hm : 0 < v.length) (hbig : l.length + v.length ≤ 4398046511104) :
    SpecOk P ⟨47, [.row 1000001 (List.length l), .p (.int .i64) (i : Int), .row 1000002 (List.length v)], [(1000001, .row KI 50 l), (1000002, .row KI 50 v)],
      .v (.row 700001 (List.length (List.take i l ++ v ++ List.drop i l))), [(700001, .row KI 50 (List.take i l ++ v ++ List.drop i l))]⟩ := by
  intro w base ρ cargs hbase hheld hglob hrel
  dsimp only at hheld hrel ⊢
  have g1 : St.get (ek 1000001) (est [(1000001, Val.row KI 50 l), (1000002, Val.row KI 50 v)]) = some (.row KI 50 l) := get_cons_eq _ _ _
  have g2 : St.get (ek 1000002) (est [(1000001, Val.row KI 50 l), (1000002, Val.row KI 50 v)]) = some (.row KI 50 v) := rfl
  have g3 : St.get (ek 700001) (est [(1000001, Val.row KI 50 l), (1000002, Val.row KI 50 v)]) = none := rfl
  have q1 := hheld.ents 1000001 _ g1
  have q2 := hheld.ents 1000002 _ g2
  match cargs, hrel with
  | [x1, x2, x3], hrel =>
    have h1 := hrel.1.one rfl (by simp)
    have h2 := hrel.2.1.p_int
    have h3 := hrel.2.2.1.one rfl (by simp)
    subst h2
    cases h1 with
    | row r1 n1 =>
      rename_i m1 c a1
      cases h3 with
      | row r2 n2 =>
        rename_i m2 vc a2
        obtain ⟨u1, css, hu1, hall1, hown1⟩ := q1
        rw [r1] at hu1
        cases hu1
        obtain ⟨u2, vss, hu2, hall2, hown2⟩ := q2
        rw [r2] at hu2
        cases hu2
        obtain ⟨hl1, hown1⟩ := hown1
        obtain ⟨hl2, hown2⟩ := hown2
        rcases hown1 with ⟨e1, e2⟩ | ⟨g, cap, cur, e1, _, hheap, hnc, hcm, hcs, htk⟩
        · omega
        rcases hown2 with ⟨e3, e4⟩ | ⟨gv, capv, curv, e3, _, hheapv, hncv, hcmv, hcsv, htkv⟩
        · omega
        cases e1
        cases e3
        have hk : KI.size = 17 := rfl
        rw [hk] at hl1 hl2 hcs htk hcsv htkv
        have b1 : (ρ 1000001).block = some g := by rw [r1]; rfl
        have b2 : (ρ 1000002).block = some gv := by rw [r2]; rfl
        have hne : gv ≠ g := by
          intro h
          subst h
          have := hheld.inj 1000001 1000002 gv (by rw [g1]; rfl) (by rw [g2]; rfl) b1 b2
          omega
        have hmine := hheld.mine 1000001 g (by rw [g1]; rfl) b1
        have hlive : Live (est [(1000001, Val.row KI 50 l), (1000002, Val.row KI 50 v)]) ρ g := ⟨1000001, by rw [g1]; rfl, b1⟩
        have hone1 := flatten_one hall1
        have hone2 := flatten_one hall2
        have hcells : All2 (Cells (Own base (est [(1000001, Val.row KI 50 l), (1000002, Val.row KI 50 v)]) ρ) w KI) (List.take i l ++ v ++ List.drop i l) (css.take i ++ vss ++ css.drop i) :=
          All2.append (All2.append (hall1.take i) hall2) (hall1.drop i)
        have hfl : (css.take i ++ vss ++ css.drop i).flatten = css.flatten.take (i * 17) ++ vss.flatten ++ css.flatten.drop (i * 17) := by
          rw [List.flatten_append, List.flatten_append, flatten_take hall1, flatten_drop hall1]; rfl
        have hlen : (List.take i l ++ v ++ List.drop i l).length = l.length + v.length := by
          simp only [List.length_append, List.length_take, List.length_drop]; omega
        have hdl : (css.flatten.drop (i * 17)).length = (l.length - i) * 17 := by rw [List.length_drop, hl1]; omega
        have hcs1 : ∀ j u, css.flatten[j]? = some u → w.cell? ⟨g, j, none⟩ = some u := fun j u h => by rw [cell_of hheap]; exact get_of_take htk h
        have hvs1 : ∀ j u, vss.flatten[j]? = some u → w.cell? ⟨gv, j, none⟩ = some u := fun j u h => by rw [cell_of hheapv]; exact get_of_take htkv h
        by_cases hroom : l.length + v.length ≤ c
        · refine (walk_shift g l.length c i gv v.length vc css.flatten vss.flatten w hi hm hroom (by unfold maxLen at hcm; omega) hne hl1 hl2 hcs1
            (fun j hj => by rw [cell_of hheap, Array.getElem?_eq_getElem (by omega)]; rfl) (fun j _ => frozen_of hheap j) hvs1 hone1 hone2 50 50 curv.size cur.size (shape_of hheapv) (shape_of hheap) (by omega) (frozen_of hheapv 0) (frozen_of hheapv _)).mono ?_
          rintro e w' ⟨rfl, rfl⟩
          obtain ⟨cur1, k1, k2, k3⟩ := setCells_row (css.flatten.drop (i * 17)) ((i + v.length) * 17) w.drew cur hheap (by rw [hdl]; omega)
          obtain ⟨cur2, k4, k5, k6⟩ := setCells_row vss.flatten (i * 17) _ cur1 k1 (by rw [hl2]; omega)
          have s1 := setCells_same g (css.flatten.drop (i * 17)) ((i + v.length) * 17) w.drew
          have s2 := setCells_same g vss.flatten (i * 17) (w.drew.setCells g ((i + v.length) * 17) (css.flatten.drop (i * 17)))
          have := out_row (w := w) (ρ := ρ) (k := KI) (et := 50) (L := List.take i l ++ v ++ List.drop i l) (cap := c) rfl g3 hmine.1 (.inl hlive) hcells k4 (by rw [hlen]; exact hroom) hcm (by rw [k5, k2, hcs]; rfl)
            (by
              rw [hlen, hfl, hk, Nat.add_mul]
              exact put_in (cur := cur.toList) (a := cur1.toList) (m := v.length * 17) (by omega) htk (by have hq : cur.toList.length = cur.size := Array.length_toList; omega) hl1 hl2 (by rw [k3, Nat.add_mul]) k6)
            ⟨s2.1.trans s1.1, s2.2.1.trans s1.2.1, s2.2.2.1.trans s1.2.2.1, by rw [s2.2.2.2, s1.2.2.2]; exact Nat.le_refl _, fun b _ hb => by
              have hbg : b ≠ g := fun h => hb (h ▸ hlive)
              rw [setCells_far _ _ b hbg, setCells_far _ _ b hbg]; rfl⟩
          rw [hlen] at this ⊢
          exact this
        · refine (walk_grow g l.length c i gv v.length vc css.flatten vss.flatten w hi hm hnc (by omega) (by omega) hl1 hl2 hcs1 hvs1 hone1 hone2).mono ?_
          rintro e w' ⟨rfl, rfl⟩
          obtain ⟨G, hG⟩ : ∃ G, G = grownCap w (l.length + v.length) c 50 := ⟨_, rfl⟩
          obtain ⟨ROW, hROW⟩ : ∃ ROW, ROW = rowG w l.length v.length i c css.flatten := ⟨_, rfl⟩
          have hGn : l.length + v.length ≤ G := by rw [hG]; exact grownCap_ge w _ _ _
          have hGm : G ≤ maxLen := by rw [hG]; exact grownCap_le_maxLen w _ c 50 (by unfold maxLen; omega)
          have htl : (css.flatten.take (i * 17)).length = i * 17 := by rw [List.length_take, hl1]; omega
          have hRs : ROW.size = G * 17 := by
            rw [hROW]
            unfold rowG
            rw [← hG]
            have hz : ∀ n, (Builtin.zeroCells #[Value.int .u8 0, .int .u8 0, .int .u8 0, .int .u8 0, .int .u8 0, .int .u8 0, .int .u8 0, .int .u8 0, .int .u8 0, .int .u8 0, .int .u8 0, .int .u8 0, .int .u8 0, .int .u8 0, .int .u8 0, .int .u8 0, .string ⟨#[]⟩] n).size = n * 17 := fun n => size_zeroCells _ _
            have ht : (css.flatten.take (i * 17)).toArray.size = i * 17 := htl
            rw [Array.size_append, Array.size_append, hz, hz, ht]
            omega
          have hRt : ROW.toList.take (i * 17) = css.flatten.take (i * 17) := by
            rw [hROW]
            unfold rowG
            rw [Array.toList_append, Array.toList_append, List.append_assoc]
            exact List.take_left' htl
          rw [← hG, ← hROW]
          have hheap0 : ((w.alloc (.cells ROW 50)).drew).heap[w.heap.size]? = some (.cells ROW 50 (0, 0)) := heap_alloc_new w _
          obtain ⟨cur1, k1, k2, k3⟩ := setCells_row vss.flatten (i * 17) _ ROW hheap0 (by rw [hl2]; omega)
          obtain ⟨cur2, k4, k5, k6⟩ := setCells_row (css.flatten.drop (i * 17)) ((i + v.length) * 17) (((w.alloc (.cells ROW 50)).drew.setCells w.heap.size (i * 17) vss.flatten).drew) cur1 k1 (by rw [hdl]; omega)
          have s1 := setCells_same w.heap.size vss.flatten (i * 17) ((w.alloc (.cells ROW 50)).drew)
          have s2 := setCells_same w.heap.size (css.flatten.drop (i * 17)) ((i + v.length) * 17) (((w.alloc (.cells ROW 50)).drew.setCells w.heap.size (i * 17) vss.flatten).drew)
          have hwide : w.heap.size ≤ ((w.alloc (.cells ROW 50)).drew).heap.size := by
            show w.heap.size ≤ (w.heap.push _).size
            rw [Array.size_push]; omega
          have := out_row (w := w) (ρ := ρ) (k := KI) (et := 50) (L := List.take i l ++ v ++ List.drop i l) (cap := G) rfl g3 (fun hb => Nat.lt_irrefl _ (hbase _ hb)) (.inr (Nat.le_refl _)) hcells k4 (by rw [hlen]; exact hGn) hGm (by rw [k5, k2, hRs]; rfl)
            (by
              rw [hlen, hfl, hk, Nat.add_mul]
              exact put_new (row := ROW.toList) (a := cur1.toList) (m := v.length * 17) (by omega) hRt (by have hq : ROW.toList.length = ROW.size := Array.length_toList; omega) hl1 hl2 k3 (by rw [k6, Nat.add_mul]))
            ⟨s2.1.trans s1.1, s2.2.1.trans s1.2.1, s2.2.2.1.trans s1.2.2.1, by rw [s2.2.2.2]; show w.heap.size ≤ (World.setCells _ _ _ _).heap.size; rw [s1.2.2.2]; exact hwide, fun b hb' hb => by
              have hbg : b ≠ w.heap.size := by omega
              rw [setCells_far _ _ b hbg]
              show (World.setCells _ _ _ _).heap[b]? = _
              rw [setCells_far _ _ b hbg]
              exact heap_alloc_old w _ hb'⟩
          rw [hlen] at this ⊢
          exact this
end Go.Proofs.K1
set_option linter.unusedVariables false
set_option linter.unusedSimpArgs false
set_option maxRecDepth 10000
namespace Go.Proofs.K1
open Go Go.RowKit Go.Lib Go.Proofs Go.Abs

theorem insert_end (l v : List It) (hm : 0 < v.length) (hbig : l.length + v.length ≤ 4398046511104) :
    SpecOk P ⟨47, [.row 1000001 (List.length l), .p (.int .i64) (List.length l : Int), .row 1000002 (List.length v)], [(1000001, .row KI 50 l), (1000002, .row KI 50 v)],
      .v (.row 700001 (List.length (l ++ v))), [(700001, .row KI 50 (l ++ v))]⟩ := by
  refine spec_at Tryd.func47 (by kernel_rfl) (Nat.le_of_ble_eq_true (by kernel_rfl)) ?_
  have h0 : ((List.length v : Int) == (0 : Int)) = false := by simp; intro h; subst h; simp at hm
  have h1 : ((List.length l : Int) == (List.length l : Int)) = true := by simp
  exact Good.path_ret mixed [.reg [], .reg [], .reg [], .reg [], .cond false, .reg [], .reg [], .cond true, .reg [], .keep [sk 6, ek 25], .ren [(25, 700001)]] [] Tryd.func47 (cs := [_, _, _, _, _, _, _]) (by kernel_rfl)
    ⟨(Int.natCast_nonneg _ : (0 : Int) ≤ (List.length l : Int)), (Int.le_refl _ : (List.length l : Int) ≤ (List.length l : Int)), h0, h1, (rfl : List.length l = List.length l), (appBound (P := P) (et := 50) (b := 32) (by kernel_rfl) (by decide) hbig), (rfl : List.length v = List.length v), trivial⟩ (by kernel_rfl)

theorem insert47_ok (l : List It) (i : Int) (v : List It) (h0 : 0 ≤ i) (h1 : i ≤ (List.length l : Int)) (h2 : 0 < List.length v) (h3 : List.length l + List.length v ≤ 4398046511104) :
    SpecOk P ⟨47, [.row 1000001 (List.length l), .p (.int .i64) i, .row 1000002 (List.length v)], [(1000001, .row KI 50 l), (1000002, .row KI 50 v)], .v (.row 700001 (List.length (List.take (Int.toNat i) l ++ v ++ List.drop (Int.toNat i) l))), [(700001, .row KI 50 (List.take (Int.toNat i) l ++ v ++ List.drop (Int.toNat i) l))]⟩ := by
  obtain ⟨n, rfl⟩ : ∃ n : Nat, i = n := ⟨i.toNat, by omega⟩
  rw [Int.toNat_natCast]
  by_cases hi : n = l.length
  · subst hi
    have := insert_end l v h2 h3
    rw [List.take_length, List.drop_length, List.append_nil]
    exact this
  · exact insert_mid l v n (by omega) h2 h3
end Go.Proofs.K1
