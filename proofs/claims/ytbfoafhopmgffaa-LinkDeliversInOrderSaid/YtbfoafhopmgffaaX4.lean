/- The engine: an abstract machine that runs over the model's code, and its soundness. No condition. -/
import Derived.Test.YtbfoafhopmgffaaX3
import Derived.RangeFuncNested
import Derived.RangeFuncBound
import Derived.RangeFuncCalls
import Derived.RangeFuncLeaves
import Derived.Shelf.Abstract
import Derived.Shelf.RegionOpen
import Derived.WalkKit
import Derived.OwnWalkIn
import Derived.TacticsInMore
import Derived.LoopNIn
import Derived.LoopIn
import Derived.RangeFuncBox
import Derived.Maps.AppendAt
set_option linter.unusedVariables false
set_option linter.unusedSimpArgs false
namespace Go.Proofs.I1
open Go Go.RowKit Go.Lib Go.Proofs Go.Shelf
attribute [local go_sem] Oper.semAt_some

/-- what an iterator may read on: the blocks of a set lie as they lay -/
def KR (R : Nat → Prop) (W W' : World) : Prop := ∀ b, R b → W'.heap[b]? = W.heap[b]?

def encF (x : Abs.Kd.T KF) : Value := .agg #[.bool x.1, .int .i64 x.2.1, .string x.2.2.1]

theorem KR.cell {R : Nat → Prop} {W W' : World} (h : KR R W W') {p : Addr} (hp : R p.block) : W'.cell? p = W.cell? p := World.cell?_of_block (h _ hp)
theorem KR.trans {R : Nat → Prop} {A B C : World} (h : KR R A B) (h' : KR R B C) : KR R A C := fun b hb => (h' b hb).trans (h b hb)

set_option maxRecDepth 100000 in
set_option maxHeartbeats 1000000 in
theorem end_in (m : Nat) (base acked : Int) (sum : ByteArray) (A : Option Addr) (n cap : Nat) (W : World) (h1 : IntKind.i64.wrap (base + (n : Int)) = base + (n : Int)) :
    CallsIn Fence.wide m Try.prog 32 #[.agg #[.int .i64 base, .int .i64 acked, .string sum, .slice A n cap]] W fun e W' => e = .returned (.int .i64 (base + (n : Int))) ∧
      W' = W.alloc (.cells #[.int .i64 base, .int .i64 acked, .string sum, .slice A n cap] 24) := by
  refine callsIn_of_wp Try.func32 rfl trivial ?_ rfl
  simp only [Try.ntmps32, List.size_toArray, List.length_cons, List.length_nil, Nat.reduceAdd, Nat.reduceSub, Array.replicate_succ, Array.replicate_zero, List.push_toArray, List.append_toArray, List.nil_append, List.cons_append]
  gi_wp2
  go_ret
  exact ⟨rfl, rfl⟩

def fr (base : Int) (q : List ByteArray) (k : Nat) : Fr := (false, base + (k : Int), q.getD k ⟨#[]⟩, ())

/-- the summary's frame, if it is to be sent -/
def pre0 (base acked : Int) (sum : ByteArray) : List Fr := if acked < base then [(true, base, sum, ())] else []
def lo0 (base acked : Int) : Nat := (acked - base).toNat
/-- the frames up to a message -/
def upto (base acked : Int) (sum : ByteArray) (q : List ByteArray) (j : Nat) : List Fr := pre0 base acked sum ++ (List.range' (lo0 base acked) (j - lo0 base acked)).map (fr base q)

theorem upto_lo (base acked : Int) (sum : ByteArray) (q : List ByteArray) : upto base acked sum q (lo0 base acked) = pre0 base acked sum := by simp [upto]
theorem upto_succ (base acked : Int) (sum : ByteArray) (q : List ByteArray) (j : Nat) (h : lo0 base acked ≤ j) : upto base acked sum q (j + 1) = upto base acked sum q j ++ [fr base q j] := by
  unfold upto
  rw [show j + 1 - lo0 base acked = (j - lo0 base acked) + 1 by omega, List.range'_concat, List.map_append, List.append_assoc]
  have h2 : lo0 base acked + 1 * (j - lo0 base acked) = j := by omega
  rw [h2]; rfl
theorem upto_len (base acked : Int) (sum : ByteArray) (q : List ByteArray) (i j : Nat) (h : lo0 base acked ≤ i) (hij : i < j) : (upto base acked sum q i).length < (upto base acked sum q j).length := by
  simp [upto]; omega
theorem upto_pre (base acked : Int) (sum : ByteArray) (q : List ByteArray) (i j : Nat) (hij : i ≤ j) : upto base acked sum q i <+: upto base acked sum q j := by
  unfold upto
  refine (List.prefix_append_right_inj _).2 ?_
  refine List.IsPrefix.map _ ?_
  refine ⟨List.range' (lo0 base acked + (i - lo0 base acked)) (j - lo0 base acked - (i - lo0 base acked)), ?_⟩
  rw [List.range'_append_1]
  congr 1
  have := Nat.sub_le_sub_right hij (lo0 base acked)
  omega

set_option maxRecDepth 100000 in
set_option maxHeartbeats 1000000 in
theorem frames1_in (l Bn : Nat) (R : Nat → Prop) (base acked : Int) (sum : ByteArray) (q : List ByteArray) (A : Option Addr) (cap : Nat) (J Jx : List Fr → World → Prop)
    (hJ : ∀ s W W', J s W → W.grownBy W' none → J s W')
    (hY : ∀ pre x W, J pre W → pre.length < (upto base acked sum q q.length).length → YieldAt Fence.wide 3 Try.prog l #[encF x] W fun e W' =>
      (e = .returned (.bool true) ∧ J (pre ++ [x]) W' ∧ KR R W W') ∨ (e = .returned (.bool false) ∧ Jx (pre ++ [x]) W'))
    (W : World) (hR : R Bn) (h0 : J [] W) (hheap : W.heap[Bn]? = some (.cells #[.int .i64 base, .int .i64 acked, .string sum, .slice A q.length cap] 24 (0, 0)))
    (hRW : ∀ b, R b → b < W.heap.size)
    (hq : ∀ (j : Nat) u, q[j]? = some u → ∃ ad, A = some ad ∧ R ad.block ∧ W.cell? (ad.add j) = some (.string u))
    (hb0 : 0 ≤ base) (hb1 : base + (q.length : Int) ≤ 4611686018427387904) (ha0 : 0 ≤ acked) (ha1 : acked ≤ base + (q.length : Int)) :
    CallsIn Fence.wide 4 Try.prog 48 #[.func (.yield l) #[] #[], .pointer (some ⟨Bn, 0, none⟩)] W fun e W' => (∃ v, e = .returned v) ∧
      ((∃ xs, xs = upto base acked sum q q.length ∧ J xs W') ∨ (∃ pre, pre <+: upto base acked sum q q.length ∧ Jx pre W')) := by
  have c0 : W.cell? ⟨Bn, 0, none⟩ = some (.int .i64 base) := by simp [World.cell?, hheap]
  have c1 : W.cell? ⟨Bn, 1, none⟩ = some (.int .i64 acked) := by simp [World.cell?, hheap]
  have c2 : W.cell? ⟨Bn, 2, none⟩ = some (.string sum) := by simp [World.cell?, hheap]
  have hw0 : IntKind.i64.wrap (base + (q.length : Int)) = base + (q.length : Int) := by rw [IntKind.wrap_i64]; omega
  refine callsIn_of_wp Try.func48 rfl trivial ?_ rfl
  simp only [Try.ntmps48, List.size_toArray, List.length_cons, List.length_nil, Nat.reduceAdd, Nat.reduceSub, Array.replicate_succ, Array.replicate_zero, List.push_toArray, List.append_toArray, List.nil_append, List.cons_append]
  by_cases hab : acked < base
  · have hlo : lo0 base acked = 0 := by unfold lo0; omega
    have hp0 : pre0 base acked sum = [(true, base, sum, ())] := by unfold pre0; rw [if_pos hab]
    obtain ⟨fn, tmps, assign, body, hy, hRd⟩ := hY [] (true, base, sum, ()) W h0 (by unfold upto; rw [hp0]; simp)
    dsimp only [encF] at hy
    gi_wp2
    refine hRd.mono ?_
    rintro e W1 (⟨rfl, hJ1, hk1⟩ | ⟨rfl, hJx1⟩)
    · have d0 : W1.cell? ⟨Bn, 0, none⟩ = some (.int .i64 base) := (hk1.cell (p := ⟨Bn, 0, none⟩) hR).trans c0
      have d1 : W1.cell? ⟨Bn, 1, none⟩ = some (.int .i64 acked) := (hk1.cell (p := ⟨Bn, 1, none⟩) hR).trans c1
      gi_wp2
      gi_loopw [3] (fun p wr => ∃ j : Nat, lo0 base acked ≤ j ∧ j ≤ q.length ∧ p = .int .i64 (base + (j : Int)) ∧ J (upto base acked sum q j) wr ∧ KR R W wr)
        (fun p wr => (base + (q.length : Int) - RowKit.intOf p).toNat)
      case atStart =>
        refine ⟨0, by omega, Nat.zero_le _, by rw [Int.max_eq_right (by omega)]; simp, ?_, hk1⟩
        rw [← hlo, upto_lo, hp0]; exact hJ1
      case round =>
        obtain ⟨j, hlj, hj, rfl, hJs, hk⟩ := hrel
        have hB : wr.heap[Bn]? = some (.cells #[.int .i64 base, .int .i64 acked, .string sum, .slice A q.length cap] 24 (0, 0)) := (hk Bn hR).trans hheap
        have e0 : wr.cell? ⟨Bn, 0, none⟩ = some (.int .i64 base) := by simp [World.cell?, hB]
        have e1 : wr.cell? ⟨Bn, 1, none⟩ = some (.int .i64 acked) := by simp [World.cell?, hB]
        have e2 : wr.cell? ⟨Bn, 2, none⟩ = some (.string sum) := by simp [World.cell?, hB]
        have e3 : wr.cell? ⟨Bn, 3, none⟩ = some (.slice A q.length cap) := by simp [World.cell?, hB]
        obtain ⟨w2, hw2⟩ : ∃ w2, w2 = wr.alloc (.cells #[.int .i64 base, .int .i64 acked, .string sum, .slice A q.length cap] 24) := ⟨_, rfl⟩
        have hJ2 : J (upto base acked sum q j) w2 := hJ _ _ _ hJs (by rw [hw2]; exact World.grownBy_alloc wr _ none)
        have hBl : Bn < wr.heap.size := (Array.getElem?_eq_some_iff.1 hB).1
        have hB2 : w2.heap[Bn]? = some (.cells #[.int .i64 base, .int .i64 acked, .string sum, .slice A q.length cap] 24 (0, 0)) := by rw [hw2]; exact (heap_alloc_old wr _ hBl).trans hB
        have f0 : w2.cell? ⟨Bn, 0, none⟩ = some (.int .i64 base) := by simp [World.cell?, hB2]
        have f3 : w2.cell? ⟨Bn, 3, none⟩ = some (.slice A q.length cap) := by simp [World.cell?, hB2]
        by_cases hlt : j < q.length
        · obtain ⟨ad, rfl, hRa, hqc⟩ := hq j _ (List.getElem?_eq_getElem hlt)
          have hqr : wr.cell? (ad.add j) = some (.string q[j]) := (hk.cell (p := ad.add j) (by unfold Addr.add; split <;> exact hRa)).trans hqc
          have hq2 : w2.cell? (ad.add j) = some (.string q[j]) := by rw [hw2, World.cell?_of_block (heap_alloc_old wr _ (World.block_lt_of_cell? wr _ hqr))]; exact hqr
          have hw3 : IntKind.i64.wrap (base + (j : Int) - base) = (j : Int) := by rw [IntKind.wrap_i64]; omega
          have hw4 : IntKind.i64.wrap (base + (j : Int) + 1) = base + (j : Int) + 1 := by rw [IntKind.wrap_i64]; omega
          obtain ⟨fn2, tmps2, assign2, body2, hy2, hRd2⟩ := hY _ (fr base q j) w2 hJ2 (upto_len _ _ _ _ _ _ hlj hlt)
          dsimp only [encF, fr] at hy2
          rw [show q.getD j ⟨#[]⟩ = q[j] by simp [List.getD, hlt]] at hy2
          have hkw2 : KR R wr w2 := fun b hb => by rw [hw2]; exact heap_alloc_old wr _ (by
            by_cases hbs : b < wr.heap.size
            · exact hbs
            · have h1 := hk b hb
              rw [Array.getElem?_eq_none (by omega)] at h1
              have h2 := hRW b hb
              rw [Array.getElem?_eq_getElem h2] at h1
              cases h1)
          subst hw2
          gi_wp2_with (refine ⟨trivial, ?_⟩; gi_at_call 32; refine (end_in _ base acked sum _ q.length cap _ hw0).mono ?_; rintro e w' ⟨rfl, rfl⟩)
          refine hRd2.mono ?_
          rintro e W3 (⟨rfl, hJ3, hk3⟩ | ⟨rfl, hJx3⟩)
          · gi_wp2
            go_roundw
            case rel => exact ⟨j + 1, by omega, hlt, by rw [Int.natCast_add]; simp [Int.add_assoc], by rw [upto_succ _ _ _ _ _ hlj]; exact hJ3, (hk.trans hkw2).trans hk3⟩
            case measure => simp [RowKit.intOf]; omega
          · gi_wp2
            refine bodyPost_ret (results_none rfl _ _ _) rfl ?_
            exact ⟨⟨_, rfl⟩, .inr ⟨_, by rw [← upto_succ _ _ _ _ _ hlj]; exact upto_pre _ _ _ _ _ _ hlt, hJx3⟩⟩
        · gi_wp2_with (refine ⟨trivial, ?_⟩; gi_at_call 32; refine (end_in _ base acked sum _ q.length cap _ hw0).mono ?_; rintro e w' ⟨rfl, rfl⟩; rw [← hw2])
          go_end0
          obtain rfl : j = q.length := by omega
          exact ⟨⟨_, rfl⟩, .inl ⟨_, rfl, by rw [← hw2]; exact hJ2⟩⟩
    · gi_wp2
      refine bodyPost_ret (results_none rfl _ _ _) rfl ?_
      exact ⟨⟨_, rfl⟩, .inr ⟨[(true, base, sum, ())], by rw [← hp0, ← upto_lo]; exact upto_pre _ _ _ _ _ _ (by omega), hJx1⟩⟩
  · have hp0 : pre0 base acked sum = [] := by unfold pre0; rw [if_neg hab]
    have hlc : (lo0 base acked : Int) = acked - base := by unfold lo0; omega
    gi_wp2
    refine ⟨fun _ h => (by cases h), ?_⟩
    gi_wp2
    gi_loopw [3] (fun p wr => ∃ j : Nat, lo0 base acked ≤ j ∧ j ≤ q.length ∧ p = .int .i64 (base + (j : Int)) ∧ J (upto base acked sum q j) wr ∧ KR R W wr)
      (fun p wr => (base + (q.length : Int) - RowKit.intOf p).toNat)
    case atStart =>
      refine ⟨lo0 base acked, Nat.le_refl _, by omega, by rw [Int.max_eq_left (by omega), hlc]; congr 1; omega, ?_, fun _ _ => rfl⟩
      rw [upto_lo, hp0]; exact h0
    case round =>
      obtain ⟨j, hlj, hj, rfl, hJs, hk⟩ := hrel
      have hB : wr.heap[Bn]? = some (.cells #[.int .i64 base, .int .i64 acked, .string sum, .slice A q.length cap] 24 (0, 0)) := (hk Bn hR).trans hheap
      have e0 : wr.cell? ⟨Bn, 0, none⟩ = some (.int .i64 base) := by simp [World.cell?, hB]
      have e1 : wr.cell? ⟨Bn, 1, none⟩ = some (.int .i64 acked) := by simp [World.cell?, hB]
      have e2 : wr.cell? ⟨Bn, 2, none⟩ = some (.string sum) := by simp [World.cell?, hB]
      have e3 : wr.cell? ⟨Bn, 3, none⟩ = some (.slice A q.length cap) := by simp [World.cell?, hB]
      obtain ⟨w2, hw2⟩ : ∃ w2, w2 = wr.alloc (.cells #[.int .i64 base, .int .i64 acked, .string sum, .slice A q.length cap] 24) := ⟨_, rfl⟩
      have hJ2 : J (upto base acked sum q j) w2 := hJ _ _ _ hJs (by rw [hw2]; exact World.grownBy_alloc wr _ none)
      have hBl : Bn < wr.heap.size := (Array.getElem?_eq_some_iff.1 hB).1
      have hB2 : w2.heap[Bn]? = some (.cells #[.int .i64 base, .int .i64 acked, .string sum, .slice A q.length cap] 24 (0, 0)) := by rw [hw2]; exact (heap_alloc_old wr _ hBl).trans hB
      have f0 : w2.cell? ⟨Bn, 0, none⟩ = some (.int .i64 base) := by simp [World.cell?, hB2]
      have f3 : w2.cell? ⟨Bn, 3, none⟩ = some (.slice A q.length cap) := by simp [World.cell?, hB2]
      by_cases hlt : j < q.length
      · obtain ⟨ad, rfl, hRa, hqc⟩ := hq j _ (List.getElem?_eq_getElem hlt)
        have hqr : wr.cell? (ad.add j) = some (.string q[j]) := (hk.cell (p := ad.add j) (by unfold Addr.add; split <;> exact hRa)).trans hqc
        have hq2 : w2.cell? (ad.add j) = some (.string q[j]) := by rw [hw2, World.cell?_of_block (heap_alloc_old wr _ (World.block_lt_of_cell? wr _ hqr))]; exact hqr
        have hw3 : IntKind.i64.wrap (base + (j : Int) - base) = (j : Int) := by rw [IntKind.wrap_i64]; omega
        have hw4 : IntKind.i64.wrap (base + (j : Int) + 1) = base + (j : Int) + 1 := by rw [IntKind.wrap_i64]; omega
        obtain ⟨fn2, tmps2, assign2, body2, hy2, hRd2⟩ := hY _ (fr base q j) w2 hJ2 (upto_len _ _ _ _ _ _ hlj hlt)
        dsimp only [encF, fr] at hy2
        rw [show q.getD j ⟨#[]⟩ = q[j] by simp [List.getD, hlt]] at hy2
        have hkw2 : KR R wr w2 := fun b hb => by rw [hw2]; exact heap_alloc_old wr _ (by
          by_cases hbs : b < wr.heap.size
          · exact hbs
          · have h1 := hk b hb
            rw [Array.getElem?_eq_none (by omega)] at h1
            have h2 := hRW b hb
            rw [Array.getElem?_eq_getElem h2] at h1
            cases h1)
        subst hw2
        gi_wp2_with (refine ⟨trivial, ?_⟩; gi_at_call 32; refine (end_in _ base acked sum _ q.length cap _ hw0).mono ?_; rintro e w' ⟨rfl, rfl⟩)
        refine hRd2.mono ?_
        rintro e W3 (⟨rfl, hJ3, hk3⟩ | ⟨rfl, hJx3⟩)
        · gi_wp2
          go_roundw
          case rel => exact ⟨j + 1, by omega, hlt, by rw [Int.natCast_add]; simp [Int.add_assoc], by rw [upto_succ _ _ _ _ _ hlj]; exact hJ3, (hk.trans hkw2).trans hk3⟩
          case measure => simp [RowKit.intOf]; omega
        · gi_wp2
          refine bodyPost_ret (results_none rfl _ _ _) rfl ?_
          exact ⟨⟨_, rfl⟩, .inr ⟨_, by rw [← upto_succ _ _ _ _ _ hlj]; exact upto_pre _ _ _ _ _ _ hlt, hJx3⟩⟩
      · gi_wp2_with (refine ⟨trivial, ?_⟩; gi_at_call 32; refine (end_in _ base acked sum _ q.length cap _ hw0).mono ?_; rintro e w' ⟨rfl, rfl⟩; rw [← hw2])
        go_end0
        obtain rfl : j = q.length := by omega
        exact ⟨⟨_, rfl⟩, .inl ⟨_, rfl, by rw [← hw2]; exact hJ2⟩⟩
end Go.Proofs.I1
set_option linter.unusedVariables false
set_option linter.unusedSimpArgs false
namespace Go.Proofs.I1
open Go Go.RowKit Go.Lib Go.Proofs Go.Shelf
attribute [local go_sem] Oper.semAt_some

def cellsF (x : Fr) : List Value := [.bool x.1, .int .i64 x.2.1, .string x.2.2.1]
def flat (l : List Fr) : List Value := l.flatMap cellsF
theorem flat_len (l : List Fr) : (flat l).length = l.length * 3 := by
  induction l with
  | nil => rfl
  | cons x l ih => simp only [flat, List.flatMap_cons, List.length_append] at *; rw [ih]; simp [cellsF]; omega
theorem flat_snoc (l : List Fr) (x : Fr) : flat (l ++ [x]) = flat l ++ cellsF x := by simp [flat]

theorem cells_new (w : World) (xs : List Value) (t : TypeId) : ∀ j u, xs[j]? = some u → (w.alloc (.cells xs.toArray t)).cell? ((⟨w.heap.size, 0, none⟩ : Addr).add j) = some u := by
  intro j u hj
  have hh : (w.alloc (.cells xs.toArray t)).heap[w.heap.size]? = some (.cells xs.toArray t (0, 0)) := heap_alloc_new w _
  rw [Addr.add_lit, Nat.zero_add]
  simp only [World.cell?, hh]
  simpa using hj

set_option maxRecDepth 100000 in
set_option maxHeartbeats 1000000 in
theorem make_in (m : Nat) (base acked : Int) (sum : ByteArray) (A : Option Addr) (n cap : Nat) (W : World) :
    CallsIn Fence.wide m Try.prog 34 #[.agg #[.int .i64 base, .int .i64 acked, .string sum, .slice A n cap]] W fun e W' => e = .returned (.func (.func 48) #[] #[.pointer (some ⟨W.heap.size, 0, none⟩)]) ∧
      W' = W.alloc (.cells #[.int .i64 base, .int .i64 acked, .string sum, .slice A n cap] 24) := by
  refine callsIn_of_wp Try.func34 rfl trivial ?_ rfl
  simp only [Try.ntmps34, List.size_toArray, List.length_cons, List.length_nil, Nat.reduceAdd, Nat.reduceSub, Array.replicate_succ, Array.replicate_zero, List.push_toArray, List.append_toArray, List.nil_append, List.cons_append]
  gi_wp2
  go_ret
  exact ⟨rfl, rfl⟩

theorem cell_alloc_l' {W : World} {a : Addr} {v : Value} (o : Obj) (h : W.cell? a = some v) : (W.alloc o).cell? a = some v := cell_kept h (World.grownBy_alloc W o none) (fun r e => by cases e)

theorem frames_stops (Bn n₁ : Nat) (base acked : Int) (sum : ByteArray) (q : List ByteArray) (A : Option Addr) (cap : Nat) (w : World)
    (hheap : w.heap[Bn]? = some (.cells #[.int .i64 base, .int .i64 acked, .string sum, .slice A q.length cap] 24 (0, 0))) (hn₁ : n₁ ≤ w.heap.size)
    (hq : ∀ (j : Nat) u, q[j]? = some u → ∃ ad, A = some ad ∧ ad.block < n₁ ∧ w.cell? (ad.add j) = some (.string u))
    (hb0 : 0 ≤ base) (hb1 : base + (q.length : Int) ≤ 4611686018427387904) (ha0 : 0 ≤ acked) (ha1 : acked ≤ base + (q.length : Int)) :
    SeqStopsK Fence.wide 4 Try.prog 48 #[.pointer (some ⟨Bn, 0, none⟩)] (fun x : Fr => #[encF x]) (KR fun b => b < n₁ ∨ b = Bn) (fun ys => ys = upto base acked sum q q.length) (fun pre => pre <+: upto base acked sum q q.length) (upto base acked sum q q.length).length w := fun l J Jx W hW hJ hJx hY h0 => by
  have hBn : Bn < w.heap.size := (Array.getElem?_eq_some_iff.1 hheap).1
  refine frames1_in l Bn (fun b => b < n₁ ∨ b = Bn) base acked sum q A cap J Jx (fun s W W' h hg => hJ s W W' none h hg (fun r e => by cases e)) hY W (.inr rfl) h0 ((hW.block _ hBn).trans hheap)
    (fun b hb => by have := hW.size; rcases hb with hb | hb <;> omega) (fun j u hu => ?_) hb0 hb1 ha0 ha1
  obtain ⟨ad, h1, h2, h3⟩ := hq j u hu
  refine ⟨ad, h1, .inl h2, ?_⟩
  rw [hW.cell (p := ad.add j) (by unfold Addr.add; split <;> exact Nat.lt_of_lt_of_le h2 hn₁)]
  exact h3

theorem i49' : (Try.prog.info? 49).map (fun i => (i.zero, i.size, i.bytes)) = some (some (.agg #[.bool false, .int .i64 0, .string ⟨#[]⟩]), 3, 32) := by kernel_rfl

/-- what link.Frames returns -/
def OutIs (vo : Bool) (most : Int) (all L : List Fr) (c : Int) : Prop := if vo = true ∧ 0 ≤ most then L = all.take most.toNat ∧ c = 0 else L = [] ∧ c = 1

theorem box3_own (b : Nat) (t : TypeId) (vs : Array Value) {β : Type} : Own (fun (_ : β) W => W.heap[b]? = some (.cells vs t (0, 0))) := by
  intro s A B row hs hg hr
  refine (hg.block b (Array.getElem?_eq_some_iff.1 hs).1 (fun e => ?_)).trans hs
  obtain ⟨o, ho, hc⟩ := hr b e.symm
  rw [hs] at ho; cases ho; cases hc

theorem ownsRow_base {W : World} {n m : Nat} {e : TypeId} {size : Nat} {v : Value} {k : Nat} {xs : List Value} (hnm : m ≤ n) (h : W.ownsRow n e size v k xs) : W.ownsRow m e size v k xs := by
  refine ⟨h.1, ?_⟩
  rcases h.2 with h | ⟨g, cap, cur, h1, h2, h3⟩
  · exact .inl h
  · exact .inr ⟨g, cap, cur, h1, by omega, h3⟩

theorem kr_t {R : Nat → Prop} {A B C : World} (h : KR R A B) (h' : KR R B C) : KR R A C := h.trans h'
theorem kr_b {R : Nat → Prop} {w : World} (hR : ∀ b, R b → b < w.heap.size) (W : World) (l : Nat) (o o' : Obj) (hl : w.heap.size ≤ l) (h : W.heap[l]? = some o) (_ : o.isCells = false) (_ : o.isWalk = false) : KR R W (W.putObj l o') :=
  fun b hb => World.putObj_heap_other (by have := hR b hb; omega)

set_option maxRecDepth 100000 in
set_option maxHeartbeats 2000000 in
theorem Frames_in (vo : Bool) (base acked : Int) (sum : ByteArray) (q : List ByteArray) (A : Option Addr) (cap : Nat) (most : Int) (w : World)
    (hvo : ∀ W, Below w.heap.size w W → CallsIn Fence.wide 4 Try.prog 18 #[.agg #[.int .i64 base, .int .i64 acked, .string sum, .slice A q.length cap]] W fun e W' => e = .returned (.bool vo) ∧ Below W.heap.size W W')
    (hq : ∀ (j : Nat) u, q[j]? = some u → ∃ ad, A = some ad ∧ ad.block < w.heap.size ∧ w.cell? (ad.add j) = some (.string u))
    (hb0 : vo = true → 0 ≤ base) (hb1 : vo = true → base + (q.length : Int) ≤ 4611686018427387904) (ha0 : vo = true → 0 ≤ acked) (ha1 : vo = true → acked ≤ base + (q.length : Int)) (hql : vo = true → q.length ≤ 100000) :
    CallsIn Fence.wide 5 Try.prog 12 #[.agg #[.int .i64 base, .int .i64 acked, .string sum, .slice A q.length cap], .int .i64 most] w fun e W' => ∃ v L c, e = .returned (.tuple #[v, .int .i64 c]) ∧
      OutIs vo most (upto base acked sum q q.length) L c ∧ W'.ownsRow w.heap.size 49 3 v L.length (flat L) ∧ Below w.heap.size w W' := by
  obtain ⟨i0, hi, hz0, hz1, hz2⟩ := info_parts i49'
  refine callsIn_of_wp_marks Try.func12 rfl trivial ?_ rfl
  simp only [Try.ntmps12, List.size_toArray, List.length_cons, List.length_nil, Nat.reduceAdd, Nat.reduceSub, Array.replicate_succ, Array.replicate_zero, List.push_toArray, List.append_toArray, List.nil_append, List.cons_append]
  have hB2 : Below w.heap.size w ((w.alloc (.cells #[.int .i64 base, .int .i64 acked, .string sum, .slice A q.length cap] 24)).alloc (.cells #[.int .i64 most] 3)) := ((Below.refl _ w).alloc (Nat.le_refl _) _).alloc (by simp) _
  have hcall := hvo _ hB2
  have bM := Boxed.new (w.alloc (.cells #[.int .i64 base, .int .i64 acked, .string sum, .slice A q.length cap] 24)) 3 (.int .i64 most)
  rw [World.size_alloc] at bM
  have bO : ((w.alloc (.cells #[.int .i64 base, .int .i64 acked, .string sum, .slice A q.length cap] 24)).alloc (.cells #[.int .i64 most] 3)).heap[w.heap.size]? = some (.cells #[.int .i64 base, .int .i64 acked, .string sum, .slice A q.length cap] 24 (0, 0)) := by
    rw [heap_alloc_old _ _ (by simp)]; exact heap_alloc_new w _
  obtain ⟨w2, hw2⟩ : ∃ w2, w2 = ((w.alloc (.cells #[.int .i64 base, .int .i64 acked, .string sum, .slice A q.length cap] 24)).alloc (.cells #[.int .i64 most] 3)) := ⟨_, rfl⟩
  have hsz2 : w2.heap.size = w.heap.size + 2 := by rw [hw2]; simp
  rw [← hw2] at hB2 hcall bM bO
  have hcase : CallsIn Fence.wide 4 Try.prog 18 #[.agg #[.int .i64 base, .int .i64 acked, .string sum, .slice A q.length cap]] w2 fun e W' => e = .returned (.bool vo) ∧ Boxed W' (w.heap.size + 1) 3 (.int .i64 most) ∧ 
      W'.cell? ⟨w.heap.size + 1, 0, none⟩ = some (.int .i64 most) ∧ W'.cell? ⟨w.heap.size, 0, none⟩ = some (.int .i64 base) ∧ W'.cell? ⟨w.heap.size, 1, none⟩ = some (.int .i64 acked) ∧ W'.cell? ⟨w.heap.size, 2, none⟩ = some (.string sum) ∧ W'.cell? ⟨w.heap.size, 3, none⟩ = some (.slice A q.length cap) ∧ Below w2.heap.size w2 W' := by
    refine hcall.mono ?_
    rintro e W' ⟨rfl, hb⟩
    have b1 : Boxed W' (w.heap.size + 1) 3 (.int .i64 most) := (hb.block _ (by omega)).trans bM
    have b2 : W'.heap[w.heap.size]? = some (.cells #[.int .i64 base, .int .i64 acked, .string sum, .slice A q.length cap] 24 (0, 0)) := (hb.block _ (by omega)).trans bO
    exact ⟨rfl, b1, b1.cell, by simp [World.cell?, b2], by simp [World.cell?, b2], by simp [World.cell?, b2], by simp [World.cell?, b2], hb⟩
  cases vo with
  | false =>
    gi_wp2_with (refine ⟨trivial, ?_⟩; gi_at_call 18; rw [← hw2]; refine hcase.mono ?_; rintro e w' ⟨rfl, -, -, -, -, -, -, hbl⟩)
    refine ⟨_, results_tmp2 rfl _ _ _, ?_⟩
    exact ⟨.slice none 0 0, [], 1, rfl, by simp [OutIs], World.ownsRow_nil _ _ _ _, hB2.trans (hbl.mono (by omega))⟩
  | true =>
    have hw1 : ∀ w1, Below w2.heap.size w2 w1 → ∀ i v, i < w.heap.size + 2 → ∀ o, w1.cell? ⟨i, o, none⟩ = some v → (w1.alloc (.cells #[.slice none 0 0] 31)).cell? ⟨i, o, none⟩ = some v := fun w1 hb i v hi o h => cell_alloc_l' _ h
    by_cases hneg : most < 0
    · gi_wp2_with (refine ⟨trivial, ?_⟩; gi_at_call 18; rw [← hw2]; refine hcase.mono ?_; rintro e w1 ⟨rfl, bM1, hcM, hc0, hc1, hc2, hc3, hbl⟩)
      refine ⟨_, results_tmp2 rfl _ _ _, ?_⟩
      exact ⟨.slice none 0 0, [], 1, rfl, by unfold OutIs; rw [if_neg (by omega)]; exact ⟨rfl, rfl⟩, World.ownsRow_nil _ _ _ _, hB2.trans (hbl.mono (by omega))⟩
    · gi_wp2_with (refine ⟨trivial, ?_⟩; first | (gi_at_call 18; rw [← hw2]; refine hcase.mono ?_; rintro e w1 ⟨rfl, bM1, hcM, hc0, hc1, hc2, hc3, hbl⟩; have d0 := hw1 w1 hbl _ _ (by omega) 0 hc0; have d1 := hw1 w1 hbl _ _ (by omega) 1 hc1; have d2 := hw1 w1 hbl _ _ (by omega) 2 hc2; have d3 := hw1 w1 hbl _ _ (by omega) 3 hc3) | (gi_at_call 34; refine (make_in _ base acked sum _ q.length cap _).mono ?_; rintro e w' ⟨rfl, rfl⟩))
      have hs1 := hbl.size
      have bX0 := Boxed.new w1 31 (.slice none 0 0)
      have hN0 : ((w1.alloc (.cells #[.slice none 0 0] 31)).alloc (.cells #[.int .i64 base, .int .i64 acked, .string sum, .slice A q.length cap] 24)).heap[w1.heap.size + 1]? = some (.cells #[.int .i64 base, .int .i64 acked, .string sum, .slice A q.length cap] 24 (0, 0)) := by
        have := heap_alloc_new (w1.alloc (.cells #[.slice none 0 0] 31)) (.cells #[.int .i64 base, .int .i64 acked, .string sum, .slice A q.length cap] 24)
        rw [World.size_alloc] at this; exact this
      have bX := bX0.alloc (.cells #[.int .i64 base, .int .i64 acked, .string sum, .slice A q.length cap] 24)
      have hB3 : Below w1.heap.size w1 ((w1.alloc (.cells #[.slice none 0 0] 31)).alloc (.cells #[.int .i64 base, .int .i64 acked, .string sum, .slice A q.length cap] 24)) := ((Below.refl _ w1).alloc (by omega) _).alloc (by simp) _
      have hsz3 : ((w1.alloc (.cells #[.slice none 0 0] 31)).alloc (.cells #[.int .i64 base, .int .i64 acked, .string sum, .slice A q.length cap] 24)).heap.size = w1.heap.size + 2 := by simp
      obtain ⟨W0, hW0⟩ : ∃ W0, (w1.alloc (.cells #[.slice none 0 0] 31)).alloc (.cells #[.int .i64 base, .int .i64 acked, .string sum, .slice A q.length cap] 24) = W0 := ⟨_, rfl⟩
      rw [hW0] at bX hN0 hB3 hsz3 ⊢
      clear hW0
      have hall : Below w.heap.size w w1 := hB2.trans (hbl.mono (by omega))
      have hlen : (upto base acked sum q q.length).length ≤ q.length + 1 := by
        unfold upto pre0; split <;> simp <;> omega
      have hqn := hql trivial
      refine wpIn_rangeFunc_ownH rfl (by omega) (gf := 48) (lb := #[.pointer (some ⟨w1.heap.size + 1, 0, none⟩)]) rfl trivial (enters_of Try.func48 (by kernel_rfl) rfl)
        (frames_stops (w1.heap.size + 1) w1.heap.size base acked sum q A cap W0 hN0 (by omega) (fun j u hu => by
          obtain ⟨ad, h1, h2, h3⟩ := hq j u hu
          refine ⟨ad, h1, by omega, ?_⟩
          rw [hB3.cell (p := ad.add j) (by unfold Addr.add; split <;> (show ad.block < w1.heap.size; omega)), hall.cell (p := ad.add j) (by unfold Addr.add; split <;> exact h2)]
          exact h3) (hb0 trivial) (hb1 trivial) (ha0 trivial) (ha1 trivial)) kr_t (kr_b (fun b hb => by rcases hb with hb | hb <;> omega)) (Below.refl _ _) (fun _ => rfl)
        (fun pre W => ((∃ v, Boxed W w1.heap.size 31 v ∧ W.ownsRow w1.heap.size 49 3 v pre.length (flat pre) ∧ (v = .slice none 0 0 ↔ pre = [])) ∧ Below w1.heap.size w1 W) ∧ (W.heap[w1.heap.size + 1]? = some (.cells #[.int .i64 base, .int .i64 acked, .string sum, .slice A q.length cap] 24 (0, 0)) ∧ (pre.length : Int) ≤ most))
        (fun c pre W => ((∃ v, Boxed W w1.heap.size 31 v ∧ W.ownsRow w1.heap.size 49 3 v pre.dropLast.length (flat pre.dropLast) ∧ (v = .slice none 0 0 ↔ pre.dropLast = [])) ∧ Below w1.heap.size w1 W) ∧ (c = .exit 0 ∧ (pre.dropLast.length : Int) = most ∧ pre ≠ []))
        (OwnFrom.and (OwnFrom.and (Own.from (holdsRow_own w1.heap.size w1.heap.size 31 49 3 (fun pre => List.length pre) (fun pre => flat pre) (fun pre v => v = .slice none 0 0 ↔ pre = [])) _) (ownFrom_below (by omega) (by omega))) (OwnFrom.and (Own.from (box3_own _ _ _) _) (ownFrom_pure _ _)))
        (fun c => OwnFrom.and (OwnFrom.and (Own.from (holdsRow_own w1.heap.size w1.heap.size 31 49 3 (fun pre => List.length (List.dropLast pre)) (fun pre => flat (List.dropLast pre)) (fun pre v => v = .slice none 0 0 ↔ List.dropLast pre = [])) _) (ownFrom_below (by omega) (by omega))) (ownFrom_pure _ _))
        ⟨⟨⟨_, bX, World.ownsRow_nil _ _ _ _, by simp⟩, hB3⟩, hN0, by simp; omega⟩
        (fun x a' W => ∃ Bx, w1.heap.size + 1 < Bx ∧ W.heap[Bx]? = some (.cells #[.bool x.1, .int .i64 x.2.1, .string x.2.2.1] 49 (0, 0)) ∧ a' = { tmps := #[.agg #[.int .i64 base, .int .i64 acked, .string sum, .slice A q.length cap], .int .i64 most, .pointer (some ⟨w.heap.size, 0, none⟩), .pointer (some ⟨w.heap.size + 1, 0, none⟩), .slice none 0 0, .int .i64 0, .pointer (some ⟨w1.heap.size, 0, none⟩), .pointer (some ⟨Bx, 0, none⟩), .agg #[.int .i64 base, .int .i64 acked, .string sum, .slice A q.length cap], .bool true, .bool false, .bool false, .int .i64 most, .bool (decide (most < 0)), .bool (decide (most < 0)), .agg #[.int .i64 base, .int .i64 acked, .string sum, .slice A q.length cap], .func (.func 48) #[] #[.pointer (some ⟨w1.heap.size + 1, 0, none⟩)], .agg #[.bool x.1, .int .i64 x.2.1, .string x.2.2.1], undef, undef, undef, undef, undef, undef, undef, undef, undef], defers := [] })
        (fun x a' _ X Y row hs hg hr => by obtain ⟨Bx, h1, h2, h3⟩ := hs; exact ⟨Bx, h1, box3_own Bx 49 _ () X Y row h2 hg (fun r e => (hr r e).2), h3⟩)
        ?assign ?body ?done ?stop
      case assign =>
        rintro l pre x W K ⟨⟨⟨v, hv, hrow, hnil⟩, hB⟩, hbx, hlm⟩ hK
        dsimp only [encF]
        gi_wp2
        have hsW := hB.size
        exact hK _ _ ((KeepsOthers.alloc _ _).from _) (fun b hb => heap_alloc_old W _ (by rcases hb with hb | hb <;> have := hv.lt <;> have := (Array.getElem?_eq_some_iff.1 hbx).1 <;> omega)) ⟨⟨⟨v, hv.alloc _, hrow.alloc _, hnil⟩, hB.alloc (by omega) _⟩, (heap_alloc_old W _ (Array.getElem?_eq_some_iff.1 hbx).1).trans hbx, hlm⟩ ⟨W.heap.size, (Array.getElem?_eq_some_iff.1 hbx).1, heap_alloc_new W _, rfl⟩
      case body =>
        rintro l pre x a' W hl ⟨r, hr⟩ ⟨⟨⟨v, hv, hrow, hnil⟩, hB⟩, hbx, hlm⟩ ⟨Bx, hBx, bX1, rfl⟩ hlt
        have hsW := hB.size
        have hc := hv.cell
        have cM : W.cell? ⟨w.heap.size + 1, 0, none⟩ = some (.int .i64 most) := (hB.cell (p := ⟨w.heap.size + 1, 0, none⟩) (by show w.heap.size + 1 < w1.heap.size; omega)).trans hcM
        have x0 : W.cell? ⟨Bx, 0, none⟩ = some (.bool x.1) := by simp [World.cell?, bX1]
        have x1 : W.cell? ⟨Bx, 1, none⟩ = some (.int .i64 x.2.1) := by simp [World.cell?, bX1]
        have x2 : W.cell? ⟨Bx, 2, none⟩ = some (.string x.2.2.1) := by simp [World.cell?, bX1]
        have hvl : ∃ a c, v = .slice a pre.length c := by
          rcases hrow.2 with ⟨rfl, h0⟩ | ⟨g, cp, cur, rfl, _⟩
          · exact ⟨none, 0, by rw [h0]⟩
          · exact ⟨_, _, rfl⟩
        obtain ⟨va, vc, rfl⟩ := hvl
        by_cases hfull : (pre.length : Int) = most
        · gi_wp2
          exact ⟨KeepsFrom.refl _ _, ⟨⟨_, hv, by rw [List.dropLast_concat]; exact hrow, by simpa using hnil⟩, hB⟩, rfl, by simpa using hfull, by simp⟩
        · gi_wp2_with (gi_at_builtin; refine wpListIn_append_own _ rfl _ _ 31 rfl w1.heap.size 49 i0 _ 3 32 Try.underlying31 hi hz0 hz1 hz2 rfl (by decide) _ _ _ rfl (hrow.alloc _) ⟨W.heap.size, 0, none⟩ 1 1 (cellsF x) rfl rfl (cells_new _ _ _) (by simp [cellsF, Value.oneCell']) (by unfold maxLen; omega) (by omega) (by simp; omega) ?_; intro v' w1' hown' hgrow _; obtain ⟨g', cap', rfl⟩ := ownsRow_succ hown'; obtain ⟨hv1, hv2, hr2, hk2, hb2⟩ := hv.appended (by decide) hrow (by omega) (Nat.le_refl _) hown' hgrow; have hc1 := hv1.cell; have hf1 := hv1.frozen)
          have hne : some (w1.heap.size + 1) ≠ (Value.slice va pre.length vc).ownBlock := by
            rcases hrow.2 with ⟨h, _⟩ | ⟨g, cp, cur, h, _, hgb, _⟩
            · rw [h]; simp [Value.ownBlock]
            · rw [h]
              intro e
              obtain rfl : w1.heap.size + 1 = g := by simpa [Value.ownBlock] using e
              rw [hbx] at hgb; cases hgb
          have hbx2 : (w1'.setCell ⟨w1.heap.size, 0, none⟩ (.slice (some ⟨g', 0, none⟩) (pre.length + 1) cap')).heap[w1.heap.size + 1]? = W.heap[w1.heap.size + 1]? := by
            have hlt1 := (Array.getElem?_eq_some_iff.1 hbx).1
            rw [Below.heap_setCell _ _ _ _ (by show w1.heap.size + 1 ≠ w1.heap.size; omega), hgrow.block _ (by simp; omega) hne, heap_alloc_old _ _ hlt1]
          exact ⟨hk2.from _, fun b hb => by rcases hb with hb | rfl; exact hb2.block b hb; exact hbx2, ⟨⟨_, hv2, by rw [flat_snoc]; simpa using hr2, by simp⟩, hB.trans hb2⟩, hbx2.trans hbx, by simp; omega⟩
      case done =>
        rintro D ys W hD rfl ⟨⟨⟨v, hv, hrow, hnil⟩, hB⟩, hbx, hlm⟩ hK
        have hc := hv.cell
        gi_wp2
        refine ⟨by simp, .inl ⟨_, _, rfl, run_takeDeferred hK, ?_⟩⟩
        exact ⟨_, results_tmp2 rfl _ _ _, v, _, 0, rfl, by unfold OutIs; rw [if_pos ⟨rfl, by omega⟩]; exact ⟨(List.take_of_length_le (by omega)).symm, rfl⟩, ownsRow_base (by omega) (ownsRow_putObj hrow _ hK rfl),
          hall.trans ((hB.trans (belowK_b (w := w1) (Nat.le_refl _) W D _ _ (by omega) hK rfl rfl)).mono (by omega))⟩
      case stop =>
        rintro D c pre W hD ⟨rest, hpre⟩ ⟨⟨⟨v, hv, hrow, hnil⟩, hB⟩, rfl, hpl, hpn⟩ hK
        have hc := hv.cell
        gi_wp2
        refine ⟨by simp, .inl ⟨_, _, rfl, run_takeDeferred hK, ?_⟩⟩
        refine ⟨_, results_tmp2 rfl _ _ _, v, pre.dropLast, 0, rfl, ?_, ownsRow_base (by omega) (ownsRow_putObj hrow _ hK rfl),
          hall.trans ((hB.trans (belowK_b (w := w1) (Nat.le_refl _) W D _ _ (by omega) hK rfl rfl)).mono (by omega))⟩
        unfold OutIs
        rw [if_pos ⟨rfl, by omega⟩]
        refine ⟨?_, rfl⟩
        obtain ⟨p', y, rfl⟩ : ∃ p' y, pre = p' ++ [y] := ⟨_, _, (List.dropLast_concat_getLast hpn).symm⟩
        rw [List.dropLast_concat] at hpl ⊢
        rw [← hpre, List.append_assoc, List.take_append_of_le_length (by omega), List.take_of_length_le (by omega)]
end Go.Proofs.I1
set_option linter.unusedVariables false
set_option linter.unusedSimpArgs false
namespace Go.Proofs.I1
open Go Go.RowKit Go.Lib Go.Proofs Go.Abs

/-- what link.Frames returns -/
def framesOut (vo : Bool) (base acked : Int) (sum : ByteArray) (q : List ByteArray) (most : Int) : List Fr × Int :=
  if vo = true ∧ 0 ≤ most then ((upto base acked sum q q.length).take most.toNat, 0) else ([], 1)

theorem strs_flat {O : Nat → Prop} {w : World} : ∀ {q : List ByteArray} {css : List (List Value)}, All2 (Cells O w .str) q css → css.flatten = q.map Value.string
  | [], [], _ => rfl
  | s :: q, c :: css, h => by
    have h1 : c = [.string s] := h.1
    rw [List.flatten_cons, strs_flat h.2, h1]; rfl
  | [], _ :: _, h => h.elim
  | _ :: _, [], h => h.elim

theorem frs_cells {O : Nat → Prop} {w : World} : ∀ (l : List Fr), ∃ css, All2 (Cells O w KF) l css ∧ css.flatten = flat l
  | [] => ⟨[], trivial, rfl⟩
  | x :: l => by
    obtain ⟨css, h1, h2⟩ := frs_cells (O := O) (w := w) l
    refine ⟨cellsF x :: css, ⟨⟨[.bool x.1], [.int .i64 x.2.1, .string x.2.2.1], rfl, rfl, [.int .i64 x.2.1], [.string x.2.2.1], rfl, rfl, [.string x.2.2.1], [], rfl, rfl, rfl⟩, h1⟩, ?_⟩
    rw [List.flatten_cons, h2]; simp [flat]

theorem frames_spec (vo : Bool) (a1 a2 : Int) (a3 : ByteArray) (a4 : List ByteArray) (most : Int)
    (hvo : SpecOk P ⟨18, [.agg [.p (.int .i64) a1, .p (.int .i64) a2, .p .str a3, .p (.sl .str) a4]], [], .v (.p .bool vo), []⟩)
    (hb0 : vo = true → 0 ≤ a1) (hb1 : vo = true → a1 + (a4.length : Int) ≤ 4611686018427387904) (ha0 : vo = true → 0 ≤ a2) (ha1 : vo = true → a2 ≤ a1 + (a4.length : Int)) (hql : vo = true → a4.length ≤ 100000) :
    SpecOk P ⟨12, [.agg [.p (.int .i64) a1, .p (.int .i64) a2, .p .str a3, .p (.sl .str) a4], .p (.int .i64) most], [], .t [.p (.sl KF) (framesOut vo a1 a2 a3 a4 most).1, .p (.int .i64) (framesOut vo a1 a2 a3 a4 most).2], []⟩ := by
  intro w base ρ cargs hbase hheld hrel
  dsimp only at hheld hrel ⊢
  match cargs, hrel with
  | [x1, x2], hrel =>
    have h2 := hrel.2.1.p_int
    subst h2
    have hrel1 := hrel.1
    rcases hrel.1 with ⟨h, _⟩ | ⟨_, c, hc0, hc⟩ | ⟨h, _⟩
    · cases h
    · cases hc with
      | agg hcs =>
        cases hcs with
        | cons k1 hcs =>
          cases hcs with
          | cons k2 hcs =>
            cases hcs with
            | cons k3 hcs =>
              cases hcs with
              | cons k4 hcs =>
                cases hcs
                cases k1 with
                | p k1 =>
                  cases k2 with
                  | p k2 =>
                    cases k3 with
                    | p k3 =>
                      cases k4 with
                      | p k4 =>
                        obtain ⟨A, cap, k4, hcap, hAn, hA⟩ := k4
                        simp only [Cells] at k1 k2 k3
                        subst k1 k2 k3 k4
                        simp only [List.cons_append, List.nil_append, List.append_nil] at hc0
                        subst hc0
                        have hO : Abs.Own base (est []) ρ = base := own_none base ρ
                        have hq : ∀ (j : Nat) u, a4[j]? = some u → ∃ ad, A = some ad ∧ ad.block < w.heap.size ∧ w.cell? (ad.add j) = some (.string u) := by
                          intro j u hu
                          cases A with
                          | none => rw [(hAn rfl).1] at hu; simp at hu
                          | some ad =>
                            obtain ⟨css, h1, h2, h3⟩ := hA ad rfl
                            have hf := strs_flat h1
                            have hne : css.flatten ≠ [] := by
                              rw [hf]; intro h
                              have : a4 = [] := by simpa using h
                              rw [this] at hu; simp at hu
                            have hs := (h2 hne).1
                            have hcell := h3 j (.string u) (by rw [hf, List.getElem?_map, hu]; rfl)
                            have had : ad.add j = ⟨ad.block, ad.off + j, none⟩ := by
                              cases ad with
                              | mk b o s =>
                                cases hs
                                rw [Addr.add_lit]
                            exact ⟨ad, rfl, World.block_lt_of_cell? w ⟨ad.block, ad.off + j, none⟩ hcell, by rw [had]; exact hcell⟩
                        refine (callsIn_wide (n := 5)).1 ((Frames_in vo a1 a2 a3 a4 A cap most w (fun W hW => ?_) hq hb0 hb1 ha0 ha1 hql).mono ?_)
                        · have := hvo W base ρ [.agg #[.int .i64 a1, .int .i64 a2, .string a3, .slice A a4.length cap]] (fun b hb => Nat.lt_of_lt_of_le (hbase b hb) hW.size)
                            ⟨fun r x hx => (by cases hx), fun r r' b hr => (by cases hr), fun r b hr => (by cases hr)⟩
                            ⟨VRel.stays (fun b hb hn => ⟨hn, hW.block b hb⟩) (fun r _ => rfl) hrel1, trivial⟩
                          refine callsIn_wide.2 (this.mono ?_)
                          rintro e W' ⟨v, ρ', rfl, _, _, hv, _, hf⟩
                          have hvb : v = .bool vo := VRel.p_bool hv
                          have hl : ∀ b, ¬ Live (est []) ρ b := fun b hb => by
                            obtain ⟨r, hr, _⟩ := hb
                            cases hr
                          exact ⟨by rw [hvb], hf.os, hf.tape, hf.output, hf.size, fun k hk => hf.block k hk (hl k)⟩
                        · rintro e W' ⟨v, L, c, rfl, hout, hrow, hB⟩
                          have hLc : (framesOut vo a1 a2 a3 a4 most).1 = L ∧ (framesOut vo a1 a2 a3 a4 most).2 = c := by
                            unfold OutIs at hout
                            unfold framesOut
                            split at hout
                            · rename_i h; rw [if_pos h]; exact ⟨hout.1.symm, hout.2.symm⟩
                            · rename_i h; rw [if_neg h]; exact ⟨hout.1.symm, hout.2.symm⟩
                          rw [hLc.1, hLc.2]
                          refine ⟨_, ρ, rfl, fun _ _ _ => rfl, ⟨fun r x hx => (by cases hx), fun r r' b hr => (by cases hr), fun r b hr => (by cases hr)⟩, ⟨[v, .int .i64 c], rfl, ?_, .inr (.inr ⟨rfl, .p rfl⟩), trivial⟩, fun b hb => ?_, ⟨hB.os, hB.tape, hB.output, hB.size, fun b hb _ => hB.block b hb⟩⟩
                          · refine .inr (.inr ⟨rfl, .p ?_⟩)
                            obtain ⟨css, hc1, hc2⟩ := frs_cells (O := Abs.Own base (est []) ρ) (w := W') L
                            rcases hrow.2 with ⟨rfl, h0⟩ | ⟨g, cp, cur, rfl, hg, hh, hle, hcm, hcs, htk⟩
                            · have : L = [] := List.eq_nil_of_length_eq_zero h0
                              subst this
                              exact ⟨none, 0, rfl, Nat.le_refl _, fun _ => ⟨rfl, rfl⟩, fun ad h => by cases h⟩
                            · refine ⟨_, cp, rfl, hle, fun h => (by cases h), fun ad had => ?_⟩
                              cases had
                              refine ⟨css, hc1, fun _ => ⟨rfl, fun hb => ?_⟩, fun j v hv => ?_⟩
                              · rw [hO] at hb
                                have := hbase _ hb
                                show False
                                have hg' : w.heap.size ≤ g := hg
                                have hlt : g < w.heap.size := this
                                omega
                              · show W'.cell? ⟨g, 0 + j, none⟩ = some v
                                rw [Nat.zero_add, cell_of hh]
                                rw [hc2] at hv
                                exact get_of_take htk hv
                          · obtain ⟨r, hr, _⟩ := hb
                            cases hr
    · cases h
end Go.Proofs.I1
