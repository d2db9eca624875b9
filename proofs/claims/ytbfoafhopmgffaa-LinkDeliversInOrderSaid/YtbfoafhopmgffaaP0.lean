/- The plain laws: what those Lean functions compute. No program in sight. -/
import Derived.Test.YtbfoafhopmgffaaG2
set_option linter.unusedVariables false
set_option linter.unusedSimpArgs false
namespace Go.Proofs.G2
open Go.Abs
open Go.Proofs.I1 (Fr framesOut upto fr pre0 lo0 upto_lo upto_succ upto_len upto_pre)

theorem maxLen_eq : maxLen = 9223372036854775807 := by decide
theorem getD_at {α : Type} {l : List α} {i : Nat} (d : α) (h : i < l.length) : List.getD l i d = l[i] := by simp [List.getD, h]
theorem wsucc {i n : Nat} (h : i < n) (hn : n ≤ maxLen) : IntKind.i64.wrap ((i : Int) + 1) = ((i + 1 : Nat) : Int) := by
  rw [maxLen_eq] at hn
  rw [IntKind.wrap_i64]; omega
theorem wid {n : Int} (h1 : -9223372036854775808 ≤ n) (h2 : n ≤ 9223372036854775807) : IntKind.i64.wrap n = n := by
  rw [IntKind.wrap_i64]; omega
theorem ksucc {n k : Nat} (h : n < k) : ∃ k', k = k' + 1 := ⟨k - 1, by omega⟩

/-! ### bodies -/
def bodyOk (s : ByteArray) : Bool := decide ((s.size : Int) ≤ 65536)

theorem idx49 (q : List ByteArray) (hq : q.length ≤ maxLen) : ∀ (n k i : Nat), q.length - i = n → i ≤ q.length → n < k →
    ∃ r, slices_IndexFunc_49_l0 k q (List.length q : Int) (i : Int) = some r ∧ decide (r ≥ 0) = !((q.drop i).all bodyOk) := by
  intro n
  induction n with
  | zero =>
    intro k i h1 h2 h3
    obtain ⟨k, rfl⟩ := ksucc h3
    have : i = q.length := by omega
    subst this
    refine ⟨-1, ?_, by simp⟩
    unfold slices_IndexFunc_49_l0
    rw [if_neg (by simp)]
  | succ n ih =>
    intro k i h1 h2 h3
    obtain ⟨k, rfl⟩ := ksucc h3
    have hi : i < q.length := by omega
    unfold slices_IndexFunc_49_l0
    rw [if_pos (by simpa using hi), if_pos ⟨by omega, by omega⟩, Int.toNat_natCast, getD_at _ hi]
    unfold link_ValidOut_1 link_isBody
    simp only [Option.bind_some]
    rw [List.drop_eq_getElem_cons hi, List.all_cons]
    cases hb : bodyOk q[i] with
    | false =>
      unfold bodyOk at hb
      rw [hb]
      refine ⟨i, by simp, by simp⟩
    | true =>
      obtain ⟨r, h4, h5⟩ := ih k (i + 1) (by omega) (by omega) (by omega)
      unfold bodyOk at hb
      rw [hb, wsucc hi hq]
      exact ⟨r, by simpa using h4, by simpa using h5⟩

/-- a valid outbox -/
def VOut (b a : Int) (s : ByteArray) (q : List ByteArray) : Prop :=
  0 ≤ b ∧ b ≤ 1099511627776 ∧ 0 ≤ a ∧ a ≤ 1099511627776 ∧ a ≤ b + (q.length : Int) ∧ (q.length : Int) ≤ 1000 ∧ bodyOk s = true ∧ q.all bodyOk = true
instance (b a : Int) (s : ByteArray) (q : List ByteArray) : Decidable (VOut b a s q) := inferInstanceAs (Decidable (_ ∧ _))

theorem within_eq (k : Nat) (n m : Int) : link_within k n m = some (decide (0 ≤ n ∧ n ≤ m)) := by
  unfold link_within
  by_cases h : 0 ≤ n
  · rw [if_pos (by simpa using h)]; simp [h]
  · rw [if_neg (by simpa using h)]; simp [h]

theorem validOut_eq (k : Nat) (b a : Int) (s : ByteArray) (q : List ByteArray) (hq : q.length ≤ maxLen) (hk : q.length < k) : link_ValidOut k b a s q = some (decide (VOut b a s q)) := by
  unfold link_ValidOut slices_ContainsFunc slices_IndexFunc_49
  obtain ⟨r, h1, h2⟩ := idx49 q hq q.length k 0 (by omega) (by omega) hk
  rw [show ((0 : Nat) : Int) = 0 from rfl] at h1
  rw [h1]
  simp only [Option.bind_some, h2, List.drop_zero, within_eq]
  unfold link_end link_isBody
  simp only [Option.bind_some, within_eq]
  by_cases hb : 0 ≤ b ∧ b ≤ 1099511627776
  · rw [if_pos (by simpa using hb)]
    by_cases hlen : (q.length : Int) ≤ 1000
    · rw [wid (by omega) (by omega)]
      by_cases ha : 0 ≤ a ∧ a ≤ mm false 1099511627776 (b + (q.length : Int))
      · rw [if_pos (by simpa using ha), if_pos (by simpa using hlen)]
        have ha2 : a ≤ 1099511627776 ∧ a ≤ b + (q.length : Int) := by
          have := ha.2
          simp only [mm, Bool.false_eq_true, if_false] at this
          split at this <;> omega
        cases hs : bodyOk s with
        | false =>
          have hs' := hs
          unfold bodyOk at hs'
          rw [hs']
          simp [VOut, hs]
        | true =>
          have hs' := hs
          unfold bodyOk at hs'
          rw [hs']
          simp only [if_true]
          congr 1
          rw [Bool.not_not]
          cases hq2 : q.all bodyOk with
          | false => symm; rw [decide_eq_false_iff_not]; intro h; have := h.2.2.2.2.2.2.2; rw [hq2] at this; cases this
          | true => symm; rw [decide_eq_true_eq]; exact ⟨hb.1, hb.2, ha.1, ha2.1, ha2.2, hlen, hs, hq2⟩
      · rw [if_neg (by simpa using ha)]
        congr 1
        symm
        rw [decide_eq_false_iff_not]
        intro h
        refine ha ⟨h.2.2.1, ?_⟩
        simp only [mm, Bool.false_eq_true, if_false]
        have h1 := h.2.2.2.1
        have h2 := h.2.2.2.2.1
        split <;> omega
    · rw [if_neg (c := decide ((List.length q : Int) ≤ 1000) = true) (by simpa using hlen)]
      have : decide (VOut b a s q) = false := by rw [decide_eq_false_iff_not]; intro h; exact hlen h.2.2.2.2.2.1
      rw [this]
      split <;> rfl
  · rw [if_neg (by simpa using hb)]
    congr 1
    symm
    rw [decide_eq_false_iff_not]
    intro h
    exact hb ⟨h.1, h.2.1⟩

theorem refValidOut_l1 (b a : Int) (s : ByteArray) (q : List ByteArray) (hq : q.length ≤ maxLen) : ∀ (n k i : Nat), q.length - i = n → i ≤ q.length → n < k →
    antiquaryref41_ValidOut_l1 k (i : Int) b a s q = some ((q.drop i).all bodyOk) := by
  intro n
  induction n with
  | zero =>
    intro k i h1 h2 h3
    obtain ⟨k, rfl⟩ := ksucc h3
    have : i = q.length := by omega
    subst this
    unfold antiquaryref41_ValidOut_l1
    rw [if_neg (by simp)]
    simp
  | succ n ih =>
    intro k i h1 h2 h3
    obtain ⟨k, rfl⟩ := ksucc h3
    have hi : i < q.length := by omega
    unfold antiquaryref41_ValidOut_l1
    rw [if_pos (by simpa using hi), if_pos ⟨by omega, by omega⟩, Int.toNat_natCast, getD_at _ hi, List.drop_eq_getElem_cons hi, List.all_cons, wsucc hi hq, ih k (i + 1) (by omega) (by omega) (by omega)]
    unfold bodyOk
    by_cases hb : (q[i].size : Int) ≤ 65536
    · rw [if_neg (by simp; omega)]; simp [hb]
    · rw [if_pos (by simp; omega)]; simp [hb]

theorem refValidOut_eq (k : Nat) (b a : Int) (s : ByteArray) (q : List ByteArray) (hq : q.length ≤ maxLen) (hk : q.length < k) : antiquaryref41_ValidOut k b a s q = some (decide (VOut b a s q)) := by
  unfold antiquaryref41_ValidOut antiquaryref41_ValidOut_l0 antiquaryref41_End
  have hl := refValidOut_l1 b a s q hq q.length k 0 (by omega) (by omega) hk
  rw [show ((0 : Nat) : Int) = 0 from rfl] at hl
  simp only [Option.bind_some, hl, List.drop_zero, if_true]
  have no : ¬ VOut b a s q → (some false : Option Bool) = some (decide (VOut b a s q)) := fun h => by rw [decide_eq_false h]
  by_cases h1 : b < 0
  · rw [if_pos (by simpa using h1)]; exact no fun h => by have := h.1; omega
  rw [if_neg (by simpa using h1)]
  by_cases h2 : b > 1099511627776
  · rw [if_pos (by simpa using h2)]; exact no fun h => by have := h.2.1; omega
  rw [if_neg (by simpa using h2)]
  by_cases h3 : a < 0
  · rw [if_pos (by simpa using h3)]; exact no fun h => by have := h.2.2.1; omega
  rw [if_neg (by simpa using h3)]
  by_cases h4 : a > 1099511627776
  · rw [if_pos (by simpa using h4)]; exact no fun h => by have := h.2.2.2.1; omega
  rw [if_neg (by simpa using h4)]
  by_cases h5 : (q.length : Int) > 1000
  · rw [if_pos (by simpa using h5)]; exact no fun h => by have := h.2.2.2.2.2.1; omega
  rw [if_neg (by simpa using h5)]
  by_cases h6 : (s.size : Int) > 65536
  · rw [if_pos (by simpa using h6)]; exact no fun h => by have := h.2.2.2.2.2.2.1; unfold bodyOk at this; simp at this; omega
  rw [if_neg (by simpa using h6), wid (by omega) (by omega)]
  by_cases h7 : a > b + (q.length : Int)
  · rw [if_pos (by simpa using h7)]; exact no fun h => by have := h.2.2.2.2.1; omega
  rw [if_neg (by simpa using h7)]
  congr 1
  cases hq2 : q.all bodyOk with
  | false => symm; rw [decide_eq_false_iff_not]; intro h; have := h.2.2.2.2.2.2.2; rw [hq2] at this; cases this
  | true => symm; rw [decide_eq_true_eq]; exact ⟨by omega, by omega, by omega, by omega, by omega, by omega, by unfold bodyOk; simp; omega, hq2⟩

/-! ### comparing -/
theorem baEq (x y : ByteArray) : (x == y) = decide (x = y) := by
  cases x; cases y
  rename_i a b
  show ByteArray.beq _ _ = _
  unfold ByteArray.beq
  simp
  rw [Bool.eq_iff_iff]; simp
theorem eqbF (x : Fr) : Kd.eqb (Kd.pair Kd.bool (Kd.pair (Kd.int .i64) (Kd.pair Kd.str Kd.unit))) (x.1, (x.2.1, (x.2.2.1, ()))) (x.1, (x.2.1, (x.2.2.1, ()))) = true := by
  simp [Kd.eqb, baEq]

theorem sameFrames_l0 (l : List Fr) (hl : l.length ≤ maxLen) : ∀ (n k i : Nat), l.length - i = n → i ≤ l.length → n < k → antiquaryref41_SameFrames_l0 k l l (i : Int) = some true := by
  intro n
  induction n with
  | zero =>
    intro k i h1 h2 h3
    obtain ⟨k, rfl⟩ := ksucc h3
    have : i = l.length := by omega
    subst this
    unfold antiquaryref41_SameFrames_l0
    rw [if_neg (by simp)]
  | succ n ih =>
    intro k i h1 h2 h3
    obtain ⟨k, rfl⟩ := ksucc h3
    have hi : i < l.length := by omega
    unfold antiquaryref41_SameFrames_l0
    rw [if_pos (by simpa using hi), if_pos ⟨by omega, by omega⟩, if_pos (by omega), eqbF]
    rw [if_neg (by simp), wsucc hi hl, ih k (i + 1) (by omega) (by omega) (by omega)]
theorem sameFrames_refl (k : Nat) (l : List Fr) (hl : l.length ≤ maxLen) (hk : l.length < k) : antiquaryref41_SameFrames k l l = some true := by
  unfold antiquaryref41_SameFrames
  rw [if_neg (by simp)]
  exact sameFrames_l0 l hl l.length k 0 (by omega) (by omega) hk

theorem sameOut_l1 (a1 a2 a6 a7 : Int) (a3 a8 : ByteArray) (q : List ByteArray) (hl : q.length ≤ maxLen) : ∀ (n k i : Nat), q.length - i = n → i ≤ q.length → n < k → antiquaryref41_SameOut_l1 k (i : Int) a1 a2 a3 q a6 a7 a8 q = some true := by
  intro n
  induction n with
  | zero =>
    intro k i h1 h2 h3
    obtain ⟨k, rfl⟩ := ksucc h3
    have : i = q.length := by omega
    subst this
    unfold antiquaryref41_SameOut_l1
    rw [if_neg (by simp)]
  | succ n ih =>
    intro k i h1 h2 h3
    obtain ⟨k, rfl⟩ := ksucc h3
    have hi : i < q.length := by omega
    unfold antiquaryref41_SameOut_l1
    rw [if_pos (by simpa using hi), if_pos ⟨by omega, by omega⟩, if_pos (by omega), if_neg (by simp), wsucc hi hl, ih k (i + 1) (by omega) (by omega) (by omega)]
theorem sameOut_refl (k : Nat) (a1 a2 : Int) (a3 : ByteArray) (q : List ByteArray) (hl : q.length ≤ maxLen) (hk : q.length < k) : antiquaryref41_SameOut k a1 a2 a3 q a1 a2 a3 q = some true := by
  unfold antiquaryref41_SameOut antiquaryref41_SameOut_l0
  rw [if_neg (by simp), if_neg (by simp), if_neg (by simp), if_neg (by simp)]
  exact sameOut_l1 _ _ _ _ _ _ q hl q.length k 0 (by omega) (by omega) hk
end Go.Proofs.G2
set_option linter.unusedVariables false
set_option linter.unusedSimpArgs false
namespace Go.Proofs.G2
open Go.Abs
open Go.Proofs.I1 (Fr framesOut upto fr pre0 lo0 upto_lo upto_succ upto_len upto_pre)

abbrev OutE : Type := Int × Int × ByteArray × List ByteArray × Int
def zeroO (e : Int) : OutE := (0, 0, ⟨#[]⟩, [], e)
def putR (b a : Int) (s : ByteArray) (q : List ByteArray) (x : ByteArray) : OutE :=
  if VOut b a s q ∧ bodyOk x = true then (if q.length = 1000 ∨ b + (q.length : Int) ≥ 1099511627776 then zeroO 2 else (b, a, s, q ++ [x], 0)) else zeroO 1
def foldR (b a : Int) (s : ByteArray) (q : List ByteArray) (u : Int) (x : ByteArray) : OutE :=
  if VOut b a s q ∧ b ≤ u ∧ u ≤ b + (q.length : Int) ∧ bodyOk x = true then (u, a, x, q.drop (u - b).toNat, 0) else zeroO 1
def ackR (b a : Int) (s : ByteArray) (q : List ByteArray) (n : Int) : OutE :=
  if VOut b a s q ∧ 0 ≤ n ∧ n ≤ b + (q.length : Int) then (if n ≤ a then (b, a, s, q, 0) else if n > b then (n, n, ⟨#[]⟩, q.drop (n - b).toNat, 0) else (b, n, s, q, 0)) else zeroO 1

theorem VOut.len {b a : Int} {s : ByteArray} {q : List ByteArray} (h : VOut b a s q) : q.length ≤ 1000 := by have := h.2.2.2.2.2.1; omega
theorem VOut.endw {b a : Int} {s : ByteArray} {q : List ByteArray} (h : VOut b a s q) : IntKind.i64.wrap (b + (q.length : Int)) = b + (q.length : Int) := by
  have h1 := h.1; have h2 := h.2.1; have h3 := h.2.2.2.2.2.1
  exact wid (by omega) (by omega)

section
variable {k : Nat} {b a : Int} {s : ByteArray} {q : List ByteArray} (hq : q.length ≤ maxLen) (hk : q.length < k)
include hq hk

theorem put_eq (x : ByteArray) : link_Put k b a s q x = some (putR b a s q x) := by
  unfold link_Put link_Put_l0 link_Put_l1 link_isBody link_end putR
  rw [validOut_eq k b a s q hq hk]
  simp only [Option.bind_some]
  by_cases hv : VOut b a s q
  · have hl := hv.len
    rw [decide_eq_true hv, hv.endw]
    rw [if_neg (by simp)]
    by_cases hx : bodyOk x = true
    · rw [if_pos (c := VOut b a s q ∧ bodyOk x = true) ⟨hv, hx⟩]
      have hx' : decide ((x.size : Int) ≤ 65536) = true := hx
      rw [hx', if_neg (by simp)]
      by_cases h1 : q.length = 1000
      · rw [if_pos (by simp [h1]), if_pos (by simp [h1]), if_pos (.inl h1)]; rfl
      · rw [if_neg (by simp; omega)]
        by_cases h2 : b + (q.length : Int) ≥ 1099511627776
        · rw [if_pos (by simpa using h2), if_pos (.inr h2)]; rfl
        · rw [if_neg (by simpa using h2), if_neg (c := q.length = 1000 ∨ b + (q.length : Int) ≥ 1099511627776) (by rintro (h | h); exact h1 h; exact h2 h), if_pos (by omega), if_pos (by simp; omega)]
    · have hx' : decide ((x.size : Int) ≤ 65536) = false := by simpa [bodyOk] using hx
      rw [hx', if_pos (by simp), if_neg (by rintro ⟨_, h⟩; exact hx h)]; rfl
  · rw [decide_eq_false hv, if_pos (by simp), if_pos (by simp), if_neg (by rintro ⟨h, _⟩; exact hv h)]; rfl

theorem refPut_eq (x : ByteArray) : antiquaryref41_Put k b a s q x = some (putR b a s q x) := by
  unfold antiquaryref41_Put antiquaryref41_Put_l0 antiquaryref41_Put_l1 antiquaryref41_End putR
  rw [refValidOut_eq k b a s q hq hk]
  simp only [Option.bind_some]
  by_cases hv : VOut b a s q
  · have hl := hv.len
    rw [decide_eq_true hv, hv.endw]
    rw [if_neg (by simp)]
    by_cases hx : bodyOk x = true
    · rw [if_pos (c := VOut b a s q ∧ bodyOk x = true) ⟨hv, hx⟩]
      have hx' : decide ((x.size : Int) > 65536) = false := by unfold bodyOk at hx; simp at hx ⊢; omega
      rw [hx', if_neg (by simp)]
      by_cases h1 : q.length = 1000
      · rw [if_pos (by simp [h1]), if_pos (by simp), if_pos (.inl h1)]; rfl
      · rw [if_neg (by simp; omega)]
        by_cases h2 : b + (q.length : Int) ≥ 1099511627776
        · rw [if_pos (by simpa using h2), if_pos (.inr h2)]; rfl
        · rw [if_neg (by simpa using h2), if_neg (c := q.length = 1000 ∨ b + (q.length : Int) ≥ 1099511627776) (by rintro (h | h); exact h1 h; exact h2 h), if_pos (by simp; omega), if_pos (by simp; omega)]; rfl
    · have hx' : decide ((x.size : Int) > 65536) = true := by unfold bodyOk at hx; simp at hx ⊢; omega
      rw [hx', if_pos (by simp), if_neg (by rintro ⟨_, h⟩; exact hx h)]; rfl
  · rw [decide_eq_false hv, if_pos (by simp), if_pos (by simp), if_neg (by rintro ⟨h, _⟩; exact hv h)]; rfl

theorem fold_eq (u : Int) (x : ByteArray) : link_Fold k b a s q u x = some (foldR b a s q u x) := by
  unfold link_Fold link_Fold_l0 link_isBody link_end foldR
  rw [validOut_eq k b a s q hq hk]
  simp only [Option.bind_some, if_true]
  by_cases hv : VOut b a s q
  · have hl := hv.len
    have h1 := hv.1
    have h2 := hv.2.1
    rw [decide_eq_true hv, hv.endw, if_neg (by simp)]
    by_cases hu : u < b
    · rw [if_pos (by simpa using hu), if_neg (by rintro ⟨_, h, _⟩; omega)]; rfl
    · rw [if_neg (by simpa using hu)]
      by_cases hu2 : u > b + (q.length : Int)
      · rw [if_pos (by simpa using hu2), if_neg (by rintro ⟨_, _, h, _⟩; omega)]; rfl
      · rw [if_neg (by simpa using hu2), wid (n := u - b) (by omega) (by omega)]
        by_cases hx : bodyOk x = true
        · have hx' : decide ((x.size : Int) ≤ 65536) = true := hx
          rw [hx', if_neg (by simp), if_pos (by omega), if_pos ⟨hv, by omega, by omega, hx⟩]
        · have hx' : decide ((x.size : Int) ≤ 65536) = false := by simpa [bodyOk] using hx
          rw [hx', if_pos (by simp), if_neg (by rintro ⟨_, _, _, h⟩; exact hx h)]; rfl
  · rw [decide_eq_false hv, if_pos (by simp), if_neg (by rintro ⟨h, _⟩; exact hv h)]; rfl

theorem refFold_eq (u : Int) (x : ByteArray) : antiquaryref41_Fold k b a s q u x = some (foldR b a s q u x) := by
  unfold antiquaryref41_Fold antiquaryref41_Fold_l0 antiquaryref41_End foldR
  rw [refValidOut_eq k b a s q hq hk]
  simp only [Option.bind_some, if_true]
  by_cases hv : VOut b a s q
  · have hl := hv.len
    have h1 := hv.1
    have h2 := hv.2.1
    rw [decide_eq_true hv, hv.endw, if_neg (by simp)]
    by_cases hu : u < b
    · rw [if_pos (by simpa using hu), if_neg (by rintro ⟨_, h, _⟩; omega)]; rfl
    · rw [if_neg (by simpa using hu)]
      by_cases hu2 : u > b + (q.length : Int)
      · rw [if_pos (by simpa using hu2), if_neg (by rintro ⟨_, _, h, _⟩; omega)]; rfl
      · rw [if_neg (by simpa using hu2), wid (n := u - b) (by omega) (by omega)]
        by_cases hx : bodyOk x = true
        · have hx' : decide ((x.size : Int) > 65536) = false := by unfold bodyOk at hx; simp at hx ⊢; omega
          rw [hx', if_neg (by simp), if_pos (by omega), if_pos (by simp; omega), if_pos ⟨hv, by omega, by omega, hx⟩]; rfl
        · have hx' : decide ((x.size : Int) > 65536) = true := by unfold bodyOk at hx; simp at hx ⊢; omega
          rw [hx', if_pos (by simp), if_neg (by rintro ⟨_, _, _, h⟩; exact hx h)]; rfl
  · rw [decide_eq_false hv, if_pos (by simp), if_neg (by rintro ⟨h, _⟩; exact hv h)]; rfl

theorem ack_eq (n : Int) : link_Acknowledge k b a s q n = some (ackR b a s q n) := by
  unfold link_Acknowledge link_Acknowledge_l0 link_end ackR
  rw [validOut_eq k b a s q hq hk]
  simp only [Option.bind_some, within_eq]
  by_cases hv : VOut b a s q
  · have hl := hv.len
    have h1 := hv.1
    have h2 := hv.2.1
    rw [decide_eq_true hv, hv.endw, if_neg (by simp)]
    by_cases hn : 0 ≤ n ∧ n ≤ b + (q.length : Int)
    · rw [if_pos (c := VOut b a s q ∧ 0 ≤ n ∧ n ≤ b + (q.length : Int)) ⟨hv, hn⟩, decide_eq_true hn, if_neg (by simp)]
      by_cases h3 : n ≤ a
      · rw [if_pos (by simpa using h3), if_pos h3]
      · rw [if_neg (by simpa using h3), if_neg h3]
        by_cases h4 : n > b
        · rw [if_pos (by simpa using h4), if_pos h4, wid (n := n - b) (by omega) (by omega), if_pos (by omega)]
        · rw [if_neg (by simpa using h4), if_neg h4]
    · rw [if_neg (c := VOut b a s q ∧ 0 ≤ n ∧ n ≤ b + (q.length : Int)) (by rintro ⟨_, h⟩; exact hn h), decide_eq_false hn, if_pos (by simp)]; rfl
  · rw [decide_eq_false hv, if_pos (by simp), if_pos (by simp), if_neg (by rintro ⟨h, _⟩; exact hv h)]; rfl

theorem refAck_eq (n : Int) : antiquaryref41_Acknowledge k b a s q n = some (ackR b a s q n) := by
  unfold antiquaryref41_Acknowledge antiquaryref41_Acknowledge_l0 antiquaryref41_End ackR
  rw [refValidOut_eq k b a s q hq hk]
  simp only [Option.bind_some, if_true]
  by_cases hv : VOut b a s q
  · have hl := hv.len
    have h1 := hv.1
    have h2 := hv.2.1
    rw [decide_eq_true hv, hv.endw, if_neg (by simp)]
    by_cases hn : n < 0
    · rw [if_pos (by simpa using hn), if_neg (by rintro ⟨_, h, _⟩; omega)]; rfl
    · rw [if_neg (by simpa using hn)]
      by_cases hn2 : n > b + (q.length : Int)
      · rw [if_pos (by simpa using hn2), if_neg (by rintro ⟨_, _, h⟩; omega)]; rfl
      · rw [if_neg (by simpa using hn2), if_pos (c := VOut b a s q ∧ 0 ≤ n ∧ n ≤ b + (q.length : Int)) ⟨hv, by omega, by omega⟩]
        by_cases h3 : n ≤ a
        · rw [if_pos (by simpa using h3), if_pos h3]
        · rw [if_neg (by simpa using h3), if_neg h3]
          by_cases h4 : n > b
          · rw [if_pos (by simpa using h4), if_pos h4, wid (n := n - b) (by omega) (by omega), if_pos (by omega), if_pos (by simp; omega)]; rfl
          · rw [if_neg (by simpa using h4), if_neg h4]
  · rw [decide_eq_false hv, if_pos (by simp), if_neg (by rintro ⟨h, _⟩; exact hv h)]; rfl

omit hq hk in
theorem refFrames_l2 (most p7 : Int) (hv : VOut b a s q) (hm : 0 ≤ most) : ∀ (n k j : Nat), q.length - j = n → lo0 b a ≤ j → j ≤ q.length → n < k →
    antiquaryref41_Frames_l2 k most (b + (j : Int)) b a s q p7 (upto b a s q j) = some ((upto b a s q q.length).take most.toNat, 0) := by
  have hl := hv.len
  have h1 := hv.1
  have h2 := hv.2.1
  have hpl : ∀ j, (upto b a s q j).length ≤ j + 1 := fun j => by unfold upto pre0; split <;> simp <;> omega
  intro n
  induction n with
  | zero =>
    intro k j h3 h4 h5 h6
    obtain ⟨k, rfl⟩ := ksucc h6
    have : j = q.length := by omega
    subst this
    unfold antiquaryref41_Frames_l2 antiquaryref41_End
    simp only [Option.bind_some]
    rw [hv.endw, if_neg (by simp)]
    have hpl' := hpl q.length
    have hmm : mm false most ((upto b a s q q.length).length : Int) = ((min most.toNat (upto b a s q q.length).length : Nat) : Int) := by
      simp only [mm, Bool.false_eq_true, if_false]
      split <;> omega
    rw [hmm, if_pos (by omega), Int.toNat_natCast, if_pos (by simp; omega)]
    rw [List.nil_append]
    congr 2
    rw [List.take_eq_take_iff]
    omega
  | succ n ih =>
    intro k j h3 h4 h5 h6
    obtain ⟨k, rfl⟩ := ksucc h6
    have hj : j < q.length := by omega
    unfold antiquaryref41_Frames_l2 antiquaryref41_End
    simp only [Option.bind_some]
    have hpl' := hpl j
    rw [hv.endw, if_pos (by simp; omega), wid (n := b + (j : Int) - b) (by omega) (by omega), show b + (j : Int) - b = (j : Int) by omega, if_pos (by omega), Int.toNat_natCast, if_pos (by simp; omega), wid (by omega) (by omega)]
    have := ih k (j + 1) (by omega) (by omega) (by omega) (by omega)
    rw [upto_succ _ _ _ _ _ h4] at this
    rw [show b + (j : Int) + 1 = b + ((j + 1 : Nat) : Int) by omega]
    exact this

theorem refFrames_eq (most : Int) : antiquaryref41_Frames k b a s q most = some (framesOut (decide (VOut b a s q)) b a s q most) := by
  unfold antiquaryref41_Frames antiquaryref41_Frames_l0 antiquaryref41_Frames_l1 framesOut
  rw [refValidOut_eq k b a s q hq hk]
  simp only [Option.bind_some, if_true]
  by_cases hv : VOut b a s q
  · have hl := hv.len
    have h1 := hv.1
    have h2 := hv.2.2.1
    have h3 := hv.2.2.2.2.1
    rw [decide_eq_true hv, if_neg (by simp)]
    by_cases hm : most < 0
    · rw [if_pos (by simpa using hm), if_neg (by rintro ⟨_, h⟩; omega)]
    · rw [if_neg (by simpa using hm), if_pos (c := true = true ∧ 0 ≤ most) ⟨rfl, by omega⟩]
      have hloop := refFrames_l2 most 0 hv (by omega) (q.length - lo0 b a) k (lo0 b a) rfl (Nat.le_refl _) (by unfold lo0; omega) (by omega)
      rw [upto_lo] at hloop
      have hmm : mm true a b = b + (lo0 b a : Int) := by
        unfold lo0
        simp only [mm, if_true]
        split <;> omega
      by_cases hab : a < b
      · rw [if_pos (by simpa using hab), if_pos (by simp), hmm]
        have : pre0 b a s = [(true, b, s, ())] := by unfold pre0; rw [if_pos hab]
        rw [this] at hloop
        exact hloop
      · rw [if_neg (by simpa using hab), hmm]
        have : pre0 b a s = [] := by unfold pre0; rw [if_neg hab]
        rw [this] at hloop
        exact hloop
  · rw [decide_eq_false hv, if_pos (by simp), if_neg (by simp)]
end
end Go.Proofs.G2
set_option linter.unusedVariables false
set_option linter.unusedSimpArgs false
namespace Go.Proofs.G2
open Go.Abs
open Go.Proofs.I1 (Fr framesOut upto fr pre0 lo0 upto_lo upto_succ upto_len upto_pre)

theorem sanity_true (k : Nat) : antiquarylaw41_sanity (k + 40) = some true := by kernel_rfl
theorem sanity_ge {k : Nat} (h : 40 ≤ k) : antiquarylaw41_sanity k = some true := by
  obtain ⟨k, rfl⟩ : ∃ k', k = k' + 40 := ⟨k - 40, by omega⟩
  exact sanity_true k

theorem fewOut_l1 (b a : Int) (s : ByteArray) (q : List ByteArray) (hq : q.length ≤ maxLen) : ∀ (n k i : Nat), q.length - i = n → i ≤ q.length → n < k →
    ∃ r, antiquarylaw41_fewOut_l1 k (i : Int) b a s q = some r := by
  intro n
  induction n with
  | zero =>
    intro k i h1 h2 h3
    obtain ⟨k, rfl⟩ := ksucc h3
    have : i = q.length := by omega
    subst this
    unfold antiquarylaw41_fewOut_l1
    rw [if_neg (by simp)]
    exact ⟨_, rfl⟩
  | succ n ih =>
    intro k i h1 h2 h3
    obtain ⟨k, rfl⟩ := ksucc h3
    have hi : i < q.length := by omega
    unfold antiquarylaw41_fewOut_l1
    rw [if_pos (by simpa using hi), if_pos ⟨by omega, by omega⟩, wsucc hi hq]
    split
    · exact ⟨_, rfl⟩
    · exact ih k (i + 1) (by omega) (by omega) (by omega)

theorem fewOut_some {k : Nat} (hk : 1002 ≤ k) (b a : Int) (s : ByteArray) (q : List ByteArray) : ∃ r, antiquarylaw41_fewOut k b a s q = some r ∧ (r = true → q.length ≤ 1001) := by
  unfold antiquarylaw41_fewOut antiquarylaw41_fewOut_l0
  simp only [if_true]
  by_cases h : (q.length : Int) > 1001
  · refine ⟨false, ?_, fun h => by cases h⟩
    split
    · split
      · rfl
      · rw [if_pos (by simpa using h)]
    · rw [if_pos (by simpa using h)]
  · have hl := fewOut_l1 b a s q (by rw [maxLen_eq]; omega) q.length k 0 (by omega) (by omega) (by omega)
    obtain ⟨r, hr⟩ := hl
    rw [show ((0 : Nat) : Int) = 0 from rfl] at hr
    rw [hr]
    refine (fun ⟨r, hr⟩ => ⟨r, hr, fun _ => by omega⟩ : (∃ r, _ = some r) → _) ?_
    repeat' split
    all_goals exact ⟨_, rfl⟩

theorem drop_le {α : Type} {l : List α} {n m : Nat} (h : l.length ≤ m) : (l.drop n).length ≤ m := by rw [List.length_drop]; omega
theorem putR_len {b a : Int} {s : ByteArray} {q : List ByteArray} {x : ByteArray} {n : Nat} (h : q.length + 1 ≤ n) : (putR b a s q x).2.2.2.1.length ≤ n := by
  unfold putR zeroO
  split
  · split <;> simp; omega
  · simp
theorem foldR_len {b a : Int} {s : ByteArray} {q : List ByteArray} {u : Int} {x : ByteArray} {n : Nat} (h : q.length ≤ n) : (foldR b a s q u x).2.2.2.1.length ≤ n := by
  unfold foldR zeroO
  split
  · simp; omega
  · simp
theorem ackR_len {b a : Int} {s : ByteArray} {q : List ByteArray} {u : Int} {n : Nat} (h : q.length ≤ n) : (ackR b a s q u).2.2.2.1.length ≤ n := by
  unfold ackR zeroO
  split
  · split
    · exact h
    · split
      · simp; omega
      · exact h
  · simp
theorem framesOut_len {vo : Bool} {b a : Int} {s : ByteArray} {q : List ByteArray} {m : Int} : (framesOut vo b a s q m).1.length ≤ q.length + 1 := by
  unfold framesOut
  split
  · have : (upto b a s q q.length).length ≤ q.length + 1 := by
      unfold upto pre0
      split <;> simp <;> omega
    rw [List.length_take]
    omega
  · simp

theorem sends_l1 {k : Nat} (hk : 2000 ≤ k) (p1 : List Fr) (p2 p3 p5 p6 : Int) (p7 : ByteArray) (p8 : List ByteArray) (h1 : p1.length ≤ 1500) (h8 : p8.length ≤ 1500) :
    antiquarylaw41_LinkSendsAsSpecified_l1 k p1 p2 p3 true p5 p6 p7 p8 p1 p2 p5 p6 p7 p8 p3 = some true := by
  unfold antiquarylaw41_LinkSendsAsSpecified_l1
  rw [sanity_ge (by omega), sameFrames_refl k p1 (by rw [maxLen_eq]; omega) (by omega), sameOut_refl k p5 p6 p7 p8 (by rw [maxLen_eq]; omega) (by omega)]
  simp

theorem pureLinkSendsAsSpecified (y0 : (Int × (Int × (ByteArray × (List ByteArray × Unit))))) (y1 : ByteArray) (y2 : Int) (f0 : Kd.Fits (Kd.pair (Kd.int .i64) (Kd.pair (Kd.int .i64) (Kd.pair Kd.str (Kd.pair (Kd.sl Kd.str) Kd.unit)))) y0) (f1 : Kd.Fits Kd.str y1) (f2 : Kd.Fits (Kd.int .i64) y2) : ∃ k, antiquarylaw41_LinkSendsAsSpecified k y0.1 y0.2.1 y0.2.2.1 y0.2.2.2.1 y1 y2 = some true := by
  refine ⟨3000, ?_⟩
  obtain ⟨b, a, s, q, _⟩ := y0
  dsimp only
  unfold antiquarylaw41_LinkSendsAsSpecified
  obtain ⟨r, hr, hlen⟩ := fewOut_some (k := 3000) (by omega) b a s q
  rw [hr, Option.bind_some]
  have hs := sanity_ge (k := 3000) (by omega)
  cases r with
  | false =>
    rw [if_pos (by simp)]
    unfold antiquarylaw41_LinkSendsAsSpecified_l0
    rw [if_pos rfl, hs]; rfl
  | true =>
    have hq := hlen rfl
    have hq1 : q.length ≤ maxLen := by rw [maxLen_eq]; omega
    have hq2 : q.length < 3000 := by omega
    rw [if_neg (by simp)]
    unfold antiquarylaw41_LinkSendsAsSpecified_l0
    split
    · rw [hs]; rfl
    · rw [put_eq hq1 hq2, fold_eq hq1 hq2, validOut_eq _ _ _ _ _ hq1 hq2, ack_eq hq1 hq2, refPut_eq hq1 hq2, refFold_eq hq1 hq2, refFrames_eq hq1 hq2, refAck_eq hq1 hq2, refValidOut_eq _ _ _ _ _ hq1 hq2]
      simp only [Option.bind_some]
      have hp := putR_len (b := b) (a := a) (s := s) (x := y1) (n := 1500) (show q.length + 1 ≤ 1500 by omega)
      have hf := foldR_len (b := b) (a := a) (s := s) (u := y2) (x := y1) (n := 1500) (show q.length ≤ 1500 by omega)
      have ha := ackR_len (b := b) (a := a) (s := s) (u := y2) (n := 1500) (show q.length ≤ 1500 by omega)
      rw [if_pos (by simp), sameOut_refl _ _ _ _ _ (by rw [maxLen_eq]; omega) (by omega), Option.bind_some, if_pos rfl, if_pos (by simp), sameOut_refl _ _ _ _ _ (by rw [maxLen_eq]; omega) (by omega), Option.bind_some, if_pos rfl]
      rw [show ((foldR b a s q y2 y1).2.2.2.2 == (foldR b a s q y2 y1).2.2.2.2) = true by simp]
      have hfr := framesOut_len (vo := decide (VOut b a s q)) (b := b) (a := a) (s := s) (q := q) (m := y2)
      exact sends_l1 (by omega) _ _ _ _ _ _ _ (by omega) ha
end Go.Proofs.G2
set_option linter.unusedVariables false
set_option linter.unusedSimpArgs false
namespace Go.Proofs.G2
open Go.Abs
open Go.Proofs.I1 (Fr framesOut upto fr pre0 lo0 upto_lo upto_succ upto_len upto_pre)

/-! ### a valid inbox -/
def frOk (last : Int) (x : Fr) : Bool := !x.1 && decide (last < x.2.1) && decide (x.2.1 ≤ 2199023255552) && bodyOk x.2.2.1
def chain : Int → List Fr → Bool
  | _, [] => true
  | last, x :: l => frOk last x && chain x.2.1 l
def VIn (n : Int) (l : List Fr) : Prop := 0 ≤ n ∧ n ≤ 2199023255552 ∧ l.length ≤ 64 ∧ chain n l = true
instance (n : Int) (l : List Fr) : Decidable (VIn n l) := inferInstanceAs (Decidable (_ ∧ _))

theorem validIn_l0 (l l2 : List Fr) (n : Int) (hl : l.length ≤ maxLen) : ∀ (m k i : Nat) (last : Int), l.length - i = m → i ≤ l.length → m < k →
    link_ValidIn_l0 k last l (List.length l : Int) (i : Int) n l2 = some (chain last (l.drop i) && decide (0 ≤ n ∧ n ≤ 2199023255552) && decide ((l2.length : Int) ≤ 64)) := by
  intro m
  induction m with
  | zero =>
    intro k i last h1 h2 h3
    obtain ⟨k, rfl⟩ := ksucc h3
    have : i = l.length := by omega
    subst this
    unfold link_ValidIn_l0
    rw [if_neg (by simp), within_eq, Option.bind_some]
    cases hb : decide (0 ≤ n ∧ n ≤ 2199023255552) <;> simp [chain]
  | succ m ih =>
    intro k i last h1 h2 h3
    obtain ⟨k, rfl⟩ := ksucc h3
    have hi : i < l.length := by omega
    unfold link_ValidIn_l0
    have e := List.drop_eq_getElem_cons hi
    rw [if_pos (by simpa using hi), if_pos ⟨by omega, by omega⟩, Int.toNat_natCast, getD_at _ hi, e]
    unfold link_ValidIn_l1 link_isBody
    simp only [Option.bind_some, if_true]
    rw [wsucc hi hl, ih k (i + 1) _ (by omega) (by omega) (by omega)]
    have ec : chain last (l[i] :: l.drop (i + 1)) = (frOk last l[i] && chain l[i].2.1 (l.drop (i + 1))) := rfl
    rw [ec]
    generalize chain l[i].2.1 (l.drop (i + 1)) = c
    unfold frOk
    cases h4 : l[i].1 with
    | true => simp
    | false =>
      by_cases h5 : l[i].2.1 ≤ last
      · have h9 : ¬ last < l[i].2.1 := by omega
        simp [h5, h9]
      · by_cases h6 : l[i].2.1 > 2199023255552
        · have h9 : ¬ l[i].2.1 ≤ 2199023255552 := by omega
          simp [h5, h6, h9]
        · by_cases h7 : (l[i].2.2.1.size : Int) ≤ 65536
          · have h8 : bodyOk l[i].2.2.1 = true := by unfold bodyOk; simpa using h7
            have h9 : last < l[i].2.1 := by omega
            have h10 : l[i].2.1 ≤ 2199023255552 := by omega
            simp [h5, h6, h7, h8, h9, h10]
          · have h8 : bodyOk l[i].2.2.1 = false := by unfold bodyOk; simpa using h7
            simp [h5, h6, h7, h8]

theorem validIn_eq (k : Nat) (n : Int) (l : List Fr) (hl : l.length ≤ maxLen) (hk : l.length < k) : link_ValidIn k n l = some (decide (VIn n l)) := by
  unfold link_ValidIn
  have := validIn_l0 l l n hl l.length k 0 n (by omega) (by omega) hk
  rw [show ((0 : Nat) : Int) = 0 from rfl] at this
  rw [this, List.drop_zero]
  congr 1
  rw [Bool.eq_iff_iff]
  simp only [Bool.and_eq_true, decide_eq_true_eq]
  constructor
  · rintro ⟨⟨h1, h2⟩, h3⟩; exact ⟨h2.1, h2.2, by omega, h1⟩
  · rintro ⟨h1, h2, h3, h4⟩; exact ⟨⟨h4, h1, h2⟩, by omega⟩

theorem refValidIn_l1 (l : List Fr) (n : Int) (hl : l.length ≤ maxLen) : ∀ (m k i : Nat) (last : Int), l.length - i = m → i ≤ l.length → m < k →
    antiquaryref41_ValidIn_l1 k last (i : Int) n l = some (chain last (l.drop i)) := by
  intro m
  induction m with
  | zero =>
    intro k i last h1 h2 h3
    obtain ⟨k, rfl⟩ := ksucc h3
    have : i = l.length := by omega
    subst this
    unfold antiquaryref41_ValidIn_l1
    rw [if_neg (by simp)]
    simp [chain]
  | succ m ih =>
    intro k i last h1 h2 h3
    obtain ⟨k, rfl⟩ := ksucc h3
    have hi : i < l.length := by omega
    unfold antiquaryref41_ValidIn_l1
    have e := List.drop_eq_getElem_cons hi
    rw [if_pos (by simpa using hi), if_pos ⟨by omega, by omega⟩, Int.toNat_natCast, getD_at _ hi, e]
    unfold antiquaryref41_ValidIn_l2
    simp only [Option.bind_some, if_true]
    rw [wsucc hi hl, ih k (i + 1) _ (by omega) (by omega) (by omega)]
    have ec : chain last (l[i] :: l.drop (i + 1)) = (frOk last l[i] && chain l[i].2.1 (l.drop (i + 1))) := rfl
    rw [ec]
    generalize chain l[i].2.1 (l.drop (i + 1)) = c
    unfold frOk
    cases h4 : l[i].1 with
    | true => simp
    | false =>
      by_cases h5 : l[i].2.1 ≤ last
      · have h9 : ¬ last < l[i].2.1 := by omega
        simp [h5, h9]
      · by_cases h6 : l[i].2.1 > 2199023255552
        · have h9 : ¬ l[i].2.1 ≤ 2199023255552 := by omega
          simp [h5, h6, h9]
        · by_cases h7 : (l[i].2.2.1.size : Int) ≤ 65536
          · have h8 : bodyOk l[i].2.2.1 = true := by unfold bodyOk; simpa using h7
            have h9 : last < l[i].2.1 := by omega
            have h10 : l[i].2.1 ≤ 2199023255552 := by omega
            have h11 : ¬ (l[i].2.2.1.size : Int) > 65536 := by omega
            simp [h5, h6, h11, h8, h9, h10]
          · have h8 : bodyOk l[i].2.2.1 = false := by unfold bodyOk; simpa using h7
            have h11 : (l[i].2.2.1.size : Int) > 65536 := by omega
            simp [h5, h6, h11, h8]

theorem refValidIn_eq (k : Nat) (n : Int) (l : List Fr) (hl : l.length ≤ maxLen) (hk : l.length < k) : antiquaryref41_ValidIn k n l = some (decide (VIn n l)) := by
  unfold antiquaryref41_ValidIn antiquaryref41_ValidIn_l0
  have hloop := refValidIn_l1 l n hl l.length k 0 n (by omega) (by omega) hk
  rw [show ((0 : Nat) : Int) = 0 from rfl, List.drop_zero] at hloop
  simp only [if_true, hloop]
  have no : ¬ VIn n l → (some false : Option Bool) = some (decide (VIn n l)) := fun h => by rw [decide_eq_false h]
  by_cases h1 : n < 0
  · rw [if_pos (by simpa using h1)]; exact no fun h => by have := h.1; omega
  rw [if_neg (by simpa using h1)]
  by_cases h2 : n > 2199023255552
  · rw [if_pos (by simpa using h2)]; exact no fun h => by have := h.2.1; omega
  rw [if_neg (by simpa using h2)]
  by_cases h3 : (l.length : Int) > 64
  · rw [if_pos (by simpa using h3)]; exact no fun h => by have := h.2.2.1; omega
  rw [if_neg (by simpa using h3)]
  congr 1
  cases hc : chain n l with
  | false => symm; rw [decide_eq_false_iff_not]; intro h; have := h.2.2.2; rw [hc] at this; cases this
  | true => symm; rw [decide_eq_true_eq]; exact ⟨by omega, by omega, by omega, hc⟩

/-! ### order -/
theorem chain_cons {last : Int} {x : Fr} {l : List Fr} : chain last (x :: l) = true ↔ frOk last x = true ∧ chain x.2.1 l = true := by
  rw [chain, Bool.and_eq_true]
theorem frOk_iff {last : Int} {x : Fr} : frOk last x = true ↔ x.1 = false ∧ last < x.2.1 ∧ x.2.1 ≤ 2199023255552 ∧ bodyOk x.2.2.1 = true := by
  unfold frOk
  simp only [Bool.and_eq_true, Bool.not_eq_true', decide_eq_true_eq, and_assoc]
theorem chain_mono {a b : Int} (h : b ≤ a) : ∀ {l : List Fr}, chain a l = true → chain b l = true
  | [], _ => rfl
  | x :: l, hc => by
    rw [chain_cons, frOk_iff] at hc ⊢
    exact ⟨⟨hc.1.1, by omega, hc.1.2.2⟩, hc.2⟩
theorem chain_all {last : Int} : ∀ {l : List Fr}, chain last l = true → ∀ x ∈ l, last < x.2.1 ∧ x.2.1 ≤ 2199023255552 ∧ x.1 = false ∧ bodyOk x.2.2.1 = true
  | [], _, x, hx => by cases hx
  | y :: l, hc, x, hx => by
    rw [chain_cons, frOk_iff] at hc
    rcases List.mem_cons.1 hx with rfl | hx
    · exact ⟨hc.1.2.1, hc.1.2.2.1, hc.1.1, hc.1.2.2.2⟩
    · have := chain_all hc.2 x hx
      exact ⟨by omega, this.2⟩
theorem chain_drop {last : Int} : ∀ {l : List Fr} (i : Nat), chain last l = true → chain last (l.drop i) = true
  | l, 0, h => h
  | [], _ + 1, h => h
  | x :: l, i + 1, h => by
    rw [chain_cons, frOk_iff] at h
    exact chain_drop i (chain_mono (by omega) h.2)
theorem chain_lt {last : Int} {l : List Fr} (h : chain last l = true) : ∀ {i j : Nat} (hij : i < j) (hj : j < l.length), (l[i]'(by omega)).2.1 < l[j].2.1 := by
  intro i j hij hj
  have h1 := chain_drop i h
  rw [List.drop_eq_getElem_cons (by omega : i < l.length), chain_cons] at h1
  have h2 := chain_all h1.2 l[j] (by
    rw [List.mem_iff_getElem]
    exact ⟨j - (i + 1), by simp; omega, by simp; congr 1; omega⟩)
  exact h2.1

/-! ### the search -/
theorem half_eq {lo hi : Nat} (h : lo + hi < 4611686018427387904) : IntKind.i64.wrap (Int.fdiv (IntKind.u64.wrap (IntKind.i64.wrap ((lo : Int) + (hi : Int)))) (2 ^ (min (Int.toNat (1 : Int)) (IntKind.bits .u64)))) = (((lo + hi) / 2 : Nat) : Int) := by
  rw [wid (n := (lo : Int) + (hi : Int)) (by omega) (by omega)]
  have hu : IntKind.u64.wrap ((lo : Int) + (hi : Int)) = (lo : Int) + (hi : Int) := by
    simp only [IntKind.wrap, IntKind.bits, IntKind.signed]
    simp
    omega
  rw [hu]
  have h2 : (2 : Int) ^ (min (Int.toNat (1 : Int)) (IntKind.bits .u64)) = 2 := by decide
  rw [h2, Int.fdiv_eq_ediv_of_nonneg _ (by omega), wid (by omega) (by omega)]
  omega

theorem bsearch_l0 (l : List Fr) (t : Int) (hl : l.length ≤ 1000000) (hc : chain 0 l = true) (ht0 : 0 ≤ t) (ht1 : t ≤ 1099511627776) : ∀ (m k lo hi : Nat), hi - lo = m → lo ≤ hi → hi ≤ l.length → m < k →
    (∀ i (h : i < l.length), i < lo → l[i].2.1 < t) → (∀ i (h : i < l.length), hi ≤ i → t ≤ l[i].2.1) →
    ∃ p : Nat, slices_BinarySearchFunc_l0 k l t (List.length l : Int) (lo : Int) (hi : Int) = some ((p : Int), decide (∃ h : p < l.length, l[p].2.1 = t)) ∧ p ≤ l.length ∧
      (∀ i (h : i < l.length), i < p → l[i].2.1 < t) ∧ (∀ i (h : i < l.length), p ≤ i → t ≤ l[i].2.1) := by
  intro m
  induction m using Nat.strongRecOn with
  | _ m ih =>
    intro k lo hi h1 h2 h3 h4 h5 h6
    obtain ⟨k, rfl⟩ := ksucc h4
    unfold slices_BinarySearchFunc_l0
    by_cases hlt : lo < hi
    · rw [if_pos (by simpa using hlt), half_eq (by omega)]
      obtain ⟨mid, hmid⟩ : ∃ mid, mid = (lo + hi) / 2 := ⟨_, rfl⟩
      rw [← hmid]
      have hm : mid < l.length := by omega
      rw [if_pos ⟨by omega, by omega⟩, Int.toNat_natCast, getD_at _ hm]
      unfold link_Receive_1
      have hmem := chain_all hc l[mid] (List.getElem_mem hm)
      rw [Option.bind_some, wid (n := l[mid].2.1 - t) (by omega) (by omega)]
      by_cases hx : l[mid].2.1 < t
      · rw [if_pos (by simp; omega), wsucc hm (by rw [maxLen_eq]; omega)]
        refine ih (hi - (mid + 1)) (by omega) k (mid + 1) hi rfl (by omega) h3 (by omega) (fun i h hi' => ?_) h6
        by_cases hq : i = mid
        · subst hq; exact hx
        · have := chain_lt hc (show i < mid by omega) hm
          omega
      · rw [if_neg (by simp; omega)]
        refine ih (mid - lo) (by omega) k lo mid rfl (by omega) (by omega) (by omega) h5 (fun i h hi' => ?_)
        by_cases hq : i = mid
        · subst hq; omega
        · have := chain_lt hc (show mid < i by omega) h
          omega
    · have hlh : lo = hi := by omega
      subst hlh
      rw [if_neg (by simp)]
      refine ⟨lo, ?_, h3, h5, h6⟩
      by_cases hlen : lo < l.length
      · rw [if_pos (by simpa using hlen), if_pos ⟨by omega, by omega⟩, Int.toNat_natCast, getD_at _ hlen]
        unfold link_Receive_1
        have hmem := chain_all hc l[lo] (List.getElem_mem hlen)
        rw [Option.bind_some, wid (n := l[lo].2.1 - t) (by omega) (by omega)]
        congr 2
        rw [Bool.eq_iff_iff, beq_iff_eq, decide_eq_true_eq]
        constructor
        · intro h; exact ⟨hlen, by omega⟩
        · rintro ⟨_, h⟩; omega
      · rw [if_neg (by simpa using hlen)]
        congr 2
        symm
        rw [decide_eq_false_iff_not]
        rintro ⟨h, _⟩
        exact hlen h

theorem bsearch_eq (k : Nat) (l : List Fr) (t n : Int) (hl : l.length ≤ 1000000) (hn : 0 ≤ n) (hc : chain n l = true) (ht0 : 0 ≤ t) (ht1 : t ≤ 1099511627776) (hk : l.length < k) :
    ∃ p : Nat, slices_BinarySearchFunc k l t = some ((p : Int), decide (∃ h : p < l.length, l[p].2.1 = t)) ∧ p ≤ l.length ∧
      (∀ i (h : i < l.length), i < p → l[i].2.1 < t) ∧ (∀ i (h : i < l.length), p ≤ i → t ≤ l[i].2.1) := by
  have := bsearch_l0 l t hl (chain_mono hn hc) ht0 ht1 l.length k 0 l.length (by omega) (by omega) (by omega) hk (fun i h hi => by omega) (fun i h hi => by omega)
  exact this

/-! ### putting in -/
def insF (f : Fr) : List Fr → List Fr
  | [] => [f]
  | x :: l => if x.2.1 = f.2.1 then x :: l else if f.2.1 < x.2.1 then f :: x :: l else x :: insF f l

theorem insF_at (f : Fr) : ∀ (l : List Fr) (p : Nat), p ≤ l.length → (∀ i (h : i < l.length), i < p → l[i].2.1 < f.2.1) → (∀ i (h : i < l.length), p ≤ i → f.2.1 ≤ l[i].2.1) →
    insF f l = if (∃ h : p < l.length, l[p].2.1 = f.2.1) then l else l.take p ++ [f] ++ l.drop p
  | [], p, hp, _, _ => by
    rw [if_neg (by rintro ⟨h, _⟩; simp at h)]
    simp [insF]
  | x :: l, 0, hp, h1, h2 => by
    have h3 := h2 0 (by simp) (Nat.le_refl _)
    simp only [List.getElem_cons_zero] at h3
    by_cases hx : x.2.1 = f.2.1
    · rw [if_pos ⟨by simp, hx⟩, insF, if_pos hx]
    · rw [if_neg (by rintro ⟨_, h⟩; exact hx h), insF, if_neg hx, if_pos (by omega)]
      simp
  | x :: l, p + 1, hp, h1, h2 => by
    have h3 := h1 0 (by simp) (by omega)
    simp only [List.getElem_cons_zero] at h3
    have ih := insF_at f l p (by simpa using hp) (fun i h hi => by have := h1 (i + 1) (by simpa using h) (by omega); simpa using this) (fun i h hi => by have := h2 (i + 1) (by simpa using h) (by omega); simpa using this)
    rw [insF, if_neg (by omega), if_neg (by omega), ih]
    by_cases hq : ∃ h : p < l.length, l[p].2.1 = f.2.1
    · rw [if_pos hq, if_pos (by obtain ⟨h, h'⟩ := hq; exact ⟨by simpa using h, by simpa using h'⟩)]
    · rw [if_neg hq, if_neg (by rintro ⟨h, h'⟩; exact hq ⟨by simpa using h, by simpa using h'⟩)]
      simp
end Go.Proofs.G2
set_option linter.unusedVariables false
set_option linter.unusedSimpArgs false
namespace Go.Proofs.G2
open Go.Abs
open Go.Proofs.I1 (Fr framesOut upto fr pre0 lo0 upto_lo upto_succ upto_len upto_pre)

/-- what is delivered, and what is left: the next number, the delivered frames, the rest -/
def drain : List Fr → Int → List Fr → Int × List Fr × List Fr
  | [], n, out => (n, out, [])
  | x :: l, n, out => if x.2.1 = n then drain l (n + 1) (out ++ [x]) else if x.2.1 < n then drain l n out else ((drain l n out).1, (drain l n out).2.1, x :: (drain l n out).2.2)

theorem recv2_eq (k : Nat) (x : Fr) (n : Int) (a5 out : List Fr) (hn0 : 0 ≤ n) (hn : n < 4611686018427387904) (ho : out.length < 4000000) :
    link_Receive_2 k x.1 x.2.1 x.2.2.1 n a5 out = some (if x.2.1 = n then (true, n + 1, a5, out ++ [x]) else (decide (x.2.1 < n), n, a5, out)) := by
  unfold link_Receive_2
  by_cases h : x.2.1 = n
  · rw [if_pos (by simpa using h), if_pos (by simp; omega), if_pos h, wid (by omega) (by omega)]
  · rw [if_neg (by simpa using h), if_neg h]

/-! ### slices.DeleteFunc -/
theorem drop_set_lt {α : Type} (l : List α) (i j : Nat) (v : α) (h : i < j) : (l.set i v).drop j = l.drop j := List.drop_set_of_lt h

theorem del_l0 (a5 : List Fr) : ∀ (m k i j : Nat) (arr : List Fr) (n : Int) (out : List Fr), arr.length - j = m → i ≤ j → j ≤ arr.length → m < k → arr.length ≤ 1000000 →
    0 ≤ n → n + (m : Int) < 4611686018427387904 → out.length + m < 4000000 →
    slices_DeleteFunc_l0 k (i : Int) (j : Int) arr n a5 out = some ((drain (arr.drop j) n out).1, a5, (drain (arr.drop j) n out).2.1, arr.take i ++ (drain (arr.drop j) n out).2.2) := by
  intro m
  induction m with
  | zero =>
    intro k i j arr n out h1 h2 h3 h4 h5 h6 h7 h8
    obtain ⟨k, rfl⟩ := ksucc h4
    have : j = arr.length := by omega
    subst this
    unfold slices_DeleteFunc_l0
    rw [if_neg (by simp), if_pos ⟨by omega, by omega⟩, Int.toNat_natCast, if_pos (by omega), if_pos (by simp; omega), List.drop_length]
    have : List.take i (List.take i arr ++ List.replicate (arr.length - i) (Kd.dflt (Kd.pair Kd.bool (Kd.pair (Kd.int .i64) (Kd.pair Kd.str Kd.unit)))) ++ List.drop (i + (arr.length - i)) arr) = List.take i arr := by
      rw [List.append_assoc, List.take_append_of_le_length (by rw [List.length_take]; omega), List.take_take, Nat.min_self]
    rw [this]
    simp [drain]
  | succ m ih =>
    intro k i j arr n out h1 h2 h3 h4 h5 h6 h7 h8
    obtain ⟨k, rfl⟩ := ksucc h4
    have hj : j < arr.length := by omega
    unfold slices_DeleteFunc_l0
    rw [if_pos (by simpa using hj), if_pos ⟨by omega, by omega, Nat.le_refl _⟩, Int.toNat_natCast, if_pos hj, getD_at _ hj, recv2_eq k arr[j] n a5 out h6 (by omega) (by omega), Option.bind_some]
    unfold slices_DeleteFunc_l1
    rw [wsucc hj (by rw [maxLen_eq]; omega), List.drop_eq_getElem_cons hj]
    by_cases hx : arr[j].2.1 = n
    · rw [if_pos hx]
      dsimp only
      rw [if_neg (by simp), ih k i (j + 1) arr (n + 1) (out ++ [arr[j]]) (by omega) (by omega) (by omega) (by omega) h5 (by omega) (by omega) (by simp; omega)]
      rw [drain, if_pos hx]
    · rw [if_neg hx]
      dsimp only
      by_cases hy : arr[j].2.1 < n
      · rw [if_neg (by simpa using hy), ih k i (j + 1) arr n out (by omega) (by omega) (by omega) (by omega) h5 h6 (by omega) (by omega)]
        rw [drain, if_neg hx, if_pos hy]
      · rw [if_pos (by simpa using hy), if_pos ⟨by omega, by omega⟩, Int.toNat_natCast, if_pos (by omega), wsucc (show i < arr.length by omega) (by rw [maxLen_eq]; omega)]
        rw [ih k (i + 1) (j + 1) (arr.set i (arr[j].1, (arr[j].2.1, (arr[j].2.2.1, ())))) n out (by rw [List.length_set]; omega) (by omega) (by rw [List.length_set]; omega) (by omega) (by rw [List.length_set]; omega) h6 (by omega) (by omega)]
        rw [drop_set_lt _ _ _ _ (by omega), drain, if_neg hx, if_neg hy]
        have : List.take (i + 1) (arr.set i (arr[j].1, (arr[j].2.1, (arr[j].2.2.1, ())))) = List.take i arr ++ [arr[j]] := by
          rw [List.take_set, List.take_succ_eq_append_getElem (by omega), List.set_append_right _ _ (by rw [List.length_take]; omega)]
          have : i - (List.take i arr).length = 0 := by rw [List.length_take]; omega
          rw [this]; rfl
        rw [this]
        dsimp only
        rw [List.append_assoc]; rfl

theorem idx_l0 (a5 arr : List Fr) (harr : arr.length ≤ 1000000) : ∀ (m k i : Nat) (n : Int) (out : List Fr), arr.length - i = m → i ≤ arr.length → m < k → 
    0 ≤ n → n < 4611686018427387904 → out.length < 4000000 →
    ∃ r : Int × Int × List Fr × List Fr, slices_IndexFunc_l0 k ((List.length arr) : Int) (i : Int) arr n a5 out = some r ∧
      ((r = (-1, n, a5, out) ∧ drain (arr.drop i) n out = (n, out, arr.drop i)) ∨
       (∃ p : Nat, ∃ hp : p < arr.length, i ≤ p ∧ drain (arr.drop i) n out = ((drain (arr.drop p) n out).1, (drain (arr.drop p) n out).2.1, (arr.drop i).take (p - i) ++ (drain (arr.drop p) n out).2.2) ∧
         ((arr[p].2.1 = n ∧ r = ((p : Int), n + 1, a5, out ++ [arr[p]])) ∨ (arr[p].2.1 < n ∧ r = ((p : Int), n, a5, out))))) := by
  intro m
  induction m with
  | zero =>
    intro k i n out h1 h2 h3 h4 h5 h6
    obtain ⟨k, rfl⟩ := ksucc h3
    have : i = arr.length := by omega
    subst this
    unfold slices_IndexFunc_l0
    refine ⟨_, by rw [if_neg (by simp)], .inl ⟨rfl, ?_⟩⟩
    simp [drain]
  | succ m ih =>
    intro k i n out h1 h2 h3 h4 h5 h6
    obtain ⟨k, rfl⟩ := ksucc h3
    have hi : i < arr.length := by omega
    unfold slices_IndexFunc_l0
    rw [if_pos (by simpa using hi), if_pos ⟨by omega, by omega, Nat.le_refl _⟩, Int.toNat_natCast, if_pos hi, getD_at _ hi, recv2_eq k arr[i] n a5 out h4 h5 h6, Option.bind_some]
    by_cases hx : arr[i].2.1 = n
    · rw [if_pos hx]
      dsimp only
      rw [if_pos rfl]
      exact ⟨_, rfl, .inr ⟨i, hi, Nat.le_refl _, by simp, .inl ⟨hx, rfl⟩⟩⟩
    · rw [if_neg hx]
      dsimp only
      by_cases hy : arr[i].2.1 < n
      · rw [if_pos (by simpa using hy)]
        exact ⟨_, rfl, .inr ⟨i, hi, Nat.le_refl _, by simp, .inr ⟨hy, rfl⟩⟩⟩
      · rw [if_neg (by simpa using hy), wsucc hi (by rw [maxLen_eq]; omega)]
        obtain ⟨r, hr, hc⟩ := ih k (i + 1) n out (by omega) (by omega) (by omega) h4 h5 h6
        refine ⟨r, hr, ?_⟩
        rw [List.drop_eq_getElem_cons hi]
        rcases hc with ⟨h7, h8⟩ | ⟨p, hp, h7, h8, h9⟩
        · refine .inl ⟨h7, ?_⟩
          rw [drain, if_neg hx, if_neg hy, h8]
        · refine .inr ⟨p, hp, by omega, ?_, h9⟩
          rw [drain, if_neg hx, if_neg hy, h8]
          dsimp only
          rw [show p - i = (p - (i + 1)) + 1 by omega, List.take_succ_cons]
          rfl

theorem del_eq (k : Nat) (a5 arr : List Fr) (n : Int) (out : List Fr) (h1 : arr.length < k) (h2 : arr.length ≤ 1000000) (h3 : 0 ≤ n) (h4 : n < 4000000000000000) (h5 : out.length < 1000) :
    slices_DeleteFunc k arr n a5 out = some ((drain arr n out).1, a5, (drain arr n out).2.1, (drain arr n out).2.2) := by
  unfold slices_DeleteFunc slices_IndexFunc
  obtain ⟨r, hr, hc⟩ := idx_l0 a5 arr h2 arr.length k 0 n out (by omega) (by omega) h1 h3 (by omega) (by omega)
  rw [show ((0 : Nat) : Int) = 0 from rfl] at hr
  rw [hr, Option.bind_some]
  rw [List.drop_zero] at hc
  rcases hc with ⟨rfl, h6⟩ | ⟨p, hp, _, h6, h7⟩
  · dsimp only
    rw [if_pos (by simp), h6]
  · have hd := List.drop_eq_getElem_cons hp
    rw [Nat.sub_zero] at h6
    rcases h7 with ⟨h7, rfl⟩ | ⟨h7, rfl⟩
    · dsimp only
      rw [if_neg (by simp), wsucc hp (by rw [maxLen_eq]; omega), del_l0 a5 (arr.length - (p + 1)) k p (p + 1) arr (n + 1) (out ++ [arr[p]]) rfl (by omega) (by omega) (by omega) h2 (by omega) (by omega) (by simp; omega)]
      rw [hd, drain, if_pos h7] at h6
      rw [h6]
    · dsimp only
      rw [if_neg (by simp), wsucc hp (by rw [maxLen_eq]; omega), del_l0 a5 (arr.length - (p + 1)) k p (p + 1) arr n out rfl (by omega) (by omega) (by omega) h2 (by omega) (by omega) (by omega)]
      rw [hd, drain, if_neg (by omega), if_pos h7] at h6
      rw [h6]

/-! ### link.Receive -/
abbrev InE : Type := Int × List Fr × List Fr × Int
def recvR (n : Int) (l : List Fr) (f : Fr) : InE :=
  if VIn n l ∧ 0 ≤ f.2.1 ∧ f.2.1 ≤ 1099511627776 ∧ bodyOk f.2.2.1 = true then
    if f.2.1 < n ∨ f.1 = true ∧ f.2.1 = n then (n, l, [], 0)
    else if f.1 = false ∧ f.2.1 > n then (n, if l.length < 64 then insF f l else l, [], 0)
    else ((drain l (if f.1 = true then f.2.1 else f.2.1 + 1) [f]).1, (drain l (if f.1 = true then f.2.1 else f.2.1 + 1) [f]).2.2, (drain l (if f.1 = true then f.2.1 else f.2.1 + 1) [f]).2.1, 0)
  else (n, l, [], 1)

theorem recv_l4 (k : Nat) (n : Int) (l : List Fr) (f : Fr) (hl : l.length ≤ 64) (hk : 64 < k) (h0 : 0 ≤ n) (h1 : n < 4000000000000000) (p9 : Int) :
    link_Receive_l4 k n l p9 [f] = some ((drain l n [f]).1, (drain l n [f]).2.2, (drain l n [f]).2.1, 0) := by
  unfold link_Receive_l4
  rw [if_pos (by omega), del_eq k l l n [f] (by omega) (by omega) h0 h1 (by simp), Option.bind_some]

theorem recv_eq (k : Nat) (n : Int) (l : List Fr) (f : Fr) (hl : l.length ≤ maxLen) (hk : l.length < k) (hk2 : 70 < k) :
    link_Receive k n l f.1 f.2.1 f.2.2.1 = some (recvR n l f) := by
  unfold link_Receive link_Receive_l0 link_isBody recvR
  rw [validIn_eq k n l hl hk]
  simp only [Option.bind_some, if_true, within_eq]
  by_cases hv : VIn n l
  · rw [decide_eq_true hv, if_neg (by simp)]
    have hn0 := hv.1
    have hn1 := hv.2.1
    have hl64 := hv.2.2.1
    by_cases hs : 0 ≤ f.2.1 ∧ f.2.1 ≤ 1099511627776
    · rw [decide_eq_true hs, if_neg (by simp)]
      by_cases hb : bodyOk f.2.2.1 = true
      · have hb' : decide ((f.2.2.1.size : Int) ≤ 65536) = true := hb
        rw [hb', if_neg (by simp), if_pos (c := VIn n l ∧ 0 ≤ f.2.1 ∧ f.2.1 ≤ 1099511627776 ∧ bodyOk f.2.2.1 = true) ⟨hv, hs.1, hs.2, hb⟩]
        obtain ⟨p, hp, hpl, hp1, hp2⟩ := bsearch_eq k l f.2.1 n (by omega) hn0 hv.2.2.2 hs.1 hs.2 hk
        rw [hp, Option.bind_some]
        dsimp only
        unfold link_Receive_l1
        have hins := insF_at f l p hpl hp1 hp2
        have ef : (f.1, (f.2.1, (f.2.2.1, ()))) = f := rfl
        by_cases h1 : f.2.1 < n
        · rw [if_pos (by simpa using h1), if_pos (by simpa using h1), if_pos (.inl h1)]
        · rw [if_neg (by simpa using h1)]
          cases hf : f.1 with
          | true =>
            rw [if_pos rfl]
            by_cases h2 : f.2.1 = n
            · rw [if_pos (by simpa using h2), if_pos (.inr ⟨rfl, h2⟩)]
            · rw [if_neg (by simpa using h2), if_neg (by simp), if_neg (by rintro (h | ⟨_, h⟩); exact h1 h; exact h2 h), if_neg (by simp), if_pos rfl]
              unfold link_Receive_l2
              rw [if_neg (by simp), if_neg (by simp)]
              have e2 : (true, (f.2.1, (f.2.2.1, ()))) = f := by rw [← hf]
              rw [e2, recv_l4 k f.2.1 l f hl64 (by omega) hs.1 (by omega) 0]
          | false =>
            rw [if_neg (by simp), if_neg (by simp), if_pos (by simp), if_neg (by rintro (h | ⟨h, _⟩); exact h1 h; cases h)]
            unfold link_Receive_l2
            by_cases h2 : f.2.1 > n
            · rw [if_pos (by simpa using h2), if_pos (c := false = false ∧ f.2.1 > n) ⟨rfl, h2⟩]
              unfold link_Receive_l3
              by_cases hq : ∃ h : p < l.length, l[p].2.1 = f.2.1
              · rw [decide_eq_true hq, if_neg (by simp), if_neg (by simp)]
                rw [if_pos hq] at hins
                rw [hins]
                split <;> rfl
              · rw [decide_eq_false hq, if_pos (by simp)]
                rw [if_neg hq] at hins
                by_cases h3 : l.length < 64
                · rw [if_pos (by simp; omega), if_pos (by omega), if_pos ⟨by omega, by omega, by simp, by simp; omega⟩, if_pos h3, hins, Int.toNat_natCast]
                  have e2 : (false, (f.2.1, (f.2.2.1, ()))) = f := by rw [← hf]
                  rw [e2]
                · rw [if_neg (by simp; omega), if_neg h3]
            · rw [if_neg (by simpa using h2), if_neg (c := false = false ∧ f.2.1 > n) (by rintro ⟨_, h⟩; exact h2 h), if_pos (by simp), if_neg (by simp), wid (n := f.2.1 + 1) (by omega) (by omega)]
              have e2 : (false, (f.2.1, (f.2.2.1, ()))) = f := by rw [← hf]
              rw [e2]
              exact recv_l4 k (f.2.1 + 1) l f hl64 (by omega) (by omega) (by omega) 0
      · have hb' : decide ((f.2.2.1.size : Int) ≤ 65536) = false := by simpa [bodyOk] using hb
        rw [hb', if_pos (by simp), if_neg (by rintro ⟨_, _, _, h⟩; exact hb h)]
    · rw [decide_eq_false hs, if_pos (by simp), if_neg (by rintro ⟨_, h2, h3, _⟩; exact hs ⟨h2, h3⟩)]
  · rw [decide_eq_false hv, if_pos (by simp), if_neg (by rintro ⟨h, _⟩; exact hv h)]

/-! ### the specification's Receive -/
theorem rinsert_l0 (l : List Fr) (f : Fr) (hl : l.length ≤ 1000000) (hc : chain 0 l = true) : ∀ (m k i : Nat) (placed : Bool) (out : List Fr), l.length - i = m → i ≤ l.length → m < k → out.length ≤ i + 1 →
    (placed = true → ∀ j (h : j < l.length), i ≤ j → f.2.1 < l[j].2.1) → (placed = false → out = l.take i) →
    antiquaryref41_insert_l0 k l placed (i : Int) f.1 f.2.1 f.2.2.1 out = some (if placed = true then out ++ l.drop i else out ++ insF f (l.drop i)) := by
  intro m
  induction m with
  | zero =>
    intro k i placed out h1 h2 h3 h4 h5 h6
    obtain ⟨k, rfl⟩ := ksucc h3
    have : i = l.length := by omega
    subst this
    unfold antiquaryref41_insert_l0
    rw [if_neg (by simp)]
    cases placed with
    | true => rw [if_neg (by simp)]; simp
    | false => rw [if_pos (by simp), if_pos (by simp; omega)]; simp [insF]
  | succ m ih =>
    intro k i placed out h1 h2 h3 h4 h5 h6
    obtain ⟨k, rfl⟩ := ksucc h3
    have hi : i < l.length := by omega
    unfold antiquaryref41_insert_l0
    rw [if_pos (by simpa using hi), if_pos ⟨by omega, by omega⟩, Int.toNat_natCast, getD_at _ hi]
    unfold antiquaryref41_insert_l1 antiquaryref41_insert_l2
    have hbnd : (0 : Int) ≤ (i : Int) ∧ (i : Int) < (l.length : Int) := ⟨by omega, by omega⟩
    simp only [if_pos hbnd, Int.toNat_natCast, getD_at _ hi, wsucc hi (show l.length ≤ maxLen by rw [maxLen_eq]; omega)]
    have ex : ((l[i]).1, ((l[i]).2.1, ((l[i]).2.2.1, ()))) = l[i] := rfl
    rw [List.drop_eq_getElem_cons hi]
    cases placed with
    | true =>
      have h7 := h5 rfl i hi (Nat.le_refl _)
      rw [if_neg (by simp; omega), if_neg (by simp), if_neg (by simp), if_pos (by simp; omega), if_pos rfl]
      rw [ih k (i + 1) true _ (by omega) (by omega) (by omega) (by simp; omega) (fun _ j h hj => h5 rfl j h (by omega)) (fun h => by cases h)]
      simp
      exact (List.drop_eq_getElem_cons hi).symm
    | false =>
      have h8 := h6 rfl
      rw [insF]
      by_cases hx : l[i].2.1 = f.2.1
      · rw [if_pos (by simpa using hx), if_neg (by simp), if_pos hx, h8]
        rw [← List.drop_eq_getElem_cons hi, List.take_append_drop]
      · rw [if_neg (by simpa using hx), if_pos (by simp), if_neg (c := false = true) (by simp), if_neg hx]
        by_cases hy : f.2.1 < l[i].2.1
        · rw [if_pos (by simpa using hy), if_pos (by simp; omega), if_pos (by simp; omega), if_pos hy]
          rw [ih k (i + 1) true _ (by omega) (by omega) (by omega) (by rw [h8]; simp; omega) (fun _ j h hj => by
            by_cases hq : j = i
            · omega
            · have := chain_lt hc (show i < j by omega) h
              omega) (fun h => by cases h)]
          rw [if_pos rfl]
          simp
          exact (List.drop_eq_getElem_cons hi).symm
        · rw [if_neg (by simpa using hy), if_pos (by simp; omega), if_neg hy]
          rw [ih k (i + 1) false _ (by omega) (by omega) (by omega) (by simp; omega) (fun h => by cases h) (fun _ => by rw [h8, List.take_succ_eq_append_getElem hi])]
          simp

theorem rinsert_eq (k : Nat) (l : List Fr) (f : Fr) (n : Int) (hn : 0 ≤ n) (hl : l.length ≤ 1000000) (hc : chain n l = true) (hk : l.length < k) : antiquaryref41_insert k l f.1 f.2.1 f.2.2.1 = some (insF f l) := by
  unfold antiquaryref41_insert
  have := rinsert_l0 l f hl (chain_mono hn hc) l.length k 0 false [] (by omega) (by omega) hk (by simp) (fun h => by cases h) (fun _ => by simp)
  rw [show ((0 : Nat) : Int) = 0 from rfl] at this
  rw [this]
  simp

theorem rrecv_l4 (l : List Fr) (hl : l.length ≤ 1000000) (p2 p3 : Int) : ∀ (m k i : Nat) (n : Int) (out rest : List Fr), l.length - i = m → i ≤ l.length → m < k → 0 ≤ n → n + (m : Int) < 4611686018427387904 → out.length + m < 4000000 → rest.length ≤ i →
    antiquaryref41_Receive_l4 k (i : Int) p2 p3 n l out rest = some ((drain (l.drop i) n out).1, rest ++ (drain (l.drop i) n out).2.2, (drain (l.drop i) n out).2.1, 0) := by
  intro m
  induction m with
  | zero =>
    intro k i n out rest h1 h2 h3 h4 h5 h6 h7
    obtain ⟨k, rfl⟩ := ksucc h3
    have : i = l.length := by omega
    subst this
    unfold antiquaryref41_Receive_l4
    rw [if_neg (by simp)]
    simp [drain]
  | succ m ih =>
    intro k i n out rest h1 h2 h3 h4 h5 h6 h7
    obtain ⟨k, rfl⟩ := ksucc h3
    have hi : i < l.length := by omega
    unfold antiquaryref41_Receive_l4
    rw [if_pos (by simpa using hi), if_pos ⟨by omega, by omega, Nat.le_refl _⟩, Int.toNat_natCast, if_pos hi, getD_at _ hi]
    unfold antiquaryref41_Receive_l5
    rw [wsucc hi (by rw [maxLen_eq]; omega), List.drop_eq_getElem_cons hi]
    have ex : ((l[i]).1, ((l[i]).2.1, ((l[i]).2.2.1, ()))) = l[i] := rfl
    by_cases hx : l[i].2.1 = n
    · rw [if_pos (by simpa using hx), if_pos (by simp; omega), wid (n := n + 1) (by omega) (by omega)]
      rw [ih k (i + 1) (n + 1) _ rest (by omega) (by omega) (by omega) (by omega) (by omega) (by simp; omega) (by omega), drain, if_pos hx]
    · rw [if_neg (by simpa using hx), drain, if_neg hx]
      by_cases hy : l[i].2.1 > n
      · rw [if_pos (by simpa using hy), if_pos (by simp; omega), if_neg (by omega)]
        rw [ih k (i + 1) n out _ (by omega) (by omega) (by omega) h4 (by omega) (by omega) (by simp; omega)]
        simp
      · rw [if_neg (by simpa using hy), if_pos (by omega)]
        rw [ih k (i + 1) n out rest (by omega) (by omega) (by omega) h4 (by omega) (by omega) (by omega)]

theorem rrecv_l3 (k : Nat) (l : List Fr) (f : Fr) (n p1 p2 : Int) (hl : l.length ≤ 64) (hk : 64 < k) (h0 : 0 ≤ n) (h1 : n < 4000000000000000) :
    antiquaryref41_Receive_l3 k p1 p2 n l [f] = some ((drain l n [f]).1, (drain l n [f]).2.2, (drain l n [f]).2.1, 0) := by
  unfold antiquaryref41_Receive_l3
  have := rrecv_l4 l (by omega) p1 p2 l.length k 0 n [f] [] (by omega) (by omega) (by omega) h0 (by omega) (by simp; omega) (by simp)
  rw [show ((0 : Nat) : Int) = 0 from rfl] at this
  rw [this]
  simp

theorem refRecv_eq (k : Nat) (n : Int) (l : List Fr) (f : Fr) (hl : l.length ≤ maxLen) (hk : l.length < k) (hk2 : 70 < k) :
    antiquaryref41_Receive k n l f.1 f.2.1 f.2.2.1 = some (recvR n l f) := by
  unfold antiquaryref41_Receive antiquaryref41_Receive_l0 recvR
  rw [refValidIn_eq k n l hl hk]
  simp only [Option.bind_some, if_true]
  by_cases hv : VIn n l
  · rw [decide_eq_true hv, if_neg (by simp)]
    have hn0 := hv.1
    have hn1 := hv.2.1
    have hl64 := hv.2.2.1
    by_cases hs1 : f.2.1 < 0
    · rw [if_pos (by simpa using hs1), if_neg (by rintro ⟨_, h, _⟩; omega)]
    · rw [if_neg (by simpa using hs1)]
      by_cases hs2 : f.2.1 > 1099511627776
      · rw [if_pos (by simpa using hs2), if_neg (by rintro ⟨_, _, h, _⟩; omega)]
      · rw [if_neg (by simpa using hs2)]
        by_cases hb : bodyOk f.2.2.1 = true
        · have hb' : decide ((f.2.2.1.size : Int) > 65536) = false := by unfold bodyOk at hb; simp at hb ⊢; omega
          rw [hb', if_neg (by simp), if_pos (c := VIn n l ∧ 0 ≤ f.2.1 ∧ f.2.1 ≤ 1099511627776 ∧ bodyOk f.2.2.1 = true) ⟨hv, by omega, by omega, hb⟩, if_pos (by simp; omega)]
          unfold antiquaryref41_Receive_l1
          simp only [if_true, List.nil_append]
          have ef : (f.1, (f.2.1, (f.2.2.1, ()))) = f := rfl
          cases hf : f.1 with
          | true =>
            rw [if_pos rfl]
            by_cases h1 : f.2.1 ≤ n
            · rw [if_pos (by simpa using h1), if_pos (by by_cases h : f.2.1 < n; exact .inl h; exact .inr ⟨rfl, by omega⟩)]
            · rw [if_neg (c := f.2.1 < n ∨ true = true ∧ f.2.1 = n) (by rintro (h | ⟨_, h⟩) <;> omega), if_neg (c := true = false ∧ f.2.1 > n) (by simp), if_pos (c := true = true) rfl]
              rw [if_neg (by simpa using h1)]
              unfold antiquaryref41_Receive_l2
              have e2 : (true, (f.2.1, (f.2.2.1, ()))) = f := by rw [← hf]
              rw [e2]
              simp only [Bool.not_true, Bool.false_eq_true, if_false]
              exact rrecv_l3 k l f f.2.1 0 0 hl64 (by omega) (by omega) (by omega)
          | false =>
            rw [if_neg (by simp), if_pos (by simp)]
            by_cases h1 : f.2.1 < n
            · rw [if_pos (by simpa using h1), if_pos (.inl h1)]
            · rw [if_neg (by simpa using h1), if_pos (by simp), if_neg (by rintro (h | ⟨h, _⟩); exact h1 h; cases h)]
              unfold antiquaryref41_Receive_l2
              by_cases h2 : f.2.1 > n
              · rw [if_pos (by simpa using h2), if_pos (c := false = false ∧ f.2.1 > n) ⟨rfl, h2⟩]
                by_cases h3 : l.length < 64
                · have := rinsert_eq k l f n hn0 (by omega) hv.2.2.2 hk
                  rw [hf] at this
                  rw [if_pos (by simp; omega), if_pos h3, this, Option.bind_some]
                · rw [if_neg (by simp; omega), if_neg h3]
              · rw [if_neg (by simpa using h2), if_neg (c := false = false ∧ f.2.1 > n) (by rintro ⟨_, h⟩; exact h2 h), if_pos (by simp), if_neg (by simp), wid (n := f.2.1 + 1) (by omega) (by omega)]
                have e2 : (false, (f.2.1, (f.2.2.1, ()))) = f := by rw [← hf]
                rw [e2]
                exact rrecv_l3 k l f (f.2.1 + 1) 0 0 hl64 (by omega) (by omega) (by omega)
        · have hb' : decide ((f.2.2.1.size : Int) > 65536) = true := by unfold bodyOk at hb; simp at hb ⊢; omega
          rw [hb', if_pos (by simp), if_neg (by rintro ⟨_, _, _, h⟩; exact hb h)]
  · rw [decide_eq_false hv, if_pos (by simp), if_neg (by rintro ⟨h, _⟩; exact hv h)]
end Go.Proofs.G2
set_option linter.unusedVariables false
set_option linter.unusedSimpArgs false
namespace Go.Proofs.G2
open Go.Abs
open Go.Proofs.I1 (Fr framesOut upto fr pre0 lo0 upto_lo upto_succ upto_len upto_pre)

theorem insF_len (f : Fr) : ∀ l : List Fr, (insF f l).length ≤ l.length + 1
  | [] => by simp [insF]
  | x :: l => by
    rw [insF]
    split
    · simp
    · split
      · simp
      · simp; exact insF_len f l
theorem drain_len : ∀ (l : List Fr) (n : Int) (out : List Fr), (drain l n out).2.1.length + (drain l n out).2.2.length ≤ out.length + l.length
  | [], n, out => by simp [drain]
  | x :: l, n, out => by
    rw [drain]
    split
    · have := drain_len l (n + 1) (out ++ [x]); simp at this ⊢; omega
    · split
      · have := drain_len l n out; simp; omega
      · have := drain_len l n out; simp; omega
theorem recvR_len (n : Int) (l : List Fr) (f : Fr) : (recvR n l f).2.1.length ≤ l.length + 1 ∧ (recvR n l f).2.2.1.length ≤ l.length + 1 := by
  unfold recvR
  split
  · split
    · simp
    · split
      · have := insF_len f l; dsimp only; split <;> simp <;> omega
      · have := drain_len l (if f.1 = true then f.2.1 else f.2.1 + 1) [f]
        simp at this ⊢
        omega
  · simp

theorem recvAs_l1 (n : Int) (l : List Fr) (f : Fr) (hl : l.length ≤ 70) : ∀ (m k i : Nat), l.length - i = m → i ≤ l.length → m + 500 < k →
    antiquarylaw41_LinkReceivesAsSpecified_l1 k (i : Int) n l f.1 f.2.1 f.2.2.1 = some true := by
  intro m
  induction m with
  | zero =>
    intro k i h1 h2 h3
    obtain ⟨k, rfl⟩ := ksucc (show 0 < k by omega)
    have : i = l.length := by omega
    subst this
    unfold antiquarylaw41_LinkReceivesAsSpecified_l1
    have hlen := recvR_len n l f
    rw [if_neg (by simp), recv_eq k n l f (by rw [maxLen_eq]; omega) (by omega) (by omega), refRecv_eq k n l f (by rw [maxLen_eq]; omega) (by omega) (by omega), validIn_eq k n l (by rw [maxLen_eq]; omega) (by omega), refValidIn_eq k n l (by rw [maxLen_eq]; omega) (by omega), sanity_ge (by omega)]
    unfold link_Restart antiquaryref41_SameIn
    simp only [Option.bind_some, if_true]
    rw [sameFrames_refl _ _ (by rw [maxLen_eq]; omega) (by omega), sameFrames_refl _ _ (by rw [maxLen_eq]; omega) (by omega)]
    simp
  | succ m ih =>
    intro k i h1 h2 h3
    obtain ⟨k, rfl⟩ := ksucc (show 0 < k by omega)
    have hi : i < l.length := by omega
    unfold antiquarylaw41_LinkReceivesAsSpecified_l1
    rw [if_pos (by simpa using hi), if_pos ⟨by omega, by omega⟩, wsucc hi (by rw [maxLen_eq]; omega)]
    split
    · rw [sanity_ge (by omega)]; rfl
    · exact ih k (i + 1) (by omega) (by omega) (by omega)

theorem pureLinkReceivesAsSpecified (y0 : (Int × (List (Bool × (Int × (ByteArray × Unit))) × Unit))) (y1 : (Bool × (Int × (ByteArray × Unit)))) (f0 : Kd.Fits (Kd.pair (Kd.int .i64) (Kd.pair (Kd.sl (Kd.pair Kd.bool (Kd.pair (Kd.int .i64) (Kd.pair Kd.str Kd.unit)))) Kd.unit)) y0) (f1 : Kd.Fits (Kd.pair Kd.bool (Kd.pair (Kd.int .i64) (Kd.pair Kd.str Kd.unit))) y1) : ∃ k, antiquarylaw41_LinkReceivesAsSpecified k y0.1 y0.2.1 y1.1 y1.2.1 y1.2.2.1 = some true := by
  refine ⟨2000, ?_⟩
  obtain ⟨n, l, _⟩ := y0
  dsimp only
  have hs := sanity_ge (k := 2000) (by omega)
  unfold antiquarylaw41_LinkReceivesAsSpecified antiquarylaw41_LinkReceivesAsSpecified_l0
  simp only [if_true, hs, Option.bind_some]
  by_cases h : (l.length : Int) > 70
  · rw [if_pos (by simpa using h)]
  · rw [if_neg (by simpa using h)]
    split
    · rfl
    · exact recvAs_l1 n l y1 (by omega) l.length 2000 0 (by omega) (by omega) (by omega)

/-! ### what Receive keeps -/
theorem insF_chain (f : Fr) (hf : f.1 = false) (hb : bodyOk f.2.2.1 = true) (h1 : f.2.1 ≤ 2199023255552) : ∀ (l : List Fr) (last : Int), chain last l = true → last < f.2.1 → chain last (insF f l) = true
  | [], last, _, h => by
    rw [insF, chain_cons, frOk_iff]
    exact ⟨⟨hf, h, h1, hb⟩, rfl⟩
  | x :: l, last, hc, h => by
    have hc' := hc
    rw [chain_cons, frOk_iff] at hc
    rw [insF]
    by_cases h2 : x.2.1 = f.2.1
    · rw [if_pos h2]; exact hc'
    · rw [if_neg h2]
      by_cases h3 : f.2.1 < x.2.1
      · rw [if_pos h3, chain_cons, frOk_iff, chain_cons, frOk_iff]
        exact ⟨⟨hf, h, h1, hb⟩, ⟨hc.1.1, h3, hc.1.2.2⟩, hc.2⟩
      · rw [if_neg h3, chain_cons, frOk_iff]
        exact ⟨hc.1, insF_chain f hf hb h1 l x.2.1 hc.2 (by omega)⟩

/-- what is left behind a drain is a chain above the number that comes next; the number does not grow beyond what there is -/
theorem drain_chain : ∀ (l : List Fr) (last n : Int) (out : List Fr), chain last l = true → chain (drain l n out).1 (drain l n out).2.2 = true ∧ n ≤ (drain l n out).1 ∧ (drain l n out).1 ≤ n + (l.length : Int)
  | [], last, n, out, _ => by simp [drain, chain]
  | x :: l, last, n, out, hc => by
    rw [chain_cons, frOk_iff] at hc
    rw [drain]
    by_cases h1 : x.2.1 = n
    · rw [if_pos h1]
      obtain ⟨h2, h3, h4⟩ := drain_chain l x.2.1 (n + 1) (out ++ [x]) hc.2
      refine ⟨h2, by omega, ?_⟩
      rw [List.length_cons]; omega
    · rw [if_neg h1]
      obtain ⟨h2, h3, h4⟩ := drain_chain l x.2.1 n out hc.2
      by_cases h5 : x.2.1 < n
      · rw [if_pos h5]
        refine ⟨h2, h3, ?_⟩
        rw [List.length_cons]; omega
      · rw [if_neg h5]
        dsimp only
        -- all that is left is above n: nothing was drained behind x
        have key : ∀ (l : List Fr) (last : Int), chain last l = true → n ≤ last → ∀ out, drain l n out = (n, out, l) := by
          intro l
          induction l with
          | nil => intro last _ _ out; simp [drain]
          | cons y l ih =>
            intro last hcy hle out
            rw [chain_cons, frOk_iff] at hcy
            rw [drain, if_neg (by omega), if_neg (by omega), ih y.2.1 hcy.2 (by omega)]
        rw [key l x.2.1 hc.2 (by omega)]
        dsimp only
        refine ⟨?_, Int.le_refl _, ?_⟩
        · rw [chain_cons, frOk_iff]
          exact ⟨⟨hc.1.1, by omega, hc.1.2.2⟩, hc.2⟩
        · rw [List.length_cons]; omega

theorem drain_rest_le : ∀ (l : List Fr) (n : Int) (out : List Fr), (drain l n out).2.2.length ≤ l.length
  | [], n, out => by simp [drain]
  | x :: l, n, out => by
    rw [drain]
    split
    · have := drain_rest_le l (n + 1) (out ++ [x]); simp; omega
    · split
      · have := drain_rest_le l n out; simp; omega
      · have := drain_rest_le l n out; simp; omega

theorem recvR_keeps {n : Int} {l : List Fr} {f : Fr} (hv : VIn n l) (h0 : 0 ≤ f.2.1) (h1 : f.2.1 ≤ 1099511627776) (hb : bodyOk f.2.2.1 = true) :
    VIn (recvR n l f).1 (recvR n l f).2.1 ∧ n ≤ (recvR n l f).1 ∧ (recvR n l f).2.2.2 = 0 := by
  unfold recvR
  rw [if_pos ⟨hv, h0, h1, hb⟩]
  have hv0 := hv.1
  have hv1 := hv.2.1
  have hv2 := hv.2.2.1
  have hv3 := hv.2.2.2
  by_cases h2 : f.2.1 < n ∨ f.1 = true ∧ f.2.1 = n
  · rw [if_pos h2]; exact ⟨hv, Int.le_refl _, rfl⟩
  · rw [if_neg h2]
    by_cases h3 : f.1 = false ∧ f.2.1 > n
    · rw [if_pos h3]
      refine ⟨⟨hv0, hv1, ?_, ?_⟩, Int.le_refl _, rfl⟩
      · dsimp only
        have := insF_len f l
        split <;> omega
      · dsimp only
        split
        · exact insF_chain f h3.1 hb (by omega) l n hv3 h3.2
        · exact hv3
    · rw [if_neg h3]
      obtain ⟨d1, d2, d3⟩ := drain_chain l n (if f.1 = true then f.2.1 else f.2.1 + 1) [f] hv3
      have d4 := drain_rest_le l (if f.1 = true then f.2.1 else f.2.1 + 1) [f]
      have h4 : n ≤ f.2.1 := by
        by_cases h : f.2.1 < n
        · exact absurd (.inl h) h2
        · omega
      have hcc : f.2.1 ≤ (if f.1 = true then f.2.1 else f.2.1 + 1) ∧ (if f.1 = true then f.2.1 else f.2.1 + 1) ≤ f.2.1 + 1 := by split <;> omega
      dsimp only
      exact ⟨⟨by omega, by omega, by omega, d1⟩, by omega, rfl⟩

/-- the same frame once more delivers nothing, and changes nothing -/
theorem insF_twice (f : Fr) : ∀ (l : List Fr) (last : Int), chain last l = true → insF f (insF f l) = insF f l
  | [], _, _ => by simp [insF]
  | x :: l, last, hc => by
    rw [chain_cons, frOk_iff] at hc
    rw [insF]
    by_cases h2 : x.2.1 = f.2.1
    · rw [if_pos h2, insF, if_pos h2]
    · rw [if_neg h2]
      by_cases h3 : f.2.1 < x.2.1
      · rw [if_pos h3, insF, if_pos rfl]
      · rw [if_neg h3, insF, if_neg h2, if_neg h3, insF_twice f l x.2.1 hc.2]

theorem recvR_once {n : Int} {l : List Fr} {f : Fr} (hv : VIn n l) (h0 : 0 ≤ f.2.1) (h1 : f.2.1 ≤ 1099511627776) (hb : bodyOk f.2.2.1 = true) :
    recvR (recvR n l f).1 (recvR n l f).2.1 f = ((recvR n l f).1, (recvR n l f).2.1, [], 0) := by
  have hk := recvR_keeps hv h0 h1 hb
  revert hk
  unfold recvR
  rw [if_pos ⟨hv, h0, h1, hb⟩]
  by_cases h2 : f.2.1 < n ∨ f.1 = true ∧ f.2.1 = n
  · rw [if_pos h2]; intro _; dsimp only; rw [if_pos ⟨hv, h0, h1, hb⟩, if_pos h2]
  · rw [if_neg h2]
    by_cases h3 : f.1 = false ∧ f.2.1 > n
    · rw [if_pos h3]
      dsimp only
      rintro ⟨hk, _, _⟩
      rw [if_pos ⟨hk, h0, h1, hb⟩, if_neg h2, if_pos h3]
      congr 2
      by_cases h4 : l.length < 64
      · rw [if_pos h4]
        by_cases h5 : (insF f l).length < 64
        · rw [if_pos h5]; exact insF_twice f l n hv.2.2.2
        · rw [if_neg h5]
      · rw [if_neg h4, if_neg h4]
    · rw [if_neg h3]
      dsimp only
      rintro ⟨hk, _, _⟩
      rw [if_pos ⟨hk, h0, h1, hb⟩]
      obtain ⟨d1, d2, d3⟩ := drain_chain l n (if f.1 = true then f.2.1 else f.2.1 + 1) [f] hv.2.2.2
      rw [if_pos]
      cases hf : f.1 with
      | true =>
        rw [hf] at d2
        simp only [if_true] at d2 ⊢
        by_cases h : f.2.1 < (drain l f.2.1 [f]).1
        · exact .inl h
        · exact .inr ⟨trivial, by omega⟩
      | false =>
        rw [hf] at d2
        simp only [Bool.false_eq_true, if_false] at d2 ⊢
        exact .inl (by omega)

theorem once_l2 (k : Nat) (n : Int) (l : List Fr) (f : Fr) (hl : l.length ≤ 70) (hk : 500 < k) (hv : VIn n l) :
    antiquarylaw41_LinkReceivesOnce_l2 k (recvR n l f).2.2.1 (recvR n l f).2.2.2 false n l f.1 f.2.1 f.2.2.1 (recvR n l f).1 (recvR n l f).2.1 = some true := by
  unfold antiquarylaw41_LinkReceivesOnce_l2
  rw [if_neg (by simp)]
  have hlen := recvR_len n l f
  by_cases hok : 0 ≤ f.2.1 ∧ f.2.1 ≤ 1099511627776 ∧ bodyOk f.2.2.1 = true
  · have h0 := (recvR_keeps hv hok.1 hok.2.1 hok.2.2).2.2
    have h1 := recvR_once hv hok.1 hok.2.1 hok.2.2
    rw [if_neg (by rw [h0]; simp), recv_eq k _ _ f (by rw [maxLen_eq]; omega) (by omega) (by omega), Option.bind_some, h1, sanity_ge (by omega)]
    unfold antiquaryref41_SameIn
    simp only [Option.bind_some, if_true]
    rw [sameFrames_refl _ _ (by rw [maxLen_eq]; omega) (by omega)]
    simp
  · have hr : recvR n l f = (n, l, [], 1) := by
      unfold recvR; rw [if_neg (by rintro ⟨_, h⟩; exact hok h)]
    rw [hr]
    dsimp only
    rw [if_pos (by simp), sanity_ge (by omega)]
    unfold antiquaryref41_SameIn
    simp only [Option.bind_some, if_true]
    rw [sameFrames_refl _ _ (by rw [maxLen_eq]; omega) (by omega)]
    simp

theorem once_l1 (n : Int) (l : List Fr) (f : Fr) (hl : l.length ≤ 64) (hv : VIn n l) : ∀ (m k i : Nat), l.length - i = m → i ≤ l.length → m + 600 < k →
    antiquarylaw41_LinkReceivesOnce_l1 k (i : Int) n l f.1 f.2.1 f.2.2.1 = some true := by
  intro m
  induction m with
  | zero =>
    intro k i h1 h2 h3
    obtain ⟨k, rfl⟩ := ksucc (show 0 < k by omega)
    have : i = l.length := by omega
    subst this
    unfold antiquarylaw41_LinkReceivesOnce_l1
    have hlen := recvR_len n l f
    rw [if_neg (by simp), if_pos (by simp; omega), recv_eq k n l f (by rw [maxLen_eq]; omega) (by omega) (by omega), Option.bind_some, List.nil_append, sameFrames_refl k l (by rw [maxLen_eq]; omega) (by omega), Option.bind_some, if_neg (by simp), validIn_eq k _ _ (by rw [maxLen_eq]; omega) (by omega), Option.bind_some]
    by_cases hok : 0 ≤ f.2.1 ∧ f.2.1 ≤ 1099511627776 ∧ bodyOk f.2.2.1 = true
    · obtain ⟨k1, k2, k3⟩ := recvR_keeps hv hok.1 hok.2.1 hok.2.2
      rw [decide_eq_true k1, if_neg (by simp), decide_eq_false (by omega)]
      exact once_l2 k n l f (by omega) (by omega) hv
    · have hr : recvR n l f = (n, l, [], 1) := by
        unfold recvR; rw [if_neg (by rintro ⟨_, h⟩; exact hok h)]
      have := once_l2 k n l f (by omega) (by omega) hv
      rw [hr] at this ⊢
      dsimp only at this ⊢
      rw [decide_eq_true hv, if_neg (by simp), decide_eq_false (by omega)]
      exact this
  | succ m ih =>
    intro k i h1 h2 h3
    obtain ⟨k, rfl⟩ := ksucc (show 0 < k by omega)
    have hi : i < l.length := by omega
    unfold antiquarylaw41_LinkReceivesOnce_l1
    rw [if_pos (by simpa using hi), if_pos ⟨by omega, by omega⟩, wsucc hi (by rw [maxLen_eq]; omega)]
    split
    · rw [sanity_ge (by omega)]; rfl
    · exact ih k (i + 1) (by omega) (by omega) (by omega)

theorem pureLinkReceivesOnce (y0 : (Int × (List (Bool × (Int × (ByteArray × Unit))) × Unit))) (y1 : (Bool × (Int × (ByteArray × Unit)))) (f0 : Kd.Fits (Kd.pair (Kd.int .i64) (Kd.pair (Kd.sl (Kd.pair Kd.bool (Kd.pair (Kd.int .i64) (Kd.pair Kd.str Kd.unit)))) Kd.unit)) y0) (f1 : Kd.Fits (Kd.pair Kd.bool (Kd.pair (Kd.int .i64) (Kd.pair Kd.str Kd.unit))) y1) : ∃ k, antiquarylaw41_LinkReceivesOnce k y0.1 y0.2.1 y1.1 y1.2.1 y1.2.2.1 = some true := by
  refine ⟨2000, ?_⟩
  obtain ⟨n, l, _⟩ := y0
  dsimp only
  have hs := sanity_ge (k := 2000) (by omega)
  unfold antiquarylaw41_LinkReceivesOnce antiquarylaw41_LinkReceivesOnce_l0
  simp only [if_true, hs, Option.bind_some]
  by_cases h : (l.length : Int) > 64
  · rw [if_pos (by simpa using h)]
  · rw [if_neg (by simpa using h)]
    split
    · rfl
    · rw [validIn_eq 2000 n l (by rw [maxLen_eq]; omega) (by omega), Option.bind_some]
      by_cases hv : VIn n l
      · rw [decide_eq_true hv, if_neg (by simp)]
        exact once_l1 n l y1 (by omega) hv l.length 2000 0 (by omega) (by omega) (by omega)
      · rw [decide_eq_false hv, if_pos (by simp)]
end Go.Proofs.G2
set_option linter.unusedVariables false
set_option linter.unusedSimpArgs false
namespace Go.Proofs.G2
open Go.Abs
open Go.Proofs.I1 (Fr framesOut upto fr pre0 lo0 upto_lo upto_succ upto_len upto_pre)

/-! ### messages and summaries -/
def msgOf (m : Int) : ByteArray := (⟨#[109]⟩ : ByteArray) ++ strOf (List.take 2 ([(IntKind.u8.wrap (IntKind.i64.wrap ((97 : Int) + (Int.tmod m (26 : Int))))), (IntKind.u8.wrap (IntKind.i64.wrap ((97 : Int) + (Int.tmod (IntKind.i64.wrap (Int.tdiv m (26 : Int))) (26 : Int)))))] : List Int))
def sumOf (m : Int) : ByteArray := (⟨#[115]⟩ : ByteArray) ++ msgOf m

theorem strOf_size (l : List Int) : (strOf l).size = l.length := by unfold strOf; simp [ByteArray.size]
theorem msgOf_size (m : Int) : (msgOf m).size = 3 := by
  unfold msgOf
  rw [ByteArray.size_append, strOf_size]
  rfl
theorem sumOf_size (m : Int) : (sumOf m).size = 4 := by
  unfold sumOf
  rw [ByteArray.size_append, msgOf_size]
  rfl
theorem msgOf_ok (m : Int) : bodyOk (msgOf m) = true := by unfold bodyOk; rw [msgOf_size]; decide
theorem sumOf_ok (m : Int) : bodyOk (sumOf m) = true := by unfold bodyOk; rw [sumOf_size]; decide
theorem message_eq (k : Nat) (m : Int) : antiquarylaw41_message k m = some (msgOf m) := by
  unfold antiquarylaw41_message
  rw [if_pos]
  · rfl
  · rw [strOf_size]; show ((1 + 2 : Nat) : Int) ≤ 9223372036854775807; decide
theorem summary_eq (k : Nat) (m : Int) : antiquarylaw41_summary k m = some (sumOf m) := by
  unfold antiquarylaw41_summary
  rw [message_eq, Option.bind_some, if_pos]
  · rfl
  · rw [msgOf_size]; decide

/-! ### what is delivered is in order -/
def ordS (f : Fr) (next : Int) : Option Int :=
  if f.1 = true then (if f.2.1 ≤ next ∨ f.2.2.1 ≠ sumOf f.2.1 then none else some f.2.1)
  else (if f.2.1 ≠ next ∨ f.2.2.1 ≠ msgOf f.2.1 then none else some (next + 1))
def ordF : Int → List Fr → Option Int
  | next, [] => some next
  | next, f :: l => Option.bind (ordS f next) fun m => ordF m l

theorem ordF_append : ∀ (l1 l2 : List Fr) (next : Int), ordF next (l1 ++ l2) = Option.bind (ordF next l1) fun m => ordF m l2
  | [], l2, next => by simp [ordF]
  | f :: l1, l2, next => by
    rw [List.cons_append, ordF, ordF]
    cases ordS f next with
    | none => rfl
    | some m => simp only [Option.bind_some]; exact ordF_append l1 l2 m


theorem ordered_l0 (n q3 q4 : Int) (q5 : ByteArray) (q6 : List ByteArray) (q8 q9 : List Fr) (q10 : List Int) (del : List Fr) (q12 : Bool) (hd : del.length ≤ 100000) : ∀ (m k i : Nat) (next : Int), del.length - i = m → i ≤ del.length → m < k →
    0 ≤ next → next + (m : Int) < 4611686018427387904 → (∀ x ∈ del, x.2.1 ≤ 1099511627776) → ordF next (del.drop i) = some n →
    antiquarylaw41_ordered_l0 k next (i : Int) q3 q4 q5 q6 n q8 q9 q10 del q12 = some true := by
  intro m
  induction m with
  | zero =>
    intro k i next h1 h2 h3 h4 h5 h6 h7
    obtain ⟨k, rfl⟩ := ksucc h3
    have : i = del.length := by omega
    subst this
    unfold antiquarylaw41_ordered_l0
    rw [if_neg (by simp)]
    rw [List.drop_length, ordF] at h7
    cases h7
    simp
  | succ m ih =>
    intro k i next h1 h2 h3 h4 h5 h6 h7
    obtain ⟨k, rfl⟩ := ksucc h3
    have hi : i < del.length := by omega
    unfold antiquarylaw41_ordered_l0
    rw [if_pos (by simpa using hi), if_pos ⟨by omega, by omega⟩, Int.toNat_natCast, getD_at _ hi]
    unfold antiquarylaw41_ordered_l1 antiquarylaw41_ordered_l2 antiquarylaw41_ordered_l3
    rw [List.drop_eq_getElem_cons hi, ordF] at h7
    obtain ⟨m1, h8, h9⟩ := bind_inv h7
    have h10 := h6 del[i] (List.getElem_mem hi)
    unfold ordS at h8
    rw [wsucc hi (show del.length ≤ maxLen by rw [maxLen_eq]; omega)]
    cases hf : del[i].1 with
    | true =>
      rw [hf, if_pos rfl] at h8
      split at h8
      · cases h8
      · rename_i h11
        cases h8
        have h12 : ¬ del[i].2.1 ≤ next := fun h => h11 (.inl h)
        have h13 : del[i].2.2.1 = sumOf del[i].2.1 := Classical.byContradiction fun h => h11 (.inr h)
        rw [if_pos rfl, if_neg (by simpa using h12), summary_eq, Option.bind_some, ← h13, if_neg (by simp)]
        exact ih k (i + 1) _ (by omega) (by omega) (by omega) (by omega) (by omega) h6 h9
    | false =>
      rw [hf, if_neg (by simp)] at h8
      split at h8
      · cases h8
      · rename_i h11
        cases h8
        have h12 : del[i].2.1 = next := Classical.byContradiction fun h => h11 (.inl h)
        have h13 : del[i].2.2.1 = msgOf del[i].2.1 := Classical.byContradiction fun h => h11 (.inr h)
        rw [if_neg (by simp), if_neg (by simp [h12]), message_eq, Option.bind_some, ← h13, if_neg (by simp), wid (n := next + 1) (by omega) (by omega)]
        exact ih k (i + 1) _ (by omega) (by omega) (by omega) (by omega) (by omega) h6 h9

/-! ### a frame of the link; what the receiver holds -/
def goodF (e : Int) (f : Fr) : Prop := (f.1 = true → 0 < f.2.1 ∧ f.2.1 ≤ e ∧ f.2.2.1 = sumOf f.2.1) ∧ (f.1 = false → 0 ≤ f.2.1 ∧ f.2.1 < e ∧ f.2.2.1 = msgOf f.2.1)
theorem goodF.mono {e e' : Int} {f : Fr} (h : goodF e f) (he : e ≤ e') : goodF e' f :=
  ⟨fun hf => by have := h.1 hf; exact ⟨this.1, by omega, this.2.2⟩, fun hf => by have := h.2 hf; exact ⟨this.1, by omega, this.2.2⟩⟩
theorem goodF.rng {e : Int} {f : Fr} (h : goodF e f) : 0 ≤ f.2.1 ∧ f.2.1 ≤ e ∧ bodyOk f.2.2.1 = true := by
  cases hf : f.1 with
  | true => have := h.1 hf; exact ⟨by omega, this.2.1, by rw [this.2.2]; exact sumOf_ok _⟩
  | false => have := h.2 hf; exact ⟨this.1, by omega, by rw [this.2.2]; exact msgOf_ok _⟩

theorem drain_ord (e : Int) : ∀ (l : List Fr) (last n : Int) (out : List Fr), chain last l = true → (∀ x ∈ l, goodF e x) → n ≤ e →
    ∃ d, (drain l n out).2.1 = out ++ d ∧ ordF n d = some (drain l n out).1 ∧ d.length ≤ l.length ∧ (∀ x ∈ d, goodF e x) ∧ (∀ x ∈ (drain l n out).2.2, goodF e x) ∧ (drain l n out).1 ≤ e
  | [], last, n, out, _, _, hn => ⟨[], by simp [drain], rfl, by simp, by simp, by simp [drain], hn⟩
  | x :: l, last, n, out, hc, hg, hn => by
    rw [chain_cons, frOk_iff] at hc
    have hx := hg x (List.mem_cons_self ..)
    have hl : ∀ y ∈ l, goodF e y := fun y hy => hg y (List.mem_cons_of_mem _ hy)
    rw [drain]
    by_cases h1 : x.2.1 = n
    · rw [if_pos h1]
      have hx2 := hx.2 hc.1.1
      obtain ⟨d, h2, h3, h4, h5, h6, h7⟩ := drain_ord e l x.2.1 (n + 1) (out ++ [x]) hc.2 hl (by omega)
      refine ⟨x :: d, by rw [h2]; simp, ?_, by simp; omega, ?_, h6, h7⟩
      · rw [ordF, ordS, hc.1.1, if_neg (by simp), if_neg (by rintro (h | h); exact h h1; exact h hx2.2.2), Option.bind_some]
        exact h3
      · intro y hy
        rcases List.mem_cons.1 hy with rfl | hy
        · exact hx
        · exact h5 y hy
    · rw [if_neg h1]
      obtain ⟨d, h2, h3, h4, h5, h6, h7⟩ := drain_ord e l x.2.1 n out hc.2 hl hn
      by_cases h8 : x.2.1 < n
      · rw [if_pos h8]
        exact ⟨d, h2, h3, by simp; omega, h5, h6, h7⟩
      · rw [if_neg h8]
        refine ⟨d, h2, h3, by simp; omega, h5, ?_, h7⟩
        intro y hy
        rcases List.mem_cons.1 hy with rfl | hy
        · exact hx
        · exact h6 y hy

/-- the receiver -/
structure RInv (e n : Int) (l del : List Fr) : Prop where
  v : VIn n l
  g : ∀ x ∈ l, goodF e x
  d : ∀ x ∈ del, goodF e x
  o : ordF 0 del = some n
  ne : n ≤ e

def stp (n : Int) (f : Fr) : Int := if f.1 = true then (if n ≤ f.2.1 then f.2.1 else n) else if f.2.1 = n then f.2.1 + 1 else n

theorem insF_good {e : Int} {f : Fr} (hf : goodF e f) : ∀ {l : List Fr}, (∀ x ∈ l, goodF e x) → ∀ x ∈ insF f l, goodF e x
  | [], _, x, hx => by
    rw [insF] at hx
    rcases List.mem_cons.1 hx with rfl | hx
    · exact hf
    · cases hx
  | y :: l, hg, x, hx => by
    rw [insF] at hx
    split at hx
    · exact hg x hx
    · split at hx
      · rcases List.mem_cons.1 hx with rfl | hx
        · exact hf
        · exact hg x hx
      · rcases List.mem_cons.1 hx with rfl | hx
        · exact hg x (List.mem_cons_self ..)
        · exact insF_good hf (fun z hz => hg z (List.mem_cons_of_mem _ hz)) x hx

theorem recv_inv {e n : Int} {l del : List Fr} {f : Fr} (h : RInv e n l del) (hf : goodF e f) (he : e ≤ 100000) :
    RInv e (recvR n l f).1 (recvR n l f).2.1 (del ++ (recvR n l f).2.2.1) ∧ (recvR n l f).2.2.2 = 0 ∧ n ≤ (recvR n l f).1 ∧ stp n f ≤ (recvR n l f).1 ∧ (recvR n l f).2.2.1.length ≤ 65 := by
  have hr := hf.rng
  obtain ⟨k1, k2, k3⟩ := recvR_keeps h.v hr.1 (by omega) hr.2.2
  refine ⟨⟨k1, ?_, ?_, ?_, ?_⟩, k3, k2, ?_, ?_⟩
  all_goals
    clear k1 k2 k3
    unfold recvR
    rw [if_pos ⟨h.v, hr.1, by omega, hr.2.2⟩]
  · split
    · exact h.g
    · split
      · dsimp only
        split
        · exact insF_good hf h.g
        · exact h.g
      · rename_i h1 h2
        have hn1 : (if f.1 = true then f.2.1 else f.2.1 + 1) ≤ e := by
          cases hq : f.1 with
          | true => simp; omega
          | false => simp; have := hf.2 hq; omega
        obtain ⟨d, h3, h4, h5, h6, h7, h8⟩ := drain_ord e l n (if f.1 = true then f.2.1 else f.2.1 + 1) [f] h.v.2.2.2 h.g hn1
        exact h7
  · split
    · simpa using h.d
    · split
      · simpa using h.d
      · rename_i h1 h2
        have hn1 : (if f.1 = true then f.2.1 else f.2.1 + 1) ≤ e := by
          cases hq : f.1 with
          | true => simp; omega
          | false => simp; have := hf.2 hq; omega
        obtain ⟨d, h3, h4, h5, h6, h7, h8⟩ := drain_ord e l n (if f.1 = true then f.2.1 else f.2.1 + 1) [f] h.v.2.2.2 h.g hn1
        dsimp only
        rw [h3]
        intro x hx
        rcases List.mem_append.1 hx with hx | hx
        · exact h.d x hx
        · rcases List.mem_append.1 hx with hx | hx
          · rcases List.mem_cons.1 hx with rfl | hx
            · exact hf
            · cases hx
          · exact h6 x hx
  · split
    · simpa using h.o
    · split
      · simpa using h.o
      · rename_i h1 h2
        have hn1 : (if f.1 = true then f.2.1 else f.2.1 + 1) ≤ e := by
          cases hq : f.1 with
          | true => simp; omega
          | false => simp; have := hf.2 hq; omega
        obtain ⟨d, h3, h4, h5, h6, h7, h8⟩ := drain_ord e l n (if f.1 = true then f.2.1 else f.2.1 + 1) [f] h.v.2.2.2 h.g hn1
        dsimp only
        rw [h3, ordF_append, h.o, Option.bind_some, List.singleton_append, ordF]
        have : ordS f n = some (if f.1 = true then f.2.1 else f.2.1 + 1) := by
          unfold ordS
          have h9 : ¬ f.2.1 < n := fun h => h1 (.inl h)
          cases hq : f.1 with
          | true =>
            have h10 : ¬ f.2.1 = n := fun h => h1 (.inr ⟨hq, h⟩)
            rw [if_pos rfl, if_neg (by rintro (h | h); omega; exact h (hf.1 hq).2.2), if_pos rfl]
          | false =>
            have h10 : ¬ f.2.1 > n := fun h => h2 ⟨hq, h⟩
            rw [if_neg (by simp), if_neg (by rintro (h | h); omega; exact h (hf.2 hq).2.2), if_neg (by simp)]
            congr 1; omega
        rw [this, Option.bind_some]
        exact h4
  · split
    · exact h.ne
    · split
      · exact h.ne
      · rename_i h1 h2
        have hn1 : (if f.1 = true then f.2.1 else f.2.1 + 1) ≤ e := by
          cases hq : f.1 with
          | true => simp; omega
          | false => simp; have := hf.2 hq; omega
        obtain ⟨d, h3, h4, h5, h6, h7, h8⟩ := drain_ord e l n (if f.1 = true then f.2.1 else f.2.1 + 1) [f] h.v.2.2.2 h.g hn1
        exact h8
  · split
    · rename_i h1
      unfold stp
      dsimp only
      split
      · rename_i hq
        split
        · rcases h1 with h1 | h1 <;> omega
        · exact Int.le_refl _
      · rename_i hq
        split
        · rcases h1 with h1 | h1
          · omega
          · exact absurd h1.1 hq
        · exact Int.le_refl _
    · rename_i h1
      split
      · rename_i h2
        unfold stp
        rw [if_neg (by simp [h2.1]), if_neg (by omega)]
        exact Int.le_refl _
      · rename_i h2
        obtain ⟨d1, d2, d3⟩ := drain_chain l n (if f.1 = true then f.2.1 else f.2.1 + 1) [f] h.v.2.2.2
        refine Int.le_trans ?_ d2
        have h9 : ¬ f.2.1 < n := fun h => h1 (.inl h)
        unfold stp
        split
        · split <;> omega
        · split <;> omega
  · have hl := h.v.2.2.1
    split
    · simp
    · split
      · simp
      · have := drain_len l (if f.1 = true then f.2.1 else f.2.1 + 1) [f]
        simp at this ⊢
        omega
end Go.Proofs.G2
set_option linter.unusedVariables false
set_option linter.unusedSimpArgs false
namespace Go.Proofs.G2
open Go.Abs
open Go.Proofs.I1 (Fr framesOut upto fr pre0 lo0 upto_lo upto_succ upto_len upto_pre)

/-- both ends of a link, after at most c acts -/
structure LInv (c : Nat) (b a : Int) (s : ByteArray) (q : List ByteArray) (n : Int) (l sent : List Fr) (told : List Int) (del : List Fr) : Prop where
  b0 : 0 ≤ b
  a0 : 0 ≤ a
  e : b + (q.length : Int) ≤ (c : Int)
  ae : a ≤ b + (q.length : Int)
  so : bodyOk s = true
  ss : a < b → s = sumOf b
  qm : ∀ i (h : i < q.length), q[i] = msgOf (b + (i : Int))
  r : RInv (b + (q.length : Int)) n l del
  an : a ≤ n
  sg : ∀ x ∈ sent, goodF (b + (q.length : Int)) x
  tg : ∀ x ∈ told, 0 ≤ x ∧ x ≤ n
  sl : sent.length ≤ 200 * c
  tl : told.length ≤ c
  dl : del.length ≤ 65 * c
  c100 : c ≤ 100

theorem LInv.vout {c : Nat} {b a : Int} {s : ByteArray} {q : List ByteArray} {n : Int} {l sent : List Fr} {told : List Int} {del : List Fr} (h : LInv c b a s q n l sent told del) : VOut b a s q := by
  have h1 := h.b0; have h2 := h.a0; have h3 := h.e; have h4 := h.ae; have h5 := h.c100
  refine ⟨h1, by omega, h2, by omega, h4, by omega, h.so, ?_⟩
  rw [List.all_eq_true]
  intro x hx
  obtain ⟨i, hi, rfl⟩ := List.mem_iff_getElem.1 hx
  rw [h.qm i hi]
  exact msgOf_ok _

theorem upto_good {b a : Int} {s : ByteArray} {q : List ByteArray} (h0 : 0 ≤ b) (ha : 0 ≤ a) (hs : a < b → s = sumOf b) (hq : ∀ i (h : i < q.length), q[i] = msgOf (b + (i : Int))) : ∀ x ∈ upto b a s q q.length, goodF (b + (q.length : Int)) x := by
  intro x hx
  unfold upto at hx
  rcases List.mem_append.1 hx with hx | hx
  · unfold pre0 at hx
    split at hx
    · rename_i hab
      rcases List.mem_cons.1 hx with rfl | hx
      · refine ⟨fun _ => ⟨by show 0 < b; omega, by show b ≤ _; omega, hs hab⟩, fun h => by cases h⟩
      · cases hx
    · cases hx
  · obtain ⟨j, hj, rfl⟩ := List.mem_map.1 hx
    obtain ⟨i, hi, rfl⟩ := List.mem_range'.1 hj
    have hlt : lo0 b a + 1 * i < q.length := by omega
    refine ⟨fun h => (by cases h), fun _ => ⟨by show 0 ≤ b + _; omega, by show b + _ < _; omega, ?_⟩⟩
    show q.getD _ _ = msgOf (b + _)
    rw [getD_at _ hlt, hq _ hlt]

theorem framesOut_good {b a : Int} {s : ByteArray} {q : List ByteArray} {m : Int} (h0 : 0 ≤ b) (ha : 0 ≤ a) (hs : a < b → s = sumOf b) (hq : ∀ i (h : i < q.length), q[i] = msgOf (b + (i : Int))) : ∀ x ∈ (framesOut true b a s q m).1, goodF (b + (q.length : Int)) x := by
  intro x hx
  unfold framesOut at hx
  split at hx
  · exact upto_good h0 ha hs hq x (List.mem_of_mem_take hx)
  · cases hx

theorem tmod_rng {n : Int} {m : Nat} (hn : 0 ≤ n) (hm : 0 < m) : 0 ≤ Int.tmod n (m : Int) ∧ Int.tmod n (m : Int) < (m : Int) :=
  ⟨Int.tmod_nonneg _ hn, Int.tmod_lt_of_pos _ (by omega)⟩

abbrev LineT : Type := Int × Int × ByteArray × List ByteArray × Int × List Fr × List Fr × List Int × Bool × List Fr
def LOk (c : Nat) (x : LineT) : Prop := LInv c x.1 x.2.1 x.2.2.1 x.2.2.2.1 x.2.2.2.2.1 x.2.2.2.2.2.1 x.2.2.2.2.2.2.1 x.2.2.2.2.2.2.2.1 x.2.2.2.2.2.2.2.2.2 ∧ x.2.2.2.2.2.2.2.2.1 = false

section
variable {c : Nat} {b a : Int} {s : ByteArray} {q : List ByteArray} {n : Int} {l sent : List Fr} {told : List Int} {del : List Fr}

theorem LInv.next (h : LInv c b a s q n l sent told del) (hc : c < 100) : LInv (c + 1) b a s q n l sent told del :=
  { h with e := by have := h.e; omega, sl := by have := h.sl; omega, tl := by have := h.tl; omega, dl := by have := h.dl; omega, c100 := by omega }

theorem RInv.mono {e e' : Int} (h : RInv e n l del) (he : e ≤ e') : RInv e' n l del :=
  ⟨h.v, fun x hx => (h.g x hx).mono he, fun x hx => (h.d x hx).mono he, h.o, by have := h.ne; omega⟩

theorem LInv.put (h : LInv c b a s q n l sent told del) (hc : c < 100) : LInv (c + 1) b a s (q ++ [msgOf (b + (q.length : Int))]) n l sent told del where
  b0 := h.b0
  a0 := h.a0
  e := by have := h.e; simp; omega
  ae := by have := h.ae; simp; omega
  so := h.so
  ss := h.ss
  qm := by
    intro i hi
    by_cases hq : i < q.length
    · rw [List.getElem_append_left hq]; exact h.qm i hq
    · have : i = q.length := by simp at hi; omega
      subst this
      rw [List.getElem_append_right (Nat.le_refl _)]
      simp
  r := h.r.mono (by simp; omega)
  an := h.an
  sg := fun x hx => (h.sg x hx).mono (by simp; omega)
  tg := h.tg
  sl := by have := h.sl; omega
  tl := by have := h.tl; omega
  dl := by have := h.dl; omega
  c100 := by omega

/-- messages go from the queue's front -/
theorem LInv.drop (h : LInv c b a s q n l sent told del) (hc : c < 100) {u a' : Int} {s' : ByteArray} (h1 : b ≤ u) (h2 : u ≤ b + (q.length : Int)) (ha0 : 0 ≤ a') (ha1 : a' ≤ b + (q.length : Int)) (hs : bodyOk s' = true) (hss : a' < u → s' = sumOf u) (han : a' ≤ n) :
    LInv (c + 1) u a' s' (q.drop (u - b).toNat) n l sent told del := by
  have hb0 := h.b0
  have he : u + ((q.drop (u - b).toNat).length : Int) = b + (q.length : Int) := by rw [List.length_drop]; omega
  refine ⟨by omega, ha0, by have := h.e; omega, by omega, hs, hss, fun i hi => ?_, he ▸ h.r, han, he ▸ h.sg, h.tg, by have := h.sl; omega, by have := h.tl; omega, by have := h.dl; omega, by omega⟩
  rw [List.getElem_drop, h.qm]
  congr 1
  omega

theorem LInv.ack (h : LInv c b a s q n l sent told del) (hc : c < 100) {x : Int} (h1 : 0 ≤ x) (h2 : x ≤ n) :
    LInv (c + 1) (ackR b a s q x).1 (ackR b a s q x).2.1 (ackR b a s q x).2.2.1 (ackR b a s q x).2.2.2.1 n l sent told del ∧ (ackR b a s q x).2.2.2.2 = 0 := by
  have hne := h.r.ne
  unfold ackR
  rw [if_pos ⟨h.vout, h1, by omega⟩]
  split
  · exact ⟨h.next hc, rfl⟩
  · rename_i h3
    split
    · rename_i h4
      refine ⟨?_, rfl⟩
      dsimp only
      exact h.drop hc (by omega) (by omega) h1 (by omega) (by decide) (fun h => by omega) h2
    · rename_i h4
      refine ⟨?_, rfl⟩
      dsimp only
      have hss : x < b → s = sumOf b := fun hx => h.ss (by omega)
      have := h.drop hc (u := b) (a' := x) (s' := s) (Int.le_refl _) (by omega) h1 (by omega) h.so hss h2
      rw [Int.sub_self] at this
      exact this

theorem act_ok (k : Nat) (hk : 2000 ≤ k) (h : LInv c b a s q n l sent told del) (hc : c < 100) (kd N : Int) (hN0 : 0 ≤ N) (hN1 : N ≤ 255) :
    ∃ x, antiquarylaw41_act k b a s q n l sent told false kd N del = some x ∧ LOk (c + 1) x ∧ x.2.2.2.2.1 = x.2.2.2.2.1 := by
  have hb0 := h.b0; have ha0 := h.a0; have he := h.e; have hae := h.ae; have hc100 := h.c100
  have hv := h.vout
  have hq1 : q.length ≤ maxLen := by rw [maxLen_eq]; omega
  have hq2 : q.length < k := by omega
  have hwN : IntKind.i64.wrap N = N := wid (by omega) (by omega)
  unfold antiquarylaw41_act
  by_cases h0 : (Int.tmod kd 6 == 0) = true
  · rw [if_pos h0, hv.endw, message_eq, Option.bind_some, put_eq hq1 hq2, Option.bind_some, if_neg (by simp)]
    have : putR b a s q (msgOf (b + (q.length : Int))) = (b, a, s, q ++ [msgOf (b + (q.length : Int))], 0) := by
      unfold putR; rw [if_pos ⟨hv, msgOf_ok _⟩, if_neg (by omega)]
    rw [this]
    exact ⟨_, rfl, ⟨h.put hc, rfl⟩, rfl⟩
  rw [if_neg h0]
  by_cases h1 : (Int.tmod kd 6 == 1) = true
  · have hw : IntKind.i64.wrap ((q.length : Int) + 1) = ((q.length + 1 : Nat) : Int) := by rw [wid (by omega) (by omega)]; omega
    have ht := tmod_rng (m := q.length + 1) hN0 (by omega)
    rw [if_pos h1, hw, if_pos (by omega), hwN, wid (n := b + _) (by omega) (by omega), summary_eq, Option.bind_some, fold_eq hq1 hq2, Option.bind_some, if_neg (by simp)]
    obtain ⟨u, hu⟩ : ∃ u, u = b + Int.tmod N ((q.length + 1 : Nat) : Int) := ⟨_, rfl⟩
    rw [← hu]
    have : foldR b a s q u (sumOf u) = (u, a, sumOf u, q.drop (u - b).toNat, 0) := by
      unfold foldR; rw [if_pos ⟨hv, by omega, by omega, sumOf_ok _⟩]
    rw [this]
    exact ⟨_, rfl, ⟨h.drop hc (by omega) (by omega) ha0 hae (sumOf_ok _) (fun _ => rfl) h.an, rfl⟩, rfl⟩
  rw [if_neg h1]
  by_cases h2 : (Int.tmod kd 6 == 2) = true
  · have ht : 0 ≤ Int.tmod N 20 ∧ Int.tmod N 20 < 20 := tmod_rng (n := N) (m := 20) hN0 (by omega)
    rw [if_pos h2, validOut_eq _ _ _ _ _ hq1 hq2, Option.bind_some, decide_eq_true hv, hwN]
    have hsl := h.sl
    have hfl := framesOut_len (vo := true) (b := b) (a := a) (s := s) (q := q) (m := IntKind.i64.wrap (1 + Int.tmod N 20))
    rw [if_pos (by simp; omega), if_pos (by simp; omega), if_neg (by simp)]
    refine ⟨_, rfl, ⟨?_, ?_⟩, rfl⟩
    · refine { h.next hc with sg := ?_, sl := ?_ }
      · intro x hx
        rcases List.mem_append.1 hx with hx | hx
        · exact h.sg x (by simpa using hx)
        · exact framesOut_good hb0 ha0 h.ss h.qm x hx
      · simp; omega
    · show ((framesOut true b a s q _).2 != 0) = false
      rw [wid (by omega) (by omega)]
      unfold framesOut
      rw [if_pos ⟨rfl, by omega⟩]
      rfl
  rw [if_neg h2]
  by_cases h3 : (Int.tmod kd 6 == 3) = true
  · rw [if_pos h3]
    by_cases h4 : (sent.length : Int) > 0
    · have ht := tmod_rng (n := N) (m := sent.length) hN0 (by omega)
      have hsl := h.sl; have htl := h.tl; have hdl := h.dl
      rw [if_pos (by simpa using h4), if_pos (by omega), hwN, if_pos ht]
      obtain ⟨j, hj⟩ : ∃ j : Nat, Int.tmod N (sent.length : Int) = (j : Int) := ⟨(Int.tmod N (sent.length : Int)).toNat, by omega⟩
      rw [hj] at ht ⊢
      have hjl : j < sent.length := by omega
      rw [Int.toNat_natCast, getD_at _ hjl]
      have hl64 := h.r.v.2.2.1
      rw [recv_eq k n l sent[j] (by rw [maxLen_eq]; omega) (by omega) (by omega), Option.bind_some]
      obtain ⟨r1, r2, r3, r4, r5⟩ := recv_inv h.r (h.sg _ (List.getElem_mem hjl)) (by omega)
      rw [if_pos (by simp; omega), if_pos (by simp; omega), if_pos (by simp; omega), if_pos (by simp; omega), if_neg (by simp)]
      refine ⟨_, rfl, ⟨?_, ?_⟩, rfl⟩
      · refine { h.next hc with r := ?_, an := ?_, tg := ?_, tl := ?_, dl := ?_ }
        · simpa using r1
        · have := h.an; show a ≤ (recvR n l sent[j]).1; omega
        · intro x hx
          show 0 ≤ x ∧ x ≤ (recvR n l sent[j]).1
          rcases List.mem_append.1 hx with hx | hx
          · have := h.tg x (by simpa using hx); omega
          · rcases List.mem_cons.1 hx with rfl | hx
            · exact ⟨r1.v.1, Int.le_refl _⟩
            · cases hx
        · simp; omega
        · simp; omega
      · show ((recvR n l sent[j]).2.2.2 != 0) = false
        rw [r2]; rfl
    · rw [if_neg (by simpa using h4)]
      exact ⟨_, rfl, ⟨h.next hc, rfl⟩, rfl⟩
  rw [if_neg h3]
  by_cases h4 : (Int.tmod kd 6 == 4) = true
  · rw [if_pos h4]
    by_cases h5 : (told.length : Int) > 0
    · have ht := tmod_rng (n := N) (m := told.length) hN0 (by omega)
      rw [if_pos (by simpa using h5), if_pos (by omega), hwN, if_pos ht]
      obtain ⟨j, hj⟩ : ∃ j : Nat, Int.tmod N (told.length : Int) = (j : Int) := ⟨(Int.tmod N (told.length : Int)).toNat, by omega⟩
      rw [hj] at ht ⊢
      have hjl : j < told.length := by omega
      rw [Int.toNat_natCast, getD_at _ hjl, ack_eq hq1 hq2, Option.bind_some, if_neg (by simp)]
      have htg := h.tg _ (List.getElem_mem hjl)
      obtain ⟨k1, k2⟩ := h.ack hc htg.1 htg.2
      exact ⟨_, rfl, ⟨k1, by show ((ackR b a s q told[j]).2.2.2.2 != 0) = false; rw [k2]; rfl⟩, rfl⟩
    · rw [if_neg (by simpa using h5)]
      exact ⟨_, rfl, ⟨h.next hc, rfl⟩, rfl⟩
  rw [if_neg h4]
  split
  · unfold link_Restart
    rw [Option.bind_some]
    refine ⟨_, rfl, ⟨?_, rfl⟩, rfl⟩
    exact { h.next hc with r := ⟨⟨h.r.v.1, h.r.v.2.1, by simp, rfl⟩, fun x hx => (by cases hx), h.r.d, h.r.o, h.r.ne⟩ }
  · exact ⟨_, rfl, ⟨h.next hc, rfl⟩, rfl⟩

theorem ordered_ok (k : Nat) (hk : 10000 ≤ k) (h : LInv c b a s q n l sent told del) (bad : Bool) : antiquarylaw41_ordered k b a s q n l sent told del bad = some true := by
  unfold antiquarylaw41_ordered
  have hdl := h.dl; have he := h.e; have hc := h.c100
  have := ordered_l0 n b a s q l sent told del bad (by omega) del.length k 0 0 (by omega) (by omega) (by omega) (by omega) (by omega) (fun x hx => by have := (h.r.d x hx).rng; omega) (by rw [List.drop_zero]; exact h.r.o)
  exact this

end

theorem LInv.start : LInv 0 0 0 ⟨#[]⟩ [] 0 [] [] [] [] where
  b0 := by omega
  a0 := by omega
  e := by simp
  ae := by simp
  so := by decide
  ss := fun h => by omega
  qm := fun i h => by simp at h
  r := ⟨⟨by omega, by omega, by simp, rfl⟩, fun x hx => (by cases hx), fun x hx => (by cases hx), rfl, by simp⟩
  an := by omega
  sg := fun x hx => by cases hx
  tg := fun x hx => by cases hx
  sl := by simp
  tl := by simp
  dl := by simp
  c100 := by omega

theorem acts_fits {y0 : List (Int × (Int × Unit))} (f0 : Kd.Fits (Kd.sl (Kd.pair (Kd.int .u8) (Kd.pair (Kd.int .u8) Kd.unit))) y0) {i : Nat} (hi : i < y0.length) : 0 ≤ y0[i].2.1 ∧ y0[i].2.1 ≤ 255 := by
  have := (f0.2 y0[i] (List.getElem_mem hi)).2.1
  exact this

theorem delivers_l0 (y0 : List (Int × (Int × Unit))) (f0 : Kd.Fits (Kd.sl (Kd.pair (Kd.int .u8) (Kd.pair (Kd.int .u8) Kd.unit))) y0) (hl : y0.length ≤ 100) : ∀ (m k i : Nat) (b a : Int) (s : ByteArray) (q : List ByteArray) (n : Int) (l sent : List Fr) (told : List Int) (del : List Fr),
    y0.length - i = m → i ≤ y0.length → m + 20000 < k → LInv i b a s q n l sent told del → antiquarylaw41_LinkDeliversInOrder_l0 k y0 (i : Int) b a s q n l sent told false del = some true := by
  intro m
  induction m with
  | zero =>
    intro k i b a s q n l sent told del h1 h2 h3 h4
    obtain ⟨k, rfl⟩ := ksucc (show 0 < k by omega)
    have : i = y0.length := by omega
    subst this
    unfold antiquarylaw41_LinkDeliversInOrder_l0
    rw [if_neg (by simp), sanity_ge (by omega)]
    rfl
  | succ m ih =>
    intro k i b a s q n l sent told del h1 h2 h3 h4
    obtain ⟨k, rfl⟩ := ksucc (show 0 < k by omega)
    have hi : i < y0.length := by omega
    unfold antiquarylaw41_LinkDeliversInOrder_l0
    have hf := acts_fits f0 hi
    rw [if_pos (by simpa using hi), if_pos ⟨by omega, by omega⟩, Int.toNat_natCast, getD_at _ hi]
    obtain ⟨x, hx, ⟨hx1, hx2⟩, _⟩ := act_ok k (by omega) h4 (by omega) y0[i].1 y0[i].2.1 hf.1 hf.2
    rw [hx, Option.bind_some, hx2, if_neg (by simp), ordered_ok k (by omega) hx1, Option.bind_some]
    unfold antiquarylaw41_LinkDeliversInOrder_l1
    rw [if_neg (by simp), wsucc hi (by rw [maxLen_eq]; omega)]
    exact ih k (i + 1) _ _ _ _ _ _ _ _ _ (by omega) (by omega) (by omega) hx1

theorem pureLinkDeliversInOrder (y0 : List (Int × (Int × Unit))) (f0 : Kd.Fits (Kd.sl (Kd.pair (Kd.int .u8) (Kd.pair (Kd.int .u8) Kd.unit))) y0) : ∃ k, antiquarylaw41_LinkDeliversInOrder k y0 = some true := by
  refine ⟨30000, ?_⟩
  unfold antiquarylaw41_LinkDeliversInOrder
  split
  · rw [sanity_ge (by omega)]; rfl
  · rename_i h
    have hl : y0.length ≤ 100 := by simp at h; omega
    exact delivers_l0 y0 f0 hl y0.length 30000 0 0 0 _ _ 0 _ _ _ _ (by omega) (by omega) (by omega) LInv.start
end Go.Proofs.G2
set_option linter.unusedVariables false
set_option linter.unusedSimpArgs false
namespace Go.Proofs.G2
open Go.Abs
open Go.Proofs.I1 (Fr framesOut upto fr pre0 lo0 upto_lo upto_succ upto_len upto_pre)

/-- how far frames bring a receiver -/
def top : Int → List Fr → Int
  | n, [] => n
  | n, f :: l => top (stp n f) l

def stp' (n : Int) (f : Fr) : Int := if f.1 = true then (if n ≤ f.2.1 then f.2.1 else n) else if f.2.1 = n then f.2.1 + 1 else n

theorem stp_mono {n m : Int} (h : n ≤ m) (f : Fr) : stp n f ≤ stp m f := by
  unfold stp
  split
  · split <;> split <;> omega
  · split <;> split <;> omega
theorem top_mono : ∀ (l : List Fr) {n m : Int}, n ≤ m → top n l ≤ top m l
  | [], _, _, h => h
  | f :: l, _, _, h => top_mono l (stp_mono h f)
theorem top_append : ∀ (l1 l2 : List Fr) (n : Int), top n (l1 ++ l2) = top (top n l1) l2
  | [], _, _ => rfl
  | f :: l1, l2, n => top_append l1 l2 (stp n f)
theorem stp_ge (n : Int) (f : Fr) : n ≤ stp n f := by unfold stp; split <;> split <;> omega

theorem top_range (b : Int) (q : List ByteArray) : ∀ (m i : Nat) (n : Int), b + (i : Int) ≤ n → b + ((i + m : Nat) : Int) ≤ top n ((List.range' i m).map (fr b q))
  | 0, i, n, h => by simpa [top] using h
  | m + 1, i, n, h => by
    rw [List.range'_succ, List.map_cons, top]
    have h1 : b + ((i + 1 : Nat) : Int) ≤ stp n (fr b q i) := by
      unfold stp fr
      simp only [Bool.false_eq_true, if_false]
      split <;> omega
    have := top_range b q m (i + 1) _ h1
    rw [show i + (m + 1) = i + 1 + m by omega]
    exact this

theorem top_upto {b a n : Int} (s : ByteArray) (q : List ByteArray) (h : a ≤ n) (hae : a ≤ b + (q.length : Int)) : b + (q.length : Int) ≤ top n (upto b a s q q.length) := by
  unfold upto
  rw [top_append]
  have h1 : b + (lo0 b a : Int) ≤ top n (pre0 b a s) := by
    unfold pre0 lo0
    split
    · rename_i hab
      simp only [top, stp, if_true]
      split <;> omega
    · simp only [top]; omega
  have hlo : lo0 b a ≤ q.length := by unfold lo0; omega
  have := top_range b q (q.length - lo0 b a) (lo0 b a) _ h1
  rw [show lo0 b a + (q.length - lo0 b a) = q.length by omega] at this
  exact this

section
variable {b a : Int} {s : ByteArray} {q : List ByteArray} {sent : List Fr} {told : List Int}

theorem catch_end (k : Nat) (hk : 20000 ≤ k) {c : Nat} {n : Int} {l del : List Fr} (h0 : 0 ≤ b) (ha0 : 0 ≤ a) (he : b + (q.length : Int) ≤ 100) (hae : a ≤ b + (q.length : Int)) (hv : VOut b a s q)
    (hr : RInv (b + (q.length : Int)) n l del) (hn : b + (q.length : Int) ≤ n) (hd : del.length ≤ 15000) (fs : List Fr) (i : Nat) (hi : fs.length ≤ i) :
    antiquarylaw41_LinkCatchesUp_l2 (k + 1) fs (i : Int) b a s q n l sent told false del = some true := by
  have hne := hr.ne
  have hn2 : n = b + (q.length : Int) := by omega
  have hq1 : q.length ≤ maxLen := by rw [maxLen_eq]; omega
  have hq2 : q.length < k := by omega
  unfold antiquarylaw41_LinkCatchesUp_l2
  rw [if_neg (by simp; omega), ack_eq hq1 hq2, Option.bind_some]
  -- what is left to be sent
  have key : ∃ b' a' s' q', ackR b a s q n = (b', a', s', q', 0) ∧ q'.length ≤ q.length ∧ VOut b' a' s' q' ∧ upto b' a' s' q' q'.length = [] := by
    unfold ackR
    rw [if_pos ⟨hv, by omega, by omega⟩]
    split
    · rename_i h1
      refine ⟨b, a, s, q, rfl, Nat.le_refl _, hv, ?_⟩
      have hl : lo0 b a = q.length := by unfold lo0; omega
      unfold upto pre0
      rw [if_neg (by omega), hl]
      simp
    · rename_i h1
      split
      · rename_i h2
        have hq0 : q.drop (n - b).toNat = [] := List.drop_eq_nil_of_le (by omega)
        refine ⟨n, n, ⟨#[]⟩, q.drop (n - b).toNat, rfl, by rw [hq0]; simp, ?_, ?_⟩
        · rw [hq0]; exact ⟨by omega, by omega, by omega, by omega, by simp, by simp, by decide, rfl⟩
        · rw [hq0]; unfold upto pre0; rw [if_neg (by omega)]; simp
      · rename_i h2
        have hq0 : q = [] := List.eq_nil_of_length_eq_zero (by omega)
        refine ⟨b, n, s, q, rfl, Nat.le_refl _, ⟨hv.1, hv.2.1, by omega, by omega, by omega, hv.2.2.2.2.2⟩, ?_⟩
        unfold upto pre0
        rw [if_neg (by omega), hq0]
        simp
  obtain ⟨b', a', s', q', h1, h2, h3, h4⟩ := key
  rw [h1]
  dsimp only
  have hq1' : q'.length ≤ maxLen := by rw [maxLen_eq]; omega
  rw [validOut_eq _ _ _ _ _ hq1' (by omega), Option.bind_some, sanity_ge (by omega), Option.bind_some, decide_eq_true h3, if_pos rfl, if_pos (by simp)]
  have hfo : framesOut true b' a' s' q' 1000 = ([], 0) := by
    unfold framesOut
    rw [if_pos ⟨rfl, by decide⟩, h4]
    rfl
  rw [hfo]
  dsimp only
  rw [if_pos (by simp), if_pos (by simp), hv.endw, if_pos (by simp [hn2])]
  unfold antiquarylaw41_ordered
  have := ordered_l0 n b a s q l sent told del false (by omega) del.length k 0 0 (by omega) (by omega) (by omega) (by omega) (by omega) (fun x hx => by have := (hr.d x hx).rng; omega) (by rw [List.drop_zero]; exact hr.o)
  rw [show ((0 : Nat) : Int) = 0 from rfl] at this
  rw [this]
  rfl

theorem catch_l2 (fs : List Fr) (hfl : fs.length ≤ 200) (h0 : 0 ≤ b) (ha0 : 0 ≤ a) (he : b + (q.length : Int) ≤ 100) (hae : a ≤ b + (q.length : Int)) (hv : VOut b a s q) (hg : ∀ x ∈ fs, goodF (b + (q.length : Int)) x) :
    ∀ (m k i : Nat) (n : Int) (l del : List Fr), fs.length - i = m → i ≤ fs.length → m + 20001 ≤ k → RInv (b + (q.length : Int)) n l del → b + (q.length : Int) ≤ top n (fs.drop i) → del.length + 65 * m ≤ 15000 →
    antiquarylaw41_LinkCatchesUp_l2 k fs (i : Int) b a s q n l sent told false del = some true := by
  intro m
  induction m with
  | zero =>
    intro k i n l del h1 h2 h3 h4 h5 h6
    obtain ⟨k, rfl⟩ := ksucc (show 0 < k by omega)
    rw [List.drop_of_length_le (by omega)] at h5
    exact catch_end (c := 0) k (by omega) h0 ha0 he hae hv h4 h5 (by omega) fs i (by omega)
  | succ m ih =>
    intro k i n l del h1 h2 h3 h4 h5 h6
    obtain ⟨k, rfl⟩ := ksucc (show 0 < k by omega)
    have hi : i < fs.length := by omega
    unfold antiquarylaw41_LinkCatchesUp_l2
    have hl64 := h4.v.2.2.1
    rw [if_pos (by simpa using hi), if_pos ⟨by omega, by omega⟩, Int.toNat_natCast, getD_at _ hi, recv_eq k n l fs[i] (by rw [maxLen_eq]; omega) (by omega) (by omega), Option.bind_some]
    obtain ⟨r1, r2, r3, r4, r5⟩ := recv_inv h4 (hg _ (List.getElem_mem hi)) (by omega)
    rw [r2, if_neg (by simp), if_pos (by omega), wsucc hi (by rw [maxLen_eq]; omega)]
    refine ih k (i + 1) _ _ _ (by omega) (by omega) (by omega) r1 ?_ (by simp; omega)
    rw [List.drop_eq_getElem_cons hi, top] at h5
    exact Int.le_trans h5 (top_mono _ r4)
end

theorem catches_l0 (y0 : List (Int × (Int × Unit))) (f0 : Kd.Fits (Kd.sl (Kd.pair (Kd.int .u8) (Kd.pair (Kd.int .u8) Kd.unit))) y0) (hl : y0.length ≤ 100) : ∀ (m k i : Nat) (b a : Int) (s : ByteArray) (q : List ByteArray) (n : Int) (l sent : List Fr) (told : List Int) (del : List Fr),
    y0.length - i = m → i ≤ y0.length → m + 21000 < k → LInv i b a s q n l sent told del → antiquarylaw41_LinkCatchesUp_l0 k y0 (i : Int) b a s q n l sent told false del = some true := by
  intro m
  induction m with
  | zero =>
    intro k i b a s q n l sent told del h1 h2 h3 h4
    obtain ⟨k, rfl⟩ := ksucc (show 0 < k by omega)
    have : i = y0.length := by omega
    subst this
    have hb0 := h4.b0; have ha0 := h4.a0; have he := h4.e; have hae := h4.ae; have hdl := h4.dl
    have hv := h4.vout
    unfold antiquarylaw41_LinkCatchesUp_l0
    rw [if_neg (by simp), validOut_eq _ _ _ _ _ (by rw [maxLen_eq]; omega) (by omega), Option.bind_some, if_neg (by simp), decide_eq_true hv]
    have hul : (upto b a s q q.length).length ≤ q.length + 1 := by
      unfold upto pre0
      split <;> simp <;> omega
    have hfo : framesOut true b a s q 1000 = (upto b a s q q.length, 0) := by
      unfold framesOut
      rw [if_pos ⟨rfl, by decide⟩, List.take_of_length_le]
      show _ ≤ 1000
      omega
    rw [hfo]
    unfold antiquarylaw41_LinkCatchesUp_l1
    rw [if_neg (by simp)]
    exact catch_l2 (upto b a s q q.length) (by omega) hb0 ha0 (by omega) hae hv (upto_good hb0 ha0 h4.ss h4.qm) _ k 0 n l del rfl (by omega) (by omega) h4.r (by rw [List.drop_zero]; exact top_upto s q h4.an hae) (by omega)
  | succ m ih =>
    intro k i b a s q n l sent told del h1 h2 h3 h4
    obtain ⟨k, rfl⟩ := ksucc (show 0 < k by omega)
    have hi : i < y0.length := by omega
    unfold antiquarylaw41_LinkCatchesUp_l0
    have hf := acts_fits f0 hi
    rw [if_pos (by simpa using hi), if_pos ⟨by omega, by omega⟩, Int.toNat_natCast, getD_at _ hi]
    obtain ⟨x, hx, ⟨hx1, hx2⟩, _⟩ := act_ok k (by omega) h4 (by omega) y0[i].1 y0[i].2.1 hf.1 hf.2
    rw [hx, Option.bind_some, hx2, wsucc hi (by rw [maxLen_eq]; omega)]
    exact ih k (i + 1) _ _ _ _ _ _ _ _ _ (by omega) (by omega) (by omega) hx1

theorem pureLinkCatchesUp (y0 : List (Int × (Int × Unit))) (f0 : Kd.Fits (Kd.sl (Kd.pair (Kd.int .u8) (Kd.pair (Kd.int .u8) Kd.unit))) y0) : ∃ k, antiquarylaw41_LinkCatchesUp k y0 = some true := by
  refine ⟨30000, ?_⟩
  unfold antiquarylaw41_LinkCatchesUp
  split
  · rw [sanity_ge (by omega)]; rfl
  · rename_i h
    have hl : y0.length ≤ 100 := by simp at h; omega
    exact catches_l0 y0 f0 hl y0.length 30000 0 0 0 _ _ 0 _ _ _ _ (by omega) (by omega) (by omega) LInv.start
end Go.Proofs.G2
