/- The plain laws: what those Lean functions compute. No program in sight. -/
import Derived.Test.YtbfoafhopmgffaaG2
set_option linter.unusedVariables false
set_option linter.unusedSimpArgs false
namespace Go.Proofs.G2
open Go.Abs
open Go.Proofs.I1 (Fr framesOut upto fr pre0 lo0 upto_lo upto_succ upto_len upto_pre)

theorem maxLen_eq : maxLen = 9223372036854775807 := by decide
theorem getD_at {α : Type} {l : List α} {i : Nat} (d : α) (h : i < l.length) : List.getD l i d = l[i] := by simp [List.getD, h]
theorem wsucc {i n : Nat} (h : i < n) (hn : n ≤ maxLen) : IntKind.i64.wrap ((i : Int) + 1) = ((i + 1 : Nat) : Int) := by
  rw [maxLen_eq] at hn
  rw [IntKind.wrap_i64]; omega
theorem wid {n : Int} (h1 : -9223372036854775808 ≤ n) (h2 : n ≤ 9223372036854775807) : IntKind.i64.wrap n = n := by
  rw [IntKind.wrap_i64]; omega
theorem ksucc {n k : Nat} (h : n < k) : ∃ k', k = k' + 1 := ⟨k - 1, by omega⟩

/-! ### bodies -/
def bodyOk (s : ByteArray) : Bool := decide ((s.size : Int) ≤ 65536)

theorem idx49 (q : List ByteArray) (hq : q.length ≤ maxLen) : ∀ (n k i : Nat), q.length - i = n → i ≤ q.length → n < k →
    ∃ r, slices_IndexFunc_49_l0 k q (List.length q : Int) (i : Int) = some r ∧ decide (r ≥ 0) = !((q.drop i).all bodyOk) := by
  intro n
  induction n with
  | zero =>
    intro k i h1 h2 h3
    obtain ⟨k, rfl⟩ := ksucc h3
    have : i = q.length := by omega
    subst this
    refine ⟨-1, ?_, by simp⟩
    unfold slices_IndexFunc_49_l0
    rw [if_neg (by simp)]
  | succ n ih =>
    intro k i h1 h2 h3
    obtain ⟨k, rfl⟩ := ksucc h3
    have hi : i < q.length := by omega
    unfold slices_IndexFunc_49_l0
    rw [if_pos (by simpa using hi), if_pos ⟨by omega, by omega⟩, Int.toNat_natCast, getD_at _ hi]
    unfold link_ValidOut_1 link_isBody
    simp only [Option.bind_some]
    rw [List.drop_eq_getElem_cons hi, List.all_cons]
    cases hb : bodyOk q[i] with
    | false =>
      unfold bodyOk at hb
      rw [hb]
      refine ⟨i, by simp, by simp⟩
    | true =>
      obtain ⟨r, h4, h5⟩ := ih k (i + 1) (by omega) (by omega) (by omega)
      unfold bodyOk at hb
      rw [hb, wsucc hi hq]
      exact ⟨r, by simpa using h4, by simpa using h5⟩

/-- a valid outbox -/
def VOut (b a : Int) (s : ByteArray) (q : List ByteArray) : Prop :=
  0 ≤ b ∧ b ≤ 1099511627776 ∧ 0 ≤ a ∧ a ≤ 1099511627776 ∧ a ≤ b + (q.length : Int) ∧ (q.length : Int) ≤ 1000 ∧ bodyOk s = true ∧ q.all bodyOk = true
instance (b a : Int) (s : ByteArray) (q : List ByteArray) : Decidable (VOut b a s q) := inferInstanceAs (Decidable (_ ∧ _))

theorem within_eq (k : Nat) (n m : Int) : link_within k n m = some (decide (0 ≤ n ∧ n ≤ m)) := by
  unfold link_within
  by_cases h : 0 ≤ n
  · rw [if_pos (by simpa using h)]; simp [h]
  · rw [if_neg (by simpa using h)]; simp [h]

theorem validOut_eq (k : Nat) (b a : Int) (s : ByteArray) (q : List ByteArray) (hq : q.length ≤ maxLen) (hk : q.length < k) : link_ValidOut k b a s q = some (decide (VOut b a s q)) := by
  unfold link_ValidOut slices_ContainsFunc slices_IndexFunc_49
  obtain ⟨r, h1, h2⟩ := idx49 q hq q.length k 0 (by omega) (by omega) hk
  rw [show ((0 : Nat) : Int) = 0 from rfl] at h1
  rw [h1]
  simp only [Option.bind_some, h2, List.drop_zero, within_eq]
  unfold link_end link_isBody
  simp only [Option.bind_some, within_eq]
  by_cases hb : 0 ≤ b ∧ b ≤ 1099511627776
  · rw [if_pos (by simpa using hb)]
    by_cases hlen : (q.length : Int) ≤ 1000
    · rw [wid (by omega) (by omega)]
      by_cases ha : 0 ≤ a ∧ a ≤ mm false 1099511627776 (b + (q.length : Int))
      · rw [if_pos (by simpa using ha), if_pos (by simpa using hlen)]
        have ha2 : a ≤ 1099511627776 ∧ a ≤ b + (q.length : Int) := by
          have := ha.2
          simp only [mm, Bool.false_eq_true, if_false] at this
          split at this <;> omega
        cases hs : bodyOk s with
        | false =>
          have hs' := hs
          unfold bodyOk at hs'
          rw [hs']
          simp [VOut, hs]
        | true =>
          have hs' := hs
          unfold bodyOk at hs'
          rw [hs']
          simp only [if_true]
          congr 1
          rw [Bool.not_not]
          cases hq2 : q.all bodyOk with
          | false => symm; rw [decide_eq_false_iff_not]; intro h; have := h.2.2.2.2.2.2.2; rw [hq2] at this; cases this
          | true => symm; rw [decide_eq_true_eq]; exact ⟨hb.1, hb.2, ha.1, ha2.1, ha2.2, hlen, hs, hq2⟩
      · rw [if_neg (by simpa using ha)]
        congr 1
        symm
        rw [decide_eq_false_iff_not]
        intro h
        refine ha ⟨h.2.2.1, ?_⟩
        simp only [mm, Bool.false_eq_true, if_false]
        have h1 := h.2.2.2.1
        have h2 := h.2.2.2.2.1
        split <;> omega
    · rw [if_neg (c := decide ((List.length q : Int) ≤ 1000) = true) (by simpa using hlen)]
      have : decide (VOut b a s q) = false := by rw [decide_eq_false_iff_not]; intro h; exact hlen h.2.2.2.2.2.1
      rw [this]
      split <;> rfl
  · rw [if_neg (by simpa using hb)]
    congr 1
    symm
    rw [decide_eq_false_iff_not]
    intro h
    exact hb ⟨h.1, h.2.1⟩

theorem refValidOut_l1 (b a : Int) (s : ByteArray) (q : List ByteArray) (hq : q.length ≤ maxLen) : ∀ (n k i : Nat), q.length - i = n → i ≤ q.length → n < k →
    antiquaryref41_ValidOut_l1 k (i : Int) b a s q = some ((q.drop i).all bodyOk) := by
  intro n
  induction n with
  | zero =>
    intro k i h1 h2 h3
    obtain ⟨k, rfl⟩ := ksucc h3
    have : i = q.length := by omega
    subst this
    unfold antiquaryref41_ValidOut_l1
    rw [if_neg (by simp)]
    simp
  | succ n ih =>
    intro k i h1 h2 h3
    obtain ⟨k, rfl⟩ := ksucc h3
    have hi : i < q.length := by omega
    unfold antiquaryref41_ValidOut_l1
    rw [if_pos (by simpa using hi), if_pos ⟨by omega, by omega⟩, Int.toNat_natCast, getD_at _ hi, List.drop_eq_getElem_cons hi, List.all_cons, wsucc hi hq, ih k (i + 1) (by omega) (by omega) (by omega)]
    unfold bodyOk
    by_cases hb : (q[i].size : Int) ≤ 65536
    · rw [if_neg (by simp; omega)]; simp [hb]
    · rw [if_pos (by simp; omega)]; simp [hb]

theorem refValidOut_eq (k : Nat) (b a : Int) (s : ByteArray) (q : List ByteArray) (hq : q.length ≤ maxLen) (hk : q.length < k) : antiquaryref41_ValidOut k b a s q = some (decide (VOut b a s q)) := by
  unfold antiquaryref41_ValidOut antiquaryref41_ValidOut_l0 antiquaryref41_End
  have hl := refValidOut_l1 b a s q hq q.length k 0 (by omega) (by omega) hk
  rw [show ((0 : Nat) : Int) = 0 from rfl] at hl
  simp only [Option.bind_some, hl, List.drop_zero, if_true]
  have no : ¬ VOut b a s q → (some false : Option Bool) = some (decide (VOut b a s q)) := fun h => by rw [decide_eq_false h]
  by_cases h1 : b < 0
  · rw [if_pos (by simpa using h1)]; exact no fun h => by have := h.1; omega
  rw [if_neg (by simpa using h1)]
  by_cases h2 : b > 1099511627776
  · rw [if_pos (by simpa using h2)]; exact no fun h => by have := h.2.1; omega
  rw [if_neg (by simpa using h2)]
  by_cases h3 : a < 0
  · rw [if_pos (by simpa using h3)]; exact no fun h => by have := h.2.2.1; omega
  rw [if_neg (by simpa using h3)]
  by_cases h4 : a > 1099511627776
  · rw [if_pos (by simpa using h4)]; exact no fun h => by have := h.2.2.2.1; omega
  rw [if_neg (by simpa using h4)]
  by_cases h5 : (q.length : Int) > 1000
  · rw [if_pos (by simpa using h5)]; exact no fun h => by have := h.2.2.2.2.2.1; omega
  rw [if_neg (by simpa using h5)]
  by_cases h6 : (s.size : Int) > 65536
  · rw [if_pos (by simpa using h6)]; exact no fun h => by have := h.2.2.2.2.2.2.1; unfold bodyOk at this; simp at this; omega
  rw [if_neg (by simpa using h6), wid (by omega) (by omega)]
  by_cases h7 : a > b + (q.length : Int)
  · rw [if_pos (by simpa using h7)]; exact no fun h => by have := h.2.2.2.2.1; omega
  rw [if_neg (by simpa using h7)]
  congr 1
  cases hq2 : q.all bodyOk with
  | false => symm; rw [decide_eq_false_iff_not]; intro h; have := h.2.2.2.2.2.2.2; rw [hq2] at this; cases this
  | true => symm; rw [decide_eq_true_eq]; exact ⟨by omega, by omega, by omega, by omega, by omega, by omega, by unfold bodyOk; simp; omega, hq2⟩

/-! ### comparing -/
theorem baEq (x y : ByteArray) : (x == y) = decide (x = y) := by
  cases x; cases y
  rename_i a b
  show ByteArray.beq _ _ = _
  unfold ByteArray.beq
  simp
  rw [Bool.eq_iff_iff]; simp
theorem eqbF (x : Fr) : Kd.eqb (Kd.pair Kd.bool (Kd.pair (Kd.int .i64) (Kd.pair Kd.str Kd.unit))) (x.1, (x.2.1, (x.2.2.1, ()))) (x.1, (x.2.1, (x.2.2.1, ()))) = true := by
  simp [Kd.eqb, baEq]

theorem sameFrames_l0 (l : List Fr) (hl : l.length ≤ maxLen) : ∀ (n k i : Nat), l.length - i = n → i ≤ l.length → n < k → antiquaryref41_SameFrames_l0 k l l (i : Int) = some true := by
  intro n
  induction n with
  | zero =>
    intro k i h1 h2 h3
    obtain ⟨k, rfl⟩ := ksucc h3
    have : i = l.length := by omega
    subst this
    unfold antiquaryref41_SameFrames_l0
    rw [if_neg (by simp)]
  | succ n ih =>
    intro k i h1 h2 h3
    obtain ⟨k, rfl⟩ := ksucc h3
    have hi : i < l.length := by omega
    unfold antiquaryref41_SameFrames_l0
    rw [if_pos (by simpa using hi), if_pos ⟨by omega, by omega⟩, if_pos (by omega), eqbF]
    rw [if_neg (by simp), wsucc hi hl, ih k (i + 1) (by omega) (by omega) (by omega)]
theorem sameFrames_refl (k : Nat) (l : List Fr) (hl : l.length ≤ maxLen) (hk : l.length < k) : antiquaryref41_SameFrames k l l = some true := by
  unfold antiquaryref41_SameFrames
  rw [if_neg (by simp)]
  exact sameFrames_l0 l hl l.length k 0 (by omega) (by omega) hk

theorem sameOut_l1 (a1 a2 a6 a7 : Int) (a3 a8 : ByteArray) (q : List ByteArray) (hl : q.length ≤ maxLen) : ∀ (n k i : Nat), q.length - i = n → i ≤ q.length → n < k → antiquaryref41_SameOut_l1 k (i : Int) a1 a2 a3 q a6 a7 a8 q = some true := by
  intro n
  induction n with
  | zero =>
    intro k i h1 h2 h3
    obtain ⟨k, rfl⟩ := ksucc h3
    have : i = q.length := by omega
    subst this
    unfold antiquaryref41_SameOut_l1
    rw [if_neg (by simp)]
  | succ n ih =>
    intro k i h1 h2 h3
    obtain ⟨k, rfl⟩ := ksucc h3
    have hi : i < q.length := by omega
    unfold antiquaryref41_SameOut_l1
    rw [if_pos (by simpa using hi), if_pos ⟨by omega, by omega⟩, if_pos (by omega), if_neg (by simp), wsucc hi hl, ih k (i + 1) (by omega) (by omega) (by omega)]
theorem sameOut_refl (k : Nat) (a1 a2 : Int) (a3 : ByteArray) (q : List ByteArray) (hl : q.length ≤ maxLen) (hk : q.length < k) : antiquaryref41_SameOut k a1 a2 a3 q a1 a2 a3 q = some true := by
  unfold antiquaryref41_SameOut antiquaryref41_SameOut_l0
  rw [if_neg (by simp), if_neg (by simp), if_neg (by simp), if_neg (by simp)]
  exact sameOut_l1 _ _ _ _ _ _ q hl q.length k 0 (by omega) (by omega) hk
end Go.Proofs.G2
set_option linter.unusedVariables false
set_option linter.unusedSimpArgs false
namespace Go.Proofs.G2
open Go.Abs
open Go.Proofs.I1 (Fr framesOut upto fr pre0 lo0 upto_lo upto_succ upto_len upto_pre)

abbrev OutE : Type := Int × Int × ByteArray × List ByteArray × Int
def zeroO (e : Int) : OutE := (0, 0, ⟨#[]⟩, [], e)
def putR (b a : Int) (s : ByteArray) (q : List ByteArray) (x : ByteArray) : OutE :=
  if VOut b a s q ∧ bodyOk x = true then (if q.length = 1000 ∨ b + (q.length : Int) ≥ 1099511627776 then zeroO 2 else (b, a, s, q ++ [x], 0)) else zeroO 1
def foldR (b a : Int) (s : ByteArray) (q : List ByteArray) (u : Int) (x : ByteArray) : OutE :=
  if VOut b a s q ∧ b ≤ u ∧ u ≤ b + (q.length : Int) ∧ bodyOk x = true then (u, a, x, q.drop (u - b).toNat, 0) else zeroO 1
def ackR (b a : Int) (s : ByteArray) (q : List ByteArray) (n : Int) : OutE :=
  if VOut b a s q ∧ 0 ≤ n ∧ n ≤ b + (q.length : Int) then (if n ≤ a then (b, a, s, q, 0) else if n > b then (n, n, ⟨#[]⟩, q.drop (n - b).toNat, 0) else (b, n, s, q, 0)) else zeroO 1

theorem VOut.len {b a : Int} {s : ByteArray} {q : List ByteArray} (h : VOut b a s q) : q.length ≤ 1000 := by have := h.2.2.2.2.2.1; omega
theorem VOut.endw {b a : Int} {s : ByteArray} {q : List ByteArray} (h : VOut b a s q) : IntKind.i64.wrap (b + (q.length : Int)) = b + (q.length : Int) := by
  have h1 := h.1; have h2 := h.2.1; have h3 := h.2.2.2.2.2.1
  exact wid (by omega) (by omega)

section
variable {k : Nat} {b a : Int} {s : ByteArray} {q : List ByteArray} (hq : q.length ≤ maxLen) (hk : q.length < k)
include hq hk

theorem put_eq (x : ByteArray) : link_Put k b a s q x = some (putR b a s q x) := by
  unfold link_Put link_Put_l0 link_Put_l1 link_isBody link_end putR
  rw [validOut_eq k b a s q hq hk]
  simp only [Option.bind_some]
  by_cases hv : VOut b a s q
  · have hl := hv.len
    rw [decide_eq_true hv, hv.endw]
    rw [if_neg (by simp)]
    by_cases hx : bodyOk x = true
    · rw [if_pos (c := VOut b a s q ∧ bodyOk x = true) ⟨hv, hx⟩]
      have hx' : decide ((x.size : Int) ≤ 65536) = true := hx
      rw [hx', if_neg (by simp)]
      by_cases h1 : q.length = 1000
      · rw [if_pos (by simp [h1]), if_pos (by simp [h1]), if_pos (.inl h1)]; rfl
      · rw [if_neg (by simp; omega)]
        by_cases h2 : b + (q.length : Int) ≥ 1099511627776
        · rw [if_pos (by simpa using h2), if_pos (.inr h2)]; rfl
        · rw [if_neg (by simpa using h2), if_neg (c := q.length = 1000 ∨ b + (q.length : Int) ≥ 1099511627776) (by rintro (h | h); exact h1 h; exact h2 h), if_pos (by omega), if_pos (by simp; omega)]
    · have hx' : decide ((x.size : Int) ≤ 65536) = false := by simpa [bodyOk] using hx
      rw [hx', if_pos (by simp), if_neg (by rintro ⟨_, h⟩; exact hx h)]; rfl
  · rw [decide_eq_false hv, if_pos (by simp), if_pos (by simp), if_neg (by rintro ⟨h, _⟩; exact hv h)]; rfl

theorem refPut_eq (x : ByteArray) : antiquaryref41_Put k b a s q x = some (putR b a s q x) := by
  unfold antiquaryref41_Put antiquaryref41_Put_l0 antiquaryref41_Put_l1 antiquaryref41_End putR
  rw [refValidOut_eq k b a s q hq hk]
  simp only [Option.bind_some]
  by_cases hv : VOut b a s q
  · have hl := hv.len
    rw [decide_eq_true hv, hv.endw]
    rw [if_neg (by simp)]
    by_cases hx : bodyOk x = true
    · rw [if_pos (c := VOut b a s q ∧ bodyOk x = true) ⟨hv, hx⟩]
      have hx' : decide ((x.size : Int) > 65536) = false := by unfold bodyOk at hx; simp at hx ⊢; omega
      rw [hx', if_neg (by simp)]
      by_cases h1 : q.length = 1000
      · rw [if_pos (by simp [h1]), if_pos (by simp), if_pos (.inl h1)]; rfl
      · rw [if_neg (by simp; omega)]
        by_cases h2 : b + (q.length : Int) ≥ 1099511627776
        · rw [if_pos (by simpa using h2), if_pos (.inr h2)]; rfl
        · rw [if_neg (by simpa using h2), if_neg (c := q.length = 1000 ∨ b + (q.length : Int) ≥ 1099511627776) (by rintro (h | h); exact h1 h; exact h2 h), if_pos (by simp; omega), if_pos (by simp; omega)]; rfl
    · have hx' : decide ((x.size : Int) > 65536) = true := by unfold bodyOk at hx; simp at hx ⊢; omega
      rw [hx', if_pos (by simp), if_neg (by rintro ⟨_, h⟩; exact hx h)]; rfl
  · rw [decide_eq_false hv, if_pos (by simp), if_pos (by simp), if_neg (by rintro ⟨h, _⟩; exact hv h)]; rfl

theorem fold_eq (u : Int) (x : ByteArray) : link_Fold k b a s q u x = some (foldR b a s q u x) := by
  unfold link_Fold link_Fold_l0 link_isBody link_end foldR
  rw [validOut_eq k b a s q hq hk]
  simp only [Option.bind_some, if_true]
  by_cases hv : VOut b a s q
  · have hl := hv.len
    have h1 := hv.1
    have h2 := hv.2.1
    rw [decide_eq_true hv, hv.endw, if_neg (by simp)]
    by_cases hu : u < b
    · rw [if_pos (by simpa using hu), if_neg (by rintro ⟨_, h, _⟩; omega)]; rfl
    · rw [if_neg (by simpa using hu)]
      by_cases hu2 : u > b + (q.length : Int)
      · rw [if_pos (by simpa using hu2), if_neg (by rintro ⟨_, _, h, _⟩; omega)]; rfl
      · rw [if_neg (by simpa using hu2), wid (n := u - b) (by omega) (by omega)]
        by_cases hx : bodyOk x = true
        · have hx' : decide ((x.size : Int) ≤ 65536) = true := hx
          rw [hx', if_neg (by simp), if_pos (by omega), if_pos ⟨hv, by omega, by omega, hx⟩]
        · have hx' : decide ((x.size : Int) ≤ 65536) = false := by simpa [bodyOk] using hx
          rw [hx', if_pos (by simp), if_neg (by rintro ⟨_, _, _, h⟩; exact hx h)]; rfl
  · rw [decide_eq_false hv, if_pos (by simp), if_neg (by rintro ⟨h, _⟩; exact hv h)]; rfl

theorem refFold_eq (u : Int) (x : ByteArray) : antiquaryref41_Fold k b a s q u x = some (foldR b a s q u x) := by
  unfold antiquaryref41_Fold antiquaryref41_Fold_l0 antiquaryref41_End foldR
  rw [refValidOut_eq k b a s q hq hk]
  simp only [Option.bind_some, if_true]
  by_cases hv : VOut b a s q
  · have hl := hv.len
    have h1 := hv.1
    have h2 := hv.2.1
    rw [decide_eq_true hv, hv.endw, if_neg (by simp)]
    by_cases hu : u < b
    · rw [if_pos (by simpa using hu), if_neg (by rintro ⟨_, h, _⟩; omega)]; rfl
    · rw [if_neg (by simpa using hu)]
      by_cases hu2 : u > b + (q.length : Int)
      · rw [if_pos (by simpa using hu2), if_neg (by rintro ⟨_, _, h, _⟩; omega)]; rfl
      · rw [if_neg (by simpa using hu2), wid (n := u - b) (by omega) (by omega)]
        by_cases hx : bodyOk x = true
        · have hx' : decide ((x.size : Int) > 65536) = false := by unfold bodyOk at hx; simp at hx ⊢; omega
          rw [hx', if_neg (by simp), if_pos (by omega), if_pos (by simp; omega), if_pos ⟨hv, by omega, by omega, hx⟩]; rfl
        · have hx' : decide ((x.size : Int) > 65536) = true := by unfold bodyOk at hx; simp at hx ⊢; omega
          rw [hx', if_pos (by simp), if_neg (by rintro ⟨_, _, _, h⟩; exact hx h)]; rfl
  · rw [decide_eq_false hv, if_pos (by simp), if_neg (by rintro ⟨h, _⟩; exact hv h)]; rfl

theorem ack_eq (n : Int) : link_Acknowledge k b a s q n = some (ackR b a s q n) := by
  unfold link_Acknowledge link_Acknowledge_l0 link_end ackR
  rw [validOut_eq k b a s q hq hk]
  simp only [Option.bind_some, within_eq]
  by_cases hv : VOut b a s q
  · have hl := hv.len
    have h1 := hv.1
    have h2 := hv.2.1
    rw [decide_eq_true hv, hv.endw, if_neg (by simp)]
    by_cases hn : 0 ≤ n ∧ n ≤ b + (q.length : Int)
    · rw [if_pos (c := VOut b a s q ∧ 0 ≤ n ∧ n ≤ b + (q.length : Int)) ⟨hv, hn⟩, decide_eq_true hn, if_neg (by simp)]
      by_cases h3 : n ≤ a
      · rw [if_pos (by simpa using h3), if_pos h3]
      · rw [if_neg (by simpa using h3), if_neg h3]
        by_cases h4 : n > b
        · rw [if_pos (by simpa using h4), if_pos h4, wid (n := n - b) (by omega) (by omega), if_pos (by omega)]
        · rw [if_neg (by simpa using h4), if_neg h4]
    · rw [if_neg (c := VOut b a s q ∧ 0 ≤ n ∧ n ≤ b + (q.length : Int)) (by rintro ⟨_, h⟩; exact hn h), decide_eq_false hn, if_pos (by simp)]; rfl
  · rw [decide_eq_false hv, if_pos (by simp), if_pos (by simp), if_neg (by rintro ⟨h, _⟩; exact hv h)]; rfl

theorem refAck_eq (n : Int) : antiquaryref41_Acknowledge k b a s q n = some (ackR b a s q n) := by
  unfold antiquaryref41_Acknowledge antiquaryref41_Acknowledge_l0 antiquaryref41_End ackR
  rw [refValidOut_eq k b a s q hq hk]
  simp only [Option.bind_some, if_true]
  by_cases hv : VOut b a s q
  · have hl := hv.len
    have h1 := hv.1
    have h2 := hv.2.1
    rw [decide_eq_true hv, hv.endw, if_neg (by simp)]
    by_cases hn : n < 0
    · rw [if_pos (by simpa using hn), if_neg (by rintro ⟨_, h, _⟩; omega)]; rfl
    · rw [if_neg (by simpa using hn)]
      by_cases hn2 : n > b + (q.length : Int)
      · rw [if_pos (by simpa using hn2), if_neg (by rintro ⟨_, _, h⟩; omega)]; rfl
      · rw [if_neg (by simpa using hn2), if_pos (c := VOut b a s q ∧ 0 ≤ n ∧ n ≤ b + (q.length : Int)) ⟨hv, by omega, by omega⟩]
        by_cases h3 : n ≤ a
        · rw [if_pos (by simpa using h3), if_pos h3]
        · rw [if_neg (by simpa using h3), if_neg h3]
          by_cases h4 : n > b
          · rw [if_pos (by simpa using h4), if_pos h4, wid (n := n - b) (by omega) (by omega), if_pos (by omega), if_pos (by simp; omega)]; rfl
          · rw [if_neg (by simpa using h4), if_neg h4]
  · rw [decide_eq_false hv, if_pos (by simp), if_neg (by rintro ⟨h, _⟩; exact hv h)]; rfl

omit hq hk in
theorem refFrames_l2 (most p7 : Int) (hv : VOut b a s q) (hm : 0 ≤ most) : ∀ (n k j : Nat), q.length - j = n → lo0 b a ≤ j → j ≤ q.length → n < k →
    antiquaryref41_Frames_l2 k most (b + (j : Int)) b a s q p7 (upto b a s q j) = some ((upto b a s q q.length).take most.toNat, 0) := by
  have hl := hv.len
  have h1 := hv.1
  have h2 := hv.2.1
  have hpl : ∀ j, (upto b a s q j).length ≤ j + 1 := fun j => by unfold upto pre0; split <;> simp <;> omega
  intro n
  induction n with
  | zero =>
    intro k j h3 h4 h5 h6
    obtain ⟨k, rfl⟩ := ksucc h6
    have : j = q.length := by omega
    subst this
    unfold antiquaryref41_Frames_l2 antiquaryref41_End
    simp only [Option.bind_some]
    rw [hv.endw, if_neg (by simp)]
    have hpl' := hpl q.length
    have hmm : mm false most ((upto b a s q q.length).length : Int) = ((min most.toNat (upto b a s q q.length).length : Nat) : Int) := by
      simp only [mm, Bool.false_eq_true, if_false]
      split <;> omega
    rw [hmm, if_pos (by omega), Int.toNat_natCast, if_pos (by simp; omega)]
    rw [List.nil_append]
    congr 2
    rw [List.take_eq_take_iff]
    omega
  | succ n ih =>
    intro k j h3 h4 h5 h6
    obtain ⟨k, rfl⟩ := ksucc h6
    have hj : j < q.length := by omega
    unfold antiquaryref41_Frames_l2 antiquaryref41_End
    simp only [Option.bind_some]
    have hpl' := hpl j
    rw [hv.endw, if_pos (by simp; omega), wid (n := b + (j : Int) - b) (by omega) (by omega), show b + (j : Int) - b = (j : Int) by omega, if_pos (by omega), Int.toNat_natCast, if_pos (by simp; omega), wid (by omega) (by omega)]
    have := ih k (j + 1) (by omega) (by omega) (by omega) (by omega)
    rw [upto_succ _ _ _ _ _ h4] at this
    rw [show b + (j : Int) + 1 = b + ((j + 1 : Nat) : Int) by omega]
    exact this

theorem refFrames_eq (most : Int) : antiquaryref41_Frames k b a s q most = some (framesOut (decide (VOut b a s q)) b a s q most) := by
  unfold antiquaryref41_Frames antiquaryref41_Frames_l0 antiquaryref41_Frames_l1 framesOut
  rw [refValidOut_eq k b a s q hq hk]
  simp only [Option.bind_some, if_true]
  by_cases hv : VOut b a s q
  · have hl := hv.len
    have h1 := hv.1
    have h2 := hv.2.2.1
    have h3 := hv.2.2.2.2.1
    rw [decide_eq_true hv, if_neg (by simp)]
    by_cases hm : most < 0
    · rw [if_pos (by simpa using hm), if_neg (by rintro ⟨_, h⟩; omega)]
    · rw [if_neg (by simpa using hm), if_pos (c := true = true ∧ 0 ≤ most) ⟨rfl, by omega⟩]
      have hloop := refFrames_l2 most 0 hv (by omega) (q.length - lo0 b a) k (lo0 b a) rfl (Nat.le_refl _) (by unfold lo0; omega) (by omega)
      rw [upto_lo] at hloop
      have hmm : mm true a b = b + (lo0 b a : Int) := by
        unfold lo0
        simp only [mm, if_true]
        split <;> omega
      by_cases hab : a < b
      · rw [if_pos (by simpa using hab), if_pos (by simp), hmm]
        have : pre0 b a s = [(true, b, s, ())] := by unfold pre0; rw [if_pos hab]
        rw [this] at hloop
        exact hloop
      · rw [if_neg (by simpa using hab), hmm]
        have : pre0 b a s = [] := by unfold pre0; rw [if_neg hab]
        rw [this] at hloop
        exact hloop
  · rw [decide_eq_false hv, if_pos (by simp), if_neg (by simp)]
end
end Go.Proofs.G2
set_option linter.unusedVariables false
set_option linter.unusedSimpArgs false
namespace Go.Proofs.G2
open Go.Abs
open Go.Proofs.I1 (Fr framesOut upto fr pre0 lo0 upto_lo upto_succ upto_len upto_pre)

theorem sanity_true (k : Nat) : antiquarylaw41_sanity (k + 40) = some true := by kernel_rfl
theorem sanity_ge {k : Nat} (h : 40 ≤ k) : antiquarylaw41_sanity k = some true := by
  obtain ⟨k, rfl⟩ : ∃ k', k = k' + 40 := ⟨k - 40, by omega⟩
  exact sanity_true k

theorem fewOut_l1 (b a : Int) (s : ByteArray) (q : List ByteArray) (hq : q.length ≤ maxLen) : ∀ (n k i : Nat), q.length - i = n → i ≤ q.length → n < k →
    ∃ r, antiquarylaw41_fewOut_l1 k (i : Int) b a s q = some r := by
  intro n
  induction n with
  | zero =>
    intro k i h1 h2 h3
    obtain ⟨k, rfl⟩ := ksucc h3
    have : i = q.length := by omega
    subst this
    unfold antiquarylaw41_fewOut_l1
    rw [if_neg (by simp)]
    exact ⟨_, rfl⟩
  | succ n ih =>
    intro k i h1 h2 h3
    obtain ⟨k, rfl⟩ := ksucc h3
    have hi : i < q.length := by omega
    unfold antiquarylaw41_fewOut_l1
    rw [if_pos (by simpa using hi), if_pos ⟨by omega, by omega⟩, wsucc hi hq]
    split
    · exact ⟨_, rfl⟩
    · exact ih k (i + 1) (by omega) (by omega) (by omega)

theorem fewOut_some {k : Nat} (hk : 1002 ≤ k) (b a : Int) (s : ByteArray) (q : List ByteArray) : ∃ r, antiquarylaw41_fewOut k b a s q = some r ∧ (r = true → q.length ≤ 1001) := by
  unfold antiquarylaw41_fewOut antiquarylaw41_fewOut_l0
  simp only [if_true]
  by_cases h : (q.length : Int) > 1001
  · refine ⟨false, ?_, fun h => by cases h⟩
    split
    · split
      · rfl
      · rw [if_pos (by simpa using h)]
    · rw [if_pos (by simpa using h)]
  · have hl := fewOut_l1 b a s q (by rw [maxLen_eq]; omega) q.length k 0 (by omega) (by omega) (by omega)
    obtain ⟨r, hr⟩ := hl
    rw [show ((0 : Nat) : Int) = 0 from rfl] at hr
    rw [hr]
    refine (fun ⟨r, hr⟩ => ⟨r, hr, fun _ => by omega⟩ : (∃ r, _ = some r) → _) ?_
    repeat' split
    all_goals exact ⟨_, rfl⟩

theorem drop_le {α : Type} {l : List α} {n m : Nat} (h : l.length ≤ m) : (l.drop n).length ≤ m := by rw [List.length_drop]; omega
theorem putR_len {b a : Int} {s : ByteArray} {q : List ByteArray} {x : ByteArray} {n : Nat} (h : q.length + 1 ≤ n) : (putR b a s q x).2.2.2.1.length ≤ n := by
  unfold putR zeroO
  split
  · split <;> simp; omega
  · simp
theorem foldR_len {b a : Int} {s : ByteArray} {q : List ByteArray} {u : Int} {x : ByteArray} {n : Nat} (h : q.length ≤ n) : (foldR b a s q u x).2.2.2.1.length ≤ n := by
  unfold foldR zeroO
  split
  · simp; omega
  · simp
theorem ackR_len {b a : Int} {s : ByteArray} {q : List ByteArray} {u : Int} {n : Nat} (h : q.length ≤ n) : (ackR b a s q u).2.2.2.1.length ≤ n := by
  unfold ackR zeroO
  split
  · split
    · exact h
    · split
      · simp; omega
      · exact h
  · simp
theorem framesOut_len {vo : Bool} {b a : Int} {s : ByteArray} {q : List ByteArray} {m : Int} : (framesOut vo b a s q m).1.length ≤ q.length + 1 := by
  unfold framesOut
  split
  · have : (upto b a s q q.length).length ≤ q.length + 1 := by
      unfold upto pre0
      split <;> simp <;> omega
    rw [List.length_take]
    omega
  · simp

theorem sends_l1 {k : Nat} (hk : 2000 ≤ k) (p1 : List Fr) (p2 p3 p5 p6 : Int) (p7 : ByteArray) (p8 : List ByteArray) (h1 : p1.length ≤ 1500) (h8 : p8.length ≤ 1500) :
    antiquarylaw41_LinkSendsAsSpecified_l1 k p1 p2 p3 true p5 p6 p7 p8 p1 p2 p5 p6 p7 p8 p3 = some true := by
  unfold antiquarylaw41_LinkSendsAsSpecified_l1
  rw [sanity_ge (by omega), sameFrames_refl k p1 (by rw [maxLen_eq]; omega) (by omega), sameOut_refl k p5 p6 p7 p8 (by rw [maxLen_eq]; omega) (by omega)]
  simp

theorem pureLinkSendsAsSpecified (y0 : (Int × (Int × (ByteArray × (List ByteArray × Unit))))) (y1 : ByteArray) (y2 : Int) (f0 : Kd.Fits (Kd.pair (Kd.int .i64) (Kd.pair (Kd.int .i64) (Kd.pair Kd.str (Kd.pair (Kd.sl Kd.str) Kd.unit)))) y0) (f1 : Kd.Fits Kd.str y1) (f2 : Kd.Fits (Kd.int .i64) y2) : ∃ k, antiquarylaw41_LinkSendsAsSpecified k y0.1 y0.2.1 y0.2.2.1 y0.2.2.2.1 y1 y2 = some true := by
  refine ⟨3000, ?_⟩
  obtain ⟨b, a, s, q, _⟩ := y0
  dsimp only
  unfold antiquarylaw41_LinkSendsAsSpecified
  obtain ⟨r, hr, hlen⟩ := fewOut_some (k := 3000) (by omega) b a s q
  rw [hr, Option.bind_some]
  have hs := sanity_ge (k := 3000) (by omega)
  cases r with
  | false =>
    rw [if_pos (by simp)]
    unfold antiquarylaw41_LinkSendsAsSpecified_l0
    rw [if_pos rfl, hs]; rfl
  | true =>
    have hq := hlen rfl
    have hq1 : q.length ≤ maxLen := by rw [maxLen_eq]; omega
    have hq2 : q.length < 3000 := by omega
    rw [if_neg (by simp)]
    unfold antiquarylaw41_LinkSendsAsSpecified_l0
    split
    · rw [hs]; rfl
    · rw [put_eq hq1 hq2, fold_eq hq1 hq2, validOut_eq _ _ _ _ _ hq1 hq2, ack_eq hq1 hq2, refPut_eq hq1 hq2, refFold_eq hq1 hq2, refFrames_eq hq1 hq2, refAck_eq hq1 hq2, refValidOut_eq _ _ _ _ _ hq1 hq2]
      simp only [Option.bind_some]
      have hp := putR_len (b := b) (a := a) (s := s) (x := y1) (n := 1500) (show q.length + 1 ≤ 1500 by omega)
      have hf := foldR_len (b := b) (a := a) (s := s) (u := y2) (x := y1) (n := 1500) (show q.length ≤ 1500 by omega)
      have ha := ackR_len (b := b) (a := a) (s := s) (u := y2) (n := 1500) (show q.length ≤ 1500 by omega)
      rw [if_pos (by simp), sameOut_refl _ _ _ _ _ (by rw [maxLen_eq]; omega) (by omega), Option.bind_some, if_pos rfl, if_pos (by simp), sameOut_refl _ _ _ _ _ (by rw [maxLen_eq]; omega) (by omega), Option.bind_some, if_pos rfl]
      rw [show ((foldR b a s q y2 y1).2.2.2.2 == (foldR b a s q y2 y1).2.2.2.2) = true by simp]
      have hfr := framesOut_len (vo := decide (VOut b a s q)) (b := b) (a := a) (s := s) (q := q) (m := y2)
      exact sends_l1 (by omega) _ _ _ _ _ _ _ (by omega) ha
end Go.Proofs.G2
