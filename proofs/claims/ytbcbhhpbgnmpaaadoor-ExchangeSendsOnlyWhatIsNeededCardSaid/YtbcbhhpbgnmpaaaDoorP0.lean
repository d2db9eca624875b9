/- The plain laws: what those Lean functions compute. No program in sight. -/
import Derived.Test.YtbcbhhpbgnmpaaaDoorG4
set_option linter.unusedVariables false
set_option linter.unusedSimpArgs false
namespace Go.Proofs.P44
open Go Go.Abs Go.Proofs Go.Proofs.K1 Go.Proofs.G44
set_option maxRecDepth 10000

def rot (x : Int) (n : Nat) : Int := IntKind.u32.wrap (((BitVec.ofInt 32 (IntKind.u32.wrap (x * 2 ^ (32 - n)))) ||| (BitVec.ofInt 32 (Int.fdiv x (2 ^ n)))).toNat : Int)

theorem rotl7 (k : Nat) (x : Int) : bits_RotateLeft32 k x (-7) = some (rot x 7) := by kernel_rfl
theorem rotl18 (k : Nat) (x : Int) : bits_RotateLeft32 k x (-18) = some (rot x 18) := by kernel_rfl
theorem rotl17 (k : Nat) (x : Int) : bits_RotateLeft32 k x (-17) = some (rot x 17) := by kernel_rfl
theorem rotl19 (k : Nat) (x : Int) : bits_RotateLeft32 k x (-19) = some (rot x 19) := by kernel_rfl

def rot' (x : Int) (n : Nat) : Int := IntKind.u32.wrap (((BitVec.ofInt 32 (Int.fdiv x (2 ^ n))) ||| (BitVec.ofInt 32 (IntKind.u32.wrap (x * 2 ^ (32 - n))))).toNat : Int)
theorem rot'_eq (x : Int) (n : Nat) : rot' x n = rot x n := by unfold rot' rot; rw [BitVec.or_comm]

theorem rotr7 (k : Nat) (x : Int) : antiquaryref02_rotr k x 7 = some (rot x 7) := by rw [← rot'_eq]; kernel_rfl
theorem rotr18 (k : Nat) (x : Int) : antiquaryref02_rotr k x 18 = some (rot x 18) := by rw [← rot'_eq]; kernel_rfl
theorem rotr17 (k : Nat) (x : Int) : antiquaryref02_rotr k x 17 = some (rot x 17) := by rw [← rot'_eq]; kernel_rfl
theorem rotr19 (k : Nat) (x : Int) : antiquaryref02_rotr k x 19 = some (rot x 19) := by rw [← rot'_eq]; kernel_rfl
theorem rotr2 (k : Nat) (x : Int) : antiquaryref02_rotr k x 2 = some (rot x 2) := by rw [← rot'_eq]; kernel_rfl
theorem rotr13 (k : Nat) (x : Int) : antiquaryref02_rotr k x 13 = some (rot x 13) := by rw [← rot'_eq]; kernel_rfl
theorem rotr22 (k : Nat) (x : Int) : antiquaryref02_rotr k x 22 = some (rot x 22) := by rw [← rot'_eq]; kernel_rfl
theorem rotr6 (k : Nat) (x : Int) : antiquaryref02_rotr k x 6 = some (rot x 6) := by rw [← rot'_eq]; kernel_rfl
theorem rotr11 (k : Nat) (x : Int) : antiquaryref02_rotr k x 11 = some (rot x 11) := by rw [← rot'_eq]; kernel_rfl
theorem rotr25 (k : Nat) (x : Int) : antiquaryref02_rotr k x 25 = some (rot x 25) := by rw [← rot'_eq]; kernel_rfl

def mixP (x : Int) (i j l : Nat) : Int := IntKind.u32.wrap (((BitVec.ofInt 32 (IntKind.u32.wrap (((BitVec.ofInt 32 (rot x i)) ^^^ (BitVec.ofInt 32 (rot x j))).toNat : Int))) ^^^ (BitVec.ofInt 32 (rot x l))).toNat : Int)
theorem mix1 (k : Nat) (x : Int) : hash_mix k x 6 11 25 = some (mixP x 6 11 25) := by kernel_rfl
theorem mix0 (k : Nat) (x : Int) : hash_mix k x 2 13 22 = some (mixP x 2 13 22) := by kernel_rfl

def sg (x : Int) (i j l : Nat) : Int := IntKind.u32.wrap (((BitVec.ofInt 32 (IntKind.u32.wrap (((BitVec.ofInt 32 (rot x i)) ^^^ (BitVec.ofInt 32 (rot x j))).toNat : Int))) ^^^ (BitVec.ofInt 32 (Int.fdiv x (2 ^ l)))).toNat : Int)
def wordAt (w : List Int) (t : Nat) : Int :=
  IntKind.u32.wrap (IntKind.u32.wrap (IntKind.u32.wrap (List.getD w (t - 16) 0 + sg (List.getD w (t - 15) 0) 7 18 3) + List.getD w (t - 7) 0) + sg (List.getD w (t - 2) 0) 17 19 10)
def extF : Nat → Nat → List Int → List Int
  | 0, _, w => w
  | n + 1, t, w => extF n (t + 1) (List.set w t (wordAt w t))

theorem w64 (x : Int) (h : -9223372036854775808 ≤ x ∧ x ≤ 9223372036854775807) : IntKind.i64.wrap x = x := by rw [IntKind.wrap_i64]; omega

theorem ref_words_l1 : ∀ (n k t : Nat) (x w : List Int), 16 ≤ t → t + n = 64 → n < k → antiquaryref02_words_l1 k (t : Int) x w = some (extF n t w)
  | 0, k + 1, t, x, w, h1, h2, h3 => by
    have : ¬ ((t : Int) < 64) := by omega
    unfold antiquaryref02_words_l1
    rw [if_neg (by simpa using this)]; rfl
  | n + 1, k + 1, t, x, w, h1, h2, h3 => by
    have hlt : (t : Int) < 64 := by omega
    unfold antiquaryref02_words_l1
    rw [if_pos (by simpa using hlt), w64 _ (by omega), w64 _ (by omega), w64 _ (by omega), w64 _ (by omega), w64 _ (by omega)]
    rw [if_pos (by omega), rotr7, Option.bind_some, rotr18, Option.bind_some, if_pos (by omega), rotr17, Option.bind_some, rotr19, Option.bind_some, if_pos (by omega), if_pos (by omega), if_pos (by omega)]
    have e : (t : Int) + 1 = ((t + 1 : Nat) : Int) := by omega
    rw [e, ref_words_l1 n k (t + 1) x _ (by omega) (by omega) (by omega)]
    have e16 : Int.toNat ((t : Int) - 16) = t - 16 := by omega
    have e15 : Int.toNat ((t : Int) - 15) = t - 15 := by omega
    have e7 : Int.toNat ((t : Int) - 7) = t - 7 := by omega
    have e2 : Int.toNat ((t : Int) - 2) = t - 2 := by omega
    rw [e16, e15, e7, e2, Int.toNat_natCast]
    rfl

end Go.Proofs.P44
set_option linter.unusedVariables false
set_option linter.unusedSimpArgs false
namespace Go.Proofs.P44
open Go Go.Abs Go.Proofs Go.Proofs.K1 Go.Proofs.G44
set_option maxRecDepth 10000

theorem wu32 (x : Int) (h : 0 ≤ x ∧ x < 4294967296) : IntKind.u32.wrap x = x := by
  have : IntKind.u32.wrap x = x % 4294967296 := rfl
  rw [this]; omega

theorem bor (a x i : Nat) (hx : x < 2 ^ i) (h : a * 2 ^ i + x < 4294967296) : ((BitVec.ofInt 32 ((a * 2 ^ i : Nat) : Int)) ||| (BitVec.ofInt 32 (x : Int))).toNat = a * 2 ^ i + x := by
  rw [BitVec.ofInt_natCast, BitVec.ofInt_natCast, BitVec.toNat_or, BitVec.toNat_ofNat, BitVec.toNat_ofNat, Nat.mod_eq_of_lt (by omega), Nat.mod_eq_of_lt (by omega), ← Nat.shiftLeft_eq, ← Nat.shiftLeft_add_eq_or_of_lt hx, Nat.shiftLeft_eq]

def sh8 (a x : Int) : Int := IntKind.u32.wrap (((BitVec.ofInt 32 (IntKind.u32.wrap (a * 2 ^ 8))) ||| (BitVec.ofInt 32 (IntKind.u32.wrap x))).toNat : Int)
theorem sh8_eq (a x : Nat) (ha : a < 16777216) (hx : x < 256) : sh8 a x = ((a * 256 + x : Nat) : Int) := by
  unfold sh8
  rw [wu32 (x : Int) (by omega)]
  have e : (a : Int) * 2 ^ 8 = ((a * 2 ^ 8 : Nat) : Int) := by omega
  rw [e, wu32 ((a * 2 ^ 8 : Nat) : Int) (by omega), bor a x 8 (by omega) (by omega), wu32 _ (by omega)]

def be (x0 x1 x2 x3 : Int) : Int :=
  IntKind.u32.wrap (((BitVec.ofInt 32 (IntKind.u32.wrap (((BitVec.ofInt 32 (IntKind.u32.wrap (((BitVec.ofInt 32 (IntKind.u32.wrap (IntKind.u32.wrap x0 * 2 ^ 24))) ||| (BitVec.ofInt 32 (IntKind.u32.wrap (IntKind.u32.wrap x1 * 2 ^ 16)))).toNat : Int))) ||| (BitVec.ofInt 32 (IntKind.u32.wrap (IntKind.u32.wrap x2 * 2 ^ 8)))).toNat : Int))) ||| (BitVec.ofInt 32 (IntKind.u32.wrap x3))).toNat : Int)

theorem be_eq (x0 x1 x2 x3 : Nat) (h0 : x0 < 256) (h1 : x1 < 256) (h2 : x2 < 256) (h3 : x3 < 256) : be x0 x1 x2 x3 = sh8 (sh8 (sh8 (sh8 0 x0) x1) x2) x3 := by
  have s0 : sh8 0 x0 = ((x0 : Nat) : Int) := by have := sh8_eq 0 x0 (by omega) h0; simpa using this
  rw [s0, sh8_eq x0 x1 (by omega) h1, sh8_eq _ x2 (by omega) h2, sh8_eq _ x3 (by omega) h3]
  unfold be
  rw [wu32 (x0 : Int) (by omega), wu32 (x1 : Int) (by omega), wu32 (x2 : Int) (by omega), wu32 (x3 : Int) (by omega)]
  have e0 : (x0 : Int) * 2 ^ 24 = ((x0 * 2 ^ 24 : Nat) : Int) := by omega
  have e1 : (x1 : Int) * 2 ^ 16 = ((x1 * 2 ^ 16 : Nat) : Int) := by omega
  have e2 : (x2 : Int) * 2 ^ 8 = ((x2 * 2 ^ 8 : Nat) : Int) := by omega
  rw [e0, e1, e2, wu32 ((x0 * 2 ^ 24 : Nat) : Int) (by omega), wu32 ((x1 * 2 ^ 16 : Nat) : Int) (by omega), wu32 ((x2 * 2 ^ 8 : Nat) : Int) (by omega)]
  rw [bor x0 (x1 * 2 ^ 16) 24 (by omega) (by omega), wu32 ((x0 * 2 ^ 24 + x1 * 2 ^ 16 : Nat) : Int) (by omega)]
  rw [show x0 * 2 ^ 24 + x1 * 2 ^ 16 = (x0 * 256 + x1) * 2 ^ 16 by omega, bor (x0 * 256 + x1) (x2 * 2 ^ 8) 16 (by omega) (by omega), wu32 (((x0 * 256 + x1) * 2 ^ 16 + x2 * 2 ^ 8 : Nat) : Int) (by omega)]
  rw [show (x0 * 256 + x1) * 2 ^ 16 + x2 * 2 ^ 8 = ((x0 * 256 + x1) * 256 + x2) * 2 ^ 8 by omega, bor _ x3 8 (by omega) (by omega), wu32 _ (by omega)]

def Bytes (l : List Int) : Prop := ∀ x ∈ l, 0 ≤ x ∧ x < 256

def firstF (b : List Int) : Nat → Nat → List Int → List Int
  | 0, _, w => w
  | n + 1, t, w => firstF b n (t + 1) (List.set w t (be (List.getD b (4 * t) 0) (List.getD b (4 * t + 1) 0) (List.getD b (4 * t + 2) 0) (List.getD b (4 * t + 3) 0)))

def schedP (b : List Int) : List Int := extF 48 16 (firstF b 16 0 (List.replicate 64 0))

theorem ref_words_l0 (b : List Int) (hb : b.length = 64) : ∀ (n k t : Nat) (x w : List Int), t + n = 16 → n + 64 < k → antiquaryref02_words_l0 k b (t : Int) x w = some (extF 48 16 (firstF b n t w))
  | 0, k + 1, t, x, w, h1, h2 => by
    have ht : t = 16 := by omega
    subst ht
    unfold antiquaryref02_words_l0
    rw [if_neg (by decide)]
    exact ref_words_l1 48 k 16 x w (by omega) (by omega) (by omega)
  | n + 1, k + 1, t, x, w, h1, h2 => by
    have hlt : (t : Int) < 16 := by omega
    unfold antiquaryref02_words_l0
    rw [if_pos (by simpa using hlt), w64 (4 * (t : Int)) (by omega), w64 _ (by omega), w64 (4 * (t : Int) + 2) (by omega), w64 (4 * (t : Int) + 3) (by omega), w64 ((t : Int) + 1) (by omega)]
    rw [if_pos (by omega), if_pos (by omega), if_pos (by omega), if_pos (by omega), if_pos (by omega)]
    have e : (t : Int) + 1 = ((t + 1 : Nat) : Int) := by omega
    rw [e, ref_words_l0 b hb n k (t + 1) x _ (by omega) (by omega)]
    have e0 : Int.toNat (4 * (t : Int)) = 4 * t := by omega
    have e1 : Int.toNat (4 * (t : Int) + 1) = 4 * t + 1 := by omega
    have e2 : Int.toNat (4 * (t : Int) + 2) = 4 * t + 2 := by omega
    have e3 : Int.toNat (4 * (t : Int) + 3) = 4 * t + 3 := by omega
    rw [e0, e1, e2, e3, Int.toNat_natCast]
    rfl

theorem ref_words (k : Nat) (hk : 80 < k) (b : List Int) (hb : b.length = 64) : antiquaryref02_words k b = some (schedP b) := by
  unfold antiquaryref02_words
  exact ref_words_l0 b hb 16 k 0 _ _ (by omega) (by omega)

end Go.Proofs.P44
set_option linter.unusedVariables false
set_option linter.unusedSimpArgs false
namespace Go.Proofs.P44
open Go Go.Abs Go.Proofs Go.Proofs.K1 Go.Proofs.G44
set_option maxRecDepth 10000

theorem getD_set (w : List Int) (t : Nat) (v : Int) (h : t < w.length) : List.getD (List.set w t v) t 0 = v := by
  rw [List.getD_eq_getElem?_getD, List.getElem?_set_self h]; rfl

theorem sched_l1_step (s0 : List Int → Int → List Int → List Int → Option (List Int)) (k t j : Nat) (p1 : List Int) (p3 : Int) (sl p7 w : List Int) (hj : j < 4) (hs : sl.length = 4) (ht : t < 64) :
    hash_schedule_l1 s0 (k + 1) p1 (t : Int) p3 sl 4 (j : Int) p7 w = hash_schedule_l1 s0 k p1 (t : Int) p3 sl 4 ((j + 1 : Nat) : Int) p7 (List.set w t (sh8 (List.getD w t 0) (List.getD sl j 0))) := by
  conv => lhs; unfold hash_schedule_l1
  rw [if_pos (by simpa using (by omega : (j : Int) < 4)), if_pos (by omega), if_pos (by omega), w64 _ (by omega)]
  have e : (j : Int) + 1 = ((j + 1 : Nat) : Int) := by omega
  rw [e, Int.toNat_natCast, Int.toNat_natCast]
  rfl

theorem sched_l1 (s0 : List Int → Int → List Int → List Int → Option (List Int)) (k t : Nat) (p1 : List Int) (p3 : Int) (x0 x1 x2 x3 : Int) (p7 w : List Int) (ht : t < 64) (hw : w.length = 64) :
    hash_schedule_l1 s0 (k + 5) p1 (t : Int) p3 [x0, x1, x2, x3] 4 0 p7 w = s0 p1 (IntKind.i64.wrap (p3 + 1)) p7 (List.set w t (sh8 (sh8 (sh8 (sh8 (List.getD w t 0) x0) x1) x2) x3)) := by
  have g := fun v => getD_set w t v (by omega)
  have h0 := sched_l1_step s0 (k + 4) t 0 p1 p3 [x0, x1, x2, x3] p7 w (by omega) rfl ht
  rw [show ((0 : Nat) : Int) = 0 from rfl] at h0
  rw [show k + 5 = k + 4 + 1 from rfl, h0, sched_l1_step s0 (k + 3) t 1 p1 p3 _ p7 _ (by omega) rfl ht, sched_l1_step s0 (k + 2) t 2 p1 p3 _ p7 _ (by omega) rfl ht, sched_l1_step s0 (k + 1) t 3 p1 p3 _ p7 _ (by omega) rfl ht]
  simp only [List.set_set, g, List.getD_cons_zero, List.getD_cons_succ]
  unfold hash_schedule_l1
  rw [if_neg (by decide)]
  rfl

theorem slice4 (b : List Int) (t : Nat) (hb : b.length = 64) (ht : t < 16) : List.drop (4 * t) (List.take (4 * t + 4) b) = [List.getD b (4 * t) 0, List.getD b (4 * t + 1) 0, List.getD b (4 * t + 2) 0, List.getD b (4 * t + 3) 0] := by
  apply List.ext_getElem?
  intro i
  rw [List.getElem?_drop, List.getElem?_take]
  rcases i with _ | _ | _ | _ | i
  · rw [if_pos (by omega)]; simp [List.getD_eq_getElem?_getD, List.getElem?_eq_getElem (show 4 * t < b.length by omega)]
  · rw [if_pos (by omega)]; simp [List.getD_eq_getElem?_getD, List.getElem?_eq_getElem (show 4 * t + 1 < b.length by omega)]
  · rw [if_pos (by omega)]; simp [List.getD_eq_getElem?_getD, List.getElem?_eq_getElem (show 4 * t + 2 < b.length by omega)]
  · rw [if_pos (by omega)]; simp [List.getD_eq_getElem?_getD, List.getElem?_eq_getElem (show 4 * t + 3 < b.length by omega)]
  · rw [if_neg (by omega)]; simp

theorem bytes_nat {b : List Int} (h : Bytes b) (i : Nat) : ∃ n : Nat, List.getD b i 0 = n ∧ n < 256 := by
  rw [List.getD_eq_getElem?_getD]
  cases hb : b[i]? with
  | none => exact ⟨0, rfl, by omega⟩
  | some x =>
    obtain ⟨h1, h2⟩ := h x (List.mem_of_getElem? hb)
    exact ⟨x.toNat, by simp; omega, by omega⟩

theorem code_ext (b : List Int) : ∀ (n k t : Nat) (x w : List Int), 16 ≤ t → t + n = 64 → n < k → hash_schedule_l0 k b (t : Int) x w = some (extF n t w)
  | 0, k + 1, t, x, w, h1, h2, h3 => by
    have : ¬ ((t : Int) < 64) := by omega
    unfold hash_schedule_l0
    rw [if_neg (by simpa using this)]; rfl
  | n + 1, k + 1, t, x, w, h1, h2, h3 => by
    have hlt : (t : Int) < 64 := by omega
    have hge : ¬ ((t : Int) < 16) := by omega
    unfold hash_schedule_l0
    rw [if_pos (by simpa using hlt), if_neg (by simpa using hge), w64 ((t : Int) - 15) (by omega), w64 ((t : Int) - 2) (by omega), w64 ((t : Int) - 16) (by omega), w64 ((t : Int) - 7) (by omega)]
    rw [if_pos (by omega), if_pos (by omega), rotl7, Option.bind_some, rotl18, Option.bind_some, rotl17, Option.bind_some, rotl19, Option.bind_some, if_pos (by omega), if_pos (by omega), if_pos (by omega)]
    unfold hash_schedule_l2
    rw [w64 _ (by omega)]
    have e : (t : Int) + 1 = ((t + 1 : Nat) : Int) := by omega
    rw [e, code_ext b n k (t + 1) x _ (by omega) (by omega) (by omega)]
    have e16 : Int.toNat ((t : Int) - 16) = t - 16 := by omega
    have e15 : Int.toNat ((t : Int) - 15) = t - 15 := by omega
    have e7 : Int.toNat ((t : Int) - 7) = t - 7 := by omega
    have e2 : Int.toNat ((t : Int) - 2) = t - 2 := by omega
    rw [e16, e15, e7, e2, Int.toNat_natCast]
    rfl

theorem code_first (b : List Int) (hb : b.length = 64) (hB : Bytes b) : ∀ (n k t : Nat) (x w : List Int), t + n = 16 → n + 64 < k → w.length = 64 → (∀ j, t ≤ j → List.getD w j 0 = 0) → hash_schedule_l0 k b (t : Int) x w = some (extF 48 16 (firstF b n t w))
  | 0, k + 1, t, x, w, h1, h2, _, _ => by
    have ht : t = 16 := by omega
    subst ht
    exact code_ext b 48 (k + 1) 16 x w (by omega) (by omega) (by omega)
  | n + 1, k + 1, t, x, w, h1, h2, hw, hz => by
    have hlt : (t : Int) < 64 := by omega
    have hlt16 : (t : Int) < 16 := by omega
    unfold hash_schedule_l0
    rw [if_pos (by simpa using hlt), if_pos (by simpa using hlt16), w64 (4 * (t : Int)) (by omega), w64 _ (by omega)]
    rw [if_pos (by omega)]
    have e0 : Int.toNat (4 * (t : Int)) = 4 * t := by omega
    have e1 : Int.toNat (4 * (t : Int) + 4) = 4 * t + 4 := by omega
    rw [e0, e1, slice4 b t hb (by omega)]
    obtain ⟨k', rfl⟩ : ∃ k', k = k' + 5 := ⟨k - 5, by omega⟩
    obtain ⟨n0, q0, g0⟩ := bytes_nat hB (4 * t)
    obtain ⟨n1, q1, g1⟩ := bytes_nat hB (4 * t + 1)
    obtain ⟨n2, q2, g2⟩ := bytes_nat hB (4 * t + 2)
    obtain ⟨n3, q3, g3⟩ := bytes_nat hB (4 * t + 3)
    have := sched_l1 (hash_schedule_l0 (k' + 5)) k' t b (t : Int) (List.getD b (4 * t) 0) (List.getD b (4 * t + 1) 0) (List.getD b (4 * t + 2) 0) (List.getD b (4 * t + 3) 0) x w (by omega) hw
    refine Eq.trans this ?_
    rw [w64 _ (by omega)]
    have e : (t : Int) + 1 = ((t + 1 : Nat) : Int) := by omega
    rw [e, hz t (Nat.le_refl _), code_first b hb hB n (k' + 5) (t + 1) x _ (by omega) (by omega) (by simpa using hw) (fun j hj => ?_)]
    · simp only [firstF]
      rw [q0, q1, q2, q3, ← be_eq n0 n1 n2 n3 g0 g1 g2 g3]
    · rw [List.getD_eq_getElem?_getD, List.getElem?_set_ne (by omega), ← List.getD_eq_getElem?_getD]
      exact hz j (by omega)

theorem code_schedule (k : Nat) (hk : 80 < k) (b : List Int) (hb : b.length = 64) (hB : Bytes b) : hash_schedule k b = some (schedP b) := by
  unfold hash_schedule
  refine code_first b hb hB 16 k 0 _ _ (by omega) (by omega) rfl (fun j _ => ?_)
  show List.getD (List.replicate 64 (0 : Int)) j 0 = 0
  rw [List.getD_eq_getElem?_getD, List.getElem?_replicate]
  split <;> rfl

end Go.Proofs.P44
set_option linter.unusedVariables false
set_option linter.unusedSimpArgs false
namespace Go.Proofs.P44
open Go Go.Abs Go.Proofs Go.Proofs.K1 Go.Proofs.G44
set_option maxRecDepth 10000

def a32 (x y : Int) : Int := IntKind.u32.wrap (((BitVec.ofInt 32 x) &&& (BitVec.ofInt 32 y)).toNat : Int)
def x32 (x y : Int) : Int := IntKind.u32.wrap (((BitVec.ofInt 32 x) ^^^ (BitVec.ofInt 32 y)).toNat : Int)
def s32 (x y : Int) : Int := IntKind.u32.wrap (x + y)
theorem x32_comm (x y : Int) : x32 x y = x32 y x := by unfold x32; rw [BitVec.xor_comm]

def xP (e f g h kt wt : Int) : Int := s32 (s32 (s32 (s32 h (mixP e 6 11 25)) (x32 (a32 e f) (a32 (x32 e 4294967295) g))) kt) wt
def yP (a b c : Int) : Int := s32 (mixP a 2 13 22) (x32 (x32 (a32 a b) (a32 a c)) (a32 b c))

structure W8 where
  (a b c d e f g h : Int)
def W8.l (v : W8) : List Int := [v.a, v.b, v.c, v.d, v.e, v.f, v.g, v.h]
def W8.round (v : W8) (kt wt : Int) : W8 := ⟨s32 (xP v.e v.f v.g v.h kt wt) (yP v.a v.b v.c), v.a, v.b, v.c, s32 v.d (xP v.e v.f v.g v.h kt wt), v.e, v.f, v.g⟩
def W8.rounds (w : List Int) : Nat → Nat → W8 → W8
  | 0, _, v => v
  | n + 1, t, v => W8.rounds w n (t + 1) (v.round (List.getD gK1 t 0) (List.getD w t 0))
def W8.add (s v : W8) : W8 := ⟨s32 s.a v.a, s32 s.b v.b, s32 s.c v.c, s32 s.d v.d, s32 s.e v.e, s32 s.f v.f, s32 s.g v.g, s32 s.h v.h⟩
def W8.block (s : W8) (b : List Int) : W8 := s.add (W8.rounds (schedP b) 64 0 s)

theorem code_rounds (w s x : List Int) : ∀ (n k t : Nat) (v : W8), t + n = 64 →
    hash_compress_l0 (k + n + 1) gK1 (t : Int) s x w [v.a, v.b, v.c, v.d] [v.e, v.f, v.g, v.h] =
      hash_compress_l1 k 0 s x [(W8.rounds w n t v).a, (W8.rounds w n t v).b, (W8.rounds w n t v).c, (W8.rounds w n t v).d] [(W8.rounds w n t v).e, (W8.rounds w n t v).f, (W8.rounds w n t v).g, (W8.rounds w n t v).h]
  | 0, k, t, v, h1 => by
    have : ¬ ((t : Int) < 64) := by omega
    rw [Nat.add_zero]
    conv => lhs; unfold hash_compress_l0
    rw [if_neg (by simpa using this)]; rfl
  | n + 1, k, t, v, h1 => by
    have hlt : (t : Int) < 64 := by omega
    have e : (t : Int) + 1 = ((t + 1 : Nat) : Int) := by omega
    have ih := code_rounds w s x n k (t + 1) (v.round (List.getD gK1 t 0) (List.getD w t 0)) (by omega)
    have hx : x32 4294967295 v.e = x32 v.e 4294967295 := x32_comm _ _
    show hash_compress_l0 ((k + n + 1) + 1) gK1 (t : Int) s x w [v.a, v.b, v.c, v.d] [v.e, v.f, v.g, v.h] = _
    refine Eq.trans ?_ ih
    conv => lhs; unfold hash_compress_l0
    rw [if_pos (by simpa using hlt), if_pos (by omega), w64 _ (by omega), e, Int.toNat_natCast]
    simp only [List.getD_cons_zero, List.getD_cons_succ]
    rw [mix1, Option.bind_some, mix0, Option.bind_some]
    simp only [W8.round, xP, ← hx]
    rfl

end Go.Proofs.P44
set_option linter.unusedVariables false
set_option linter.unusedSimpArgs false
namespace Go.Proofs.P44
open Go Go.Abs Go.Proofs Go.Proofs.K1 Go.Proofs.G44
set_option maxRecDepth 10000

theorem code_add (k : Nat) (s v : W8) (x : List Int) : hash_compress_l1 (k + 5) 0 s.l x [v.a, v.b, v.c, v.d] [v.e, v.f, v.g, v.h] = some (s.add v).l := by kernel_rfl

theorem code_compress (k : Nat) (hk : 100 < k) (s : W8) (b : List Int) (hb : b.length = 64) (hB : Bytes b) : hash_compress k s.l b = some (s.block b).l := by
  unfold hash_compress
  rw [code_schedule k (by omega) b hb hB, Option.bind_some]
  obtain ⟨k', rfl⟩ : ∃ k', k = (k' + 5) + 64 + 1 := ⟨k - 70, by omega⟩
  have := code_rounds (schedP b) s.l (Kd.dflt (Kd.arr 8 (Kd.int .u32))) 64 (k' + 5) 0 s (by omega)
  refine Eq.trans this ?_
  exact code_add k' s _ _

theorem ref_rounds (s0 : List Int → Int → List Int → List Int → Option (List Int)) (w m p4 p5 : List Int) (p2 : Int) : ∀ (n k t : Nat) (v : W8), t + n = 64 →
    antiquaryref02_Sum_l1 s0 (k + n + 1) m p2 (t : Int) p4 p5 w v.l = antiquaryref02_Sum_l3 s0 k m p2 0 p4 p5 (W8.rounds w n t v).l
  | 0, k, t, v, h1 => by
    have : ¬ ((t : Int) < 64) := by omega
    rw [Nat.add_zero]
    conv => lhs; unfold antiquaryref02_Sum_l1
    rw [if_neg (by simpa using this)]; rfl
  | n + 1, k, t, v, h1 => by
    have hlt : (t : Int) < 64 := by omega
    have e : (t : Int) + 1 = ((t + 1 : Nat) : Int) := by omega
    have ih := ref_rounds s0 w m p4 p5 p2 n k (t + 1) (v.round (List.getD gK1 t 0) (List.getD w t 0)) (by omega)
    show antiquaryref02_Sum_l1 s0 ((k + n + 1) + 1) m p2 (t : Int) p4 p5 w v.l = _
    refine Eq.trans ?_ ih
    conv => lhs; unfold antiquaryref02_Sum_l1
    rw [if_pos (by simpa using hlt), w64 ((t : Int) + 1) (by omega), e, Int.toNat_natCast]
    simp only [W8.l, List.getD_cons_zero, List.getD_cons_succ]
    rw [rotr6, Option.bind_some, rotr11, Option.bind_some, rotr25, Option.bind_some, if_pos (by omega), rotr2, Option.bind_some, rotr13, Option.bind_some, rotr22, Option.bind_some]
    rfl

theorem ref_add (s0 : List Int → Int → List Int → List Int → Option (List Int)) (k : Nat) (m p4 : List Int) (p2 : Int) (s v : W8) : antiquaryref02_Sum_l3 s0 (k + 9) m p2 0 p4 s.l v.l = s0 m (IntKind.i64.wrap (p2 + 64)) p4 (s.add v).l := by kernel_rfl

def blocks : Nat → W8 → List Int → W8
  | 0, s, _ => s
  | n + 1, s, m => blocks n (s.block (List.take 64 m)) (List.drop 64 m)

theorem ref_loop (m p3 : List Int) (hm : m.length < 1000000000) : ∀ (n k q : Nat) (s : W8), 64 * q + 64 * n = m.length → 200 < k →
    antiquaryref02_Sum_l0 (k + n) m ((64 * q : Nat) : Int) p3 s.l = antiquaryref02_Sum_l2 (k - 1) 0 p3 (blocks n s (List.drop (64 * q) m)).l (Kd.dflt (Kd.arr 32 (Kd.int .u8)))
  | 0, k, q, s, h1, hk => by
    have : ¬ (((64 * q : Nat) : Int) < (m.length : Int)) := by omega
    obtain ⟨k, rfl⟩ : ∃ k', k = k' + 1 := ⟨k - 1, by omega⟩
    rw [Nat.add_zero]
    conv => lhs; unfold antiquaryref02_Sum_l0
    rw [if_neg (by simpa using this)]; rfl
  | n + 1, k, q, s, h1, hk => by
    have hlt : ((64 * q : Nat) : Int) < (m.length : Int) := by omega
    have e : ((64 * q : Nat) : Int) + 64 = ((64 * (q + 1) : Nat) : Int) := by omega
    show antiquaryref02_Sum_l0 (k + n + 1) m ((64 * q : Nat) : Int) p3 s.l = _
    conv => lhs; unfold antiquaryref02_Sum_l0
    rw [if_pos (by simpa using hlt), w64 _ (by omega), if_pos (by omega), e, Int.toNat_natCast, Int.toNat_natCast]
    have hb : (List.drop (64 * q) (List.take (64 * (q + 1)) m)).length = 64 := by rw [List.length_drop, List.length_take]; omega
    rw [ref_words _ (by omega) _ hb, Option.bind_some]
    obtain ⟨k', hk'⟩ : ∃ k', k + n = (k' + 9) + 64 + 1 := ⟨k + n - 74, by omega⟩
    have h2 := ref_rounds (antiquaryref02_Sum_l0 (k + n)) (schedP (List.drop (64 * q) (List.take (64 * (q + 1)) m))) m p3 s.l ((64 * q : Nat) : Int) 64 (k' + 9) 0 s (by omega)
    have h3 := ref_add (antiquaryref02_Sum_l0 (k + n)) k' m p3 ((64 * q : Nat) : Int) s (W8.rounds (schedP (List.drop (64 * q) (List.take (64 * (q + 1)) m))) 64 0 s)
    have h4 := h2.trans h3
    rw [← hk', w64 _ (by omega), e] at h4
    refine Eq.trans h4 ?_
    have ih := ref_loop m p3 hm n k (q + 1) (s.block (List.drop (64 * q) (List.take (64 * (q + 1)) m))) (by omega) hk
    refine Eq.trans ih ?_
    have e2 : List.drop (64 * q) (List.take (64 * (q + 1)) m) = List.take 64 (List.drop (64 * q) m) := by
      rw [List.take_drop]
      congr 2
    rw [e2]
    show _ = antiquaryref02_Sum_l2 (k - 1) 0 p3 (blocks n (s.block (List.take 64 (List.drop (64 * q) m))) (List.drop 64 (List.drop (64 * q) m))).l _
    rw [List.drop_drop, show 64 * q + 64 = 64 * (q + 1) by omega]

end Go.Proofs.P44
set_option linter.unusedVariables false
set_option linter.unusedSimpArgs false
namespace Go.Proofs.P44
open Go Go.Abs Go.Proofs Go.Proofs.K1 Go.Proofs.G44
set_option maxRecDepth 10000

def init8 : W8 := ⟨1779033703, 3144134277, 1013904242, 2773480762, 1359893119, 2600822924, 528734635, 1541459225⟩

theorem blocks_more : ∀ (n : Nat) (s : W8) (m x : List Int), 64 * n ≤ m.length → blocks n s (m ++ x) = blocks n s m
  | 0, _, _, _, _ => rfl
  | n + 1, s, m, x, h => by
    simp only [blocks]
    rw [List.take_append_of_le_length (by omega), List.drop_append_of_le_length (by omega), blocks_more n _ _ x (by rw [List.length_drop]; omega)]

theorem blocks_snoc : ∀ (n : Nat) (s : W8) (m : List Int), blocks (n + 1) s m = (blocks n s m).block (List.take 64 (List.drop (64 * n) m))
  | 0, _, _ => rfl
  | n + 1, s, m => by
    show blocks (n + 1) (s.block (List.take 64 m)) (List.drop 64 m) = _
    rw [blocks_snoc n, List.drop_drop]
    have : 64 + 64 * n = 64 * (n + 1) := by omega
    rw [this]
    rfl

structure Strm (m st blk : List Int) (n : Int) : Prop where
  st : st = (blocks (m.length / 64) init8 m).l
  len : blk.length = 64
  blk : blk.take (m.length % 64) = m.drop (64 * (m.length / 64))
  n : n = (m.length : Int)

theorem size_bytes (s : ByteArray) : (bytesOf s).length = ByteArray.size s := by unfold bytesOf; rw [List.length_map]; exact Array.length_toList
theorem bytes_bytes (s : ByteArray) : Bytes (bytesOf s) := by
  intro x hx
  simp only [bytesOf, List.mem_map] at hx
  obtain ⟨b, _, rfl⟩ := hx
  have := b.toNat_lt
  omega
theorem bytes_extract (s : ByteArray) (k : Nat) : bytesOf (ByteArray.extract s k (ByteArray.size s)) = (bytesOf s).drop k := by
  unfold bytesOf
  rw [← List.map_drop]
  congr 1
  rw [ByteArray.data_extract, Array.toList_extract]
  show List.take (s.data.size - k) (List.drop k s.data.toList) = _
  rw [List.take_of_length_le (by rw [List.length_drop, Array.length_toList]; omega)]
theorem toList_data (s : ByteArray) : ByteArray.toList s = s.data.toList := ByteArray.toList_eq s
theorem empty_iff (s : ByteArray) : (!(ByteArray.toList s == ByteArray.toList (⟨#[]⟩ : ByteArray))) = true ↔ 0 < ByteArray.size s := by
  rw [toList_data, toList_data]
  cases h : s.data.toList with
  | nil =>
    have : ByteArray.size s = 0 := by simp [ByteArray.size, ← Array.length_toList, h]
    simp [this]
  | cons a l =>
    have : ByteArray.size s = l.length + 1 := by simp [ByteArray.size, ← Array.length_toList, h]
    simp [this]

theorem Bytes.append {a b : List Int} (ha : Bytes a) (hb : Bytes b) : Bytes (a ++ b) := fun x hx => (List.mem_append.1 hx).elim (ha x) (hb x)
theorem Bytes.take {a : List Int} (ha : Bytes a) (n : Nat) : Bytes (a.take n) := fun x hx => ha x (List.mem_of_mem_take hx)
theorem Bytes.drop {a : List Int} (ha : Bytes a) (n : Nat) : Bytes (a.drop n) := fun x hx => ha x (List.mem_of_mem_drop hx)

theorem stream_add (p5 p6 : List Int) (p7 : Int) : ∀ (L : Nat) (k : Nat) (s : ByteArray) (m st blk : List Int) (n : Int), ByteArray.size s ≤ L → L + 110 < k → Bytes m → m.length + ByteArray.size s < 1000000000 → Strm m st blk n →
    ∃ st' blk' n', hash_Stream_Add_l0 k s st blk n p5 p6 p7 = some (st', blk', n') ∧ Strm (m ++ bytesOf s) st' blk' n'
  | L, 0, s, m, st, blk, n, hL, hk, _, _, _ => by omega
  | L, k + 1, s, m, st, blk, n, hL, hk, hm, hbig, h => by
    obtain ⟨h1, h2, h3, rfl⟩ := h
    unfold hash_Stream_Add_l0
    by_cases he : 0 < ByteArray.size s
    · rw [if_pos ((empty_iff s).2 he)]
      have e1 : IntKind.i64.wrap (Int.tmod (m.length : Int) 64) = ((m.length % 64 : Nat) : Int) := by
        rw [Int.tmod_eq_emod_of_nonneg (by omega), w64 _ (by omega)]
        omega
      rw [e1, Int.toNat_natCast]
      obtain ⟨r, hr⟩ : ∃ r, r = m.length % 64 := ⟨_, rfl⟩
      obtain ⟨q, hq⟩ : ∃ q, q = m.length / 64 := ⟨_, rfl⟩
      rw [← hr] at h3 ⊢
      rw [← hq] at h1 h3
      have hmq : m.length = 64 * q + r := by omega
      have hrl : r < 64 := by omega
      obtain ⟨c, hc⟩ : ∃ c, c = min (ByteArray.size s) (64 - r) := ⟨_, rfl⟩
      rw [← hc]
      have hc1 : c ≤ ByteArray.size s := by omega
      have hc2 : c ≤ 64 - r := by omega
      have hc0 : 0 < c := by omega
      rw [if_pos (by omega), if_pos (by omega), Int.toNat_natCast, w64 _ (by omega)]
      have hn : IntKind.u64.wrap ((m.length : Int) + IntKind.u64.wrap (c : Int)) = ((m.length + c : Nat) : Int) := by
        have w : ∀ x : Int, 0 ≤ x ∧ x < 18446744073709551616 → IntKind.u64.wrap x = x := fun x hx => by
          have : IntKind.u64.wrap x = x % 18446744073709551616 := rfl
          rw [this]; omega
        rw [w (c : Int) (by omega), w _ (by omega)]
        omega
      rw [hn]
      have hsl := size_bytes s
      -- the new block
      have htk : (bytesOf s).take (64 - r) = (bytesOf s).take c := by
        rcases Nat.le_total (ByteArray.size s) (64 - r) with h | h
        · rw [List.take_of_length_le (by omega), List.take_of_length_le (by omega)]
        · rw [show c = 64 - r by omega]
      rw [htk]
      obtain ⟨B, hB⟩ : ∃ B, B = List.take r blk ++ List.take c (bytesOf s) ++ List.drop (r + c) blk := ⟨_, rfl⟩
      rw [← hB]
      have hmd : (m.drop (64 * q)).length = r := by rw [List.length_drop]; omega
      have hBl : B.length = 64 := by
        rw [hB]
        simp only [List.length_append, List.length_take, List.length_drop, hsl, h2]
        omega
      have hBt : B.take (r + c) = m.drop (64 * q) ++ (bytesOf s).take c := by
        rw [hB, h3, List.take_left']
        simp only [List.length_append, hmd, List.length_take, hsl]
        omega
      obtain ⟨m', hm'⟩ : ∃ m', m' = m ++ (bytesOf s).take c := ⟨_, rfl⟩
      have hml : m'.length = m.length + c := by rw [hm', List.length_append, List.length_take, hsl]; omega
      have hmB : Bytes m' := by rw [hm']; exact hm.append ((bytes_bytes s).take c)
      have hmd' : m'.drop (64 * q) = m.drop (64 * q) ++ (bytesOf s).take c := by rw [hm', List.drop_append_of_le_length (by omega)]
      have hse : ByteArray.size (ByteArray.extract s c (ByteArray.size s)) = ByteArray.size s - c := by
        have := size_bytes (ByteArray.extract s c (ByteArray.size s))
        rw [bytes_extract, List.length_drop, hsl] at this
        omega
      have hsz : ByteArray.size (ByteArray.extract s c (ByteArray.size s)) ≤ L - 1 := by omega
      have hfin : m' ++ bytesOf (ByteArray.extract s c (ByteArray.size s)) = m ++ bytesOf s := by
        rw [bytes_extract, hm', List.append_assoc, List.take_append_drop]
      by_cases hfull : r + c = 64
      · have hcond : ((((r : Nat) : Int) + ((c : Nat) : Int)) == (64 : Int)) = true := by rw [beq_iff_eq]; omega
        rw [if_pos hcond]
        have hb64 : List.take 64 (List.drop 0 B) = B := by rw [List.drop_zero, List.take_of_length_le (by omega)]
        have hBm : B = List.take 64 (m'.drop (64 * q)) := by
          rw [hmd', ← hBt, hfull, List.take_take, Nat.min_self, List.take_of_length_le (by omega)]
        have hBB : Bytes B := by rw [hBm]; exact (hmB.drop _).take _
        rw [hb64, h1, code_compress k (by omega) _ B hBl hBB, Option.bind_some]
        have hq' : m'.length / 64 = q + 1 := by omega
        have hr' : m'.length % 64 = 0 := by omega
        have hs' : Strm m' ((blocks q init8 m).block B).l B ((m.length + c : Nat) : Int) := by
          refine ⟨?_, hBl, ?_, by rw [hml]⟩
          · rw [hq', blocks_snoc, ← hBm, hm', blocks_more q init8 m _ (by omega)]
          · rw [hr', hq', List.take_zero, List.drop_of_length_le (by omega)]
        obtain ⟨st', blk', n', g1, g2⟩ := stream_add p5 p6 p7 (L - 1) k (ByteArray.extract s c (ByteArray.size s)) m' _ B _ hsz (by omega) hmB (by omega) hs'
        rw [hfin] at g2
        exact ⟨st', blk', n', g1, g2⟩
      · have hcond : ¬ ((((r : Nat) : Int) + ((c : Nat) : Int)) == (64 : Int)) = true := by rw [beq_iff_eq]; omega
        rw [if_neg hcond]
        have hq' : m'.length / 64 = q := by omega
        have hr' : m'.length % 64 = r + c := by omega
        have hs' : Strm m' st B ((m.length + c : Nat) : Int) := by
          refine ⟨?_, hBl, ?_, by rw [hml]⟩
          · rw [hq', hm', blocks_more q init8 m _ (by omega)]; exact h1
          · rw [hr', hq', hBt, hmd']
        obtain ⟨st', blk', n', g1, g2⟩ := stream_add p5 p6 p7 (L - 1) k (ByteArray.extract s c (ByteArray.size s)) m' _ B _ hsz (by omega) hmB (by omega) hs'
        rw [hfin] at g2
        exact ⟨st', blk', n', g1, g2⟩
    · have h0 : ByteArray.size s = 0 := by omega
      rw [if_neg (fun hh => he ((empty_iff s).1 hh))]
      have : bytesOf s = [] := List.eq_nil_of_length_eq_zero (by rw [size_bytes, h0])
      rw [this, List.append_nil]
      exact ⟨st, blk, _, rfl, h1, h2, h3, rfl⟩
  termination_by L k => k

end Go.Proofs.P44
set_option linter.unusedVariables false
set_option linter.unusedSimpArgs false
namespace Go.Proofs.P44
open Go Go.Abs Go.Proofs Go.Proofs.K1 Go.Proofs.G44
set_option maxRecDepth 10000

theorem wu64 (x : Int) (h : 0 ≤ x ∧ x < 18446744073709551616) : IntKind.u64.wrap x = x := by
  have : IntKind.u64.wrap x = x % 18446744073709551616 := rfl
  rw [this]; omega
theorem wu8 (x : Int) : 0 ≤ IntKind.u8.wrap x ∧ IntKind.u8.wrap x < 256 := by
  have : IntKind.u8.wrap x = x % 256 := rfl
  rw [this]; omega

theorem strOf_bytes {l : List Int} (h : Bytes l) : bytesOf (strOf l) = l := by
  unfold bytesOf strOf
  simp only [List.map_map]
  have : ∀ x ∈ l, ((fun b : UInt8 => (b.toNat : Int)) ∘ fun n : Int => UInt8.ofNat n.toNat) x = x := by
    intro x hx
    obtain ⟨h1, h2⟩ := h x hx
    simp only [Function.comp]
    rw [UInt8.toNat_ofNat']
    omega
  conv => rhs; rw [← List.map_id l]
  exact List.map_congr_left this

theorem code_zeros (N n : Int) (s blk x : List Int) (M : Nat) (hn : n = M) (hM : M < 1000000000) : ∀ (j k : Nat) (p : List Int), j < 64 → p.length + j < 1000 → (M + p.length + j) % 64 = 56 →
    hash_Stream_Sum_l0 (k + j + 1) N s blk n x p = hash_Stream_Sum_l1 k N 0 s blk n x (p ++ List.replicate j 0)
  | 0, k, p, h2, h3, h4 => by
    have e : IntKind.i64.wrap (IntKind.i64.wrap n + (p.length : Int)) = ((M + p.length : Nat) : Int) := by rw [hn, w64 (M : Int) (by omega), w64 _ (by omega)]; omega
    rw [Nat.add_zero]
    conv => lhs; unfold hash_Stream_Sum_l0
    rw [e, Int.tmod_eq_emod_of_nonneg (by omega), if_neg (by simp; omega), List.replicate_zero, List.append_nil]
  | j + 1, k, p, h2, h3, h4 => by
    have e : IntKind.i64.wrap (IntKind.i64.wrap n + (p.length : Int)) = ((M + p.length : Nat) : Int) := by rw [hn, w64 (M : Int) (by omega), w64 _ (by omega)]; omega
    show hash_Stream_Sum_l0 ((k + j + 1) + 1) N s blk n x p = _
    conv => lhs; unfold hash_Stream_Sum_l0
    rw [e, Int.tmod_eq_emod_of_nonneg (by omega), if_pos (by simp; omega), if_pos (by simp; omega)]
    rw [code_zeros N n s blk x M hn hM j k (p ++ [0]) (by omega) (by simp; omega) (by simp; omega)]
    rw [List.append_assoc]; rfl

theorem ref_zeros (m : List Int) (hM : m.length < 1000000000) : ∀ (j k : Nat) (p : List Int), j < 64 → p.length + j < 1000 → (m.length + p.length + j) % 64 = 56 →
    antiquaryref02_padded_l0 (k + j + 1) m (m ++ p) = antiquaryref02_padded_l1 k (IntKind.u64.wrap ((8 : Int) * (IntKind.u64.wrap (List.length m : Int)))) 0 (m ++ (p ++ List.replicate j 0))
  | 0, k, p, h2, h3, h4 => by
    rw [Nat.add_zero]
    conv => lhs; unfold antiquaryref02_padded_l0
    rw [Int.tmod_eq_emod_of_nonneg (by omega), if_neg (by simp; omega), List.replicate_zero, List.append_nil]
  | j + 1, k, p, h2, h3, h4 => by
    show antiquaryref02_padded_l0 ((k + j + 1) + 1) m (m ++ p) = _
    conv => lhs; unfold antiquaryref02_padded_l0
    rw [Int.tmod_eq_emod_of_nonneg (by omega), if_pos (by simp; omega), if_pos (by simp; omega), List.append_assoc]
    rw [ref_zeros m hM j k (p ++ [0]) (by omega) (by simp; omega) (by simp; omega)]
    simp only [List.append_assoc]; rfl

def lenB (N : Int) (j : Nat) : Int := IntKind.u8.wrap (Int.fdiv N (2 ^ (56 - 8 * j)))
theorem code_len1 (N n : Int) (s blk x : List Int) (j k : Nat) (p : List Int) (hj : j < 8) (hp : p.length < 2000000000) :
    hash_Stream_Sum_l1 (k + 1) N (j : Int) s blk n x p = hash_Stream_Sum_l1 k N ((j + 1 : Nat) : Int) s blk n x (p ++ [lenB N j]) := by
  conv => lhs; unfold hash_Stream_Sum_l1
  have e1 : IntKind.i64.wrap ((56 : Int) - IntKind.i64.wrap (8 * (j : Int))) = ((56 - 8 * j : Nat) : Int) := by rw [w64 (8 * (j : Int)) (by omega), w64 _ (by omega)]; omega
  have e2 : IntKind.i64.wrap ((j : Int) + 1) = ((j + 1 : Nat) : Int) := by rw [w64 _ (by omega)]; omega
  rw [if_pos (by simp; omega), e1, e2, if_pos (by omega), if_pos (by simp; omega), Int.toNat_natCast, show min (56 - 8 * j) (IntKind.bits .u64) = 56 - 8 * j from Nat.min_eq_left (by show 56 - 8 * j ≤ 64; omega)]
  rfl
theorem ref_len1 (N : Int) (j k : Nat) (p : List Int) (hj : j < 8) (hp : p.length < 2000000000) :
    antiquaryref02_padded_l1 (k + 1) N (j : Int) p = antiquaryref02_padded_l1 k N ((j + 1 : Nat) : Int) (p ++ [lenB N j]) := by
  conv => lhs; unfold antiquaryref02_padded_l1
  have e1 : IntKind.i64.wrap ((56 : Int) - IntKind.i64.wrap (8 * (j : Int))) = ((56 - 8 * j : Nat) : Int) := by rw [w64 (8 * (j : Int)) (by omega), w64 _ (by omega)]; omega
  have e2 : IntKind.i64.wrap ((j : Int) + 1) = ((j + 1 : Nat) : Int) := by rw [w64 _ (by omega)]; omega
  rw [if_pos (by simp; omega), e1, e2, if_pos (by omega), if_pos (by simp; omega), Int.toNat_natCast, show min (56 - 8 * j) (IntKind.bits .u64) = 56 - 8 * j from Nat.min_eq_left (by show 56 - 8 * j ≤ 64; omega)]
  rfl
def len8 (N : Int) : List Int := [lenB N 0, lenB N 1, lenB N 2, lenB N 3, lenB N 4, lenB N 5, lenB N 6, lenB N 7]
theorem code_len (N n : Int) (s blk x : List Int) (k : Nat) (p : List Int) (hp : p.length < 1000000000) :
    hash_Stream_Sum_l1 (k + 9) N 0 s blk n x p = Option.bind (hash_Stream_Add k s blk n (strOf (p ++ len8 N))) fun x190 => hash_Stream_Sum_l2 k 0 x190.1 x190.2.1 x190.2.2 x (Kd.dflt (Kd.arr 32 (Kd.int .u8))) := by
  have h0 := code_len1 N n s blk x 0 (k + 8) p (by omega) (by omega)
  rw [show ((0 : Nat) : Int) = 0 from rfl] at h0
  rw [show k + 9 = k + 8 + 1 from rfl, h0, show k + 8 = k + 7 + 1 from rfl, code_len1 N n s blk x 1 (k + 7) _ (by omega) (by simp; omega), show k + 7 = k + 6 + 1 from rfl, code_len1 N n s blk x 2 (k + 6) _ (by omega) (by simp; omega),
    show k + 6 = k + 5 + 1 from rfl, code_len1 N n s blk x 3 (k + 5) _ (by omega) (by simp; omega), show k + 5 = k + 4 + 1 from rfl, code_len1 N n s blk x 4 (k + 4) _ (by omega) (by simp; omega), show k + 4 = k + 3 + 1 from rfl, code_len1 N n s blk x 5 (k + 3) _ (by omega) (by simp; omega),
    show k + 3 = k + 2 + 1 from rfl, code_len1 N n s blk x 6 (k + 2) _ (by omega) (by simp; omega), show k + 2 = k + 1 + 1 from rfl, code_len1 N n s blk x 7 (k + 1) _ (by omega) (by simp; omega)]
  conv => lhs; unfold hash_Stream_Sum_l1
  rw [if_neg (by decide), List.take_length]
  simp only [List.append_assoc]
  rfl
theorem ref_len (N : Int) (k : Nat) (p : List Int) (hp : p.length < 1000000000) : antiquaryref02_padded_l1 (k + 9) N 0 p = some (p ++ len8 N) := by
  have h0 := ref_len1 N 0 (k + 8) p (by omega) (by omega)
  rw [show ((0 : Nat) : Int) = 0 from rfl] at h0
  rw [show k + 9 = k + 8 + 1 from rfl, h0, show k + 8 = k + 7 + 1 from rfl, ref_len1 N 1 (k + 7) _ (by omega) (by simp; omega), show k + 7 = k + 6 + 1 from rfl, ref_len1 N 2 (k + 6) _ (by omega) (by simp; omega),
    show k + 6 = k + 5 + 1 from rfl, ref_len1 N 3 (k + 5) _ (by omega) (by simp; omega), show k + 5 = k + 4 + 1 from rfl, ref_len1 N 4 (k + 4) _ (by omega) (by simp; omega), show k + 4 = k + 3 + 1 from rfl, ref_len1 N 5 (k + 3) _ (by omega) (by simp; omega),
    show k + 3 = k + 2 + 1 from rfl, ref_len1 N 6 (k + 2) _ (by omega) (by simp; omega), show k + 2 = k + 1 + 1 from rfl, ref_len1 N 7 (k + 1) _ (by omega) (by simp; omega)]
  conv => lhs; unfold antiquaryref02_padded_l1
  rw [if_neg (by decide)]
  simp only [List.append_assoc]
  rfl

def padJ (M : Nat) : Nat := (119 - M % 64) % 64
def pad (M : Nat) : List Int := [128] ++ List.replicate (padJ M) 0 ++ len8 (8 * (M : Int))
theorem pad_len (M : Nat) : (M + (pad M).length) % 64 = 0 ∧ (pad M).length < 128 := by
  have : (pad M).length = 9 + padJ M := by simp [pad, len8]; omega
  rw [this]; unfold padJ; omega
theorem pad_bytes (M : Nat) : Bytes (pad M) := by
  intro x hx
  simp only [pad, len8, List.mem_append, List.mem_cons, List.mem_replicate, List.not_mem_nil, or_false] at hx
  rcases hx with (rfl | ⟨_, rfl⟩) | rfl | rfl | rfl | rfl | rfl | rfl | rfl | rfl
  · omega
  · omega
  all_goals exact wu8 _

def word4 (x : Int) : List Int := [IntKind.u8.wrap (Int.fdiv x (2 ^ 24)), IntKind.u8.wrap (Int.fdiv x (2 ^ 16)), IntKind.u8.wrap (Int.fdiv x (2 ^ 8)), IntKind.u8.wrap (Int.fdiv x (2 ^ 0))]
def outB (s : W8) : List Int := word4 s.a ++ word4 s.b ++ word4 s.c ++ word4 s.d ++ word4 s.e ++ word4 s.f ++ word4 s.g ++ word4 s.h
def shaP (m : List Int) : List Int := outB (blocks ((m ++ pad m.length).length / 64) init8 (m ++ pad m.length))

theorem code_out (k : Nat) (s : W8) (y z : List Int) (n : Int) : hash_Stream_Sum_l2 (k + 33) 0 s.l y n z (Kd.dflt (Kd.arr 32 (Kd.int .u8))) = some (outB s) := by kernel_rfl
theorem ref_out (k : Nat) (s : W8) (z : List Int) : antiquaryref02_Sum_l2 (k + 33) 0 z s.l (Kd.dflt (Kd.arr 32 (Kd.int .u8))) = some (outB s) := by kernel_rfl

theorem code_sum (k : Nat) (hk : 1000 < k) (m st blk : List Int) (n : Int) (hB : Bytes m) (hm : m.length < 100000000) (h : Strm m st blk n) : hash_Stream_Sum k st blk n = some (shaP m) := by
  have hpj : padJ m.length < 64 := by unfold padJ; omega
  obtain ⟨k', rfl⟩ : ∃ k', k = (k' + 33 + 9) + padJ m.length + 1 := ⟨k - padJ m.length - 43, by omega⟩
  have hk' : 300 < k' := by omega
  unfold hash_Stream_Sum
  have hpl := pad_len m.length
  rw [code_zeros _ n st blk _ m.length h.n (by omega) (padJ m.length) (k' + 33 + 9) [128] (by unfold padJ; omega) (by simp; unfold padJ; omega) (by simp; unfold padJ; omega)]
  have hN : IntKind.u64.wrap (8 * n) = 8 * (m.length : Int) := by rw [h.n, wu64 _ (by omega)]
  rw [hN, code_len _ _ _ _ _ _ _ (by simp; unfold padJ; omega)]
  have hP : ([128] ++ List.replicate (padJ m.length) 0 ++ len8 (8 * (m.length : Int)) : List Int) = pad m.length := rfl
  rw [hP]
  have hbs := strOf_bytes (pad_bytes m.length)
  have hsz : ByteArray.size (strOf (pad m.length)) = (pad m.length).length := by rw [← size_bytes, hbs]
  obtain ⟨st', blk', n', g1, g2⟩ := stream_add (Kd.dflt (Kd.arr 8 (Kd.int .u32))) (Kd.dflt (Kd.arr 64 (Kd.int .u8))) 0 128 (k' + 33) (strOf (pad m.length)) m st blk n (by omega) (by omega) hB (by omega) h
  unfold hash_Stream_Add
  rw [g1, Option.bind_some]
  rw [hbs] at g2
  dsimp only
  rw [g2.st]
  exact code_out k' _ _ _ _

theorem ref_sum (k : Nat) (hk : 1000 < k) (m : List Int) (hm : m.length < 100000000) (hk2 : m.length + 1000 < k) : antiquaryref02_Sum k m = some (shaP m) := by
  have hpl := pad_len m.length
  have hpj : padJ m.length < 64 := by unfold padJ; omega
  have hp : antiquaryref02_padded k m = some (m ++ pad m.length) := by
    obtain ⟨k', rfl⟩ : ∃ k', k = (k' + 9) + padJ m.length + 1 := ⟨k - padJ m.length - 10, by omega⟩
    unfold antiquaryref02_padded
    rw [if_pos (by simp; omega), if_pos (by simp; omega), List.nil_append]
    rw [ref_zeros m (by omega) (padJ m.length) (k' + 9) [128] hpj (by simp; omega) (by simp; unfold padJ; omega)]
    rw [wu64 (m.length : Int) (by omega), wu64 _ (by omega), ref_len _ _ _ (by simp; omega)]
    rw [List.append_assoc]; rfl
  unfold antiquaryref02_Sum
  rw [hp, Option.bind_some]
  obtain ⟨N, hN⟩ : ∃ N, N = (m ++ pad m.length).length / 64 := ⟨_, rfl⟩
  have hl : (m ++ pad m.length).length = 64 * N := by rw [List.length_append] at hN ⊢; omega
  have hNs : N < m.length + 3 := by rw [List.length_append] at hl; omega
  obtain ⟨k', rfl⟩ : ∃ k', k = (k' + 33 + 1) + N := ⟨k - N - 34, by omega⟩
  have := ref_loop (m ++ pad m.length) (Kd.dflt (Kd.arr 32 (Kd.int .u8))) (by rw [List.length_append]; omega) N (k' + 33 + 1) 0 init8 (by omega) (by omega)
  refine Eq.trans this ?_
  rw [show 64 * 0 = 0 from rfl, List.drop_zero]
  have h2 := ref_out k' (blocks N init8 (m ++ pad m.length)) (Kd.dflt (Kd.arr 32 (Kd.int .u8)))
  refine Eq.trans h2 ?_
  rw [hN]; rfl

end Go.Proofs.P44
set_option linter.unusedVariables false
set_option linter.unusedSimpArgs false
namespace Go.Proofs.P44
open Go Go.Abs Go.Proofs Go.Proofs.K1 Go.Proofs.G44
set_option maxRecDepth 10000

def viP : Nat → Nat → List Int
  | 0, z => [(z : Int)]
  | f + 1, z => if 127 < z then ((z % 128 + 128 : Nat) : Int) :: viP f (z / 128) else [(z : Int)]

theorem or128 (z : Nat) : IntKind.u8.wrap (((BitVec.ofInt 8 (IntKind.u8.wrap (z : Int))) ||| (BitVec.ofInt 8 128)).toNat : Int) = ((z % 128 + 128 : Nat) : Int) := by
  have key : ∀ x : Fin 256, IntKind.u8.wrap (((BitVec.ofInt 8 (x.val : Int)) ||| (BitVec.ofInt 8 128)).toNat : Int) = ((x.val % 128 + 128 : Nat) : Int) := by decide +kernel
  have e : IntKind.u8.wrap (z : Int) = ((z % 256 : Nat) : Int) := by
    have : IntKind.u8.wrap (z : Int) = (z : Int) % 256 := rfl
    rw [this]; omega
  rw [e, key ⟨z % 256, by omega⟩]
  congr 2
  show z % 256 % 128 = z % 128
  omega

theorem u8_small (z : Nat) (h : z < 256) : IntKind.u8.wrap (z : Int) = z := by
  have : IntKind.u8.wrap (z : Int) = (z : Int) % 256 := rfl
  rw [this]; omega

theorem wire_vi : ∀ (f k z : Nat) (p : List Int), z < 128 ^ (f + 1) → p.length + f < 1000 → wire_Int_l0 (k + f + 1) z p = some (p ++ viP f z)
  | 0, k, z, p, hz, hp => by
    rw [Nat.add_zero]
    unfold wire_Int_l0
    rw [if_neg (by simp; omega), if_pos (by simp; omega), u8_small z (by omega)]; rfl
  | f + 1, k, z, p, hz, hp => by
    show wire_Int_l0 ((k + f + 1) + 1) z p = _
    unfold wire_Int_l0 viP
    by_cases h : 127 < z
    · rw [if_pos (by simp; omega), if_pos (by simp; omega), if_pos h]
      have e : Int.fdiv (z : Int) (2 ^ (min (Int.toNat 7) (IntKind.bits .u64))) = ((z / 128 : Nat) : Int) := by
        show Int.fdiv (z : Int) 128 = _
        rw [Int.fdiv_eq_ediv_of_nonneg _ (by omega)]; omega
      have hz' : z / 128 < 128 ^ (f + 1) := by rw [Nat.div_lt_iff_lt_mul (by omega), ← Nat.pow_succ]; exact hz
      rw [e, wire_vi f k (z / 128) _ hz' (by simp; omega)]
      have := or128 z
      rw [show IntKind.bits .u8 = 8 from rfl, this, List.append_assoc]; rfl
    · rw [if_neg (by simp; omega), if_pos (by simp; omega), if_neg h, u8_small z (by omega)]

theorem ref_vi : ∀ (f k z : Nat) (p : List Int), z < 128 ^ (f + 1) → z < 4294967296 → p.length + f < 1000 → antiquaryref01_Int_l1 (k + f + 1) z p = some (p ++ viP f z)
  | 0, k, z, p, hz, hz2, hp => by
    rw [Nat.add_zero]
    unfold antiquaryref01_Int_l1
    rw [if_neg (by simp; omega), if_pos (by simp; omega), u8_small z (by omega)]; rfl
  | f + 1, k, z, p, hz, hz2, hp => by
    show antiquaryref01_Int_l1 ((k + f + 1) + 1) z p = _
    unfold antiquaryref01_Int_l1 viP
    by_cases h : 127 < z
    · rw [if_pos (by simp; omega), if_pos (by simp; omega), if_pos h]
      have e : IntKind.u64.wrap (Int.tdiv (z : Int) 128) = ((z / 128 : Nat) : Int) := by
        rw [Int.tdiv_eq_ediv_of_nonneg (by omega), wu64 _ (by omega)]; omega
      have hz' : z / 128 < 128 ^ (f + 1) := by rw [Nat.div_lt_iff_lt_mul (by omega), ← Nat.pow_succ]; exact hz
      rw [e, ref_vi f k (z / 128) _ hz' (by omega) (by simp; omega)]
      have e2 : IntKind.u8.wrap (IntKind.u8.wrap (Int.tmod (z : Int) 128) + 128) = ((z % 128 + 128 : Nat) : Int) := by
        rw [Int.tmod_eq_emod_of_nonneg (by omega)]
        have h1 : (z : Int) % 128 = ((z % 128 : Nat) : Int) := by omega
        rw [h1, u8_small _ (by omega)]
        have h2 : ((z % 128 : Nat) : Int) + 128 = ((z % 128 + 128 : Nat) : Int) := by omega
        rw [h2, u8_small _ (by omega)]
      rw [e2, List.append_assoc]; rfl
    · rw [if_neg (by simp; omega), if_pos (by simp; omega), if_neg h, u8_small z (by omega)]

theorem vi_bytes : ∀ (f z : Nat), z < 128 ^ (f + 1) → Bytes (viP f z)
  | 0, z, h => by intro x hx; simp [viP] at hx; subst hx; omega
  | f + 1, z, h => by
    intro x hx
    unfold viP at hx
    split at hx
    · rcases List.mem_cons.1 hx with rfl | hx
      · omega
      · exact vi_bytes f (z / 128) (by rw [Nat.div_lt_iff_lt_mul (by omega), ← Nat.pow_succ]; exact h) x hx
    · simp at hx; subst hx; omega
theorem vi_len : ∀ (f z : Nat), (viP f z).length ≤ f + 1 ∧ 0 < (viP f z).length
  | 0, z => by simp [viP]
  | f + 1, z => by
    unfold viP
    split
    · have := vi_len f (z / 128); simp; omega
    · simp

def partP (s : ByteArray) : List Int := viP 4 (2 * ByteArray.size s) ++ bytesOf s
theorem part_bytes (s : ByteArray) (h : ByteArray.size s < 1000000000) : Bytes (partP s) := (vi_bytes 4 _ (by omega)).append (bytes_bytes s)
theorem part_len (s : ByteArray) : 0 < (partP s).length ∧ ByteArray.size s < (partP s).length := by
  have h1 := vi_len 4 (2 * ByteArray.size s)
  have h2 := size_bytes s
  simp only [partP, List.length_append]; omega

theorem xor_zero64 (z : Nat) (h : z < 9223372036854775808) : IntKind.u64.wrap (((BitVec.ofInt 64 (IntKind.u64.wrap ((IntKind.u64.wrap (z : Int)) * 2 ^ 1))) ^^^ (BitVec.ofInt 64 (IntKind.u64.wrap 0))).toNat : Int) = ((2 * z : Nat) : Int) := by
  rw [wu64 (z : Int) (by omega), wu64 0 (by omega), wu64 ((z : Int) * 2 ^ 1) (by omega)]
  have e : (z : Int) * 2 ^ 1 = ((2 * z : Nat) : Int) := by omega
  rw [e, BitVec.ofInt_natCast, show BitVec.ofInt 64 0 = 0#64 from rfl, BitVec.xor_zero, BitVec.toNat_ofNat, Nat.mod_eq_of_lt (by omega), wu64 _ (by omega)]

theorem code_bytes (k : Nat) (hk : 10 < k) (s : ByteArray) (h : ByteArray.size s < 1000000000) : wire_Bytes k s = some (partP s) := by
  unfold wire_Bytes wire_Int
  have e : Int.fdiv (ByteArray.size s : Int) (2 ^ (min (Int.toNat 63) (IntKind.bits .i64))) = 0 := by
    show Int.fdiv (ByteArray.size s : Int) 9223372036854775808 = 0
    rw [Int.fdiv_eq_ediv_of_nonneg _ (by omega)]; omega
  rw [e]
  have e2 := xor_zero64 (ByteArray.size s) (by omega)
  rw [show (min (Int.toNat 1) (IntKind.bits .u64)) = 1 from rfl, show IntKind.bits .u64 = 64 from rfl, e2]
  obtain ⟨k', rfl⟩ : ∃ k', k = k' + 4 + 1 := ⟨k - 5, by omega⟩
  rw [wire_vi 4 k' _ [] (by omega) (by simp), Option.bind_some, List.nil_append]
  have h1 := vi_len 4 (2 * ByteArray.size s)
  have h2 := size_bytes s
  rw [if_pos (by omega)]; rfl
theorem ref_bytes (k : Nat) (hk : 10 < k) (s : ByteArray) (h : ByteArray.size s < 1000000000) : antiquaryref01_Bytes k s = some (partP s) := by
  unfold antiquaryref01_Bytes antiquaryref01_Int antiquaryref01_Int_l0
  rw [if_neg (by simp), wu64 (ByteArray.size s : Int) (by omega), wu64 _ (by omega)]
  have e : (ByteArray.size s : Int) * 2 = ((2 * ByteArray.size s : Nat) : Int) := by omega
  obtain ⟨k', rfl⟩ : ∃ k', k = k' + 4 + 1 := ⟨k - 5, by omega⟩
  rw [e, ref_vi 4 k' _ [] (by omega) (by omega) (by simp), Option.bind_some, List.nil_append]
  have h1 := vi_len 4 (2 * ByteArray.size s)
  have h2 := size_bytes s
  rw [if_pos (by omega)]; rfl

def inputP (tag : Int) (l : List ByteArray) : List Int := IntKind.u8.wrap tag :: l.flatMap partP

theorem flat_take (l : List ByteArray) (i : Nat) (h : i < l.length) : (l.take (i + 1)).flatMap partP = (l.take i).flatMap partP ++ partP (l.getD i (Kd.dflt Kd.str)) := by
  rw [List.take_succ_eq_append_getElem h, List.flatMap_append, List.getD_eq_getElem?_getD, List.getElem?_eq_getElem h]
  simp
theorem flat_le (l : List ByteArray) (i : Nat) : ((l.take i).flatMap partP).length ≤ (l.flatMap partP).length := by
  conv => rhs; rw [← List.take_append_drop i l]
  rw [List.flatMap_append, List.length_append]; omega
theorem flat_count : ∀ l : List ByteArray, l.length ≤ (l.flatMap partP).length
  | [] => by simp
  | a :: l => by
    have h1 := flat_count l
    have h2 := (part_len a).1
    rw [List.flatMap_cons, List.length_append, List.length_cons]; omega

theorem ref_input (l : List ByteArray) (T : Int) : ∀ (j k i : Nat), i + j = l.length → j + 20 < k → (l.flatMap partP).length < 100000000 →
    antiquaryref02_Input_l0 k l (i : Int) (T :: (l.take i).flatMap partP) = some (T :: l.flatMap partP)
  | 0, k, i, h1, h2, h3 => by
    obtain ⟨k, rfl⟩ : ∃ k', k = k' + 1 := ⟨k - 1, by omega⟩
    unfold antiquaryref02_Input_l0
    rw [if_neg (by simp; omega), List.take_of_length_le (by omega)]
  | j + 1, k, i, h1, h2, h3 => by
    obtain ⟨k, rfl⟩ : ∃ k', k = k' + 1 := ⟨k - 1, by omega⟩
    have hi : i < l.length := by omega
    have hf := flat_take l i hi
    have hle := flat_le l (i + 1)
    rw [hf, List.length_append] at hle
    have hp := part_len (l.getD i (Kd.dflt Kd.str))
    unfold antiquaryref02_Input_l0
    rw [if_pos (by simp; omega), if_pos (by omega), Int.toNat_natCast, ref_bytes k (by omega) _ (by omega), Option.bind_some, if_pos (by simp only [List.length_cons]; omega), w64 _ (by have := flat_count l; omega)]
    have e : (i : Int) + 1 = ((i + 1 : Nat) : Int) := by omega
    rw [e, List.cons_append, ← hf]
    exact ref_input l T j k (i + 1) (by omega) (by omega) h3

theorem code_parts (l : List ByteArray) (T : Int) (hT : 0 ≤ T ∧ T < 256) (p4 : List Int) : ∀ (j k i : Nat) (st blk : List Int) (n : Int), i + j = l.length → (l.flatMap partP).length + j + 2000 < k → (l.flatMap partP).length < 50000000 →
    Strm (T :: (l.take i).flatMap partP) st blk n → Bytes (T :: (l.take i).flatMap partP) → hash_Of_l0 k l (l.length : Int) (i : Int) p4 st blk n = some (List.take 16 (shaP (T :: l.flatMap partP)))
  | 0, k, i, st, blk, n, h1, h2, h3, hs, hb => by
    obtain ⟨k, rfl⟩ : ∃ k', k = k' + 1 := ⟨k - 1, by omega⟩
    rw [List.take_of_length_le (by omega)] at hs hb
    unfold hash_Of_l0
    rw [if_neg (by simp; omega), code_sum k (by omega) _ st blk n hb (by simp only [List.length_cons]; omega) hs]
    rfl
  | j + 1, k, i, st, blk, n, h1, h2, h3, hs, hb => by
    obtain ⟨k, rfl⟩ : ∃ k', k = k' + 1 := ⟨k - 1, by omega⟩
    have hi : i < l.length := by omega
    have hf := flat_take l i hi
    have hle := flat_le l (i + 1)
    rw [hf, List.length_append] at hle
    have hp := part_len (l.getD i (Kd.dflt Kd.str))
    have hpb := part_bytes (l.getD i (Kd.dflt Kd.str)) (by omega)
    unfold hash_Of_l0
    rw [if_pos (by simp; omega), if_pos (by omega), Int.toNat_natCast, code_bytes k (by omega) _ (by omega), Option.bind_some, w64 _ (by have := flat_count l; omega)]
    have hbs := strOf_bytes hpb
    have hsz : ByteArray.size (strOf (partP (l.getD i (Kd.dflt Kd.str)))) = (partP (l.getD i (Kd.dflt Kd.str))).length := by rw [← size_bytes, hbs]
    obtain ⟨st', blk', n', g1, g2⟩ := stream_add (Kd.dflt (Kd.arr 8 (Kd.int .u32))) (Kd.dflt (Kd.arr 64 (Kd.int .u8))) 0 _ k (strOf (partP (l.getD i (Kd.dflt Kd.str)))) _ st blk n (Nat.le_refl _) (by omega) hb (by simp only [List.length_cons]; omega) hs
    unfold hash_Stream_Add
    rw [g1, Option.bind_some]
    rw [hbs, List.cons_append, ← hf] at g2
    have e : (i : Int) + 1 = ((i + 1 : Nat) : Int) := by omega
    rw [e]
    refine code_parts l T hT p4 j k (i + 1) st' blk' n' (by omega) (by omega) h3 g2 ?_
    rw [hf, ← List.cons_append]
    exact hb.append hpb

def ofP (tag : Int) (l : List ByteArray) : List Int := List.take 16 (shaP (inputP tag l))

theorem code_of (k : Nat) (tag : Int) (l : List ByteArray) (h1 : (inputP tag l).length < 40000000) (h2 : 2 * (inputP tag l).length + 4000 < k) : hash_Of k tag l = some (ofP tag l) := by
  have hl : (inputP tag l).length = (l.flatMap partP).length + 1 := rfl
  have hc := flat_count l
  have hT := wu8 tag
  have hTb : Bytes [IntKind.u8.wrap tag] := by intro x hx; simp at hx; subst hx; exact hT
  unfold hash_Of hash_Begin
  rw [Option.bind_some]
  have hbs := strOf_bytes hTb
  have hsz : ByteArray.size (strOf [IntKind.u8.wrap tag]) = 1 := by rw [← size_bytes, hbs]; rfl
  have s0 : Strm [] init8.l (Kd.dflt (Kd.arr 64 (Kd.int .u8))) 0 := ⟨rfl, rfl, rfl, rfl⟩
  obtain ⟨st', blk', n', g1, g2⟩ := stream_add (Kd.dflt (Kd.arr 8 (Kd.int .u32))) (Kd.dflt (Kd.arr 64 (Kd.int .u8))) 0 1 k (strOf [IntKind.u8.wrap tag]) [] init8.l _ 0 (by omega) (by omega) (fun x hx => by cases hx) (by simp; omega) s0
  rw [hbs] at g2
  unfold hash_Stream_Add
  have g1' : hash_Stream_Add_l0 k (strOf (List.take 1 ([(IntKind.u8.wrap tag)] : List Int))) ([(1779033703 : Int), (3144134277 : Int), (1013904242 : Int), (2773480762 : Int), (1359893119 : Int), (2600822924 : Int), (528734635 : Int), (1541459225 : Int)] : List Int) (Kd.dflt (Kd.arr 64 (Kd.int .u8))) 0 (Kd.dflt (Kd.arr 8 (Kd.int .u32))) (Kd.dflt (Kd.arr 64 (Kd.int .u8))) 0 = some (st', blk', n') := g1
  dsimp only
  rw [g1', Option.bind_some]
  exact code_parts l (IntKind.u8.wrap tag) hT _ l.length k 0 st' blk' n' (by omega) (by omega) (by omega) g2 hTb

theorem ref_of (k : Nat) (tag : Int) (l : List ByteArray) (h1 : (inputP tag l).length < 40000000) (h2 : 2 * (inputP tag l).length + 4000 < k) : antiquaryref02_Of k tag l = some (ofP tag l) := by
  have hl : (inputP tag l).length = (l.flatMap partP).length + 1 := rfl
  have hc := flat_count l
  unfold antiquaryref02_Of antiquaryref02_Input
  have := ref_input l (IntKind.u8.wrap tag) l.length k 0 (by omega) (by omega) (by omega)
  rw [show ((0 : Nat) : Int) = 0 from rfl, List.take_zero] at this
  have this' : antiquaryref02_Input_l0 k l 0 [IntKind.u8.wrap tag] = some (inputP tag l) := this
  rw [this', Option.bind_some]
  unfold antiquaryref02_Short
  rw [ref_sum k (by omega) _ (by omega) (by omega), Option.bind_some]
  obtain ⟨k', rfl⟩ : ∃ k', k = k' + 17 := ⟨k - 17, by omega⟩
  have h16 : ∀ s : W8, antiquaryref02_Short_l0 (k' + 17) (0 : Int) (Kd.dflt (Kd.arr 16 (Kd.int .u8))) (outB s) (Kd.dflt (Kd.arr 16 (Kd.int .u8))) = some (List.take 16 (outB s)) := fun s => by kernel_rfl
  have h17 := h16 (blocks ((inputP tag l ++ pad (inputP tag l).length).length / 64) init8 (inputP tag l ++ pad (inputP tag l).length))
  have h18 : antiquaryref02_Short_l0 (k' + 17) (0 : Int) (Kd.dflt (Kd.arr 16 (Kd.int .u8))) (shaP (inputP tag l)) (Kd.dflt (Kd.arr 16 (Kd.int .u8))) = some (ofP tag l) := h17
  refine Eq.trans (congrArg (fun x => Option.bind x fun x1070 => some x1070) h18) rfl

end Go.Proofs.P44
set_option linter.unusedVariables false
set_option linter.unusedSimpArgs false
namespace Go.Proofs.P44
open Go Go.Abs Go.Proofs Go.Proofs.K1 Go.Proofs.G44
set_option maxRecDepth 10000

def ltB : List Int → List Int → Bool
  | x :: a, y :: b => if x = y then ltB a b else decide (x < y)
  | _, _ => false

theorem ltB_irrefl : ∀ a : List Int, ltB a a = false
  | [] => rfl
  | x :: a => by simp [ltB, ltB_irrefl a]
theorem ltB_trans : ∀ {a b c : List Int}, ltB a b = true → ltB b c = true → ltB a c = true
  | [], _, _, h, _ => by simp [ltB] at h
  | x :: a, [], _, h, _ => by simp [ltB] at h
  | x :: a, y :: b, [], _, h => by simp [ltB] at h
  | x :: a, y :: b, z :: c, h1, h2 => by
    simp only [ltB] at h1 h2 ⊢
    split at h1
    · rename_i hxy
      subst hxy
      split at h2
      · rename_i hxz
        rw [if_pos hxz]; exact ltB_trans h1 h2
      · rename_i hxz
        rw [if_neg hxz]; exact h2
    · rename_i hxy
      split at h2
      · rename_i hyz
        subst hyz
        rw [if_neg hxy]; exact h1
      · rename_i hyz
        simp only [decide_eq_true_eq] at h1 h2
        rw [if_neg (by omega)]
        simp only [decide_eq_true_eq]; omega
theorem ltB_total : ∀ {a b : List Int}, a.length = b.length → a ≠ b → ltB a b = true ∨ ltB b a = true
  | [], [], _, h => absurd rfl h
  | x :: a, y :: b, hl, h => by
    simp only [ltB]
    by_cases hxy : x = y
    · subst hxy
      rw [if_pos rfl, if_pos rfl]
      exact ltB_total (by simpa using hl) (fun hh => h (by rw [hh]))
    · rw [if_neg hxy, if_neg (fun hh => hxy hh.symm)]
      simp only [decide_eq_true_eq]; omega
theorem ltB_asymm {a b : List Int} (h : ltB a b = true) : ltB b a = false := by
  cases hb : ltB b a with
  | false => rfl
  | true => have := ltB_trans h hb; rw [ltB_irrefl] at this; cases this
theorem ltB_ne {a b : List Int} (h : ltB a b = true) : a ≠ b := fun hh => by subst hh; rw [ltB_irrefl] at h; cases h

theorem u8_lt {x y : Int} (hx : 0 ≤ x ∧ x < 256) (hy : 0 ≤ y ∧ y < 256) : (UInt8.ofNat x.toNat < UInt8.ofNat y.toNat) ↔ x < y := by
  rw [UInt8.lt_iff_toNat_lt, UInt8.toNat_ofNat', UInt8.toNat_ofNat']
  omega

theorem cmpB_eq : ∀ {a b : List Int}, a.length = b.length → Bytes a → Bytes b → cmpB a b = if a = b then 0 else if ltB a b = true then -1 else 1
  | [], [], _, _, _ => rfl
  | x :: a, y :: b, hl, ha, hb => by
    have hx := ha x (by simp)
    have hy := hb y (by simp)
    have ih := cmpB_eq (a := a) (b := b) (by simpa using hl) (fun z hz => ha z (by simp [hz])) (fun z hz => hb z (by simp [hz]))
    show Lib.compareBytes (UInt8.ofNat x.toNat :: a.map _) (UInt8.ofNat y.toNat :: b.map _) = _
    unfold Lib.compareBytes
    simp only [u8_lt hx hy, u8_lt hy hx, ltB]
    by_cases h1 : x < y
    · have hne : x ≠ y := by omega
      simp [h1, hne]
    · by_cases h2 : y < x
      · have hne : x ≠ y := by omega
        simp [h1, h2, hne]
      · have he : x = y := by omega
        subst he
        simp only [Int.lt_irrefl, if_false, if_true, List.cons.injEq, true_and]
        exact ih

def Nm (a : List Int) : Prop := a.length = 16 ∧ Bytes a
theorem order_eq {a b : List Int} (ha : Nm a) (hb : Nm b) (k : Nat) : exchange_order k a b = some (if a = b then 0 else if ltB a b = true then -1 else 1) := by
  unfold exchange_order
  rw [List.drop_zero, List.drop_zero, List.take_of_length_le (by have := ha.1; omega), List.take_of_length_le (by have := hb.1; omega), cmpB_eq (by rw [ha.1, hb.1]) ha.2 hb.2]

theorem less_loop (a b : List Int) (ha : a.length = 16) (hb : b.length = 16) : ∀ (j k i : Nat), i + j = 16 → j < k → antiquaryref44_Less_l0 k (i : Int) a b = some (ltB (a.drop i) (b.drop i))
  | 0, k, i, h1, h2 => by
    obtain ⟨k, rfl⟩ : ∃ k', k = k' + 1 := ⟨k - 1, by omega⟩
    unfold antiquaryref44_Less_l0
    rw [if_neg (by simp; omega), List.drop_of_length_le (by omega)]; rfl
  | j + 1, k, i, h1, h2 => by
    obtain ⟨k, rfl⟩ : ∃ k', k = k' + 1 := ⟨k - 1, by omega⟩
    have hia : i < a.length := by omega
    have hib : i < b.length := by omega
    unfold antiquaryref44_Less_l0
    rw [if_pos (by simp; omega), if_pos (by omega), Int.toNat_natCast, w64 _ (by omega)]
    have ea : List.getD a i (Kd.dflt (Kd.int .u8)) = a[i] := by rw [List.getD_eq_getElem?_getD, List.getElem?_eq_getElem hia]; rfl
    have eb : List.getD b i (Kd.dflt (Kd.int .u8)) = b[i] := by rw [List.getD_eq_getElem?_getD, List.getElem?_eq_getElem hib]; rfl
    rw [ea, eb, List.drop_eq_getElem_cons hia, List.drop_eq_getElem_cons hib]
    simp only [ltB]
    by_cases h : a[i] = b[i]
    · rw [if_neg (by simp [h]), if_pos h]
      have e : (i : Int) + 1 = ((i + 1 : Nat) : Int) := by omega
      rw [e]
      exact less_loop a b ha hb j k (i + 1) (by omega) (by omega)
    · rw [if_pos (by simp [h]), if_neg h]
theorem less_eq {a b : List Int} (ha : Nm a) (hb : Nm b) (k : Nat) (hk : 20 < k) : antiquaryref44_Less k a b = some (ltB a b) := by
  have := less_loop a b ha.1 hb.1 16 k 0 (by omega) (by omega)
  exact this

end Go.Proofs.P44
set_option linter.unusedVariables false
set_option linter.unusedSimpArgs false
namespace Go.Proofs.P44
open Go Go.Abs Go.Proofs Go.Proofs.K1 Go.Proofs.G44
set_option maxRecDepth 10000

theorem eqb_list : ∀ (n : Nat) (a b : List Int), a.length = b.length → Kd.eqb (.arr n (.int .u8)) a b = decide (a = b)
  | n, [], [], _ => rfl
  | n, x :: a, y :: b, h => by
    have ih := eqb_list n a b (by simpa using h)
    show ((x == y) && (List.zipWith (fun a b => Kd.eqb (.int .u8) a b) a b).all id) = _
    have ih' : (List.zipWith (fun a b => Kd.eqb (.int .u8) a b) a b).all id = decide (a = b) := ih
    rw [ih']
    by_cases h1 : x = y
    · subst h1; simp
    · simp [h1]

theorem eqb_nm {a b : List Int} (ha : Nm a) (hb : Nm b) (n : Nat) : Kd.eqb (.arr n (.int .u8)) a b = decide (a = b) := eqb_list n a b (by rw [ha.1, hb.1])

theorem word4_bytes (x : Int) : Bytes (word4 x) := by
  intro y hy
  simp only [word4, List.mem_cons, List.not_mem_nil, or_false] at hy
  rcases hy with rfl | rfl | rfl | rfl <;> exact wu8 _
theorem outB_bytes (s : W8) : Bytes (outB s) := by
  unfold outB
  exact (((((((word4_bytes _).append (word4_bytes _)).append (word4_bytes _)).append (word4_bytes _)).append (word4_bytes _)).append (word4_bytes _)).append (word4_bytes _)).append (word4_bytes _)
theorem of_nm (tag : Int) (l : List ByteArray) : Nm (ofP tag l) := by
  refine ⟨?_, (outB_bytes _).take 16⟩
  unfold ofP shaP
  rw [List.length_take]
  have : (outB (blocks ((inputP tag l ++ pad (inputP tag l).length).length / 64) init8 (inputP tag l ++ pad (inputP tag l).length))).length = 32 := rfl
  rw [this]; rfl

def nameP (s : ByteArray) : List Int := ofP 44 [s]
theorem name_nm (s : ByteArray) : Nm (nameP s) := of_nm _ _
theorem input_one (s : ByteArray) : (inputP 44 [s]).length ≤ ByteArray.size s + 6 := by
  have h1 := vi_len 4 (2 * ByteArray.size s)
  have h2 := size_bytes s
  simp only [inputP, partP, List.flatMap_cons, List.flatMap_nil, List.append_nil, List.length_cons, List.length_append]; omega
theorem code_name (k : Nat) (s : ByteArray) (hs : ByteArray.size s ≤ 10000) (hk : 40000 < k) : exchange_Name k s = some (nameP s) := by
  have := input_one s
  unfold exchange_Name
  rw [code_of k 44 [s] (by omega) (by omega)]; rfl
theorem ref_name (k : Nat) (s : ByteArray) (hs : ByteArray.size s ≤ 10000) (hk : 40000 < k) : antiquaryref44_Name k s = some (nameP s) := by
  have := input_one s
  unfold antiquaryref44_Name
  rw [ref_of k 44 [s] (by omega) (by omega)]; rfl

def dIt : It := Kd.dflt KI
def nmAt (l : List It) (i : Nat) : List Int := (List.getD l i dIt).1
def txAt (l : List It) (i : Nat) : ByteArray := (List.getD l i dIt).2.1
structure Small (l : List It) : Prop where
  len : l.length ≤ 200
  nm : ∀ i, i < l.length → Nm (nmAt l i)
  tx : ∀ i, i < l.length → ByteArray.size (txAt l i) ≤ 200

end Go.Proofs.P44
set_option linter.unusedVariables false
set_option linter.unusedSimpArgs false
namespace Go.Proofs.P44
open Go Go.Abs Go.Proofs Go.Proofs.K1 Go.Proofs.G44
set_option maxRecDepth 10000

def Rises (f : Nat → List Int) (n : Nat) : Prop := ∀ i j, i < j → j < n → ltB (f i) (f j) = true
structure Bound (f : Nat → List Int) (n : Nat) (name : List Int) (b : Nat) : Prop where
  le : b ≤ n
  lo : ∀ q, q < b → ltB (f q) name = true
  hi : ∀ q, b ≤ q → q < n → ltB (f q) name = false

theorem Bound.found {f : Nat → List Int} {n : Nat} {name : List Int} {b : Nat} (h : Bound f n name b) (hr : Rises f n) {q : Nat} (hq : q < n) (he : f q = name) : q = b := by
  rcases Nat.lt_trichotomy q b with h1 | h1 | h1
  · have := h.lo q h1; rw [he, ltB_irrefl] at this; cases this
  · exact h1
  · have h2 := h.hi b (Nat.le_refl _) (by omega)
    have h3 := hr b q h1 hq
    rw [he] at h3; rw [h3] at h2; cases h2

theorem half_step {f : Nat → List Int} {n : Nat} (hr : Rises f n) {name : List Int} {i j : Nat} (hij : i < j) (hj : j ≤ n) (h1 : ∀ q, q < i → ltB (f q) name = true) (h2 : ∀ q, j ≤ q → q < n → ltB (f q) name = false) :
    (ltB (f ((i + j) / 2)) name = true → ∀ q, q < (i + j) / 2 + 1 → ltB (f q) name = true) ∧ (ltB (f ((i + j) / 2)) name = false → ∀ q, (i + j) / 2 ≤ q → q < n → ltB (f q) name = false) := by
  constructor
  · intro h q hq
    rcases Nat.lt_or_ge q ((i + j) / 2) with h3 | h3
    · exact ltB_trans (hr q _ h3 (by omega)) h
    · have : q = (i + j) / 2 := by omega
      rw [this]; exact h
  · intro h q hq hqn
    rcases Nat.lt_or_ge ((i + j) / 2) q with h3 | h3
    · cases hb : ltB (f q) name with
      | false => rfl
      | true => have := ltB_trans (hr _ q h3 hqn) hb; rw [this] at h; cases h
    · have : q = (i + j) / 2 := by omega
      rw [this]; exact h

theorem mid_eq (i j : Nat) (h : i + j < 1000000) : IntKind.i64.wrap (Int.fdiv (IntKind.u64.wrap (IntKind.i64.wrap ((i : Int) + (j : Int)))) (2 ^ (min (Int.toNat (1 : Int)) (IntKind.bits .u64)))) = (((i + j) / 2 : Nat) : Int) := by
  rw [w64 ((i : Int) + (j : Int)) (by omega), wu64 _ (by omega)]
  show IntKind.i64.wrap (Int.fdiv ((i : Int) + (j : Int)) 2) = _
  rw [Int.fdiv_eq_ediv_of_nonneg _ (by omega), w64 _ (by omega)]
  omega

theorem find_loop (l : List It) (h : Small l) (hr : Rises (nmAt l) l.length) {name : List Int} (hn : Nm name) : ∀ (d k i j : Nat), j - i ≤ d → d + 10 < k → i ≤ j → j ≤ l.length → (∀ q, q < i → ltB (nmAt l q) name = true) → (∀ q, j ≤ q → q < l.length → ltB (nmAt l q) name = false) →
    ∃ b : Nat, slices_BinarySearchFunc_l0 k l (l.length : Int) (i : Int) (j : Int) name = some ((b : Int), decide (b < l.length ∧ nmAt l b = name)) ∧ Bound (nmAt l) l.length name b
  | d, k, i, j, hd, hk, hij, hj, h1, h2 => by
    obtain ⟨k, rfl⟩ : ∃ k', k = k' + 1 := ⟨k - 1, by omega⟩
    have hlen := h.len
    by_cases hlt : i < j
    · obtain ⟨d, rfl⟩ : ∃ d', d = d' + 1 := ⟨d - 1, by omega⟩
      obtain ⟨g1, g2⟩ := half_step hr hlt hj h1 h2
      obtain ⟨m, hm⟩ : ∃ m, m = (i + j) / 2 := ⟨_, rfl⟩
      have hme := mid_eq i j (by omega)
      rw [← hm] at g1 g2 hme
      unfold slices_BinarySearchFunc_l0
      rw [if_pos (by simp; omega), hme, if_pos (by omega), Int.toNat_natCast]
      have ho := order_eq (h.nm m (by omega)) hn k
      have ho' : exchange_find_1 k (List.getD l m (Kd.dflt KI)).1 (List.getD l m (Kd.dflt KI)).2.1 name = some (if nmAt l m = name then 0 else if ltB (nmAt l m) name = true then -1 else 1) := by
        unfold exchange_find_1
        exact (congrArg (fun x => Option.bind x fun x224 => some x224) ho)
      rw [ho', Option.bind_some]
      cases hb : ltB (nmAt l m) name with
      | true =>
        rw [if_neg (ltB_ne hb), if_pos rfl, if_pos (by decide), w64 _ (by omega)]
        have e : (m : Int) + 1 = ((m + 1 : Nat) : Int) := by omega
        rw [e]
        exact find_loop l h hr hn d k (m + 1) j (by omega) (by omega) (by omega) hj (g1 hb) h2
      | false =>
        have hneg : ¬ (decide ((if nmAt l m = name then (0 : Int) else if false = true then -1 else 1) < 0)) = true := by split <;> simp
        rw [if_neg hneg]
        exact find_loop l h hr hn d k i m (by omega) (by omega) (by omega) (by omega) h1 (g2 hb)
    · have hij' : i = j := by omega
      subst hij'
      refine ⟨i, ?_, hj, h1, h2⟩
      unfold slices_BinarySearchFunc_l0
      rw [if_neg (by simp)]
      by_cases hil : i < l.length
      · have ho := order_eq (h.nm i hil) hn k
        have ho' : exchange_find_1 k (List.getD l i (Kd.dflt KI)).1 (List.getD l i (Kd.dflt KI)).2.1 name = some (if nmAt l i = name then 0 else if ltB (nmAt l i) name = true then -1 else 1) := by
          unfold exchange_find_1
          exact (congrArg (fun x => Option.bind x fun x224 => some x224) ho)
        rw [if_pos (by simp; omega), if_pos (by omega), Int.toNat_natCast, ho', Option.bind_some, h2 i (Nat.le_refl _) hil]
        by_cases he : nmAt l i = name
        · simp [he, hil]
        · simp [he]
      · rw [if_neg (by simp; omega)]
        simp [hil]

theorem code_find (k : Nat) (hk : 1000 < k) (l : List It) (h : Small l) (hr : Rises (nmAt l) l.length) {name : List Int} (hn : Nm name) :
    ∃ b : Nat, exchange_find k l name = some ((b : Int), decide (b < l.length ∧ nmAt l b = name)) ∧ Bound (nmAt l) l.length name b := by
  obtain ⟨b, g1, g2⟩ := find_loop l h hr hn l.length k 0 l.length (by omega) (by have := h.len; omega) (by omega) (by omega) (fun q hq => by omega) (fun q h1 h2 => by omega)
  refine ⟨b, ?_, g2⟩
  have g1' : slices_BinarySearchFunc_l0 k l (l.length : Int) 0 (l.length : Int) name = some ((b : Int), decide (b < l.length ∧ nmAt l b = name)) := g1
  unfold exchange_find slices_BinarySearchFunc
  rw [g1']; rfl

theorem place_loop (l : List It) (h : Small l) {name : List Int} (hn : Nm name) : ∀ (n k i : Nat), i + n = l.length → n + 10 < k →
    (∃ b : Nat, antiquaryref44_Place_l0 k (i : Int) l name = some (b : Int) ∧ i ≤ b ∧ b < l.length ∧ nmAt l b = name) ∨ (antiquaryref44_Place_l0 k (i : Int) l name = some (-1) ∧ ∀ q, i ≤ q → q < l.length → nmAt l q ≠ name)
  | 0, k, i, h1, h2 => by
    obtain ⟨k, rfl⟩ : ∃ k', k = k' + 1 := ⟨k - 1, by omega⟩
    refine .inr ⟨?_, fun q h3 h4 => by omega⟩
    unfold antiquaryref44_Place_l0
    rw [if_neg (by simp; omega)]
  | n + 1, k, i, h1, h2 => by
    obtain ⟨k, rfl⟩ : ∃ k', k = k' + 1 := ⟨k - 1, by omega⟩
    have hlen := h.len
    have hi : i < l.length := by omega
    have hq := eqb_nm (n := 16) (h.nm i hi) hn
    have hq' : Kd.eqb (Kd.arr 16 (Kd.int .u8)) (List.getD l i (Kd.dflt KI)).1 name = decide (nmAt l i = name) := hq
    have key : antiquaryref44_Place_l0 (k + 1) (i : Int) l name = if nmAt l i = name then some (i : Int) else antiquaryref44_Place_l0 k ((i + 1 : Nat) : Int) l name := by
      conv => lhs; unfold antiquaryref44_Place_l0
      rw [if_pos (by simp; omega), if_pos (by omega), Int.toNat_natCast, hq', w64 _ (by omega)]
      have e : (i : Int) + 1 = ((i + 1 : Nat) : Int) := by omega
      rw [e]
      simp only [decide_eq_true_eq]
    rw [key]
    by_cases he : nmAt l i = name
    · rw [if_pos he]
      exact .inl ⟨i, rfl, Nat.le_refl _, hi, he⟩
    · rw [if_neg he]
      rcases place_loop l h hn n k (i + 1) (by omega) (by omega) with ⟨b, g1, g2, g3, g4⟩ | ⟨g1, g2⟩
      · exact .inl ⟨b, g1, by omega, g3, g4⟩
      · refine .inr ⟨g1, fun q h3 h4 => ?_⟩
        rcases Nat.lt_or_ge i q with h5 | h5
        · exact g2 q (by omega) h4
        · have : q = i := by omega
          subst this; exact he

theorem find_place (k : Nat) (hk : 1000 < k) (l : List It) (h : Small l) (hr : Rises (nmAt l) l.length) {name : List Int} (hn : Nm name) :
    ∃ b : Nat, Bound (nmAt l) l.length name b ∧ exchange_find k l name = some ((b : Int), decide (b < l.length ∧ nmAt l b = name)) ∧
      antiquaryref44_Place k l name = some (if b < l.length ∧ nmAt l b = name then (b : Int) else -1) := by
  obtain ⟨b, g1, g2⟩ := code_find k hk l h hr hn
  refine ⟨b, g2, g1, ?_⟩
  unfold antiquaryref44_Place
  rcases place_loop l h hn l.length k 0 (by omega) (by have := h.len; omega) with ⟨c, k1, _, k3, k4⟩ | ⟨k1, k2⟩
  · have : c = b := g2.found hr k3 k4
    subst this
    rw [if_pos ⟨k3, k4⟩]
    exact k1
  · rw [if_neg (fun hh => k2 b (by omega) hh.1 hh.2)]
    exact k1

end Go.Proofs.P44
set_option linter.unusedVariables false
set_option linter.unusedSimpArgs false
namespace Go.Proofs.P44
open Go Go.Abs Go.Proofs Go.Proofs.K1 Go.Proofs.G44
set_option maxRecDepth 10000

theorem take_snoc (l : List It) (i : Nat) (h : i < l.length) : l.take i ++ [((List.getD l i (Kd.dflt KI)).1, (((List.getD l i (Kd.dflt KI)).2).1, ()))] = l.take (i + 1) := by
  rw [List.take_succ_eq_append_getElem h, List.getD_eq_getElem?_getD, List.getElem?_eq_getElem h]
  rfl
theorem drop_cons (l : List It) (i : Nat) (h : i < l.length) : [((List.getD l i (Kd.dflt KI)).1, (((List.getD l i (Kd.dflt KI)).2).1, ()))] ++ l.drop (i + 1) = l.drop i := by
  rw [List.drop_eq_getElem_cons h, List.getD_eq_getElem?_getD, List.getElem?_eq_getElem h]
  rfl

theorem ref_add_rest (l : List It) (hl : l.length ≤ 200) (tx : ByteArray) (name : List Int) : ∀ (n k i : Nat) (out : List It), i + n = l.length → n + 10 < k → out.length ≤ 1000 + i → antiquaryref44_Add_l0 k tx true (i : Int) l 0 name out = some (out ++ l.drop i, 0)
  | 0, k, i, out, h1, h2, h3 => by
    obtain ⟨k, rfl⟩ : ∃ k', k = k' + 1 := ⟨k - 1, by omega⟩
    unfold antiquaryref44_Add_l0
    rw [if_neg (by simp; omega), if_neg (by simp), List.drop_of_length_le (by omega), List.append_nil]
  | n + 1, k, i, out, h1, h2, h3 => by
    obtain ⟨k, rfl⟩ : ∃ k', k = k' + 1 := ⟨k - 1, by omega⟩
    have hi : i < l.length := by omega
    unfold antiquaryref44_Add_l0
    rw [if_pos (by simp; omega), if_neg (by simp)]
    unfold antiquaryref44_Add_l1 antiquaryref44_Add_l2
    rw [if_neg (by simp), if_pos (by omega), Int.toNat_natCast, if_pos (by simp only [List.length_singleton]; omega), w64 _ (by omega)]
    have e : (i : Int) + 1 = ((i + 1 : Nat) : Int) := by omega
    rw [e, ref_add_rest l hl tx name n k (i + 1) _ (by omega) (by omega) (by simp only [List.length_append, List.length_singleton]; omega), List.append_assoc, drop_cons l i hi]

theorem ref_add_loop (l : List It) (h : Small l) (tx : ByteArray) {name : List Int} (hn : Nm name) {b : Nat} (hb : Bound (nmAt l) l.length name b) (hne : ¬ (b < l.length ∧ nmAt l b = name)) : ∀ (n k i : Nat), i + n = b → 500 + n < k →
    antiquaryref44_Add_l0 k tx false (i : Int) l 0 name (l.take i) = some (l.take b ++ [(name, (tx, ()))] ++ l.drop b, 0)
  | 0, k, i, h1, h2 => by
    obtain ⟨k, rfl⟩ : ∃ k', k = k' + 1 := ⟨k - 1, by omega⟩
    have hlen := h.len
    have hib : i = b := by omega
    subst hib
    have htl : (l.take i).length = i := by rw [List.length_take]; have := hb.le; omega
    have hble := hb.le
    unfold antiquaryref44_Add_l0
    by_cases hi : i < l.length
    · have hlt : ltB name (nmAt l i) = true := by
        rcases ltB_total (a := name) (b := nmAt l i) (by rw [hn.1, (h.nm i hi).1]) (fun hh => hne ⟨hi, hh.symm⟩) with h3 | h3
        · exact h3
        · have := hb.hi i (Nat.le_refl _) hi; rw [this] at h3; cases h3
      have hq : antiquaryref44_Less k name (List.getD l i (Kd.dflt KI)).1 = some (ltB name (nmAt l i)) := less_eq hn (h.nm i hi) k (by omega)
      rw [if_pos (by simp; omega), if_pos (by simp), if_pos (by omega), Int.toNat_natCast, hq, Option.bind_some, hlt]
      unfold antiquaryref44_Add_l1 antiquaryref44_Add_l2
      rw [if_pos rfl, if_pos (by simp only [List.length_singleton]; omega), if_pos (by omega), Int.toNat_natCast, if_pos (by simp only [List.length_append, List.length_singleton]; omega), w64 _ (by omega)]
      have e : (i : Int) + 1 = ((i + 1 : Nat) : Int) := by omega
      rw [e, ref_add_rest l hlen tx name (l.length - (i + 1)) k (i + 1) _ (by omega) (by omega) (by simp only [List.length_append, List.length_singleton]; omega)]
      rw [List.append_assoc, List.append_assoc, List.append_assoc, drop_cons l i hi]
    · rw [if_neg (by simp; omega), if_pos (by simp), if_pos (by simp only [List.length_singleton]; omega), List.drop_of_length_le (by omega), List.append_nil]
  | n + 1, k, i, h1, h2 => by
    obtain ⟨k, rfl⟩ : ∃ k', k = k' + 1 := ⟨k - 1, by omega⟩
    have hlen := h.len
    have hble := hb.le
    have hi : i < l.length := by omega
    have hlt : ltB name (nmAt l i) = false := ltB_asymm (hb.lo i (by omega))
    have htl : (l.take i).length = i := by rw [List.length_take]; omega
    have hq : antiquaryref44_Less k name (List.getD l i (Kd.dflt KI)).1 = some (ltB name (nmAt l i)) := less_eq hn (h.nm i hi) k (by omega)
    unfold antiquaryref44_Add_l0
    rw [if_pos (by simp; omega), if_pos (by simp), if_pos (by omega), Int.toNat_natCast, hq, Option.bind_some, hlt]
    unfold antiquaryref44_Add_l1 antiquaryref44_Add_l2
    rw [if_neg (by simp), if_pos (by omega), Int.toNat_natCast, if_pos (by simp only [List.length_singleton]; omega), w64 _ (by omega), take_snoc l i hi]
    have e : (i : Int) + 1 = ((i + 1 : Nat) : Int) := by omega
    rw [e]
    exact ref_add_loop l h tx hn hb hne n k (i + 1) (by omega) (by omega)

theorem add_both (k : Nat) (hk : 60000 < k) (l : List It) (h : Small l) (hr : Rises (nmAt l) l.length) (tx : ByteArray) (ht : ByteArray.size tx ≤ 200) :
    ∃ b : Nat, Bound (nmAt l) l.length (nameP tx) b ∧
      exchange_Add k l tx = some (if b < l.length ∧ nmAt l b = nameP tx then (l, 6) else (l.take b ++ [(nameP tx, (tx, ()))] ++ l.drop b, 0)) ∧
      antiquaryref44_Add k l tx = some (if b < l.length ∧ nmAt l b = nameP tx then (l, 6) else (l.take b ++ [(nameP tx, (tx, ()))] ++ l.drop b, 0)) := by
  obtain ⟨b, g1, g2, g3⟩ := find_place k (by omega) l h hr (name_nm tx)
  have hlen := h.len
  have hble := g1.le
  refine ⟨b, g1, ?_, ?_⟩
  · unfold exchange_Add
    rw [if_neg (by simp; omega), code_name k tx (by omega) (by omega), Option.bind_some, g2, Option.bind_some]
    by_cases hf : b < l.length ∧ nmAt l b = nameP tx
    · rw [if_pos (by simpa using hf), if_pos hf]
    · rw [if_neg (by simpa using hf), if_neg hf, if_neg (by simp; omega), if_pos (by omega), if_pos (by simp; omega), Int.toNat_natCast]
  · unfold antiquaryref44_Add
    rw [if_neg (by simp; omega), ref_name k tx (by omega) (by omega), Option.bind_some, g3, Option.bind_some]
    by_cases hf : b < l.length ∧ nmAt l b = nameP tx
    · rw [if_pos hf, if_pos (by simp), if_pos hf]
    · rw [if_neg hf, if_neg (by simp), if_neg (by simp; omega), if_neg hf]
      exact ref_add_loop l h tx (name_nm tx) g1 hf b k 0 (by omega) (by omega)

end Go.Proofs.P44
set_option linter.unusedVariables false
set_option linter.unusedSimpArgs false
namespace Go.Proofs.P44
open Go Go.Abs Go.Proofs Go.Proofs.K1 Go.Proofs.G44
set_option maxRecDepth 10000

def numB : List Int → Nat
  | [] => 0
  | x :: a => x.toNat * 256 ^ a.length + numB a

theorem numB_lt : ∀ {a : List Int}, Bytes a → numB a < 256 ^ a.length
  | [], _ => by simp [numB]
  | x :: a, h => by
    have hx := h x (by simp)
    have ih := numB_lt (a := a) (fun y hy => h y (by simp [hy]))
    simp only [numB, List.length_cons, Nat.pow_succ]
    have h1 : x.toNat * 256 ^ a.length ≤ 255 * 256 ^ a.length := Nat.mul_le_mul_right _ (by omega)
    omega

theorem numB_ltB : ∀ {a b : List Int}, a.length = b.length → Bytes a → Bytes b → (ltB a b = true ↔ numB a < numB b)
  | [], [], _, _, _ => by simp [ltB, numB]
  | x :: a, y :: b, hl, ha, hb => by
    have hx := ha x (by simp)
    have hy := hb y (by simp)
    have hl' : a.length = b.length := by simpa using hl
    have ha' : Bytes a := fun z hz => ha z (by simp [hz])
    have hb' : Bytes b := fun z hz => hb z (by simp [hz])
    have ih := numB_ltB hl' ha' hb'
    have la := numB_lt ha'
    have lb := numB_lt hb'
    simp only [ltB, numB]
    rw [hl'] at la ⊢
    by_cases h : x = y
    · subst h
      rw [if_pos rfl, ih]; omega
    · rw [if_neg h, decide_eq_true_eq]
      constructor
      · intro hlt
        have : (x.toNat + 1) * 256 ^ b.length ≤ y.toNat * 256 ^ b.length := Nat.mul_le_mul_right _ (by omega)
        rw [Nat.add_mul, Nat.one_mul] at this
        omega
      · intro hlt
        rcases Int.lt_or_le x y with h1 | h1
        · exact h1
        · exfalso
          have : (y.toNat + 1) * 256 ^ b.length ≤ x.toNat * 256 ^ b.length := Nat.mul_le_mul_right _ (by omega)
          rw [Nat.add_mul, Nat.one_mul] at this
          omega

theorem numB_inj {a b : List Int} (hl : a.length = b.length) (ha : Bytes a) (hb : Bytes b) (h : numB a = numB b) : a = b := by
  by_cases he : a = b
  · exact he
  · rcases ltB_total hl he with h1 | h1
    · have := (numB_ltB hl ha hb).1 h1; omega
    · have := (numB_ltB hl.symm hb ha).1 h1; omega

def mskB (h : Nat) (x : Nat) : Nat := x - x % 2 ^ (8 - h)
theorem mask_byte (x h : Nat) (hx : x < 256) (hh : h < 8) : IntKind.u8.wrap (((BitVec.ofInt 8 (x : Int)) &&& (BitVec.ofInt 8 (IntKind.u8.wrap ((BitVec.ofInt 8 (if (IntKind.signed .u8) then -1 else IntKind.max .u8) ^^^ BitVec.ofInt 8 (Int.fdiv (255 : Int) (2 ^ (min h 8)))).toNat : Int)))).toNat : Int) = (mskB h x : Int) := by
  have key : ∀ (h : Fin 8) (x : Fin 256), IntKind.u8.wrap (((BitVec.ofInt 8 (x.val : Int)) &&& (BitVec.ofInt 8 (IntKind.u8.wrap ((BitVec.ofInt 8 (if (IntKind.signed .u8) then -1 else IntKind.max .u8) ^^^ BitVec.ofInt 8 (Int.fdiv (255 : Int) (2 ^ (min h.val 8)))).toNat : Int)))).toNat : Int) = (mskB h.val x.val : Int) := by decide +kernel
  exact key ⟨h, hh⟩ ⟨x, hx⟩

def maskL : Nat → List Int → List Int
  | _, [] => []
  | L, x :: a => (if L < 8 then (mskB L x.toNat : Int) else x) :: maskL (L - 8) a

theorem maskL_len : ∀ (L : Nat) (a : List Int), (maskL L a).length = a.length
  | _, [] => rfl
  | L, x :: a => by simp [maskL, maskL_len]
theorem mskB_le (h x : Nat) : mskB h x ≤ x := Nat.sub_le _ _
theorem maskL_bytes : ∀ (L : Nat) {a : List Int}, Bytes a → Bytes (maskL L a)
  | _, [], h => h
  | L, x :: a, h => by
    intro y hy
    have hx := h x (by simp)
    simp only [maskL, List.mem_cons] at hy
    rcases hy with rfl | hy
    · split
      · have := mskB_le L x.toNat; omega
      · exact hx
    · exact maskL_bytes (L - 8) (fun z hz => h z (by simp [hz])) y hy

theorem pow256 (n : Nat) : 256 ^ n = 2 ^ (8 * n) := by rw [Nat.pow_mul]

theorem maskL_zero : ∀ {a : List Int}, Bytes a → numB (maskL 0 a) = 0
  | [], _ => rfl
  | x :: a, h => by
    have hx := h x (by simp)
    have ih := maskL_zero (a := a) (fun z hz => h z (by simp [hz]))
    have : mskB 0 x.toNat = 0 := by
      unfold mskB
      rw [Nat.mod_eq_of_lt (by omega)]; omega
    simp only [maskL, numB]
    rw [if_pos (by omega), this, maskL_len, Nat.zero_sub, ih]; simp

theorem numB_mask : ∀ (L : Nat) {a : List Int}, Bytes a → L ≤ 8 * a.length → numB (maskL L a) = numB a - numB a % 2 ^ (8 * a.length - L)
  | L, [], _, h => by simp [maskL, numB]
  | L, x :: a, ha, hL => by
    have hx := ha x (by simp)
    have ha' : Bytes a := fun z hz => ha z (by simp [hz])
    have la := numB_lt ha'
    simp only [maskL, numB, maskL_len, List.length_cons]
    simp only [List.length_cons] at hL
    by_cases h : L < 8
    · rw [if_pos h, show L - 8 = 0 by omega, maskL_zero ha', Int.toNat_natCast]
      have e : 8 * (a.length + 1) - L = (8 - L) + 8 * a.length := by omega
      rw [e, Nat.pow_add, ← pow256]
      have hm : (x.toNat * 256 ^ a.length + numB a) % (2 ^ (8 - L) * 256 ^ a.length) = (x.toNat % 2 ^ (8 - L)) * 256 ^ a.length + numB a := by
        rw [Nat.mul_comm (2 ^ (8 - L)), Nat.mod_mul, Nat.add_comm (x.toNat * _), Nat.add_mul_mod_self_right, Nat.mod_eq_of_lt la, Nat.add_mul_div_right _ _ (Nat.pow_pos (by omega)), Nat.div_eq_of_lt la, Nat.zero_add, Nat.mul_comm (256 ^ a.length)]
        omega
      rw [hm]
      unfold mskB
      rw [Nat.sub_mul]
      omega
    · rw [if_neg h, numB_mask (L - 8) ha' (by omega)]
      have e : 8 * (a.length + 1) - L = 8 * a.length - (L - 8) := by omega
      rw [e]
      have hd : 256 ^ a.length = 2 ^ (8 * a.length - (L - 8)) * 2 ^ (L - 8) := by rw [pow256, ← Nat.pow_add]; congr 1; omega
      have hm : (x.toNat * 256 ^ a.length + numB a) % 2 ^ (8 * a.length - (L - 8)) = numB a % 2 ^ (8 * a.length - (L - 8)) := by
        rw [hd, Nat.mul_comm (2 ^ _) (2 ^ (L - 8)), ← Nat.mul_assoc, Nat.add_comm, Nat.add_mul_mod_self_right]
      rw [hm]
      have := Nat.mod_le (numB a) (2 ^ (8 * a.length - (L - 8)))
      omega

end Go.Proofs.P44
set_option linter.unusedVariables false
set_option linter.unusedSimpArgs false
namespace Go.Proofs.P44
open Go Go.Abs Go.Proofs Go.Proofs.K1 Go.Proofs.G44
set_option maxRecDepth 10000

theorem maskL_get : ∀ (L : Nat) (a : List Int) (i : Nat), (maskL L a)[i]? = a[i]?.map fun x => if L - 8 * i < 8 then (mskB (L - 8 * i) x.toNat : Int) else x
  | _, [], i => by simp [maskL]
  | L, x :: a, 0 => by simp [maskL]
  | L, x :: a, i + 1 => by
    simp only [maskL, List.getElem?_cons_succ]
    rw [maskL_get (L - 8) a i]
    have : L - 8 - 8 * i = L - 8 * (i + 1) := by omega
    rw [this]

theorem clamp_eq (L i : Nat) (hL : L ≤ 1000) (hi : i < 16) : mm false (mm true (IntKind.i64.wrap ((L : Int) - (IntKind.i64.wrap ((8 : Int) * (i : Int))))) 0) 8 = ((min (L - 8 * i) 8 : Nat) : Int) := by
  rw [w64 (8 * (i : Int)) (by omega), w64 _ (by omega)]
  unfold mm
  simp only [Bool.false_eq_true, if_false, if_true]
  split <;> split <;> omega

theorem mask_loop {a : List Int} (ha : Nm a) (L : Nat) (hL : L ≤ 1000) (x : List Int) : ∀ (n k i : Nat) (w : List Int), i + n = 16 → n + 5 < k → w.length = 16 → (∀ j, j < i → w[j]? = (maskL L a)[j]?) → (∀ j, i ≤ j → w[j]? = a[j]?) →
    exchange_mask_l0 k (L : Int) (i : Int) w x = some (maskL L a)
  | 0, k, i, w, h1, h2, h3, h4, h5 => by
    obtain ⟨k, rfl⟩ : ∃ k', k = k' + 1 := ⟨k - 1, by omega⟩
    unfold exchange_mask_l0
    rw [if_neg (by simp; omega)]
    congr 1
    apply List.ext_getElem?
    intro j
    rcases Nat.lt_or_ge j i with h | h
    · exact h4 j h
    · rw [List.getElem?_eq_none (by omega), List.getElem?_eq_none (by rw [maskL_len, ha.1]; omega)]
  | n + 1, k, i, w, h1, h2, h3, h4, h5 => by
    obtain ⟨k, rfl⟩ : ∃ k', k = k' + 1 := ⟨k - 1, by omega⟩
    have hi : i < 16 := by omega
    have hia : i < a.length := by rw [ha.1]; exact hi
    have hx := ha.2 a[i] (List.getElem_mem hia)
    have hm := maskL_get L a i
    rw [List.getElem?_eq_getElem hia, Option.map_some] at hm
    have e : (i : Int) + 1 = ((i + 1 : Nat) : Int) := by omega
    unfold exchange_mask_l0 exchange_mask_l1
    rw [if_pos (by simp; omega), clamp_eq L i hL hi, w64 ((i : Int) + 1) (by omega), e]
    by_cases h8 : L - 8 * i < 8
    · rw [if_pos (by simp; omega), if_pos (by omega), if_pos (by omega), Int.toNat_natCast, Int.toNat_natCast]
      have hmin : min (L - 8 * i) 8 = L - 8 * i := by omega
      have hw : List.getD w i (Kd.dflt (Kd.int .u8)) = ((a[i].toNat : Nat) : Int) := by
        rw [List.getD_eq_getElem?_getD, h5 i (Nat.le_refl _), List.getElem?_eq_getElem hia]
        show a[i] = _
        omega
      have hb := mask_byte a[i].toNat (L - 8 * i) (by omega) h8
      rw [hmin, hw]
      rw [show IntKind.bits .u8 = 8 from rfl, hb]
      rw [if_pos h8] at hm
      refine mask_loop ha L hL x n k (i + 1) _ (by omega) (by omega) (by simpa using h3) (fun j hj => ?_) (fun j hj => ?_)
      · by_cases hji : j = i
        · subst hji
          rw [List.getElem?_set_self (by omega), hm]
        · rw [List.getElem?_set_ne (by omega)]; exact h4 j (by omega)
      · rw [List.getElem?_set_ne (by omega)]; exact h5 j (by omega)
    · rw [if_neg (by simp; omega)]
      rw [if_neg h8] at hm
      refine mask_loop ha L hL x n k (i + 1) w (by omega) (by omega) h3 (fun j hj => ?_) (fun j hj => h5 j (by omega))
      by_cases hji : j = i
      · subst hji
        rw [h5 j (Nat.le_refl _), hm, List.getElem?_eq_getElem hia]
      · exact h4 j (by omega)

theorem code_mask {a : List Int} (ha : Nm a) (L : Nat) (hL : L ≤ 1000) (k : Nat) (hk : 100 < k) : exchange_mask k a (L : Int) = some (maskL L a) :=
  mask_loop ha L hL _ 16 k 0 a (by omega) (by omega) ha.1 (fun j hj => by omega) (fun j _ => rfl)

theorem mask_nm {a : List Int} (ha : Nm a) (L : Nat) : Nm (maskL L a) := ⟨by rw [maskL_len]; exact ha.1, maskL_bytes L ha.2⟩

structure Pre (p : List Int) (L : Nat) : Prop where
  nm : Nm p
  le : L ≤ 128
  z : numB p % 2 ^ (128 - L) = 0

def underP (p : List Int) (L : Nat) (a : List Int) : Bool := decide (numB a / 2 ^ (128 - L) = numB p / 2 ^ (128 - L))

theorem code_Under {p a : List Int} {L : Nat} (hp : Pre p L) (ha : Nm a) (k : Nat) (hk : 100 < k) : exchange_Under k p (L : Int) a = some (underP p L a) := by
  have hL := hp.le
  unfold exchange_Under
  rw [code_mask ha L (by omega) k hk, Option.bind_some, eqb_nm (mask_nm ha L) hp.nm]
  congr 1
  unfold underP
  have hmask := numB_mask L ha.2 (by rw [ha.1]; omega)
  rw [ha.1] at hmask
  obtain ⟨M, hM⟩ : ∃ M, M = 2 ^ (128 - L) := ⟨_, rfl⟩
  have hM0 : 0 < M := by rw [hM]; exact Nat.pow_pos (by omega)
  have hz := hp.z
  rw [show 8 * 16 - L = 128 - L by omega] at hmask
  rw [← hM] at hmask hz ⊢
  have d1 := Nat.div_add_mod (numB a) M
  have d2 := Nat.div_add_mod (numB p) M
  have hiff : maskL L a = p ↔ numB a / M = numB p / M := by
    constructor
    · intro h
      rw [h] at hmask
      have : M * (numB a / M) = M * (numB p / M) := by omega
      exact Nat.eq_of_mul_eq_mul_left hM0 this
    · intro h
      refine numB_inj (by rw [maskL_len, ha.1, hp.nm.1]) (maskL_bytes L ha.2) hp.nm.2 ?_
      have h1 : numB a - numB a % M = M * (numB a / M) := by omega
      rw [hmask, h1, h]
      omega
  by_cases h : maskL L a = p
  · rw [decide_eq_true h, decide_eq_true (hiff.1 h)]
  · rw [decide_eq_false h, decide_eq_false (fun hh => h (hiff.2 hh))]

end Go.Proofs.P44
set_option linter.unusedVariables false
set_option linter.unusedSimpArgs false
namespace Go.Proofs.P44
open Go Go.Abs Go.Proofs Go.Proofs.K1 Go.Proofs.G44
set_option maxRecDepth 10000

theorem numB_byte : ∀ {a : List Int} (_ : Bytes a) (j : Nat) (hj : j < a.length), numB a / 256 ^ (a.length - 1 - j) % 256 = a[j].toNat
  | x :: a, h, 0, _ => by
    have hx := h x (by simp)
    have la := numB_lt (a := a) (fun z hz => h z (by simp [hz]))
    simp only [numB, List.length_cons, Nat.add_sub_cancel, Nat.sub_zero, List.getElem_cons_zero]
    rw [Nat.add_comm, Nat.add_mul_div_right _ _ (Nat.pow_pos (by omega)), Nat.div_eq_of_lt la]
    omega
  | x :: a, h, j + 1, hj => by
    have ih := numB_byte (a := a) (fun z hz => h z (by simp [hz])) j (by simpa using hj)
    have hj' : j < a.length := by simpa using hj
    simp only [numB, List.length_cons, List.getElem_cons_succ]
    rw [show a.length + 1 - 1 - (j + 1) = a.length - 1 - j by omega]
    have e : x.toNat * 256 ^ a.length = (x.toNat * 256 ^ j * 256) * 256 ^ (a.length - 1 - j) := by
      rw [Nat.mul_assoc, Nat.mul_assoc]
      congr 1
      rw [← Nat.pow_succ', ← Nat.pow_add]
      congr 1; omega
    rw [e, Nat.add_comm, Nat.add_mul_div_right _ _ (Nat.pow_pos (by omega)), Nat.add_mul_mod_self_right]
    exact ih

end Go.Proofs.P44
set_option linter.unusedVariables false
set_option linter.unusedSimpArgs false
namespace Go.Proofs.P44
open Go Go.Abs Go.Proofs Go.Proofs.K1 Go.Proofs.G44
set_option maxRecDepth 10000

theorem or_byte (r b : Nat) (hr : r < 8) (hb : b < 256) (hz : b % 2 ^ (8 - r) = 0) : IntKind.u8.wrap (((BitVec.ofInt 8 (b : Int)) ||| (BitVec.ofInt 8 (Int.fdiv 128 (2 ^ r)))).toNat : Int) = ((b + 2 ^ (7 - r) : Nat) : Int) ∧ IntKind.u8.wrap ((b : Int) + Int.fdiv 128 (2 ^ r)) = ((b + 2 ^ (7 - r) : Nat) : Int) ∧ b + 2 ^ (7 - r) < 256 := by
  have key : ∀ (r : Fin 8) (b : Fin 256), b.val % 2 ^ (8 - r.val) = 0 → IntKind.u8.wrap (((BitVec.ofInt 8 (b.val : Int)) ||| (BitVec.ofInt 8 (Int.fdiv 128 (2 ^ r.val)))).toNat : Int) = ((b.val + 2 ^ (7 - r.val) : Nat) : Int) ∧ IntKind.u8.wrap ((b.val : Int) + Int.fdiv 128 (2 ^ r.val)) = ((b.val + 2 ^ (7 - r.val) : Nat) : Int) ∧ b.val + 2 ^ (7 - r.val) < 256 := by decide +kernel
  exact key ⟨r, hr⟩ ⟨b, hb⟩ hz

theorem pre_byte {p : List Int} {L : Nat} (hp : Pre p L) (hL : L < 128) (hj : L / 8 < p.length) : p[L / 8].toNat % 2 ^ (8 - L % 8) = 0 := by
  have hb := numB_byte hp.nm.2 (L / 8) hj
  rw [hp.nm.1] at hb
  have e : 2 ^ (128 - L) = 256 ^ (16 - 1 - L / 8) * 2 ^ (8 - L % 8) := by
    rw [pow256, ← Nat.pow_add]; congr 1; omega
  have hz := hp.z
  rw [e, Nat.mod_mul] at hz
  have h0 : numB p / 256 ^ (16 - 1 - L / 8) % 2 ^ (8 - L % 8) = 0 := by
    have h1 : 256 ^ (16 - 1 - L / 8) * (numB p / 256 ^ (16 - 1 - L / 8) % 2 ^ (8 - L % 8)) = 0 := by omega
    rcases Nat.mul_eq_zero.1 h1 with h2 | h2
    · exact absurd h2 (Nat.ne_of_gt (Nat.pow_pos (by omega)))
    · exact h2
  rw [← hb, Nat.mod_mod_of_dvd _ (show 2 ^ (8 - L % 8) ∣ 256 from Nat.pow_dvd_pow 2 (show 8 - L % 8 ≤ 8 by omega))]
  exact h0

def halfP (p : List Int) (L : Nat) : List Int := List.set p (L / 8) (((List.getD p (L / 8) 0).toNat + 2 ^ (7 - L % 8) : Nat) : Int)

theorem halves {p : List Int} {L : Nat} (hp : Pre p L) (hL : L < 128) (k : Nat) :
    exchange_Halves k p (L : Int) = some (p, ((L + 1 : Nat) : Int), halfP p L, ((L + 1 : Nat) : Int)) ∧ antiquaryref44_Half k p (L : Int) false = some (p, ((L + 1 : Nat) : Int)) ∧ antiquaryref44_Half k p (L : Int) true = some (halfP p L, ((L + 1 : Nat) : Int)) := by
  have hj : L / 8 < p.length := by rw [hp.nm.1]; omega
  have hx := hp.nm.2 p[L / 8] (List.getElem_mem hj)
  have hg : List.getD p (L / 8) (Kd.dflt (Kd.int .u8)) = ((p[L / 8].toNat : Nat) : Int) := by
    rw [List.getD_eq_getElem?_getD, List.getElem?_eq_getElem hj]
    show p[L / 8] = _
    omega
  have hg' : List.getD p (L / 8) 0 = p[L / 8] := by rw [List.getD_eq_getElem?_getD, List.getElem?_eq_getElem hj]; rfl
  obtain ⟨o1, o2, o3⟩ := or_byte (L % 8) p[L / 8].toNat (by omega) (by omega) (pre_byte hp hL hj)
  have e1 : IntKind.i64.wrap (Int.tdiv (L : Int) 8) = ((L / 8 : Nat) : Int) := by rw [Int.tdiv_eq_ediv_of_nonneg (by omega), w64 _ (by omega)]; omega
  have e2 : Int.tmod (L : Int) 8 = ((L % 8 : Nat) : Int) := by rw [Int.tmod_eq_emod_of_nonneg (by omega)]; omega
  have e3 : IntKind.i64.wrap ((L : Int) + 1) = ((L + 1 : Nat) : Int) := by rw [w64 _ (by omega)]; omega
  have hmin : min (L % 8) (IntKind.bits .u8) = L % 8 := Nat.min_eq_left (by show L % 8 ≤ 8; omega)
  refine ⟨?_, ?_, ?_⟩
  · unfold exchange_Halves
    rw [e1, e2, e3, if_pos (by omega), if_pos (by omega), Int.toNat_natCast, Int.toNat_natCast, hg, hmin, show IntKind.bits .u8 = 8 from rfl, o1]
    unfold halfP
    rw [hg']
  · unfold antiquaryref44_Half
    rw [if_neg (by simp), e3]
  · unfold antiquaryref44_Half
    rw [if_pos rfl, e1, e2, e3, if_pos (by omega), if_pos (by omega), Int.toNat_natCast, Int.toNat_natCast, hg, hmin, o2]
    unfold halfP
    rw [hg']

end Go.Proofs.P44
set_option linter.unusedVariables false
set_option linter.unusedSimpArgs false
namespace Go.Proofs.P44
open Go Go.Abs Go.Proofs Go.Proofs.K1 Go.Proofs.G44
set_option maxRecDepth 10000

theorem search1 (l : List It) (h : Small l) (hr : Rises (nmAt l) l.length) {name : List Int} (hn : Nm name) (x : Int) : ∀ (d k i j : Nat), j - i ≤ d → d + 10 < k → i ≤ j → j ≤ l.length → (∀ q, q < i → ltB (nmAt l q) name = true) → (∀ q, j ≤ q → q < l.length → ltB (nmAt l q) name = false) →
    ∃ b : Nat, sort_Search_l0 k (i : Int) (j : Int) l name x = some (b : Int) ∧ Bound (nmAt l) l.length name b
  | d, k, i, j, hd, hk, hij, hj, h1, h2 => by
    obtain ⟨k, rfl⟩ : ∃ k', k = k' + 1 := ⟨k - 1, by omega⟩
    have hlen := h.len
    by_cases hlt : i < j
    · obtain ⟨d, rfl⟩ : ∃ d', d = d' + 1 := ⟨d - 1, by omega⟩
      obtain ⟨g1, g2⟩ := half_step hr hlt hj h1 h2
      obtain ⟨m, hm⟩ : ∃ m, m = (i + j) / 2 := ⟨_, rfl⟩
      have hme := mid_eq i j (by omega)
      rw [← hm] at g1 g2 hme
      unfold sort_Search_l0
      have ho := order_eq (h.nm m (by omega)) hn k
      have hu : exchange_under_1 k (m : Int) l name x = some (!ltB (nmAt l m) name) := by
        unfold exchange_under_1
        rw [if_pos (by omega), Int.toNat_natCast]
        refine Eq.trans (congrArg (fun y => Option.bind y fun x324 => some (decide (x324 ≥ (0 : Int)))) ho) ?_
        rw [Option.bind_some]
        congr 1
        cases hb : ltB (nmAt l m) name with
        | true => rw [if_neg (ltB_ne hb)]; rfl
        | false => split <;> rfl
      rw [if_pos (by simp; omega), hme, hu, Option.bind_some]
      cases hb : ltB (nmAt l m) name with
      | true =>
        rw [if_pos (by simp), w64 _ (by omega)]
        have e : (m : Int) + 1 = ((m + 1 : Nat) : Int) := by omega
        rw [e]
        exact search1 l h hr hn x d k (m + 1) j (by omega) (by omega) (by omega) hj (g1 hb) h2
      | false =>
        rw [if_neg (by simp)]
        exact search1 l h hr hn x d k i m (by omega) (by omega) (by omega) (by omega) h1 (g2 hb)
    · have hij' : i = j := by omega
      subst hij'
      refine ⟨i, ?_, hj, h1, h2⟩
      unfold sort_Search_l0
      rw [if_neg (by simp)]

structure Ends (f : Nat → Bool) (n b : Nat) : Prop where
  le : b ≤ n
  lo : ∀ q, q < b → f q = true
  hi : ∀ q, b ≤ q → q < n → f q = false

theorem search2 (l : List It) (h : Small l) {p : List Int} {L : Nat} (hp : Pre p L) (hmono : ∀ i j, i < j → j < l.length → underP p L (nmAt l j) = true → underP p L (nmAt l i) = true) :
    ∀ (d k i j : Nat), j - i ≤ d → d + 200 < k → i ≤ j → j ≤ l.length → (∀ q, q < i → underP p L (nmAt l q) = true) → (∀ q, j ≤ q → q < l.length → underP p L (nmAt l q) = false) →
    ∃ b : Nat, sort_Search_71_l0 k (i : Int) (j : Int) p (L : Int) l = some (b : Int) ∧ Ends (fun q => underP p L (nmAt l q)) l.length b
  | d, k, i, j, hd, hk, hij, hj, h1, h2 => by
    obtain ⟨k, rfl⟩ : ∃ k', k = k' + 1 := ⟨k - 1, by omega⟩
    have hlen := h.len
    by_cases hlt : i < j
    · obtain ⟨d, rfl⟩ : ∃ d', d = d' + 1 := ⟨d - 1, by omega⟩
      obtain ⟨m, hm⟩ : ∃ m, m = (i + j) / 2 := ⟨_, rfl⟩
      have hme := mid_eq i j (by omega)
      rw [← hm] at hme
      unfold sort_Search_71_l0
      have hu : exchange_under_2 k (m : Int) p (L : Int) l = some (!underP p L (nmAt l m)) := by
        unfold exchange_under_2
        rw [if_pos (by omega), Int.toNat_natCast]
        have ho := code_Under hp (h.nm m (by omega)) k (by omega)
        refine Eq.trans (congrArg (fun y => Option.bind y fun x357 => some (!x357)) ho) ?_
        rfl
      rw [if_pos (by simp; omega), hme, hu, Option.bind_some]
      cases hb : underP p L (nmAt l m) with
      | true =>
        rw [if_pos (by simp), w64 _ (by omega)]
        have e : (m : Int) + 1 = ((m + 1 : Nat) : Int) := by omega
        rw [e]
        refine search2 l h hp hmono d k (m + 1) j (by omega) (by omega) (by omega) hj (fun q hq => ?_) h2
        rcases Nat.lt_or_ge q m with h3 | h3
        · exact hmono q m h3 (by omega) hb
        · have : q = m := by omega
          rw [this]; exact hb
      | false =>
        rw [if_neg (by simp)]
        refine search2 l h hp hmono d k i m (by omega) (by omega) (by omega) (by omega) h1 (fun q hq hqn => ?_)
        cases hc : underP p L (nmAt l q) with
        | false => rfl
        | true =>
          rcases Nat.lt_or_ge m q with h3 | h3
          · have := hmono m q h3 hqn hc; rw [this] at hb; cases hb
          · have : q = m := by omega
            rw [this, hb] at hc; cases hc
    · have hij' : i = j := by omega
      subst hij'
      refine ⟨i, ?_, hj, h1, h2⟩
      unfold sort_Search_71_l0
      rw [if_neg (by simp)]

theorem nmAt_drop (l : List It) (b q : Nat) : nmAt (l.drop b) q = nmAt l (b + q) := by
  unfold nmAt
  rw [List.getD_eq_getElem?_getD, List.getD_eq_getElem?_getD, List.getElem?_drop]
theorem txAt_drop (l : List It) (b q : Nat) : txAt (l.drop b) q = txAt l (b + q) := by
  unfold txAt
  rw [List.getD_eq_getElem?_getD, List.getD_eq_getElem?_getD, List.getElem?_drop]
theorem Small.drop {l : List It} (h : Small l) (b : Nat) : Small (l.drop b) := by
  have := h.len
  refine ⟨by rw [List.length_drop]; omega, fun i hi => ?_, fun i hi => ?_⟩
  · rw [nmAt_drop]; exact h.nm _ (by rw [List.length_drop] at hi; omega)
  · rw [txAt_drop]; exact h.tx _ (by rw [List.length_drop] at hi; omega)

def underL (p : List Int) (L : Nat) (l : List It) : List It := l.filter fun x => underP p L x.1

theorem filter_range (P : It → Bool) (l : List It) (b c : Nat) (h : ∀ q (hq : q < l.length), P l[q] = true ↔ (b ≤ q ∧ q < b + c)) : l.filter P = (l.drop b).take c := by
  have e : l = l.take b ++ ((l.drop b).take c ++ (l.drop b).drop c) := by rw [List.take_append_drop, List.take_append_drop]
  conv => lhs; rw [e]
  rw [List.filter_append, List.filter_append]
  have h1 : (l.take b).filter P = [] := by
    rw [List.filter_eq_nil_iff]
    intro x hx
    obtain ⟨q, hq, rfl⟩ := List.mem_iff_getElem.1 hx
    rw [List.length_take] at hq
    rw [List.getElem_take, h q (by omega)]
    omega
  have h2 : ((l.drop b).take c).filter P = (l.drop b).take c := by
    rw [List.filter_eq_self]
    intro x hx
    obtain ⟨q, hq, rfl⟩ := List.mem_iff_getElem.1 hx
    rw [List.length_take, List.length_drop] at hq
    rw [List.getElem_take, List.getElem_drop, h (b + q) (by omega)]
    omega
  have h3 : ((l.drop b).drop c).filter P = [] := by
    rw [List.filter_eq_nil_iff]
    intro x hx
    obtain ⟨q, hq, rfl⟩ := List.mem_iff_getElem.1 hx
    rw [List.length_drop, List.length_drop] at hq
    rw [List.getElem_drop, List.getElem_drop, h (b + (c + q)) (by omega)]
    omega
  rw [h1, h2, h3, List.nil_append, List.append_nil]

theorem nmAt_get (l : List It) (q : Nat) (hq : q < l.length) : nmAt l q = l[q].1 := by
  unfold nmAt
  rw [List.getD_eq_getElem?_getD, List.getElem?_eq_getElem hq]; rfl

theorem code_under (k : Nat) (hk : 2000 < k) (l : List It) (h : Small l) (hr : Rises (nmAt l) l.length) {p : List Int} {L : Nat} (hp : Pre p L) : exchange_under k l p (L : Int) = some (underL p L l) := by
  have hlen := h.len
  obtain ⟨b, g1, g2⟩ := search1 l h hr hp.nm (L : Int) l.length k 0 l.length (by omega) (by omega) (by omega) (by omega) (fun q hq => by omega) (fun q h3 h4 => by omega)
  have hble := g2.le
  obtain ⟨M, hM⟩ : ∃ M, M = 2 ^ (128 - L) := ⟨_, rfl⟩
  have hM0 : 0 < M := by rw [hM]; exact Nat.pow_pos (by omega)
  have hz := hp.z
  have hun : ∀ a, underP p L a = decide (numB a / M = numB p / M) := fun a => by unfold underP; rw [hM]
  rw [← hM] at hz
  have dp := Nat.div_add_mod (numB p) M
  have hnum : ∀ i j, i < l.length → j < l.length → (ltB (nmAt l i) (nmAt l j) = true ↔ numB (nmAt l i) < numB (nmAt l j)) := fun i j hi hj => numB_ltB (by rw [(h.nm i hi).1, (h.nm j hj).1]) (h.nm i hi).2 (h.nm j hj).2
  have hnp : ∀ i, i < l.length → (ltB (nmAt l i) p = true ↔ numB (nmAt l i) < numB p) := fun i hi => numB_ltB (by rw [(h.nm i hi).1, hp.nm.1]) (h.nm i hi).2 hp.nm.2
  have hdl : (l.drop b).length = l.length - b := List.length_drop
  have hge : ∀ q, b ≤ q → q < l.length → numB p ≤ numB (nmAt l q) := fun q h3 h4 => by
    have := g2.hi q h3 h4
    have h5 := hnp q h4
    rw [this] at h5
    simp at h5
    exact h5
  have hmono : ∀ i j, i < j → j < (l.drop b).length → underP p L (nmAt (l.drop b) j) = true → underP p L (nmAt (l.drop b) i) = true := by
    intro i j hij hj hu
    rw [hdl] at hj
    rw [nmAt_drop, hun, decide_eq_true_eq] at hu ⊢
    have h3 := (hnum (b + i) (b + j) (by omega) (by omega)).1 (hr (b + i) (b + j) (by omega) (by omega))
    have h4 := hge (b + i) (by omega) (by omega)
    have h5 : numB p / M ≤ numB (nmAt l (b + i)) / M := Nat.div_le_div_right h4
    have h6 : numB (nmAt l (b + i)) / M ≤ numB (nmAt l (b + j)) / M := Nat.div_le_div_right (by omega)
    omega
  obtain ⟨c, k1, k2⟩ := search2 (l.drop b) (h.drop b) hp hmono (l.drop b).length k 0 (l.drop b).length (by omega) (by omega) (by omega) (by omega) (fun q hq => by omega) (fun q h3 h4 => by omega)
  have hcle := k2.le
  rw [hdl] at hcle
  unfold exchange_under sort_Search sort_Search_71
  have g1' : sort_Search_l0 k 0 (l.length : Int) l p (L : Int) = some (b : Int) := g1
  rw [g1', Option.bind_some, if_pos (by omega), Int.toNat_natCast]
  have k1' : sort_Search_71_l0 k 0 ((l.drop b).length : Int) p (L : Int) (l.drop b) = some (c : Int) := k1
  rw [k1', Option.bind_some, if_pos (by omega), Int.toNat_natCast]
  congr 1
  unfold underL
  rw [filter_range _ l b c]
  intro q hq
  rw [← nmAt_get l q hq]
  constructor
  · intro hu
    rcases Nat.lt_or_ge q b with h3 | h3
    · exfalso
      have h4 := (hnp q hq).1 (g2.lo q h3)
      rw [hun, decide_eq_true_eq] at hu
      have d2 := Nat.div_add_mod (numB (nmAt l q)) M
      rw [hu] at d2
      omega
    · refine ⟨h3, ?_⟩
      rcases Nat.lt_or_ge q (b + c) with h4 | h4
      · exact h4
      · exfalso
        have := k2.hi (q - b) (by omega) (by omega)
        rw [nmAt_drop, show b + (q - b) = q by omega, hu] at this
        cases this
  · intro ⟨h3, h4⟩
    have := k2.lo (q - b) (by omega)
    rw [nmAt_drop, show b + (q - b) = q by omega] at this
    exact this

end Go.Proofs.P44
set_option linter.unusedVariables false
set_option linter.unusedSimpArgs false
namespace Go.Proofs.P44
open Go Go.Abs Go.Proofs Go.Proofs.K1 Go.Proofs.G44
set_option maxRecDepth 10000

def namesP (p : List Int) (L : Nat) (l : List It) : List (List Int) := (underL p L l).map (·.1)

theorem getD_get {α : Type} (l : List α) (i : Nat) (h : i < l.length) (d : α) : List.getD l i d = l[i] := by
  rw [List.getD_eq_getElem?_getD, List.getElem?_eq_getElem h]; rfl

theorem code_names_loop (u : List It) (hu : u.length ≤ 200) : ∀ (n k i : Nat) (acc : List (List Int)), i + n = u.length → n < k → acc.length ≤ i → exchange_Names_l0 k u (u.length : Int) (i : Int) acc = some (acc ++ (u.drop i).map (·.1))
  | 0, k, i, acc, h1, h2, h3 => by
    obtain ⟨k, rfl⟩ : ∃ k', k = k' + 1 := ⟨k - 1, by omega⟩
    unfold exchange_Names_l0
    rw [if_neg (by simp; omega), List.drop_of_length_le (by omega)]; simp
  | n + 1, k, i, acc, h1, h2, h3 => by
    obtain ⟨k, rfl⟩ : ∃ k', k = k' + 1 := ⟨k - 1, by omega⟩
    have hi : i < u.length := by omega
    have e : (i : Int) + 1 = ((i + 1 : Nat) : Int) := by omega
    unfold exchange_Names_l0
    rw [if_pos (by simp; omega), if_pos (by omega), Int.toNat_natCast, if_pos (by simp; omega), w64 _ (by omega), e, code_names_loop u hu n k (i + 1) _ (by omega) (by omega) (by simp; omega), getD_get u i hi, List.append_assoc, List.drop_eq_getElem_cons hi]
    rfl

theorem under_len (p : List Int) (L : Nat) (l : List It) : (underL p L l).length ≤ l.length := List.length_filter_le _ _

theorem code_names (k : Nat) (hk : 2000 < k) (l : List It) (h : Small l) (hr : Rises (nmAt l) l.length) {p : List Int} {L : Nat} (hp : Pre p L) : exchange_Names k l p (L : Int) = some (namesP p L l) := by
  have hlen := h.len
  have hul := under_len p L l
  unfold exchange_Names
  rw [code_under k hk l h hr hp, Option.bind_some]
  have := code_names_loop (underL p L l) (by omega) (underL p L l).length k 0 [] (by omega) (by omega) (by simp)
  rw [List.drop_zero, List.nil_append] at this
  exact this

def partsP (u : List (List Int)) : List ByteArray := u.map strOf
def sumP (p : List Int) (L : Nat) (l : List It) : List Int := ofP 45 (partsP (namesP p L l))

theorem parts_len : ∀ (u : List (List Int)), (∀ a ∈ u, Nm a) → ((partsP u).flatMap partP).length ≤ 21 * u.length
  | [], _ => by simp [partsP]
  | a :: u, h => by
    have ih := parts_len u (fun b hb => h b (by simp [hb]))
    have ha := h a (by simp)
    have h1 := vi_len 4 (2 * ByteArray.size (strOf a))
    have h2 := size_bytes (strOf a)
    rw [strOf_bytes ha.2, ha.1] at h2
    have h3 : (partP (strOf a)).length ≤ 21 := by
      simp only [partP, List.length_append, size_bytes]; omega
    simp only [partsP, List.map_cons, List.flatMap_cons, List.length_append, List.length_cons] at ih ⊢
    omega

theorem under_mem {p : List Int} {L : Nat} {l : List It} (h : Small l) : ∀ x ∈ underL p L l, Nm x.1 := by
  intro x hx
  obtain ⟨hm, _⟩ := List.mem_filter.1 hx
  obtain ⟨q, hq, rfl⟩ := List.mem_iff_getElem.1 hm
  have := h.nm q hq
  rw [nmAt_get l q hq] at this
  exact this
theorem names_mem {p : List Int} {L : Nat} {l : List It} (h : Small l) : ∀ a ∈ namesP p L l, Nm a := by
  intro a ha
  obtain ⟨x, hx, rfl⟩ := List.mem_map.1 ha
  exact under_mem h x hx

theorem code_sum_loop (u : List It) (hu : u.length ≤ 200) (hn : ∀ x ∈ u, Nm x.1) (z : List Int) : ∀ (n k i : Nat) (acc : List ByteArray), i + n = u.length → n + 50000 < k → acc.length = i →
    exchange_Sum_l0 k u (u.length : Int) (i : Int) z acc = Option.bind (hash_Of (k - n - 1) 45 (acc ++ (u.drop i).map fun x => strOf x.1)) fun x394 => some (x394, (u.length : Int))
  | 0, k, i, acc, h1, h2, h3 => by
    obtain ⟨k, rfl⟩ : ∃ k', k = k' + 1 := ⟨k - 1, by omega⟩
    unfold exchange_Sum_l0
    rw [if_neg (by simp; omega), List.drop_of_length_le (by omega), h3, show i = u.length by omega]
    simp
  | n + 1, k, i, acc, h1, h2, h3 => by
    obtain ⟨k, rfl⟩ : ∃ k', k = k' + 1 := ⟨k - 1, by omega⟩
    have hi : i < u.length := by omega
    have e : (i : Int) + 1 = ((i + 1 : Nat) : Int) := by omega
    have hx := hn u[i] (List.getElem_mem hi)
    unfold exchange_Sum_l0
    rw [if_pos (by simp; omega), if_pos (by omega), Int.toNat_natCast, getD_get u i hi, List.drop_zero, List.take_of_length_le (by have := hx.1; omega), if_pos (by simp; omega), w64 _ (by omega), e,
      code_sum_loop u hu hn z n k (i + 1) _ (by omega) (by omega) (by simp; omega), List.append_assoc, List.drop_eq_getElem_cons hi]
    rw [show k + 1 - (n + 1) - 1 = k - n - 1 by omega]
    rfl

theorem code_sum44 (k : Nat) (hk : 60000 < k) (l : List It) (h : Small l) (hr : Rises (nmAt l) l.length) {p : List Int} {L : Nat} (hp : Pre p L) : exchange_Sum k l p (L : Int) = some (sumP p L l, ((namesP p L l).length : Int)) := by
  have hlen := h.len
  have hul := under_len p L l
  unfold exchange_Sum
  rw [code_under k (by omega) l h hr hp, Option.bind_some]
  have := code_sum_loop (underL p L l) (by omega) (under_mem h) (Kd.dflt (Kd.arr 16 (Kd.int .u8))) (underL p L l).length k 0 [] (by omega) (by omega) rfl
  rw [List.drop_zero, List.nil_append] at this
  refine Eq.trans this ?_
  have e : (underL p L l).map (fun x => strOf x.1) = partsP (namesP p L l) := by simp [partsP, namesP]
  have hpl := parts_len (namesP p L l) (names_mem h)
  have hnl : (namesP p L l).length = (underL p L l).length := by simp [namesP]
  have hin : (inputP 45 (partsP (namesP p L l))).length = ((partsP (namesP p L l)).flatMap partP).length + 1 := rfl
  rw [e, code_of _ 45 _ (by omega) (by omega), Option.bind_some, hnl]
  rfl

end Go.Proofs.P44
set_option linter.unusedVariables false
set_option linter.unusedSimpArgs false
namespace Go.Proofs.P44
open Go Go.Abs Go.Proofs Go.Proofs.K1 Go.Proofs.G44
set_option maxRecDepth 10000

theorem zero_pre : Pre (List.replicate 16 0) 0 := by
  refine ⟨⟨rfl, fun x hx => ?_⟩, by omega, by decide +kernel⟩
  have := List.eq_of_mem_replicate hx
  omega

theorem code_open (k : Nat) (hk : 60000 < k) (l : List It) (h : Small l) (hr : Rises (nmAt l) l.length) :
    exchange_Open k l = some ((1 : Int), List.replicate 16 (0 : Int), (0 : Int), sumP (List.replicate 16 0) 0 l, ((namesP (List.replicate 16 0) 0 l).length : Int), (⟨#[]⟩ : ByteArray)) := by
  have hs := code_sum44 k hk l h hr zero_pre
  unfold exchange_Open exchange_sum
  have hs' : exchange_Sum k l (Kd.dflt (Kd.arr 16 (Kd.int .u8))) 0 = some (sumP (List.replicate 16 0) 0 l, ((namesP (List.replicate 16 0) 0 l).length : Int)) := hs
  rw [hs', Option.bind_some, Option.bind_some]
  rfl

end Go.Proofs.P44
set_option linter.unusedVariables false
set_option linter.unusedSimpArgs false
namespace Go.Proofs.P44
open Go Go.Abs Go.Proofs Go.Proofs.K1 Go.Proofs.G44
set_option maxRecDepth 10000

theorem numB_set : ∀ (a : List Int) (j : Nat) (v : Int) (_ : Bytes a) (hj : j < a.length), a[j] ≤ v → numB (List.set a j v) = numB a + (v - a[j]).toNat * 256 ^ (a.length - 1 - j)
  | x :: a, 0, v, h, _, hv => by
    have hx := h x (by simp)
    simp only [List.set_cons_zero, numB, List.length_cons, Nat.add_sub_cancel, Nat.sub_zero, List.getElem_cons_zero] at hv ⊢
    have : v.toNat = x.toNat + (v - x).toNat := by omega
    rw [this, Nat.add_mul]; omega
  | x :: a, j + 1, v, h, hj, hv => by
    have ih := numB_set a j v (fun z hz => h z (by simp [hz])) (by simpa using hj) (by simpa using hv)
    simp only [List.set_cons_succ, numB, List.length_set, List.length_cons, List.getElem_cons_succ]
    rw [ih, show a.length + 1 - 1 - (j + 1) = a.length - 1 - j by omega]; omega

theorem half_num {p : List Int} {L : Nat} (hp : Pre p L) (hL : L < 128) : numB (halfP p L) = numB p + 2 ^ (127 - L) ∧ Nm (halfP p L) := by
  have hj : L / 8 < p.length := by rw [hp.nm.1]; omega
  have hx := hp.nm.2 p[L / 8] (List.getElem_mem hj)
  obtain ⟨_, _, o3⟩ := or_byte (L % 8) p[L / 8].toNat (by omega) (by omega) (pre_byte hp hL hj)
  have hg' : List.getD p (L / 8) 0 = p[L / 8] := by rw [List.getD_eq_getElem?_getD, List.getElem?_eq_getElem hj]; rfl
  unfold halfP
  rw [hg']
  obtain ⟨t, ht⟩ : ∃ t, t = 2 ^ (7 - L % 8) := ⟨_, rfl⟩
  rw [← ht] at o3 ⊢
  constructor
  · have e0 : ((p[L / 8].toNat + t : Nat) : Int) = p[L / 8] + (t : Int) := by rw [Int.natCast_add, Int.toNat_of_nonneg hx.1]
    rw [numB_set p (L / 8) _ hp.nm.2 hj (by rw [e0]; omega), hp.nm.1]
    have e1 : (((p[L / 8].toNat + t : Nat) : Int) - p[L / 8]).toNat = t := by rw [e0]; omega
    rw [e1, ht, pow256, ← Nat.pow_add]
    congr 2; omega
  · refine ⟨by rw [List.length_set]; exact hp.nm.1, fun x hx' => ?_⟩
    rcases List.mem_or_eq_of_mem_set hx' with h | h
    · exact hp.nm.2 x h
    · subst h; omega

theorem pre_halves {p : List Int} {L : Nat} (hp : Pre p L) (hL : L < 128) : Pre p (L + 1) ∧ Pre (halfP p L) (L + 1) := by
  have e : 2 ^ (128 - L) = 2 ^ (127 - L) * 2 := by rw [← Nat.pow_succ]; congr 1; omega
  have hz := hp.z
  rw [e, Nat.mod_mul] at hz
  have h0 : numB p % 2 ^ (127 - L) = 0 := by omega
  obtain ⟨h1, h2⟩ := half_num hp hL
  refine ⟨⟨hp.nm, by omega, by rw [show 128 - (L + 1) = 127 - L by omega]; exact h0⟩, ⟨h2, by omega, ?_⟩⟩
  rw [show 128 - (L + 1) = 127 - L by omega, h1, Nat.add_mod_right]
  exact h0

theorem under_halves {p : List Int} {L : Nat} (hp : Pre p L) (hL : L < 128) (a : List Int) :
    (underP p L a = true ↔ underP p (L + 1) a = true ∨ underP (halfP p L) (L + 1) a = true) ∧ ¬ (underP p (L + 1) a = true ∧ underP (halfP p L) (L + 1) a = true) ∧
      (∀ b, underP (halfP p L) (L + 1) a = true → underP p (L + 1) b = true → numB b < numB a) := by
  obtain ⟨h1, h2⟩ := half_num hp hL
  have hz := hp.z
  have e : 2 ^ (128 - L) = 2 ^ (127 - L) * 2 := by rw [← Nat.pow_succ]; congr 1; omega
  obtain ⟨M, hM⟩ : ∃ M, M = 2 ^ (127 - L) := ⟨_, rfl⟩
  have hM0 : 0 < M := by rw [hM]; exact Nat.pow_pos (by omega)
  unfold underP
  simp only [decide_eq_true_eq]
  rw [e, ← hM, Nat.mod_mul] at hz
  rw [show 128 - (L + 1) = 127 - L by omega, e, h1, ← hM]
  rw [← Nat.div_div_eq_div_mul, ← Nat.div_div_eq_div_mul, Nat.add_div_right _ hM0]
  have hpd : numB p / M % 2 = 0 := by
    have : M * (numB p / M % 2) = 0 := by omega
    rcases Nat.mul_eq_zero.1 this with h | h
    · omega
    · exact h
  refine ⟨by omega, by omega, fun b g1 g2 => ?_⟩
  have d1 := Nat.div_add_mod (numB a) M
  have d2 := Nat.div_add_mod (numB b) M
  have m1 := Nat.mod_lt (numB a) hM0
  have m2 := Nat.mod_lt (numB b) hM0
  rw [g1] at d1
  rw [g2] at d2
  have : M * (numB p / M + 1) = M * (numB p / M) + M := by rw [Nat.mul_add, Nat.mul_one]
  omega

end Go.Proofs.P44
set_option linter.unusedVariables false
set_option linter.unusedSimpArgs false
namespace Go.Proofs.P44
open Go Go.Abs Go.Proofs Go.Proofs.K1 Go.Proofs.G44
set_option maxRecDepth 10000

def z16 : List Int := List.replicate 16 0
theorem z16_nm : Nm z16 := zero_pre.nm

inductive Pc where
  | sum (p : List Int) (L : Nat) (d : List Int) (n : Nat)
  | names (p : List Int) (L : Nat) (ns : List (List Int))
  | want (ns : List (List Int))
  | text (t : ByteArray)

def Pc.enc : Pc → Pt
  | .sum p L d n => (1, (p, (L : Int), ()), d, (n : Int), [], ⟨#[]⟩, ())
  | .names p L ns => (2, (p, (L : Int), ()), z16, 0, ns, ⟨#[]⟩, ())
  | .want ns => (3, (z16, 0, ()), z16, 0, ns, ⟨#[]⟩, ())
  | .text t => (4, (z16, 0, ()), z16, 0, [], t, ())

def Asc (ns : List (List Int)) : Prop := ns.Pairwise fun a b => ltB a b = true

def Pc.WF : Pc → Prop
  | .sum p L d n => Pre p L ∧ Nm d ∧ n ≤ 65536
  | .names p L ns => Pre p L ∧ Asc ns ∧ (∀ a ∈ ns, Nm a ∧ underP p L a = true) ∧ ns.length ≤ 200
  | .want ns => Asc ns ∧ (∀ a ∈ ns, Nm a) ∧ ns.length ≤ 200
  | .text t => ByteArray.size t ≤ 200

theorem get_bang (s : ByteArray) (i : Nat) (h : i < s.size) : s.get! i = s.data[i]'h := by
  cases s with
  | mk d => exact getElem!_pos d i h
theorem tl_loop (s : ByteArray) : ∀ (n i : Nat) (r : List UInt8), i + n = s.size → ByteArray.toList.loop s i r = r.reverse ++ s.data.toList.drop i
  | 0, i, r, h => by
    rw [ByteArray.toList.loop, if_neg (by omega), List.drop_of_length_le (by rw [Array.length_toList]; show s.size ≤ i; omega), List.append_nil]
  | n + 1, i, r, h => by
    have hi : i < s.data.toList.length := by rw [Array.length_toList]; show i < s.size; omega
    rw [ByteArray.toList.loop, if_pos (by omega), tl_loop s n (i + 1) _ (by omega), List.drop_eq_getElem_cons hi, List.reverse_cons, List.append_assoc, get_bang s i (by omega)]
    simp
theorem tl_data (s : ByteArray) : ByteArray.toList s = s.data.toList := by
  unfold ByteArray.toList
  rw [tl_loop s s.size 0 [] (by omega)]; rfl
theorem tl_eq (s t : ByteArray) : (ByteArray.toList s == ByteArray.toList t) = decide (s = t) := by
  rw [tl_data, tl_data]
  cases s; cases t
  rw [Bool.eq_iff_iff]
  simp [Array.toList_inj]
theorem ba_empty {t : ByteArray} (h : ByteArray.size t = 0) : t = ⟨#[]⟩ := by
  cases t with
  | mk d => simp only [ByteArray.mk.injEq]; exact Array.eq_empty_of_size_eq_zero h
theorem tl_empty (t : ByteArray) : (ByteArray.toList t == ByteArray.toList (⟨#[]⟩ : ByteArray)) = decide (ByteArray.size t = 0) := by
  rw [tl_eq]
  congr 1
  exact propext ⟨fun h => by rw [h]; rfl, ba_empty⟩

theorem kx_zero {p : List Int} (hp : Nm p) (L : Int) : Kd.eqb KX (p, (L, ())) ((Kd.dflt (Kd.arr 16 (Kd.int .u8))), ((0 : Int), ())) = (decide (p = z16) && decide (L = 0)) := by
  show (Kd.eqb (.arr 16 (.int .u8)) p z16 && ((L == 0) && true)) = _
  rw [eqb_nm hp z16_nm, Bool.and_true]; rfl
theorem zl_eqb {d : List Int} (hd : Nm d) : Kd.eqb (Kd.arr 16 (Kd.int .u8)) d ([(Kd.dflt (Kd.int .u8)), (Kd.dflt (Kd.int .u8)), (Kd.dflt (Kd.int .u8)), (Kd.dflt (Kd.int .u8)), (Kd.dflt (Kd.int .u8)), (Kd.dflt (Kd.int .u8)), (Kd.dflt (Kd.int .u8)), (Kd.dflt (Kd.int .u8)), (Kd.dflt (Kd.int .u8)), (Kd.dflt (Kd.int .u8)), (Kd.dflt (Kd.int .u8)), (Kd.dflt (Kd.int .u8)), (Kd.dflt (Kd.int .u8)), (Kd.dflt (Kd.int .u8)), (Kd.dflt (Kd.int .u8)), (Kd.dflt (Kd.int .u8))] : List Int) = decide (d = z16) := eqb_nm hd z16_nm 16

def fieldsP (a : Int) (p : List Int) (L : Int) (d : List Int) (n : Int) (ns : List (List Int)) (t : ByteArray) : Bool :=
  (decide (a ≤ 2) || (decide (p = z16) && decide (L = 0))) && (decide (a = 1) || (decide (d = z16) && decide (n = 0))) && (decide (a = 2) || decide (a = 3) || decide (ns.length = 0)) && (decide (a = 4) || decide (ByteArray.size t = 0))

theorem code_fields (k : Nat) {a : Int} {p : List Int} (L : Int) {d : List Int} (n : Int) (ns : List (List Int)) (t : ByteArray) (hp : Nm p) (hd : Nm d) (ha : a = 1 ∨ a = 2 ∨ a = 3 ∨ a = 4) :
    exchange_fields k a p L d n ns t = some (fieldsP a p L d n ns t) := by
  have e0 : decide (ByteArray.size t = 0) = (ByteArray.toList t == ByteArray.toList (⟨#[]⟩ : ByteArray)) := (tl_empty t).symm
  have e1 : ((List.length ns : Int) == (0 : Int)) = decide (ns.length = 0) := by rw [Bool.eq_iff_iff]; simp
  rcases ha with rfl | rfl | rfl | rfl <;> simp only [exchange_fields, exchange_fields_l0, exchange_fields_l1, fieldsP, e0, e1, zl_eqb hd, kx_zero hp] <;> generalize (ByteArray.toList t == ByteArray.toList (⟨#[]⟩ : ByteArray)) = bt <;> generalize decide (ns.length = 0) = bn
  · cases bn <;> simp
  · by_cases h1 : d = z16 <;> by_cases h2 : n = 0 <;> simp [*]
  · by_cases h1 : d = z16 <;> by_cases h2 : n = 0 <;> by_cases h3 : p = z16 <;> by_cases h4 : L = 0 <;> simp [*]
  · by_cases h1 : d = z16 <;> by_cases h2 : n = 0 <;> by_cases h3 : p = z16 <;> by_cases h4 : L = 0 <;> cases bn <;> simp [*]

def rightP (p : List Int) (L : Int) : Bool := decide (0 ≤ L) && decide (L ≤ 128) && decide (numB p % 2 ^ (128 - L.toNat) = 0)
theorem rightP_pre {p : List Int} {L : Int} (hp : Nm p) (h : rightP p L = true) : ∃ n : Nat, L = n ∧ Pre p n := by
  simp only [rightP, Bool.and_eq_true, decide_eq_true_eq] at h
  refine ⟨L.toNat, by omega, hp, by omega, h.2⟩
theorem pre_rightP {p : List Int} {L : Nat} (h : Pre p L) : rightP p (L : Int) = true := by
  have := h.le
  simp only [rightP, Bool.and_eq_true, decide_eq_true_eq]
  exact ⟨⟨by omega, by omega⟩, by rw [Int.toNat_natCast]; exact h.z⟩

theorem code_right {p : List Int} (hp : Nm p) (L : Int) (k : Nat) (hk : 200 < k) : exchange_right k p L = some (rightP p L) := by
  unfold exchange_right rightP
  by_cases h0 : 0 ≤ L
  · by_cases h1 : L ≤ 128
    · obtain ⟨n, rfl⟩ : ∃ n : Nat, L = n := ⟨L.toNat, by omega⟩
      rw [if_pos (by simp), if_pos (by simpa using h1), code_mask hp n (by omega) k (by omega), Option.bind_some, eqb_nm (mask_nm hp n) hp]
      have hm := numB_mask n hp.2 (by rw [hp.1]; omega)
      rw [hp.1, show 8 * 16 - n = 128 - n by omega] at hm
      have hle : numB p % 2 ^ (128 - n) ≤ numB p := Nat.mod_le _ _
      rw [decide_eq_true h0, decide_eq_true h1, Bool.true_and, Bool.true_and]
      congr 1
      rw [decide_eq_decide, Int.toNat_natCast]
      constructor
      · intro h; rw [h] at hm; omega
      · intro h; exact numB_inj (by rw [(mask_nm hp n).1, hp.1]) (mask_nm hp n).2 hp.2 (by omega)
    · rw [if_pos (by simpa using h0), if_neg (by simpa using h1)]
      simp [h1]
  · rw [if_neg (by simpa using h0)]
    simp [h0]

end Go.Proofs.P44
set_option linter.unusedVariables false
set_option linter.unusedSimpArgs false
namespace Go.Proofs.P44
open Go Go.Abs Go.Proofs Go.Proofs.K1 Go.Proofs.G44
set_option maxRecDepth 10000

def nsAt (ns : List (List Int)) (i : Nat) : List Int := List.getD ns i (Kd.dflt (Kd.arr 16 (Kd.int .u8)))
def okNm (two : Bool) (p : List Int) (L : Nat) (ns : List (List Int)) (i : Nat) : Bool := (decide (i = 0) || ltB (nsAt ns (i - 1)) (nsAt ns i)) && (!two || underP p L (nsAt ns i))
def okNms (two : Bool) (p : List Int) (L : Nat) (ns : List (List Int)) : Nat → Nat → Bool
  | 0, _ => true
  | n + 1, i => okNm two p L ns i && okNms two p L ns n (i + 1)

theorem nsAt_get (ns : List (List Int)) (i : Nat) (h : i < ns.length) : nsAt ns i = ns[i] := getD_get ns i h _

theorem code_check_loop {ns : List (List Int)} (hl : ns.length ≤ 1000) (hn : ∀ a ∈ ns, Nm a) (a : Int) {p : List Int} {L : Nat} (hp : Pre p L) (d : List Int) (z : Int) (t : ByteArray) : ∀ (n k i : Nat), i + n = ns.length → n + 500 < k →
    exchange_Check_l2 k ns (ns.length : Int) (i : Int) a p (L : Int) d z ns t = some (if okNms (a == 2) p L ns n i = true then 0 else 3)
  | 0, k, i, h1, h2 => by
    obtain ⟨k, rfl⟩ : ∃ k', k = k' + 1 := ⟨k - 1, by omega⟩
    unfold exchange_Check_l2 okNms
    rw [if_neg (by simp; omega), if_pos rfl]
  | n + 1, k, i, h1, h2 => by
    obtain ⟨k, rfl⟩ : ∃ k', k = k' + 1 := ⟨k - 1, by omega⟩
    have hi : i < ns.length := by omega
    have e : (i : Int) + 1 = ((i + 1 : Nat) : Int) := by omega
    have hni : Nm (nsAt ns i) := by rw [nsAt_get ns i hi]; exact hn _ (List.getElem_mem hi)
    have hu : exchange_Under k p (L : Int) (List.getD ns i (Kd.dflt (Kd.arr 16 (Kd.int .u8)))) = some (underP p L (nsAt ns i)) := code_Under hp hni k (by omega)
    have ih := code_check_loop hl hn a hp d z t n k (i + 1) (by omega) (by omega)
    have last : ∀ b, exchange_Check_l3 (exchange_Check_l2 k) k ns (ns.length : Int) (i : Int) b a p (L : Int) d z ns t = some (if (!b && okNms (a == 2) p L ns n (i + 1)) = true then 0 else 3) := fun b => by
      unfold exchange_Check_l3
      cases b with
      | true => rfl
      | false => rw [if_neg (by simp), w64 _ (by omega), e, ih]; rfl
    have tail : (if (a == (2 : Int)) = true then Option.bind (exchange_Under k p (L : Int) (List.getD ns i (Kd.dflt (Kd.arr 16 (Kd.int .u8))))) fun x => exchange_Check_l3 (exchange_Check_l2 k) k ns (ns.length : Int) (i : Int) (!x) a p (L : Int) d z ns t else exchange_Check_l3 (exchange_Check_l2 k) k ns (ns.length : Int) (i : Int) false a p (L : Int) d z ns t) = some (if ((!(a == 2) || underP p L (nsAt ns i)) && okNms (a == 2) p L ns n (i + 1)) = true then 0 else 3) := by
      rw [hu]
      cases h : (a == (2 : Int)) with
      | true => rw [if_pos rfl, Option.bind_some, last, h, Bool.not_not]; rfl
      | false => rw [if_neg (by simp), last, h]; rfl
    unfold exchange_Check_l2
    rw [if_pos (by simp; omega), if_pos (by omega), Int.toNat_natCast, tail]
    show _ = some (if (okNm (a == 2) p L ns i && okNms (a == 2) p L ns n (i + 1)) = true then 0 else 3)
    by_cases h0 : i = 0
    · subst h0
      rw [if_neg (by simp)]
      simp [okNm]
    · have hnp : Nm (nsAt ns (i - 1)) := by rw [nsAt_get ns (i - 1) (by omega)]; exact hn _ (List.getElem_mem _)
      have hsub : IntKind.i64.wrap ((i : Int) - 1) = ((i - 1 : Nat) : Int) := by rw [w64 _ (by omega)]; omega
      have ho : exchange_order k (List.getD ns (i - 1) (Kd.dflt (Kd.arr 16 (Kd.int .u8)))) (List.getD ns i (Kd.dflt (Kd.arr 16 (Kd.int .u8)))) = some (if nsAt ns (i - 1) = nsAt ns i then 0 else if ltB (nsAt ns (i - 1)) (nsAt ns i) = true then -1 else 1) := order_eq hnp hni k
      rw [if_pos (by simp; omega), hsub, if_pos (by omega), Int.toNat_natCast, ho, Option.bind_some]
      cases hlt : ltB (nsAt ns (i - 1)) (nsAt ns i) with
      | true =>
        rw [if_neg (ltB_ne hlt), if_pos rfl, if_neg (by decide)]
        simp [okNm, hlt]
      | false =>
        have : (decide ((if nsAt ns (i - 1) = nsAt ns i then (0 : Int) else if false = true then -1 else 1) ≥ 0)) = true := by split <;> simp
        rw [if_pos this, last]
        simp [okNm, hlt, h0]

def checkP (a : Int) (p : List Int) (L : Int) (d : List Int) (n : Int) (ns : List (List Int)) (t : ByteArray) : Int :=
  if a < 1 ∨ a > 4 then 1
  else if fieldsP a p L d n ns t && rightP p L && decide (0 ≤ n) && decide (n ≤ 65536) && okNms (a == 2) p L.toNat ns ns.length 0 then 0 else 3

theorem code_check {a : Int} {p : List Int} {L : Int} {d : List Int} {n : Int} {ns : List (List Int)} {t : ByteArray} (hp : Nm p) (hd : Nm d) (hn : ∀ x ∈ ns, Nm x) (hl : ns.length ≤ 1000) (ht : ByteArray.size t ≤ 10000) (k : Nat) (hk : 5000 < k) :
    exchange_Check k a p L d n ns t = some (checkP a p L d n ns t) := by
  unfold exchange_Check checkP
  by_cases ha : a < 1 ∨ a > 4
  · rw [if_pos ha]
    rcases ha with h | h
    · rw [if_pos (by simpa using h)]; rfl
    · rw [if_neg (by simp; omega), show decide (a > 4) = true by simpa using h]; rfl
  · rw [if_neg ha, if_neg (by simp; omega), show decide (a > 4) = false by simp; omega]
    unfold exchange_Check_l0
    rw [if_neg (by simp), code_fields k L n ns t hp hd (by omega), Option.bind_some]
    have l1t : exchange_Check_l1 k true a p L d n ns t = some 3 := rfl
    cases hf : fieldsP a p L d n ns t with
    | false => rw [if_pos (by simp), l1t]; simp
    | true =>
      rw [if_neg (by simp), code_right hp L k (by omega), Option.bind_some]
      cases hr : rightP p L with
      | false => rw [if_pos (by simp), l1t]; simp
      | true =>
        obtain ⟨m, rfl, hm⟩ := rightP_pre hp hr
        rw [if_neg (by simp)]
        by_cases h0 : n < 0
        · rw [if_pos (by simpa using h0), l1t]; simp; omega
        · rw [if_neg (by simpa using h0)]
          by_cases h1 : n > 65536
          · rw [if_pos (by simpa using h1), l1t]; simp; omega
          · rw [if_neg (by simpa using h1), if_neg (by simp; omega), show decide ((ByteArray.size t : Int) > 1048576) = false by simp; omega]
            unfold exchange_Check_l1
            have hlp := code_check_loop hl hn a hm d n t ns.length k 0 (by omega) (by omega)
            rw [if_neg (by simp), show (0 : Int) = ((0 : Nat) : Int) from rfl, hlp, Int.toNat_natCast, show decide (((0 : Nat) : Int) ≤ n) = true by simp; omega, show decide (n ≤ 65536) = true by simp; omega]
            rfl

end Go.Proofs.P44
set_option linter.unusedVariables false
set_option linter.unusedSimpArgs false
namespace Go.Proofs.P44
open Go Go.Abs Go.Proofs Go.Proofs.K1 Go.Proofs.G44
set_option maxRecDepth 10000

theorem okNms_of (two : Bool) (p : List Int) (L : Nat) (ns : List (List Int)) : ∀ (n i : Nat), (∀ q, i ≤ q → q < i + n → okNm two p L ns q = true) → okNms two p L ns n i = true
  | 0, i, _ => rfl
  | n + 1, i, h => by
    simp only [okNms, Bool.and_eq_true]
    exact ⟨h i (by omega) (by omega), okNms_of two p L ns n (i + 1) (fun q h1 h2 => h q (by omega) (by omega))⟩

theorem asc_okNms {two : Bool} {p : List Int} {L : Nat} {ns : List (List Int)} (h : Asc ns) (h2 : two = true → ∀ a ∈ ns, underP p L a = true) : okNms two p L ns ns.length 0 = true := by
  refine okNms_of _ _ _ _ _ _ fun q _ hq => ?_
  have hq' : q < ns.length := by omega
  simp only [okNm, Bool.and_eq_true, Bool.or_eq_true, decide_eq_true_eq]
  constructor
  · by_cases h0 : q = 0
    · exact .inl h0
    · right
      have := (List.pairwise_iff_getElem.1 h) (q - 1) q (by omega) hq' (by omega)
      rw [nsAt_get ns (q - 1) (by omega), nsAt_get ns q hq']; exact this
  · cases two with
    | false => exact .inl rfl
    | true => right; rw [nsAt_get ns q hq']; exact h2 rfl _ (List.getElem_mem _)

theorem zero_pre16 : Pre z16 0 := zero_pre

theorem check_wf {m : Pc} (h : m.WF) : checkP m.enc.1 m.enc.2.1.1 m.enc.2.1.2.1 m.enc.2.2.1 m.enc.2.2.2.1 m.enc.2.2.2.2.1 m.enc.2.2.2.2.2.1 = 0 := by
  cases m with
  | sum p L d n =>
    obtain ⟨h1, h2, h3⟩ := h
    have ho := asc_okNms (two := ((1 : Int) == 2)) (p := p) (L := L) (ns := []) List.Pairwise.nil (fun h => by cases h)
    show checkP 1 p (L : Int) d (n : Int) [] ⟨#[]⟩ = 0
    unfold checkP
    rw [if_neg (show ¬ ((1 : Int) < 1 ∨ (1 : Int) > 4) by omega), pre_rightP h1, Int.toNat_natCast, ho]
    simp [fieldsP]; exact ⟨rfl, by omega⟩
  | names p L ns =>
    obtain ⟨h1, h2, h3, h4⟩ := h
    have ho := asc_okNms (two := ((2 : Int) == 2)) (p := p) (L := L) h2 (fun _ a ha => (h3 a ha).2)
    show checkP 2 p (L : Int) z16 0 ns ⟨#[]⟩ = 0
    unfold checkP
    rw [if_neg (show ¬ ((2 : Int) < 1 ∨ (2 : Int) > 4) by omega), pre_rightP h1, Int.toNat_natCast, ho]
    simp [fieldsP]; rfl
  | want ns =>
    obtain ⟨h2, h3, h4⟩ := h
    have ho := asc_okNms (two := ((3 : Int) == 2)) (p := z16) (L := 0) h2 (fun h => by cases h)
    have hz : rightP z16 0 = true := pre_rightP zero_pre16
    show checkP 3 z16 0 z16 0 ns ⟨#[]⟩ = 0
    unfold checkP
    rw [if_neg (show ¬ ((3 : Int) < 1 ∨ (3 : Int) > 4) by omega), hz, show Int.toNat 0 = 0 from rfl, ho]
    simp [fieldsP]; rfl
  | text t =>
    have ho := asc_okNms (two := ((4 : Int) == 2)) (p := z16) (L := 0) (ns := []) List.Pairwise.nil (fun h => by cases h)
    have hz : rightP z16 0 = true := pre_rightP zero_pre16
    show checkP 4 z16 0 z16 0 [] t = 0
    unfold checkP
    rw [if_neg (show ¬ ((4 : Int) < 1 ∨ (4 : Int) > 4) by omega), hz, show Int.toNat 0 = 0 from rfl, ho]
    simp [fieldsP]

end Go.Proofs.P44
set_option linter.unusedVariables false
set_option linter.unusedSimpArgs false
namespace Go.Proofs.P44
open Go Go.Abs Go.Proofs Go.Proofs.K1 Go.Proofs.G44
set_option maxRecDepth 10000

def Stk (l : List It) : Prop := l.Pairwise (fun x y => ltB x.1 y.1 = true) ∧ ∀ x ∈ l, x.1 = nameP x.2.1 ∧ ByteArray.size x.2.1 ≤ 200

theorem txAt_get (l : List It) (q : Nat) (hq : q < l.length) : txAt l q = l[q].2.1 := by
  unfold txAt
  rw [List.getD_eq_getElem?_getD, List.getElem?_eq_getElem hq]; rfl
theorem Stk.nm {l : List It} (h : Stk l) {x : It} (hx : x ∈ l) : Nm x.1 := by rw [(h.2 x hx).1]; exact name_nm _
theorem Stk.small {l : List It} (h : Stk l) (hl : l.length ≤ 200) : Small l :=
  ⟨hl, fun i hi => by rw [nmAt_get l i hi]; exact h.nm (List.getElem_mem hi), fun i hi => by rw [txAt_get l i hi]; exact (h.2 _ (List.getElem_mem hi)).2⟩
theorem Stk.rises {l : List It} (h : Stk l) : Rises (nmAt l) l.length := fun i j hij hj => by
  rw [nmAt_get l i (by omega), nmAt_get l j hj]
  exact (List.pairwise_iff_getElem.1 h.1) i j (by omega) hj hij
theorem Stk.nil : Stk [] := ⟨List.Pairwise.nil, fun x hx => by cases hx⟩

theorem Stk.uniq {l : List It} (h : Stk l) {x y : It} (hx : x ∈ l) (hy : y ∈ l) (he : x.1 = y.1) : x = y := by
  obtain ⟨i, hi, rfl⟩ := List.mem_iff_getElem.1 hx
  obtain ⟨j, hj, rfl⟩ := List.mem_iff_getElem.1 hy
  have hp := List.pairwise_iff_getElem.1 h.1
  rcases Nat.lt_trichotomy i j with h1 | h1 | h1
  · exact absurd he (ltB_ne (hp i j hi hj h1))
  · subst h1; rfl
  · exact absurd he.symm (ltB_ne (hp j i hj hi h1))

def hasB (l : List It) (a : List Int) : Bool := l.any fun x => decide (x.1 = a)
theorem hasB_iff {l : List It} {a : List Int} : hasB l a = true ↔ ∃ x ∈ l, x.1 = a := by simp [hasB]
def findT (l : List It) (a : List Int) : Option ByteArray := (l.find? fun x => decide (x.1 = a)).map (·.2.1)
theorem findT_mem {l : List It} (h : Stk l) {x : It} (hx : x ∈ l) : findT l x.1 = some x.2.1 := by
  unfold findT
  cases hf : l.find? fun y => decide (y.1 = x.1) with
  | none => have := List.find?_eq_none.1 hf x hx; simp at this
  | some y =>
    have h1 := List.find?_some hf
    have h2 := List.mem_of_find?_eq_some hf
    rw [h.uniq h2 hx (by simpa using h1)]; rfl
theorem findT_none {l : List It} {a : List Int} (h : hasB l a = false) : findT l a = none := by
  unfold findT
  have : l.find? (fun x => decide (x.1 = a)) = none := by
    rw [List.find?_eq_none]
    intro x hx
    cases hb : decide (x.1 = a) with
    | false => simp
    | true => rw [hasB_iff.2 ⟨x, hx, by simpa using hb⟩] at h; cases h
  rw [this]; rfl
theorem findT_some {l : List It} (h : Stk l) {a : List Int} {t : ByteArray} (hf : findT l a = some t) : (a, (t, ())) ∈ l := by
  unfold findT at hf
  cases hg : l.find? fun y => decide (y.1 = a) with
  | none => rw [hg] at hf; cases hf
  | some y =>
    rw [hg] at hf
    have h1 := List.find?_some hg
    have h2 := List.mem_of_find?_eq_some hg
    obtain ⟨y1, y2, u⟩ := y
    have h3 : y1 = a := by simpa using h1
    have h4 : y2 = t := by simpa using hf
    subst h3; subst h4; exact h2

theorem bound_has {l : List It} (h : Stk l) {a : List Int} {b : Nat} (hb : Bound (nmAt l) l.length a b) : (b < l.length ∧ nmAt l b = a) ↔ hasB l a = true := by
  rw [hasB_iff]
  constructor
  · intro ⟨h1, h2⟩
    exact ⟨l[b], List.getElem_mem h1, by rw [← nmAt_get l b h1]; exact h2⟩
  · intro ⟨x, hx, he⟩
    obtain ⟨i, hi, rfl⟩ := List.mem_iff_getElem.1 hx
    rw [← nmAt_get l i hi] at he
    have := hb.found h.rises hi he
    subst this
    exact ⟨hi, he⟩

theorem find_has (k : Nat) (hk : 1000 < k) {l : List It} (h : Stk l) (hl : l.length ≤ 200) {a : List Int} (ha : Nm a) :
    ∃ b : Nat, exchange_find k l a = some ((b : Int), hasB l a) ∧ antiquaryref44_Place k l a = some (if hasB l a = true then (b : Int) else -1) ∧ (hasB l a = true → b < l.length ∧ findT l a = some (txAt l b)) := by
  obtain ⟨b, h1, h2, h3⟩ := find_place k hk l (h.small hl) h.rises ha
  have hbh := bound_has h h1
  refine ⟨b, ?_, ?_, fun hh => ?_⟩
  · rw [h2]
    congr 2
    rw [Bool.eq_iff_iff, decide_eq_true_eq]; exact hbh
  · rw [h3]
    by_cases hh : hasB l a = true
    · rw [if_pos (hbh.2 hh), if_pos hh]
    · rw [if_neg (fun hx => hh (hbh.1 hx)), if_neg hh]
  · obtain ⟨g1, g2⟩ := hbh.2 hh
    refine ⟨g1, ?_⟩
    rw [← g2, nmAt_get l b g1, txAt_get l b g1]
    exact findT_mem h (List.getElem_mem g1)

theorem code_Find (k : Nat) (hk : 1000 < k) {l : List It} (h : Stk l) (hl : l.length ≤ 200) {a : List Int} (ha : Nm a) : exchange_Find k l a = some ((findT l a).getD ⟨#[]⟩, hasB l a) := by
  obtain ⟨b, h1, _, h3⟩ := find_has k hk h hl ha
  unfold exchange_Find
  rw [h1, Option.bind_some]
  cases hb : hasB l a with
  | false => rw [if_pos (by simp), findT_none hb]; rfl
  | true =>
    obtain ⟨g1, g2⟩ := h3 hb
    rw [if_neg (by simp), if_pos (by omega), g2, Int.toNat_natCast]; rfl

def addA : List It → It → List It
  | [], y => [y]
  | x :: l, y => if ltB x.1 y.1 = true then x :: addA l y else y :: x :: l
def addT (l : List It) (t : ByteArray) : List It := if hasB l (nameP t) = true then l else addA l (nameP t, (t, ()))

theorem mem_addA {y : It} : ∀ {l : List It} {x : It}, x ∈ addA l y ↔ x = y ∨ x ∈ l
  | [], x => by simp [addA]
  | z :: l, x => by
    unfold addA
    split
    · rw [List.mem_cons, mem_addA (l := l), List.mem_cons]
      constructor
      · rintro (h | h | h) <;> simp [h]
      · rintro (h | h | h) <;> simp [h]
    · simp
theorem len_addA {y : It} : ∀ l : List It, (addA l y).length = l.length + 1
  | [] => rfl
  | z :: l => by
    unfold addA
    split
    · simp [len_addA l]
    · simp
theorem addA_eq {y : It} : ∀ (l : List It) (b : Nat), b ≤ l.length → (∀ q, q < b → ltB (nmAt l q) y.1 = true) → (∀ q, b ≤ q → q < l.length → ltB (nmAt l q) y.1 = false) → l.take b ++ [y] ++ l.drop b = addA l y
  | [], b, h1, _, _ => by simp [addA]
  | x :: l, 0, h1, h2, h3 => by
    have := h3 0 (by omega) (by simp)
    have e : nmAt (x :: l) 0 = x.1 := rfl
    rw [e] at this
    unfold addA
    rw [if_neg (by rw [this]; simp)]; rfl
  | x :: l, b + 1, h1, h2, h3 => by
    have := h2 0 (by omega)
    have e : nmAt (x :: l) 0 = x.1 := rfl
    rw [e] at this
    unfold addA
    rw [if_pos this]
    have ih := addA_eq l b (by simpa using h1) (fun q hq => h2 (q + 1) (by omega)) (fun q h4 h5 => h3 (q + 1) (by omega) (by simp; omega))
    rw [← ih]; rfl

theorem addA_stk : ∀ {l : List It} {y : It}, Stk l → y.1 = nameP y.2.1 → ByteArray.size y.2.1 ≤ 200 → hasB l y.1 = false → Stk (addA l y)
  | [], y, h, h1, h2, _ => ⟨by simp [addA], fun x hx => by simp [addA] at hx; subst hx; exact ⟨h1, h2⟩⟩
  | x :: l, y, h, h1, h2, h3 => by
    have hl : Stk l := ⟨(List.pairwise_cons.1 h.1).2, fun z hz => h.2 z (by simp [hz])⟩
    have hx := (List.pairwise_cons.1 h.1).1
    have hn : hasB l y.1 = false := by
      cases hb : hasB l y.1 with
      | false => rfl
      | true => obtain ⟨z, hz, he⟩ := hasB_iff.1 hb; rw [hasB_iff.2 ⟨z, List.mem_cons_of_mem _ hz, he⟩] at h3; cases h3
    have ih := addA_stk hl h1 h2 hn
    have hall : ∀ z ∈ addA (x :: l) y, z.1 = nameP z.2.1 ∧ ByteArray.size z.2.1 ≤ 200 := fun z hz => by
      rcases mem_addA.1 hz with rfl | hz
      · exact ⟨h1, h2⟩
      · exact h.2 z hz
    refine ⟨?_, hall⟩
    unfold addA
    split
    · rename_i hlt
      rw [List.pairwise_cons]
      refine ⟨fun z hz => ?_, ih.1⟩
      rcases mem_addA.1 hz with rfl | hz
      · exact hlt
      · exact hx z hz
    · rename_i hlt
      have hne : x.1 ≠ y.1 := fun he => by rw [hasB_iff.2 ⟨x, by simp, he⟩] at h3; cases h3
      have hyx : ltB y.1 x.1 = true := by
        rcases ltB_total (a := x.1) (b := y.1) (by rw [(h.nm (List.mem_cons_self ..)).1, h1, (name_nm _).1]) hne with g | g
        · exact absurd g hlt
        · exact g
      rw [List.pairwise_cons]
      refine ⟨fun z hz => ?_, h.1⟩
      rcases List.mem_cons.1 hz with rfl | hz
      · exact hyx
      · exact ltB_trans hyx (hx z hz)

theorem addT_stk {l : List It} (h : Stk l) {t : ByteArray} (ht : ByteArray.size t ≤ 200) : Stk (addT l t) := by
  unfold addT
  split
  · exact h
  · rename_i hb
    exact addA_stk h rfl ht (by simpa using hb)
theorem mem_addT {l : List It} {t : ByteArray} {x : It} : x ∈ addT l t ↔ x ∈ l ∨ (hasB l (nameP t) = false ∧ x = (nameP t, (t, ()))) := by
  unfold addT
  split
  · rename_i hb; simp [hb]
  · rename_i hb
    have : hasB l (nameP t) = false := by simpa using hb
    rw [mem_addA, this]
    simp [or_comm]
theorem len_addT (l : List It) (t : ByteArray) : (addT l t).length ≤ l.length + 1 := by
  unfold addT
  split
  · omega
  · rw [len_addA]; omega
theorem add_T (k : Nat) (hk : 60000 < k) {l : List It} (h : Stk l) (hl : l.length ≤ 200) {t : ByteArray} (ht : ByteArray.size t ≤ 200) :
    exchange_Add k l t = some (addT l t, if hasB l (nameP t) = true then 6 else 0) ∧ antiquaryref44_Add k l t = some (addT l t, if hasB l (nameP t) = true then 6 else 0) := by
  obtain ⟨b, h1, h2, h3⟩ := add_both k hk l (h.small hl) h.rises t ht
  have hbh := bound_has h h1
  have key : (if b < l.length ∧ nmAt l b = nameP t then (l, (6 : Int)) else (l.take b ++ [(nameP t, (t, ()))] ++ l.drop b, 0)) = (addT l t, if hasB l (nameP t) = true then 6 else 0) := by
    unfold addT
    by_cases hh : hasB l (nameP t) = true
    · rw [if_pos (hbh.2 hh), if_pos hh, if_pos hh]
    · rw [if_neg (fun hx => hh (hbh.1 hx)), if_neg hh, if_neg hh, addA_eq l b h1.le h1.lo h1.hi]
  rw [h2, h3, key]
  exact ⟨rfl, rfl⟩

end Go.Proofs.P44
set_option linter.unusedVariables false
set_option linter.unusedSimpArgs false
namespace Go.Proofs.P44
open Go Go.Abs Go.Proofs Go.Proofs.K1 Go.Proofs.G44
set_option maxRecDepth 10000

def ownS (p : List Int) (L : Nat) (l : List It) : Pc := .sum p L (sumP p L l) (namesP p L l).length
def lackP (l : List It) (ns : List (List Int)) : List (List Int) := ns.filter fun a => !hasB l a
def hearO (l : List It) : Pc → List Pc
  | .sum p L d n =>
    if sumP p L l = d ∧ (namesP p L l).length = n then []
    else if (namesP p L l).length ≤ 8 then [.names p L (namesP p L l)]
    else if n ≤ 8 then [ownS p L l]
    else [ownS p (L + 1) l, ownS (halfP p L) (L + 1) l]
  | .names p L ns => (if (lackP l ns).length > 0 then [.want (lackP l ns)] else []) ++ ((underL p L l).filter fun x => !decide (x.1 ∈ ns)).map fun x => .text x.2.1
  | .want ns => ns.filterMap fun a => (findT l a).map .text
  | .text _ => []
def hearS (l : List It) : Pc → List It
  | .text t => addT l t
  | _ => l
def hearE (l : List It) : Pc → Int
  | .text t => if hasB l (nameP t) = true then 6 else 0
  | _ => 0

theorem names_asc {l : List It} (h : Stk l) (p : List Int) (L : Nat) : Asc (namesP p L l) := by
  unfold Asc namesP underL
  rw [List.pairwise_map]
  exact h.1.filter _
theorem names_under {l : List It} {p : List Int} {L : Nat} {a : List Int} : a ∈ namesP p L l ↔ hasB l a = true ∧ underP p L a = true := by
  unfold namesP underL
  rw [List.mem_map, hasB_iff]
  constructor
  · rintro ⟨x, hx, rfl⟩
    rw [List.mem_filter] at hx
    exact ⟨⟨x, hx.1, rfl⟩, hx.2⟩
  · rintro ⟨⟨x, hx, rfl⟩, h2⟩
    exact ⟨x, List.mem_filter.2 ⟨hx, h2⟩, rfl⟩
theorem names_le (p : List Int) (L : Nat) (l : List It) : (namesP p L l).length ≤ l.length := by
  simp only [namesP, List.length_map]; exact under_len p L l

theorem asc_two {ns : List (List Int)} (h : Asc ns) {a : List Int} (he : ∀ x ∈ ns, x = a) : ns.length ≤ 1 := by
  match ns, h, he with
  | [], _, _ => simp
  | [_], _, _ => simp
  | x :: y :: _, h, he =>
    have h1 := (List.pairwise_cons.1 h).1 y (by simp)
    rw [he x (by simp), he y (by simp), ltB_irrefl] at h1; cases h1
theorem names128 {l : List It} (h : Stk l) {p : List Int} (hp : Pre p 128) : (namesP p 128 l).length ≤ 1 := by
  refine asc_two (names_asc h p 128) (a := p) fun x hx => ?_
  obtain ⟨h1, h2⟩ := names_under.1 hx
  obtain ⟨y, hy, rfl⟩ := hasB_iff.1 h1
  have hn := h.nm hy
  have e : numB y.1 / 2 ^ (128 - 128) = numB p / 2 ^ (128 - 128) := by simpa [underP] using h2
  rw [show 2 ^ (128 - 128) = 1 from rfl, Nat.div_one, Nat.div_one] at e
  exact numB_inj (by rw [hn.1, hp.nm.1]) hn.2 hp.nm.2 e

theorem sum_nm (p : List Int) (L : Nat) (l : List It) : Nm (sumP p L l) := of_nm _ _
theorem own_wf {p : List Int} {L : Nat} (hp : Pre p L) {l : List It} (hl : l.length ≤ 200) : (ownS p L l).WF := ⟨hp, sum_nm _ _ _, by have := names_le p L l; omega⟩

theorem hearO_wf {l : List It} (h : Stk l) (hl : l.length ≤ 200) {m : Pc} (hm : m.WF) : ∀ c ∈ hearO l m, c.WF := by
  cases m with
  | sum p L d n =>
    obtain ⟨hp, hd, hn⟩ := hm
    intro c hc
    rw [hearO] at hc
    split at hc
    · cases hc
    · split at hc
      · simp only [List.mem_singleton] at hc; subst hc
        exact ⟨hp, names_asc h p L, fun a ha => ⟨names_mem (h.small hl) a ha, (names_under.1 ha).2⟩, by have := names_le p L l; omega⟩
      · rename_i h8
        split at hc
        · simp only [List.mem_singleton] at hc; subst hc
          exact own_wf hp hl
        · have hL : L < 128 := by
            rcases Nat.lt_or_ge L 128 with g | g
            · exact g
            · have : L = 128 := by have := hp.le; omega
              subst this
              have := names128 h hp; omega
          obtain ⟨p1, p2⟩ := pre_halves hp hL
          simp only [List.mem_cons, List.not_mem_nil, or_false] at hc
          rcases hc with rfl | rfl
          · exact own_wf p1 hl
          · exact own_wf p2 hl
  | names p L ns =>
    obtain ⟨hp, ha, hn, h2⟩ := hm
    intro c hc
    simp only [hearO, List.mem_append, List.mem_map] at hc
    rcases hc with hc | ⟨x, hx, rfl⟩
    · split at hc
      · simp only [List.mem_singleton] at hc; subst hc
        refine ⟨List.Pairwise.filter _ ha, fun a hm => (hn a (List.mem_filter.1 hm).1).1, ?_⟩
        have := List.length_filter_le (fun a => !hasB l a) ns
        unfold lackP; omega
      · cases hc
    · exact (h.2 x (List.mem_filter.1 (List.mem_filter.1 hx).1).1).2
  | want ns =>
    intro c hc
    simp only [hearO, List.mem_filterMap, Option.map_eq_some_iff] at hc
    obtain ⟨a, ha, t, ht, rfl⟩ := hc
    exact (h.2 _ (findT_some h ht)).2
  | text t => intro c hc; cases hc

theorem hearS_stk {l : List It} (h : Stk l) {m : Pc} (hm : m.WF) : Stk (hearS l m) := by
  cases m with
  | text t => exact addT_stk h hm
  | sum p L d n => exact h
  | names p L ns => exact h
  | want ns => exact h
theorem hearO_len {l : List It} {m : Pc} (hm : m.WF) (hl : l.length ≤ 200) : (hearO l m).length ≤ 201 := by
  cases m with
  | sum p L d n => rw [hearO]; split <;> (try split) <;> (try split) <;> simp
  | names p L ns =>
    have h1 := under_len p L l
    have h2 := List.length_filter_le (fun x : It => !decide (x.1 ∈ ns)) (underL p L l)
    simp only [hearO, List.length_append, List.length_map]
    split <;> simp <;> omega
  | want ns =>
    have := List.length_filterMap_le (fun a => (findT l a).map Pc.text) ns
    have := hm.2.2
    simp only [hearO]; omega
  | text t => simp [hearO]

theorem ns_loop {ns : List (List Int)} (hl : ns.length ≤ 200) (hn : ∀ a ∈ ns, Nm a) (hr : Rises (nsAt ns) ns.length) {name : List Int} (hm : Nm name) : ∀ (d k i j : Nat), j - i ≤ d → d + 10 < k → i ≤ j → j ≤ ns.length → (∀ q, q < i → ltB (nsAt ns q) name = true) → (∀ q, j ≤ q → q < ns.length → ltB (nsAt ns q) name = false) →
    ∃ b : Nat, slices_BinarySearchFunc_75_l0 k ns (ns.length : Int) (i : Int) (j : Int) name = some ((b : Int), decide (b < ns.length ∧ nsAt ns b = name)) ∧ Bound (nsAt ns) ns.length name b
  | d, k, i, j, hd, hk, hij, hj, h1, h2 => by
    obtain ⟨k, rfl⟩ : ∃ k', k = k' + 1 := ⟨k - 1, by omega⟩
    have hat : ∀ q, q < ns.length → Nm (nsAt ns q) := fun q hq => by rw [nsAt_get ns q hq]; exact hn _ (List.getElem_mem hq)
    by_cases hlt : i < j
    · obtain ⟨d, rfl⟩ : ∃ d', d = d' + 1 := ⟨d - 1, by omega⟩
      obtain ⟨g1, g2⟩ := half_step hr hlt hj h1 h2
      obtain ⟨m, hm'⟩ : ∃ m, m = (i + j) / 2 := ⟨_, rfl⟩
      have hme := mid_eq i j (by omega)
      rw [← hm'] at g1 g2 hme
      unfold slices_BinarySearchFunc_75_l0
      have ho : exchange_order k (List.getD ns m (Kd.dflt (Kd.arr 16 (Kd.int .u8)))) name = some (if nsAt ns m = name then 0 else if ltB (nsAt ns m) name = true then -1 else 1) := order_eq (hat m (by omega)) hm k
      rw [if_pos (by simp; omega), hme, if_pos (by omega), Int.toNat_natCast, ho, Option.bind_some]
      cases hb : ltB (nsAt ns m) name with
      | true =>
        rw [if_neg (ltB_ne hb), if_pos rfl, if_pos (by decide), w64 _ (by omega)]
        have e : (m : Int) + 1 = ((m + 1 : Nat) : Int) := by omega
        rw [e]
        exact ns_loop hl hn hr hm d k (m + 1) j (by omega) (by omega) (by omega) hj (g1 hb) h2
      | false =>
        have hneg : ¬ (decide ((if nsAt ns m = name then (0 : Int) else if false = true then -1 else 1) < 0)) = true := by split <;> simp
        rw [if_neg hneg]
        exact ns_loop hl hn hr hm d k i m (by omega) (by omega) (by omega) (by omega) h1 (g2 hb)
    · have hij' : i = j := by omega
      subst hij'
      refine ⟨i, ?_, hj, h1, h2⟩
      unfold slices_BinarySearchFunc_75_l0
      rw [if_neg (by simp)]
      by_cases hil : i < ns.length
      · have ho : exchange_order k (List.getD ns i (Kd.dflt (Kd.arr 16 (Kd.int .u8)))) name = some (if nsAt ns i = name then 0 else if ltB (nsAt ns i) name = true then -1 else 1) := order_eq (hat i hil) hm k
        rw [if_pos (by simp; omega), if_pos (by omega), Int.toNat_natCast, ho, Option.bind_some, h2 i (Nat.le_refl _) hil]
        by_cases he : nsAt ns i = name
        · simp [he, hil]
        · simp [he]
      · rw [if_neg (by simp; omega)]
        simp [hil]
theorem asc_rises {ns : List (List Int)} (h : Asc ns) : Rises (nsAt ns) ns.length := fun i j hij hj => by
  rw [nsAt_get ns i (by omega), nsAt_get ns j hj]
  exact (List.pairwise_iff_getElem.1 h) i j (by omega) hj hij
theorem code_in {ns : List (List Int)} (hl : ns.length ≤ 200) (hn : ∀ a ∈ ns, Nm a) (ha : Asc ns) {name : List Int} (hm : Nm name) (k : Nat) (hk : 500 < k) :
    ∃ b : Int, slices_BinarySearchFunc_75 k ns name = some (b, decide (name ∈ ns)) := by
  obtain ⟨b, h1, h2⟩ := ns_loop hl hn (asc_rises ha) hm ns.length k 0 ns.length (by omega) (by omega) (by omega) (by omega) (fun q hq => by omega) (fun q h3 h4 => by omega)
  refine ⟨b, ?_⟩
  have e : slices_BinarySearchFunc_75_l0 k ns (ns.length : Int) 0 (ns.length : Int) name = some ((b : Int), decide (b < ns.length ∧ nsAt ns b = name)) := h1
  unfold slices_BinarySearchFunc_75
  rw [e]
  congr 2
  rw [decide_eq_decide]
  constructor
  · intro ⟨g1, g2⟩; rw [nsAt_get ns b g1] at g2; rw [← g2]; exact List.getElem_mem g1
  · intro hmem
    obtain ⟨i, hi, rfl⟩ := List.mem_iff_getElem.1 hmem
    have := h2.found (asc_rises ha) hi (nsAt_get ns i hi)
    subst this
    exact ⟨hi, nsAt_get ns i hi⟩
end Go.Proofs.P44
set_option linter.unusedVariables false
set_option linter.unusedSimpArgs false
namespace Go.Proofs.P44
open Go Go.Abs Go.Proofs Go.Proofs.K1 Go.Proofs.G44
set_option maxRecDepth 10000

theorem sum_both (k : Nat) (hk : 60000 < k) {l : List It} (h : Stk l) (hl : l.length ≤ 200) {p : List Int} {L : Nat} (hp : Pre p L) :
    exchange_sum k l p (L : Int) = some ((1 : Int), p, (L : Int), sumP p L l, ((namesP p L l).length : Int), (⟨#[]⟩ : ByteArray)) := by
  unfold exchange_sum
  rw [code_sum44 k hk l (h.small hl) h.rises hp]; rfl

theorem say_one (k : Nat) (x : List Pt) (hx : x.length ≤ 10) (l : List It) (z : Int) : exchange_hearer_say k x l z = some x := by
  unfold exchange_hearer_say
  rw [if_pos (by omega)]

theorem code_hear_sum (k : Nat) (hk : 60000 < k) {l : List It} (h : Stk l) (hl : l.length ≤ 200) {p : List Int} {L : Nat} {d : List Int} {n : Nat} (hm : (Pc.sum p L d n).WF) (t : ByteArray) (a : Int) :
    exchange_hearer_sum k a p (L : Int) d (n : Int) [] t l 0 = some ((hearO l (.sum p L d n)).map Pc.enc) := by
  obtain ⟨hp, hd, hn⟩ := hm
  have hsm := h.small hl
  unfold exchange_hearer_sum
  rw [sum_both k hk h hl hp, Option.bind_some]
  dsimp only
  rw [eqb_nm (sum_nm p L l) hd 16, hearO]
  have rest : ¬ (sumP p L l = d ∧ (namesP p L l).length = n) → exchange_hearer_sum_l0 k false l 0 a p (L : Int) d (n : Int) [] t 1 p (L : Int) (sumP p L l) ((namesP p L l).length : Int) ⟨#[]⟩ = some ((if (namesP p L l).length ≤ 8 then [Pc.names p L (namesP p L l)] else if n ≤ 8 then [ownS p L l] else [ownS p (L + 1) l, ownS (halfP p L) (L + 1) l]).map Pc.enc) := fun _ => by
    unfold exchange_hearer_sum_l0
    rw [if_neg (by simp)]
    by_cases h8 : (namesP p L l).length ≤ 8
    · rw [if_pos (by simp; omega), if_pos h8, code_names k (by omega) l hsm h.rises hp, Option.bind_some, say_one k _ (by simp), Option.bind_some]; rfl
    · rw [if_neg (by simp; omega), if_neg h8]
      by_cases hn8 : n ≤ 8
      · rw [if_pos (by simp; omega), if_pos hn8, say_one k _ (by simp), Option.bind_some]; rfl
      · have hL : L < 128 := by
          rcases Nat.lt_or_ge L 128 with g | g
          · exact g
          · have : L = 128 := by have := hp.le; omega
            subst this
            have := names128 h hp; omega
        obtain ⟨p1, p2⟩ := pre_halves hp hL
        rw [if_neg (by simp; omega), if_neg hn8, (halves hp hL k).1, Option.bind_some]
        dsimp only
        rw [sum_both k hk h hl p1, Option.bind_some, sum_both k hk h hl p2, Option.bind_some, say_one k _ (by simp), Option.bind_some]; rfl
  by_cases hs : sumP p L l = d
  · rw [decide_eq_true hs, if_pos rfl]
    by_cases hc : (namesP p L l).length = n
    · rw [if_pos ⟨hs, hc⟩]
      have : (((namesP p L l).length : Int) == (n : Int)) = true := by simp [hc]
      rw [this]; rfl
    · rw [if_neg (fun hh => hc hh.2)]
      have : (((namesP p L l).length : Int) == (n : Int)) = false := by rw [beq_eq_false_iff_ne]; omega
      rw [this, rest (fun hh => hc hh.2)]
  · rw [decide_eq_false hs, if_neg (by simp), if_neg (fun hh => hs hh.1), rest (fun hh => hs hh.1)]

theorem say_two (k : Nat) (x w : List Pt) (hx : x.length ≤ 10) (hw : w.length ≤ 10000) (l : List It) (z : Int) : exchange_hearer_say_74 k x l z w = some (w ++ x) := by
  unfold exchange_hearer_say_74
  rw [if_pos (by omega)]

theorem fm_drop {α β : Type} (f : α → Option β) (l : List α) (i : Nat) (hi : i < l.length) : (l.drop i).filterMap f = (match f l[i] with | some b => [b] | none => []) ++ (l.drop (i + 1)).filterMap f := by
  rw [List.drop_eq_getElem_cons hi, List.filterMap_cons]
  cases f l[i] <;> rfl

theorem code_want_loop {l : List It} (h : Stk l) (hl : l.length ≤ 200) {ns : List (List Int)} (hn : ∀ a ∈ ns, Nm a) (hnl : ns.length ≤ 200) : ∀ (j k i : Nat) (acc : List Pt), i + j = ns.length → j + 2000 < k → acc.length ≤ i →
    exchange_hearer_want_l0 k ns (ns.length : Int) (i : Int) l 0 acc = some (acc ++ ((ns.drop i).filterMap fun a => (findT l a).map Pc.text).map Pc.enc)
  | 0, k, i, acc, h1, h2, h3 => by
    obtain ⟨k, rfl⟩ : ∃ k', k = k' + 1 := ⟨k - 1, by omega⟩
    unfold exchange_hearer_want_l0
    rw [if_neg (by simp; omega), List.drop_of_length_le (by omega)]; simp
  | j + 1, k, i, acc, h1, h2, h3 => by
    obtain ⟨k, rfl⟩ : ∃ k', k = k' + 1 := ⟨k - 1, by omega⟩
    have hi : i < ns.length := by omega
    have e : (i : Int) + 1 = ((i + 1 : Nat) : Int) := by omega
    unfold exchange_hearer_want_l0
    rw [if_pos (by simp; omega), if_pos (by omega), Int.toNat_natCast, getD_get ns i hi, code_Find k (by omega) h hl (hn _ (List.getElem_mem hi)), Option.bind_some]
    have hd := fm_drop (fun a => (findT l a).map Pc.text) ns i hi
    cases hb : hasB l ns[i] with
    | false =>
      rw [if_neg (by simp)]
      unfold exchange_hearer_want_l1
      rw [w64 _ (by omega), e, code_want_loop h hl hn hnl j k (i + 1) acc (by omega) (by omega) (by omega), hd, findT_none hb]; rfl
    | true =>
      obtain ⟨x, hx, he⟩ := hasB_iff.1 hb
      have hf : findT l ns[i] = some x.2.1 := by rw [← he]; exact findT_mem h hx
      rw [if_pos rfl, say_two k _ acc (by simp) (by omega), Option.bind_some]
      unfold exchange_hearer_want_l1
      rw [w64 _ (by omega), e, code_want_loop h hl hn hnl j k (i + 1) _ (by omega) (by omega) (by simp; omega), hd, hf, List.append_assoc]; rfl
end Go.Proofs.P44
set_option linter.unusedVariables false
set_option linter.unusedSimpArgs false
namespace Go.Proofs.P44
open Go Go.Abs Go.Proofs Go.Proofs.K1 Go.Proofs.G44
set_option maxRecDepth 10000

theorem filt_drop {α : Type} (f : α → Bool) (l : List α) (i : Nat) (hi : i < l.length) : (l.drop i).filter f = (if f l[i] = true then [l[i]] else []) ++ (l.drop (i + 1)).filter f := by
  rw [List.drop_eq_getElem_cons hi, List.filter_cons]
  split <;> rfl

def textsP (u : List It) (ns : List (List Int)) : List Pc := (u.filter fun x => !decide (x.1 ∈ ns)).map fun x => .text x.2.1
theorem texts_drop (u : List It) (ns : List (List Int)) (i : Nat) (hi : i < u.length) : textsP (u.drop i) ns = (if u[i].1 ∈ ns then [] else [.text u[i].2.1]) ++ textsP (u.drop (i + 1)) ns := by
  unfold textsP
  rw [filt_drop _ u i hi, List.map_append]
  by_cases h : u[i].1 ∈ ns <;> simp [h]

theorem code_names3 {u l : List It} (hul : u.length ≤ 200) (hu : ∀ x ∈ u, Nm x.1) {ns : List (List Int)} (hn : ∀ a ∈ ns, Nm a) (hnl : ns.length ≤ 200) (ha : Asc ns) (a : Int) (p : List Int) (L : Int) (d : List Int) (z : Int) (t : ByteArray) : ∀ (j k i : Nat) (acc : List Pt), i + j = u.length → j + 2000 < k → acc.length ≤ 1000 + i →
    exchange_hearer_names_l3 k u (u.length : Int) (i : Int) l 0 acc a p L d z ns t = some (acc ++ (textsP (u.drop i) ns).map Pc.enc)
  | 0, k, i, acc, h1, h2, h3 => by
    obtain ⟨k, rfl⟩ : ∃ k', k = k' + 1 := ⟨k - 1, by omega⟩
    unfold exchange_hearer_names_l3
    rw [if_neg (by simp; omega), List.drop_of_length_le (by omega)]; simp [textsP]
  | j + 1, k, i, acc, h1, h2, h3 => by
    obtain ⟨k, rfl⟩ : ∃ k', k = k' + 1 := ⟨k - 1, by omega⟩
    have hi : i < u.length := by omega
    have e : (i : Int) + 1 = ((i + 1 : Nat) : Int) := by omega
    obtain ⟨b, hb⟩ := code_in hnl hn ha (hu _ (List.getElem_mem hi)) k (by omega)
    unfold exchange_hearer_names_l3
    rw [if_pos (by simp; omega), if_pos (by omega), Int.toNat_natCast, getD_get u i hi, hb, Option.bind_some, texts_drop u ns i hi]
    by_cases hm : u[i].1 ∈ ns
    · rw [if_neg (by simp [hm]), if_pos hm]
      unfold exchange_hearer_names_l4
      rw [w64 _ (by omega), e, code_names3 hul hu hn hnl ha a p L d z t j k (i + 1) acc (by omega) (by omega) (by omega)]; rfl
    · rw [if_pos (by simp [hm]), if_neg hm, say_two k _ acc (by simp) (by omega), Option.bind_some]
      unfold exchange_hearer_names_l4
      rw [w64 _ (by omega), e, code_names3 hul hu hn hnl ha a p L d z t j k (i + 1) _ (by omega) (by omega) (by simp; omega), List.append_assoc]; rfl

theorem lack_drop (l : List It) (ns : List (List Int)) (i : Nat) (hi : i < ns.length) : lackP l (ns.drop i) = (if hasB l ns[i] = true then [] else [ns[i]]) ++ lackP l (ns.drop (i + 1)) := by
  unfold lackP
  rw [filt_drop _ ns i hi]
  cases hasB l ns[i] <;> rfl

theorem code_names0 {l : List It} (h : Stk l) (hl : l.length ≤ 200) {ns : List (List Int)} (hn : ∀ a ∈ ns, Nm a) (hnl : ns.length ≤ 200) (ha : Asc ns) (a : Int) {p : List Int} {L : Nat} (hp : Pre p L) (d : List Int) (z : Int) (t : ByteArray) : ∀ (j k i : Nat) (acc : List (List Int)), i + j = ns.length → j + 5000 < k → acc.length ≤ i →
    exchange_hearer_names_l0 k ns (ns.length : Int) (i : Int) l 0 a p (L : Int) d z ns t acc = some ((((if (acc ++ lackP l (ns.drop i)).length > 0 then [Pc.want (acc ++ lackP l (ns.drop i))] else []) ++ textsP (underL p L l) ns)).map Pc.enc)
  | 0, k, i, acc, h1, h2, h3 => by
    obtain ⟨k, rfl⟩ : ∃ k', k = k' + 1 := ⟨k - 1, by omega⟩
    have hul := under_len p L l
    have e0 : lackP l (ns.drop i) = [] := by rw [List.drop_of_length_le (by omega)]; rfl
    have l3 := fun (acc : List Pt) (hacc : acc.length ≤ 1000) => code_names3 (l := l) (by omega) (under_mem (p := p) (L := L) (h.small hl)) hn hnl ha a p (L : Int) d z t (underL p L l).length k 0 acc (by omega) (by omega) (by omega)
    have l2 : ∀ acc : List Pt, acc.length ≤ 1000 → exchange_hearer_names_l2 k l 0 acc a p (L : Int) d z ns t = some (acc ++ (textsP (underL p L l) ns).map Pc.enc) := fun acc hacc => by
      unfold exchange_hearer_names_l2
      rw [code_under k (by omega) l (h.small hl) h.rises hp, Option.bind_some]
      exact l3 acc hacc
    unfold exchange_hearer_names_l0
    rw [if_neg (by simp; omega), e0, List.append_nil]
    by_cases hc : acc.length > 0
    · rw [if_pos (by simp; omega), if_pos hc, say_one k _ (by simp), Option.bind_some, l2 _ (by simp), List.map_append]; rfl
    · rw [if_neg (by simp only [decide_eq_true_eq]; omega), if_neg hc, l2 _ (by simp), List.map_append]; rfl
  | j + 1, k, i, acc, h1, h2, h3 => by
    obtain ⟨k, rfl⟩ : ∃ k', k = k' + 1 := ⟨k - 1, by omega⟩
    have hi : i < ns.length := by omega
    have e : (i : Int) + 1 = ((i + 1 : Nat) : Int) := by omega
    obtain ⟨b, hb, _, _⟩ := find_has k (by omega) h hl (hn _ (List.getElem_mem hi))
    unfold exchange_hearer_names_l0
    rw [if_pos (by simp; omega), if_pos (by omega), Int.toNat_natCast, getD_get ns i hi, hb, Option.bind_some, lack_drop l ns i hi]
    cases hh : hasB l ns[i] with
    | true =>
      rw [if_neg (by simp), if_pos rfl, List.nil_append]
      unfold exchange_hearer_names_l1
      rw [w64 _ (by omega), e, code_names0 h hl hn hnl ha a hp d z t j k (i + 1) acc (by omega) (by omega) (by omega)]
    | false =>
      rw [if_pos (by simp), show (if false = true then ([] : List (List Int)) else [ns[i]]) = [ns[i]] from rfl, if_pos (by simp; omega), ← List.append_assoc]
      unfold exchange_hearer_names_l1
      rw [w64 _ (by omega), e, code_names0 h hl hn hnl ha a hp d z t j k (i + 1) _ (by omega) (by omega) (by simp; omega)]

def hearC (k : Nat) (l : List It) (m : Pt) : Option (List It × List Pt × Int) := exchange_Hear k l m.1 m.2.1.1 m.2.1.2.1 m.2.2.1 m.2.2.2.1 m.2.2.2.2.1 m.2.2.2.2.2.1
theorem enc_nm {m : Pc} (h : m.WF) : Nm m.enc.2.1.1 ∧ Nm m.enc.2.2.1 ∧ (∀ a ∈ m.enc.2.2.2.2.1, Nm a) ∧ m.enc.2.2.2.2.1.length ≤ 200 ∧ ByteArray.size m.enc.2.2.2.2.2.1 ≤ 200 := by
  cases m with
  | sum p L d n => exact ⟨h.1.nm, h.2.1, fun a ha => (by cases ha), by simp [Pc.enc], show ByteArray.size (⟨#[]⟩ : ByteArray) ≤ 200 by decide⟩
  | names p L ns => exact ⟨h.1.nm, z16_nm, fun a ha => (h.2.2.1 a ha).1, h.2.2.2, show ByteArray.size (⟨#[]⟩ : ByteArray) ≤ 200 by decide⟩
  | want ns => exact ⟨z16_nm, z16_nm, h.2.1, h.2.2, show ByteArray.size (⟨#[]⟩ : ByteArray) ≤ 200 by decide⟩
  | text t => exact ⟨z16_nm, z16_nm, fun a ha => (by cases ha), by simp [Pc.enc], h⟩

theorem code_hear (k : Nat) (hk : 70000 < k) {l : List It} (h : Stk l) (hl : l.length ≤ 200) {m : Pc} (hm : m.WF) :
    hearC k l m.enc = some (hearS l m, (hearO l m).map Pc.enc, hearE l m) := by
  obtain ⟨w1, w2, w3, w4, w5⟩ := enc_nm hm
  have hc := code_check w1 w2 w3 (by omega) (by omega) k (by omega) (a := m.enc.1) (L := m.enc.2.1.2.1) (n := m.enc.2.2.2.1) (t := m.enc.2.2.2.2.2.1)
  rw [check_wf hm] at hc
  unfold hearC exchange_Hear
  rw [hc, Option.bind_some, if_neg (by simp)]
  cases m with
  | sum p L d n =>
    have hs := code_hear_sum k (by omega) h hl hm ⟨#[]⟩ 1
    show (if ((1 : Int) == 1) = true then _ else _) = _
    rw [if_pos (by simp)]
    show Option.bind (exchange_hearer_sum k 1 p (L : Int) d (n : Int) [] ⟨#[]⟩ l 0) _ = _
    rw [hs]; rfl
  | names p L ns =>
    have hs := code_names0 h hl (fun a ha => (hm.2.2.1 a ha).1) hm.2.2.2 hm.2.1 2 hm.1 z16 0 ⟨#[]⟩ ns.length k 0 [] (by omega) (by have := hm.2.2.2; omega) (by simp)
    show (if ((2 : Int) == 1) = true then _ else if ((2 : Int) == 2) = true then _ else _) = _
    rw [if_neg (by simp), if_pos (by simp)]
    show Option.bind (exchange_hearer_names_l0 k ns (ns.length : Int) 0 l 0 2 p (L : Int) z16 0 ns ⟨#[]⟩ []) _ = _
    rw [show (0 : Int) = ((0 : Nat) : Int) from rfl] at *
    rw [hs]; rfl
  | want ns =>
    have hs := code_want_loop h hl hm.2.1 hm.2.2 ns.length k 0 [] (by omega) (by have := hm.2.2; omega) (by simp)
    show (if ((3 : Int) == 1) = true then _ else if ((3 : Int) == 2) = true then _ else if ((3 : Int) == 3) = true then _ else _) = _
    rw [if_neg (by simp), if_neg (by simp), if_pos (by simp)]
    show Option.bind (exchange_hearer_want_l0 k ns (ns.length : Int) ((0 : Nat) : Int) l 0 []) _ = _
    rw [hs]; rfl
  | text t =>
    have hs := (add_T k (by omega) h hl hm).1
    show (if ((4 : Int) == 1) = true then _ else if ((4 : Int) == 2) = true then _ else if ((4 : Int) == 3) = true then _ else if ((4 : Int) == 4) = true then _ else _) = _
    rw [if_neg (by simp), if_neg (by simp), if_neg (by simp), if_pos (by simp)]
    show Option.bind (Option.bind (exchange_Add k l t) _) _ = _
    rw [hs]; rfl

end Go.Proofs.P44
set_option linter.unusedVariables false
set_option linter.unusedSimpArgs false
namespace Go.Proofs.P44
open Go Go.Abs Go.Proofs Go.Proofs.K1 Go.Proofs.G44
set_option maxRecDepth 10000

abbrev Mv : Type := Bool × Pc
def b2i (c : Bool) : Int := if c = true then 1 else 0
def encS (x : Mv) : Se := (b2i x.1, (x.2.enc, ()))
def Pc.isText : Pc → Bool
  | .text _ => true
  | _ => false
theorem isText_enc (m : Pc) : (m.enc.1 == (4 : Int)) = m.isText := by cases m <;> rfl
theorem flip_b2i (c : Bool) : IntKind.i64.wrap ((1 : Int) - b2i c) = b2i (!c) := by cases c <;> rfl

structure St where
  a : List It
  b : List It
  w : List Mv
  t : List Mv
def St.get (σ : St) (c : Bool) : List It := if c = true then σ.b else σ.a
def St.hear (σ : St) (c : Bool) (m : Pc) : St :=
  { a := if c = true then σ.a else hearS σ.a m
    b := if c = true then hearS σ.b m else σ.b
    w := σ.w ++ (hearO (σ.get c) m).map fun o => (!c, o)
    t := σ.t ++ ((hearO (σ.get c) m).filter Pc.isText).map fun o => (!c, o) }
def St.hearN (σ : St) (c : Bool) (m : Pc) : Nat → St
  | 0 => σ
  | n + 1 => (σ.hear c m).hearN c m n
def St.out (σ : St) (i : Nat) : St := { σ with w := σ.w.take i ++ σ.w.drop (i + 1) }
def St.stocks (σ : St) : List (List It × Unit) := [(σ.a, ()), (σ.b, ())]

end Go.Proofs.P44
set_option linter.unusedVariables false
set_option linter.unusedSimpArgs false
namespace Go.Proofs.P44
open Go Go.Abs Go.Proofs Go.Proofs.K1 Go.Proofs.G44
set_option maxRecDepth 10000

theorem nodup_le {α : Type} [DecidableEq α] : ∀ (l m : List α), l.Nodup → (∀ x ∈ l, x ∈ m) → l.length ≤ m.length
  | [], m, _, _ => by simp
  | x :: l, m, hn, hs => by
    have h1 := List.nodup_cons.1 hn
    have hx := hs x (by simp)
    have ih := nodup_le l (m.erase x) h1.2 (fun y hy => by
      have hne : y ≠ x := fun he => h1.1 (he ▸ hy)
      exact (List.mem_erase_of_ne hne).2 (hs y (by simp [hy])))
    rw [List.length_erase_of_mem hx] at ih
    have : 0 < m.length := List.length_pos_of_mem hx
    simp only [List.length_cons]; omega

theorem stk_nodup {l : List It} (h : Stk l) : l.Nodup := List.Pairwise.imp (fun {a b} (hab : ltB a.1 b.1 = true) (he : a = b) => ltB_ne hab (congrArg Prod.fst he)) h.1

structure Ok (A B : List It) (σ : St) : Prop where
  sa : Stk σ.a
  sb : Stk σ.b
  ia : ∀ x ∈ σ.a, x ∈ A ++ B
  ib : ∀ x ∈ σ.b, x ∈ A ++ B
  wf : ∀ x ∈ σ.w, x.2.WF
  tx : ∀ x ∈ σ.w, ∀ t, x.2 = .text t → (nameP t, (t, ())) ∈ A ++ B

theorem ok_len {A B : List It} {l : List It} (h : Stk l) (hi : ∀ x ∈ l, x ∈ A ++ B) : l.length ≤ A.length + B.length := by
  have := nodup_le l (A ++ B) (stk_nodup h) hi
  rw [List.length_append] at this; exact this

theorem stk_item {l : List It} (h : Stk l) {x : It} (hx : x ∈ l) : x = (nameP x.2.1, (x.2.1, ())) := by
  rw [← (h.2 x hx).1]

theorem hearO_text {l : List It} (h : Stk l) {m : Pc} {t : ByteArray} (ht : Pc.text t ∈ hearO l m) : (nameP t, (t, ())) ∈ l := by
  cases m with
  | sum p L d n =>
    rw [hearO] at ht
    split at ht
    · cases ht
    · split at ht
      · simp at ht
      · split at ht <;> simp [ownS] at ht
  | names p L ns =>
    simp only [hearO, List.mem_append, List.mem_map] at ht
    rcases ht with ht | ⟨x, hx, he⟩
    · split at ht <;> simp at ht
    · have hm := (List.mem_filter.1 (List.mem_filter.1 hx).1).1
      have : x.2.1 = t := by simpa using he
      rw [← this, ← stk_item h hm]; exact hm
  | want ns =>
    simp only [hearO, List.mem_filterMap, Option.map_eq_some_iff] at ht
    obtain ⟨a, ha, t', ht', he⟩ := ht
    have : t' = t := by simpa using he
    subst this
    have hm := findT_some h ht'
    have hn : a = nameP t' := (h.2 _ hm).1
    rw [hn] at hm; exact hm
  | text t' => cases ht

theorem hearS_mem {l : List It} {m : Pc} {x : It} (hx : x ∈ hearS l m) : x ∈ l ∨ ∃ t, m = .text t ∧ x = (nameP t, (t, ())) := by
  cases m with
  | text t =>
    rcases mem_addT.1 hx with h | ⟨_, h⟩
    · exact .inl h
    · exact .inr ⟨t, rfl, h⟩
  | sum => exact .inl hx
  | names => exact .inl hx
  | want => exact .inl hx
theorem hearS_old {l : List It} {m : Pc} {x : It} (hx : x ∈ l) : x ∈ hearS l m := by
  cases m with
  | text t => exact mem_addT.2 (.inl hx)
  | sum => exact hx
  | names => exact hx
  | want => exact hx

theorem Ok.get {A B : List It} {σ : St} (h : Ok A B σ) (c : Bool) : Stk (σ.get c) ∧ ∀ x ∈ σ.get c, x ∈ A ++ B := by
  cases c
  · exact ⟨h.sa, h.ia⟩
  · exact ⟨h.sb, h.ib⟩
theorem Ok.hear {A B : List It} {σ : St} (h : Ok A B σ) (hAB : A.length + B.length ≤ 200) {c : Bool} {m : Pc} (hm : m.WF) (ht : ∀ t, m = .text t → (nameP t, (t, ())) ∈ A ++ B) : Ok A B (σ.hear c m) := by
  obtain ⟨hg, hgi⟩ := h.get c
  have hgl := ok_len hg hgi
  have hs : ∀ l : List It, (∀ x ∈ l, x ∈ A ++ B) → ∀ x ∈ hearS l m, x ∈ A ++ B := fun l hl x hx => by
    rcases hearS_mem hx with h1 | ⟨t, h1, rfl⟩
    · exact hl x h1
    · exact ht t h1
  refine ⟨?_, ?_, ?_, ?_, ?_, ?_⟩
  · cases c
    · exact hearS_stk h.sa hm
    · exact h.sa
  · cases c
    · exact h.sb
    · exact hearS_stk h.sb hm
  · cases c
    · exact hs _ h.ia
    · exact h.ia
  · cases c
    · exact h.ib
    · exact hs _ h.ib
  · intro x hx
    rcases List.mem_append.1 hx with h1 | h1
    · exact h.wf x h1
    · obtain ⟨o, ho, rfl⟩ := List.mem_map.1 h1
      exact hearO_wf hg (by omega) hm o ho
  · intro x hx t he
    rcases List.mem_append.1 hx with h1 | h1
    · exact h.tx x h1 t he
    · obtain ⟨o, ho, rfl⟩ := List.mem_map.1 h1
      have he : o = .text t := he
      subst he
      exact hgi _ (hearO_text hg ho)
theorem Ok.hearN {A B : List It} (hAB : A.length + B.length ≤ 200) {c : Bool} {m : Pc} (hm : m.WF) (ht : ∀ t, m = .text t → (nameP t, (t, ())) ∈ A ++ B) : ∀ (n : Nat) {σ : St}, Ok A B σ → Ok A B (σ.hearN c m n)
  | 0, _, h => h
  | n + 1, _, h => Ok.hearN hAB hm ht n (h.hear hAB hm ht)
theorem out_mem {σ : St} {i : Nat} {x : Mv} (hx : x ∈ (σ.out i).w) : x ∈ σ.w := by
  rcases List.mem_append.1 hx with h | h
  · exact List.mem_of_mem_take h
  · exact List.mem_of_mem_drop h
theorem Ok.out {A B : List It} {σ : St} (h : Ok A B σ) (i : Nat) : Ok A B (σ.out i) :=
  ⟨h.sa, h.sb, h.ia, h.ib, fun x hx => h.wf x (out_mem hx), fun x hx => h.tx x (out_mem hx)⟩

theorem hearN_len {A B : List It} (hAB : A.length + B.length ≤ 200) {c : Bool} {m : Pc} (hm : m.WF) (ht : ∀ t, m = .text t → (nameP t, (t, ())) ∈ A ++ B) : ∀ (n : Nat) {σ : St}, Ok A B σ → (σ.hearN c m n).w.length ≤ σ.w.length + 201 * n ∧ (σ.hearN c m n).t.length ≤ σ.t.length + 201 * n
  | 0, σ, h => ⟨Nat.le_refl _, Nat.le_refl _⟩
  | n + 1, σ, h => by
    obtain ⟨hg, hgi⟩ := h.get c
    have hgl := ok_len hg hgi
    have hol := hearO_len hm (l := σ.get c) (by omega)
    have hfl := List.length_filter_le Pc.isText (hearO (σ.get c) m)
    obtain ⟨h1, h2⟩ := hearN_len hAB hm ht n (h.hear (c := c) hAB hm ht) (c := c)
    have h3 : (σ.hear c m).w.length = σ.w.length + (hearO (σ.get c) m).length := by simp [St.hear]
    have h4 : (σ.hear c m).t.length = σ.t.length + ((hearO (σ.get c) m).filter Pc.isText).length := by simp [St.hear]
    constructor
    · show ((σ.hear c m).hearN c m n).w.length ≤ _; omega
    · show ((σ.hear c m).hearN c m n).t.length ≤ _; omega

theorem take_out (w : List Se) (i : Nat) (h : i < w.length) : List.take (w.length - (i + 1)) (List.drop (i + 1) w) = List.drop (i + 1) w := List.take_of_length_le (by rw [List.length_drop]; omega)

end Go.Proofs.P44
set_option linter.unusedVariables false
set_option linter.unusedSimpArgs false
namespace Go.Proofs.P44
open Go Go.Abs Go.Proofs Go.Proofs.K1 Go.Proofs.G44
set_option maxRecDepth 10000

theorem run39_l8_eq (s0 : Bool → Int → (List (List It × Unit)) → (List (List It × Unit)) → List Se → List Se → Option (List (List It × Unit) × List Se × Bool × Bool)) (s6 : Bool → Int → Int → Int → (List (List It × Unit)) → (List (List It × Unit)) → List Se → List Se → Int → Int → List Int → Int → List Int → Int → List (List Int) → ByteArray → Option (List (List It × Unit) × List Se × Bool × Bool))
    (p2 : Bool) (p3 p4 p5 : Int) (outs : List Pc) (ho : outs.length ≤ 1000) (p8 p9 : List (List It × Unit)) (c : Bool) (p13 : Int) (p14 : List Int) (p15 : Int) (p16 : List Int) (p17 : Int) (p18 : List (List Int)) (p19 : ByteArray) :
    ∀ (n k j : Nat) (W T : List Mv), j + n = outs.length → n < k → W.length ≤ 100000000 + j → T.length ≤ 100000000 + j →
      antiquarylaw44_run_l8 s0 s6 k p2 p3 p4 p5 (outs.map Pc.enc) (j : Int) p8 p9 (W.map encS) (T.map encS) (b2i c) p13 p14 p15 p16 p17 p18 p19 =
        s6 p2 p3 p4 (IntKind.i64.wrap (p5 + 1)) p8 p9 ((W ++ (outs.drop j).map fun o => (!c, o)).map encS) ((T ++ ((outs.drop j).filter Pc.isText).map fun o => (!c, o)).map encS) (b2i c) p13 p14 p15 p16 p17 p18 p19
  | 0, k, j, W, T, h1, h2, h3, h4 => by
    obtain ⟨k, rfl⟩ : ∃ k', k = k' + 1 := ⟨k - 1, by omega⟩
    unfold antiquarylaw44_run_l8
    rw [if_neg (by simp; omega), List.drop_of_length_le (by omega)]
    simp
  | n + 1, k, j, W, T, h1, h2, h3, h4 => by
    obtain ⟨k, rfl⟩ : ∃ k', k = k' + 1 := ⟨k - 1, by omega⟩
    have hj : j < outs.length := by omega
    have e : (j : Int) + 1 = ((j + 1 : Nat) : Int) := by omega
    have hg : List.getD (outs.map Pc.enc) j (Kd.dflt KP) = outs[j].enc := by rw [getD_get _ j (by simpa using hj)]; simp
    have hfd := filt_drop Pc.isText outs j hj
    unfold antiquarylaw44_run_l8 antiquarylaw44_run_l9
    rw [if_pos (by simp; omega), if_pos (by simp; omega), Int.toNat_natCast, hg, flip_b2i, isText_enc, w64 _ (by omega), e]
    show (if (W.map encS).length + [encS (!c, outs[j])].length ≤ 1353245080339 then
        if outs[j].isText = true then
          if (T.map encS).length + [encS (!c, outs[j])].length ≤ 1353245080339 then
            antiquarylaw44_run_l8 s0 s6 k p2 p3 p4 p5 (outs.map Pc.enc) ((j + 1 : Nat) : Int) p8 p9 (W.map encS ++ [encS (!c, outs[j])]) (T.map encS ++ [encS (!c, outs[j])]) (b2i c) p13 p14 p15 p16 p17 p18 p19
          else none
        else antiquarylaw44_run_l8 s0 s6 k p2 p3 p4 p5 (outs.map Pc.enc) ((j + 1 : Nat) : Int) p8 p9 (W.map encS ++ [encS (!c, outs[j])]) (T.map encS) (b2i c) p13 p14 p15 p16 p17 p18 p19
      else none) = _
    rw [if_pos (by simp; omega)]
    have hw : W.map encS ++ [encS (!c, outs[j])] = (W ++ [(!c, outs[j])]).map encS := by simp
    have ht : T.map encS ++ [encS (!c, outs[j])] = (T ++ [(!c, outs[j])]).map encS := by simp
    have hd : (outs.drop j).map (fun o => ((!c, o) : Mv)) = [(!c, outs[j])] ++ (outs.drop (j + 1)).map fun o => (!c, o) := by rw [List.drop_eq_getElem_cons hj]; rfl
    rw [hd, hfd, hw, ht, ← List.append_assoc]
    cases hb : outs[j].isText with
    | true =>
      rw [if_pos rfl, if_pos rfl, if_pos (by simp; omega), run39_l8_eq s0 s6 p2 p3 p4 p5 outs ho p8 p9 c p13 p14 p15 p16 p17 p18 p19 n k (j + 1) _ _ (by omega) (by omega) (by simp; omega) (by simp; omega), List.map_append (l₁ := [outs[j]]), ← List.append_assoc]; rfl
    | false =>
      rw [if_neg (by simp), if_neg (by simp), run39_l8_eq s0 s6 p2 p3 p4 p5 outs ho p8 p9 c p13 p14 p15 p16 p17 p18 p19 n k (j + 1) _ _ (by omega) (by omega) (by simp; omega) (by omega)]; rfl

theorem run39_l6_eq (s0 : Bool → Int → (List (List It × Unit)) → (List (List It × Unit)) → List Se → List Se → Option (List (List It × Unit) × List Se × Bool × Bool))
    (p2 : Bool) (p3 : Int) (N : Nat) (hN : N ≤ 2) (p8 : List (List It × Unit)) (c : Bool) {m : Pc} (hm : m.WF) :
    ∀ (n k i : Nat) (σ : St), i + n = N → n + 71000 < k → σ.w.length ≤ 90000000 + 201 * i → σ.t.length ≤ 90000000 + 201 * i → Stk σ.a → Stk σ.b → σ.a.length + n ≤ 200 → σ.b.length + n ≤ 200 →
      antiquarylaw44_run_l6 s0 k p2 p3 (N : Int) (i : Int) p8 σ.stocks (σ.w.map encS) (σ.t.map encS) (b2i c) m.enc.1 m.enc.2.1.1 m.enc.2.1.2.1 m.enc.2.2.1 m.enc.2.2.2.1 m.enc.2.2.2.2.1 m.enc.2.2.2.2.2.1 =
        s0 p2 p3 p8 (σ.hearN c m n).stocks ((σ.hearN c m n).w.map encS) ((σ.hearN c m n).t.map encS)
  | 0, k, i, σ, h1, h2, h3, h4, h5, h6, h7, h8 => by
    obtain ⟨k, rfl⟩ : ∃ k', k = k' + 1 := ⟨k - 1, by omega⟩
    unfold antiquarylaw44_run_l6
    rw [if_neg (by simp; omega)]; rfl
  | n + 1, k, i, σ, h1, h2, h3, h4, h5, h6, h7, h8 => by
    obtain ⟨k, rfl⟩ : ∃ k', k = k' + 1 := ⟨k - 1, by omega⟩
    have e : (i : Int) + 1 = ((i + 1 : Nat) : Int) := by omega
    have hc2 : (0 : Int) ≤ b2i c ∧ b2i c < 2 := by cases c <;> decide
    have hget : (List.getD σ.stocks (Int.toNat (b2i c)) (Kd.dflt (Kd.pair (Kd.sl KI) Kd.unit))).1 = σ.get c := by cases c <;> rfl
    have hstk : Stk (σ.get c) := by cases c <;> assumption
    have hlen : (σ.get c).length ≤ 200 := by cases c <;> (show _ ≤ _) <;> simp [St.get] <;> omega
    have hh : exchange_Hear k (σ.get c) m.enc.1 m.enc.2.1.1 m.enc.2.1.2.1 m.enc.2.2.1 m.enc.2.2.2.1 m.enc.2.2.2.2.1 m.enc.2.2.2.2.2.1 = some (hearS (σ.get c) m, (hearO (σ.get c) m).map Pc.enc, hearE (σ.get c) m) := code_hear k (by omega) hstk hlen hm
    have hol := hearO_len hm hlen
    have hset : List.set σ.stocks (Int.toNat (b2i c)) (hearS (σ.get c) m, ()) = (σ.hear c m).stocks := by cases c <;> rfl
    have l7 : antiquarylaw44_run_l7 s0 (antiquarylaw44_run_l6 s0 k) k p2 p3 (N : Int) (i : Int) ((hearO (σ.get c) m).map Pc.enc) false p8 σ.stocks (σ.w.map encS) (σ.t.map encS) (b2i c) m.enc.1 m.enc.2.1.1 m.enc.2.1.2.1 m.enc.2.2.1 m.enc.2.2.2.1 m.enc.2.2.2.2.1 m.enc.2.2.2.2.2.1 (hearS (σ.get c) m) = s0 p2 p3 p8 ((σ.hear c m).hearN c m n).stocks (((σ.hear c m).hearN c m n).w.map encS) (((σ.hear c m).hearN c m n).t.map encS) := by
      unfold antiquarylaw44_run_l7
      rw [if_neg (by simp), if_pos hc2, hset, show (0 : Int) = ((0 : Nat) : Int) from rfl, run39_l8_eq s0 (antiquarylaw44_run_l6 s0 k) p2 p3 (N : Int) (i : Int) (hearO (σ.get c) m) (by omega) p8 (σ.hear c m).stocks c _ _ _ _ _ _ _ (hearO (σ.get c) m).length k 0 σ.w σ.t (by omega) (by omega) (by omega) (by omega), w64 _ (by omega), e]
      have hfl := List.length_filter_le Pc.isText (hearO (σ.get c) m)
      have hA : Stk (σ.hear c m).a := by
        cases c
        · exact hearS_stk h5 hm
        · exact h5
      have hB : Stk (σ.hear c m).b := by
        cases c
        · exact h6
        · exact hearS_stk h6 hm
      have hSl : ∀ l : List It, (hearS l m).length ≤ l.length + 1 := fun l => by cases m <;> simp only [hearS] <;> first | omega | exact len_addT l _
      have hla : (σ.hear c m).a.length + n ≤ 200 := by
        cases c
        · have := hSl σ.a; show (hearS σ.a m).length + n ≤ 200; omega
        · show σ.a.length + n ≤ 200; omega
      have hlb : (σ.hear c m).b.length + n ≤ 200 := by
        cases c
        · show σ.b.length + n ≤ 200; omega
        · have := hSl σ.b; show (hearS σ.b m).length + n ≤ 200; omega
      have hw : (σ.hear c m).w.length ≤ 90000000 + 201 * (i + 1) := by simp only [St.hear, List.length_append, List.length_map]; omega
      have ht : (σ.hear c m).t.length ≤ 90000000 + 201 * (i + 1) := by simp only [St.hear, List.length_append, List.length_map]; omega
      have := run39_l6_eq s0 p2 p3 N hN p8 c hm n k (i + 1) (σ.hear c m) (by omega) (by omega) hw ht hA hB hla hlb
      exact this
    unfold antiquarylaw44_run_l6
    rw [if_pos (by simp; omega), if_pos hc2, hget, hh, Option.bind_some]
    dsimp only
    show _ = s0 p2 p3 p8 ((σ.hear c m).hearN c m n).stocks (((σ.hear c m).hearN c m n).w.map encS) (((σ.hear c m).hearN c m n).t.map encS)
    have hE : hearE (σ.get c) m = 0 ∨ hearE (σ.get c) m = 6 := by
      cases m <;> simp only [hearE] <;> first | exact .inl trivial | (split <;> simp)
    rcases hE with hE | hE
    · rw [hE, if_neg (by simp), l7]
    · rw [hE, if_pos (by simp), show ((6 : Int) != 6) = false by simp, l7]
theorem run39_spec {A B : List It} (hAB : A.length + B.length ≤ 190) (lose : Bool) (Z : List (List It × Unit)) (Inv : St → Prop)
    (hinv : ∀ (σ : St) (i t : Nat) (c : Bool) (m : Pc), Inv σ → Ok A B σ → (hi : i < σ.w.length) → σ.w[i] = (c, m) → (t = 0 → lose = true) → t ≤ 2 → (lose = false → t = 1) → Inv ((σ.out i).hearN c m t)) :
    ∀ (j k n : Nat) (σ : St), n + j = 20000 → 75000 + j < k → Inv σ → Ok A B σ → σ.w.length ≤ 1 + 402 * n → σ.t.length ≤ 402 * n →
      ∃ σ' : St, antiquarylaw44_run_l0 k lose (n : Int) Z σ.stocks (σ.w.map encS) (σ.t.map encS) = some (σ'.stocks, σ'.t.map encS, true, decide (σ'.w = [])) ∧ Inv σ' ∧ Ok A B σ' ∧ σ'.t.length ≤ 10000000 := by
  have stop : ∀ (k n : Nat) (σ : St), n ≤ 20000 → Inv σ → Ok A B σ → σ.t.length ≤ 402 * n → ∃ σ' : St, antiquarylaw44_run_l1 (antiquarylaw44_run_l0 k) k lose (n : Int) false Z σ.stocks (σ.w.map encS) (σ.t.map encS) = some (σ'.stocks, σ'.t.map encS, true, decide (σ'.w = [])) ∧ Inv σ' ∧ Ok A B σ' ∧ σ'.t.length ≤ 10000000 := fun k n σ hn hi hok hlt => by
    refine ⟨σ, ?_, hi, hok, by omega⟩
    unfold antiquarylaw44_run_l1
    rw [if_neg (by simp)]
    congr 4
    rw [Bool.eq_iff_iff]
    simp [List.length_eq_zero_iff]
  intro j
  induction j with
  | zero =>
    intro k n σ h1 h2 hi hok hlw hlt
    obtain ⟨k, rfl⟩ : ∃ k', k = k' + 1 := ⟨k - 1, by omega⟩
    unfold antiquarylaw44_run_l0
    have : decide ((n : Int) < 20000) = false := by simp; omega
    rw [this, ite_self]
    exact stop k n σ (by omega) hi hok hlt
  | succ j ih =>
    intro k n σ h1 h2 hi hok hlw hlt
    obtain ⟨k, rfl⟩ : ∃ k', k = k' + 1 := ⟨k - 1, by omega⟩
    unfold antiquarylaw44_run_l0
    by_cases hw0 : σ.w = []
    · rw [if_neg (by simp [hw0])]
      exact stop k n σ (by omega) hi hok hlt
    · have hwl : 0 < σ.w.length := List.length_pos_iff.2 hw0
      have hn : decide ((n : Int) < 20000) = true := by simp; omega
      rw [if_pos (by simp; omega), hn]
      -- the number that chooses
      have choose : ∃ x : Nat, antiquarylaw44_run_l1 (antiquarylaw44_run_l0 k) k lose (n : Int) true Z σ.stocks (σ.w.map encS) (σ.t.map encS) = antiquarylaw44_run_l2 (antiquarylaw44_run_l0 k) k lose (n : Int) (x : Int) Z σ.stocks (σ.w.map encS) (σ.t.map encS) ∧ x < 256 := by
        unfold antiquarylaw44_run_l1
        rw [if_pos rfl]
        exact ⟨0, rfl, by omega⟩
      obtain ⟨x, hx, hx2⟩ := choose
      rw [hx]
      obtain ⟨i, hid⟩ : ∃ i, i = x % σ.w.length := ⟨_, rfl⟩
      have hil : i < σ.w.length := by rw [hid]; exact Nat.mod_lt _ hwl
      have hm : Int.tmod (x : Int) ((σ.w.map encS).length : Int) = (i : Int) := by rw [Int.tmod_eq_emod_of_nonneg (by omega), List.length_map, hid]; omega
      have hl : (σ.w.map encS).length = σ.w.length := List.length_map _
      obtain ⟨c, m, hcm⟩ : ∃ c m, σ.w[i] = (c, m) := ⟨_, _, rfl⟩
      have hmem : (c, m) ∈ σ.w := by rw [← hcm]; exact List.getElem_mem hil
      have hmw : m.WF := hok.wf _ hmem
      have hmt : ∀ t, m = .text t → (nameP t, (t, ())) ∈ A ++ B := hok.tx _ hmem
      have hg : List.getD (σ.w.map encS) i (Kd.dflt KSe) = encS (c, m) := by rw [getD_get _ i (by omega), List.getElem_map, hcm]
      have hw1 : ([] ++ List.take i (σ.w.map encS)) ++ List.drop (i + 1) (σ.w.map encS) = (σ.out i).w.map encS := by simp [St.out]
      have e1 : (n : Int) + 1 = ((n + 1 : Nat) : Int) := by omega
      have ei : (i : Int) + 1 = ((i + 1 : Nat) : Int) := by omega
      have oko := hok.out i
      have hlo : (σ.out i).w.length ≤ σ.w.length := by
        have : (σ.out i).w.length = (σ.w.take i).length + (σ.w.drop (i + 1)).length := List.length_append
        rw [List.length_take, List.length_drop] at this; omega
      have hla := ok_len hok.sa hok.ia
      have hlb := ok_len hok.sb hok.ib
      -- what follows
      have next : ∀ t : Nat, (t = 0 → lose = true) → t ≤ 2 → (lose = false → t = 1) → ∃ σ' : St, antiquarylaw44_run_l0 k lose ((n + 1 : Nat) : Int) Z ((σ.out i).hearN c m t).stocks (((σ.out i).hearN c m t).w.map encS) (((σ.out i).hearN c m t).t.map encS) = some (σ'.stocks, σ'.t.map encS, true, decide (σ'.w = [])) ∧ Inv σ' ∧ Ok A B σ' ∧ σ'.t.length ≤ 10000000 := fun t t1 t2 t3 => by
        obtain ⟨g1, g2⟩ := hearN_len (by omega) hmw hmt t oko (c := c)
        have g3 : (σ.out i).t = σ.t := rfl
        exact ih k (n + 1) _ (by omega) (by omega) (hinv σ i t c m hi hok hil hcm t1 t2 t3) (Ok.hearN (by omega) hmw hmt t oko) (by omega) (by rw [g3] at g2; omega)
      have l5 : ∀ t : Nat, (t = 0 → lose = true) → t ≤ 2 → (lose = false → t = 1) → ∃ σ' : St, antiquarylaw44_run_l5 (antiquarylaw44_run_l0 k) k lose ((n + 1 : Nat) : Int) (t : Int) Z σ.stocks ((σ.out i).w.map encS) (σ.t.map encS) (b2i c) m.enc.1 m.enc.2.1.1 m.enc.2.1.2.1 m.enc.2.2.1 m.enc.2.2.2.1 m.enc.2.2.2.2.1 m.enc.2.2.2.2.2.1 = some (σ'.stocks, σ'.t.map encS, true, decide (σ'.w = [])) ∧ Inv σ' ∧ Ok A B σ' ∧ σ'.t.length ≤ 10000000 := fun t t1 t2 t3 => by
        unfold antiquarylaw44_run_l5
        have := run39_l6_eq (antiquarylaw44_run_l0 k) lose ((n + 1 : Nat) : Int) t t2 Z c hmw t k 0 (σ.out i) (by omega) (by omega) (by omega) (by show σ.t.length ≤ _; omega) oko.sa oko.sb (by show σ.a.length + t ≤ 200; omega) (by show σ.b.length + t ≤ 200; omega)
        obtain ⟨σ', h3, h4⟩ := next t t1 t2 t3
        exact ⟨σ', this.trans h3, h4⟩
      have l3 : ∀ lost : Bool, (lost = true → lose = true) → ∃ σ' : St, antiquarylaw44_run_l3 (antiquarylaw44_run_l0 k) k lose ((n + 1 : Nat) : Int) (x : Int) lost Z σ.stocks ((σ.out i).w.map encS) (σ.t.map encS) (b2i c) m.enc.1 m.enc.2.1.1 m.enc.2.1.2.1 m.enc.2.2.1 m.enc.2.2.2.1 m.enc.2.2.2.2.1 m.enc.2.2.2.2.2.1 = some (σ'.stocks, σ'.t.map encS, true, decide (σ'.w = [])) ∧ Inv σ' ∧ Ok A B σ' ∧ σ'.t.length ≤ 10000000 := fun lost hlost => by
        unfold antiquarylaw44_run_l3
        cases lost with
        | true => rw [if_pos rfl]; exact next 0 (fun _ => hlost rfl) (by omega) (fun h => by rw [hlost rfl] at h; cases h)
        | false =>
          rw [if_neg (by simp)]
          have one : ∃ σ' : St, antiquarylaw44_run_l4 (antiquarylaw44_run_l0 k) k lose ((n + 1 : Nat) : Int) (1 : Int) false Z σ.stocks ((σ.out i).w.map encS) (σ.t.map encS) (b2i c) m.enc.1 m.enc.2.1.1 m.enc.2.1.2.1 m.enc.2.2.1 m.enc.2.2.2.1 m.enc.2.2.2.2.1 m.enc.2.2.2.2.2.1 = some (σ'.stocks, σ'.t.map encS, true, decide (σ'.w = [])) ∧ Inv σ' ∧ Ok A B σ' ∧ σ'.t.length ≤ 10000000 := by
            unfold antiquarylaw44_run_l4
            rw [if_neg (by simp)]
            exact l5 1 (by omega) (by omega) (fun _ => rfl)
          exact one
      unfold antiquarylaw44_run_l2
      rw [if_pos (by omega), hm, if_pos (by omega), Int.toNat_natCast, if_pos (by omega), if_pos (by omega), if_pos ⟨by simp; omega, by omega⟩, w64 ((i : Int) + 1) (by omega), ei, if_pos (by omega), Int.toNat_natCast, take_out _ i (by omega), if_pos ⟨by simp; omega, by omega⟩, hg, hw1, w64 ((n : Int) + 1) (by omega), e1]
      cases lose with
      | true => rw [if_pos rfl]; exact l3 _ (fun _ => rfl)
      | false => rw [if_neg (by simp)]; exact l3 false (fun h => h)

def st0 (A B : List It) : St := ⟨A, B, [(true, ownS z16 0 A)], []⟩
theorem st0_ok {A B : List It} (hA : Stk A) (hB : Stk B) (hAB : A.length + B.length ≤ 190) : Ok A B (st0 A B) :=
  ⟨hA, hB, fun x hx => List.mem_append.2 (.inl hx), fun x hx => List.mem_append.2 (.inr hx), fun x hx => by
    have : x = (true, ownS z16 0 A) := by simpa [st0] using hx
    subst this
    exact own_wf zero_pre16 (by omega), fun x hx t he => by
    have : x = (true, ownS z16 0 A) := by simpa [st0] using hx
    subst this
    cases he⟩
theorem run39_start {A B : List It} (hA : Stk A) (hB : Stk B) (hAB : A.length + B.length ≤ 190) (lose : Bool) (k : Nat) (hk : 95000 < k) (Inv : St → Prop) (h0 : Inv (st0 A B))
    (hinv : ∀ (σ : St) (i t : Nat) (c : Bool) (m : Pc), Inv σ → Ok A B σ → (hi : i < σ.w.length) → σ.w[i] = (c, m) → (t = 0 → lose = true) → t ≤ 2 → (lose = false → t = 1) → Inv ((σ.out i).hearN c m t)) :
    ∃ σ' : St, antiquarylaw44_run k A B lose = some (σ'.stocks, σ'.t.map encS, true, decide (σ'.w = [])) ∧ Inv σ' ∧ Ok A B σ' ∧ σ'.t.length ≤ 10000000 := by
  unfold antiquarylaw44_run
  rw [code_open k (by omega) A (hA.small (by omega)) hA.rises, Option.bind_some]
  exact run39_spec hAB lose _ Inv hinv 20000 k 0 (st0 A B) (by omega) (by omega) h0 (st0_ok hA hB hAB) (by simp [st0]) (by simp [st0])

end Go.Proofs.P44
set_option linter.unusedVariables false
set_option linter.unusedSimpArgs false
namespace Go.Proofs.P44
open Go Go.Abs Go.Proofs Go.Proofs.K1 Go.Proofs.G44
set_option maxRecDepth 10000

def sel (A B : List It) (c : Bool) : List It := if c = true then B else A

end Go.Proofs.P44
set_option linter.unusedVariables false
set_option linter.unusedSimpArgs false
namespace Go.Proofs.P44
open Go Go.Abs Go.Proofs Go.Proofs.K1 Go.Proofs.G44
set_option maxRecDepth 10000

inductive Near (d : List Int) (s : Bool) (a b : List It) (w : List Mv) : Prop where
  | done (h : hasB (sel a b (!s)) d = true)
  | text (t : ByteArray) (h : (!s, Pc.text t) ∈ w) (e : nameP t = d)
  | want (ns : List (List Int)) (h : (s, Pc.want ns) ∈ w) (e : d ∈ ns)
  | lacks (p : List Int) (L : Nat) (ns : List (List Int)) (h : (s, Pc.names p L ns) ∈ w) (u : underP p L d = true) (e : d ∉ ns)
  | named (p : List Int) (L : Nat) (ns : List (List Int)) (h : (!s, Pc.names p L ns) ∈ w) (e : d ∈ ns)
theorem Near.cons {d : List Int} {s : Bool} {a b : List It} {w : List Mv} (x : Mv) (h : Near d s a b w) : Near d s a b (x :: w) := by
  cases h with
  | done h => exact .done h
  | text t h e => exact .text t (List.mem_cons_of_mem _ h) e
  | want ns h e => exact .want ns (List.mem_cons_of_mem _ h) e
  | lacks p L ns h u e => exact .lacks p L ns (List.mem_cons_of_mem _ h) u e
  | named p L ns h e => exact .named p L ns (List.mem_cons_of_mem _ h) e

theorem mem_hear {σ : St} {c : Bool} {m : Pc} {x : Mv} (h : x ∈ (σ.hear c m).w) : x ∈ σ.w ∨ (x.1 = !c ∧ x.2 ∈ hearO (sel σ.a σ.b c) m) := by
  rcases List.mem_append.1 h with h | h
  · exact .inl h
  · obtain ⟨o, ho, rfl⟩ := List.mem_map.1 h
    exact .inr ⟨rfl, ho⟩

end Go.Proofs.P44
set_option linter.unusedVariables false
set_option linter.unusedSimpArgs false
namespace Go.Proofs.P44
open Go Go.Abs Go.Proofs Go.Proofs.K1 Go.Proofs.G44
set_option maxRecDepth 10000

structure Kept (A B : List It) (σ : St) : Prop where
  a : ∀ x ∈ A, x ∈ σ.a
  b : ∀ x ∈ B, x ∈ σ.b
theorem Kept.hear {A B : List It} {σ : St} (h : Kept A B σ) (c : Bool) (m : Pc) : Kept A B (σ.hear c m) := by
  cases c
  · exact ⟨fun x hx => hearS_old (h.a x hx), h.b⟩
  · exact ⟨h.a, fun x hx => hearS_old (h.b x hx)⟩
theorem Kept.hearN {A B : List It} (c : Bool) (m : Pc) : ∀ (n : Nat) {σ : St}, Kept A B σ → Kept A B (σ.hearN c m n)
  | 0, _, h => h
  | n + 1, _, h => Kept.hearN c m n (h.hear c m)
theorem Kept.out {A B : List It} {σ : St} (h : Kept A B σ) (i : Nat) : Kept A B (σ.out i) := ⟨h.a, h.b⟩

end Go.Proofs.P44
set_option linter.unusedVariables false
set_option linter.unusedSimpArgs false
namespace Go.Proofs.P44
open Go Go.Abs Go.Proofs Go.Proofs.K1 Go.Proofs.G44
set_option maxRecDepth 10000

theorem sanity_all (k : Nat) : antiquarylaw44_sanity (k + 100000) = some true := by kernel_rfl
theorem sanity_ge {k : Nat} (h : 100000 ≤ k) : antiquarylaw44_sanity k = some true := by
  obtain ⟨j, rfl⟩ : ∃ j, k = j + 100000 := ⟨k - 100000, by omega⟩
  exact sanity_all j


end Go.Proofs.P44
set_option linter.unusedVariables false
set_option linter.unusedSimpArgs false
namespace Go.Proofs.P44
open Go Go.Abs Go.Proofs Go.Proofs.K1 Go.Proofs.G44
set_option maxRecDepth 10000

theorem few_texts_loop (l : List ByteArray) : ∀ (n k i : Nat), i + n = 41 → n + 1 < k → i ≤ l.length → (∀ j (hj : j < l.length), j < i → ByteArray.size l[j] ≤ 200) →
    ∃ b, antiquaryref44_Few_l0 k l 40 (i : Int) = some b ∧ (b = true → l.length ≤ 40 ∧ ∀ x ∈ l, ByteArray.size x ≤ 200)
  | n, k, i, h1, h2, h3, h4 => by
    obtain ⟨k, rfl⟩ : ∃ k', k = k' + 1 := ⟨k - 1, by omega⟩
    have e : (i : Int) + 1 = ((i + 1 : Nat) : Int) := by omega
    unfold antiquaryref44_Few_l0 antiquaryref44_Few_l1
    by_cases hi : i < l.length
    · rw [if_pos (by simp; omega)]
      by_cases h40 : i ≤ 40
      · obtain ⟨n, rfl⟩ : ∃ n', n = n' + 1 := ⟨n - 1, by omega⟩
        rw [if_pos (by simp; omega), if_pos (by omega), Int.toNat_natCast, getD_get l i hi]
        by_cases ht : ByteArray.size l[i] ≤ 200
        · rw [if_neg (by simp only [decide_eq_true_eq]; omega), w64 _ (by omega), e]
          exact few_texts_loop l n k (i + 1) (by omega) (by omega) (by omega) (fun j hj h => by
            rcases Nat.lt_or_ge j i with g | g
            · exact h4 j hj g
            · have : j = i := by omega
              subst this; exact ht)
        · rw [if_pos (by simp only [decide_eq_true_eq]; omega)]
          exact ⟨false, rfl, fun h => by cases h⟩
      · rw [if_neg (by simp; omega)]
        refine ⟨_, rfl, fun h => ?_⟩
        simp only [decide_eq_true_eq] at h
        omega
    · rw [if_neg (by simp; omega), if_neg (by simp)]
      refine ⟨_, rfl, fun h => ?_⟩
      simp only [decide_eq_true_eq] at h
      refine ⟨by omega, fun x hx => ?_⟩
      obtain ⟨j, hj, rfl⟩ := List.mem_iff_getElem.1 hx
      exact h4 j hj (by omega)
theorem few_texts (l : List ByteArray) (k : Nat) (hk : 100 < k) : ∃ b, antiquaryref44_Few k l 40 = some b ∧ (b = true → l.length ≤ 40 ∧ ∀ x ∈ l, ByteArray.size x ≤ 200) :=
  few_texts_loop l 41 k 0 (by omega) (by omega) (by omega) (fun j _ h => by omega)

def ofA (l : List ByteArray) : List It := l.foldl addT []
theorem fold_stk : ∀ (l : List ByteArray) {m : List It}, Stk m → (∀ x ∈ l, ByteArray.size x ≤ 200) → Stk (l.foldl addT m) ∧ (l.foldl addT m).length ≤ m.length + l.length
  | [], m, h, _ => ⟨h, by simp⟩
  | t :: l, m, h, ht => by
    obtain ⟨h1, h2⟩ := fold_stk l (addT_stk h (ht t (by simp))) (fun x hx => ht x (by simp [hx]))
    have := len_addT m t
    exact ⟨h1, by rw [List.foldl_cons, List.length_cons]; omega⟩
theorem ofA_stk {l : List ByteArray} (h : ∀ x ∈ l, ByteArray.size x ≤ 200) : Stk (ofA l) ∧ (ofA l).length ≤ l.length := by
  obtain ⟨h1, h2⟩ := fold_stk l Stk.nil h
  refine ⟨h1, ?_⟩
  rw [List.length_nil, Nat.zero_add] at h2
  exact h2

theorem code_of_loop (l : List ByteArray) (hl : l.length ≤ 100) (hs : ∀ x ∈ l, ByteArray.size x ≤ 200) : ∀ (n k i : Nat) (m z : List It), i + n = l.length → 61000 + n < k → Stk m → m.length ≤ i →
    antiquarylaw44_of_l0 k l (i : Int) z m = some ((l.drop i).foldl addT m, true)
  | 0, k, i, m, z, h1, h2, h3, h4 => by
    obtain ⟨k, rfl⟩ : ∃ k', k = k' + 1 := ⟨k - 1, by omega⟩
    unfold antiquarylaw44_of_l0
    rw [if_neg (by simp; omega), List.drop_of_length_le (by omega)]; rfl
  | n + 1, k, i, m, z, h1, h2, h3, h4 => by
    obtain ⟨k, rfl⟩ : ∃ k', k = k' + 1 := ⟨k - 1, by omega⟩
    have hi : i < l.length := by omega
    have e : (i : Int) + 1 = ((i + 1 : Nat) : Int) := by omega
    have ht := hs _ (List.getElem_mem hi)
    have hadd := (add_T k (by omega) h3 (by omega) ht).1
    have hlen := len_addT m l[i]
    have ih := fun z => code_of_loop l hl hs n k (i + 1) (addT m l[i]) z (by omega) (by omega) (addT_stk h3 ht) (by omega)
    unfold antiquarylaw44_of_l0
    rw [if_pos (by simp; omega), if_pos (by omega), Int.toNat_natCast, getD_get l i hi, hadd, Option.bind_some, List.drop_eq_getElem_cons hi, List.foldl_cons]
    dsimp only
    have l1 : antiquarylaw44_of_l1 (antiquarylaw44_of_l0 k) k l (i : Int) false z m (addT m l[i]) = some ((l.drop (i + 1)).foldl addT (addT m l[i]), true) := by
      unfold antiquarylaw44_of_l1
      rw [if_neg (by simp), w64 _ (by omega), e, ih]
    cases hb : hasB m (nameP l[i]) with
    | true => rw [if_pos rfl, if_pos (by simp), show ((6 : Int) != 6) = false by simp]; exact l1
    | false => rw [if_neg (by simp)]; exact l1
theorem code_of44 (l : List ByteArray) (hl : l.length ≤ 100) (hs : ∀ x ∈ l, ByteArray.size x ≤ 200) (k : Nat) (hk : 62000 < k) : antiquarylaw44_of k l = some (ofA l, true) :=
  code_of_loop l hl hs l.length k 0 [] [] (by omega) (by omega) Stk.nil (by simp)

theorem sel_stocks (σ : St) (c : Nat) (hc : c < 2) : (List.getD σ.stocks c (Kd.dflt (Kd.pair (Kd.sl KI) Kd.unit))).1 = sel σ.a σ.b (decide (c = 1)) := by
  match c, hc with
  | 0, _ => rfl
  | 1, _ => rfl

end Go.Proofs.P44
set_option linter.unusedVariables false
set_option linter.unusedSimpArgs false
namespace Go.Proofs.P44
open Go Go.Abs Go.Proofs Go.Proofs.K1 Go.Proofs.G44
set_option maxRecDepth 10000

def cl (T : Bool) (d : List Int) (c : Bool) : Pc → Nat
  | .sum p L _ _ => if underP p L d = true then 1 else 0
  | .names p L _ => if underP p L d = true then 1 else 0
  | .want ns => if c = !T then ns.count d else 0
  | .text _ => 0
def sent (T : Bool) (d : List Int) (c : Bool) : Pc → Nat
  | .text t => if c = T ∧ nameP t = d then 1 else 0
  | _ => 0
def tot (T : Bool) (d : List Int) (w t : List Mv) : Nat := (w.map fun x => cl T d x.1 x.2).sum + (t.map fun x => sent T d x.1 x.2).sum

theorem count_asc : ∀ {ns : List (List Int)} (d : List Int), Asc ns → ns.count d ≤ 1
  | [], d, _ => by simp
  | x :: ns, d, h => by
    have h1 := List.pairwise_cons.1 h
    have ih := count_asc d h1.2
    rw [List.count_cons]
    by_cases he : x = d
    · have : d ∉ ns := fun hd => ltB_ne (h1.1 d hd) he
      rw [List.count_eq_zero_of_not_mem this]; split <;> omega
    · rw [if_neg (by simpa using he)]; omega
theorem count_le {ns : List (List Int)} {d : List Int} (h : Asc ns) {b : Bool} (hb : d ∈ ns → b = true) : ns.count d ≤ if b = true then 1 else 0 := by
  by_cases hd : d ∈ ns
  · rw [hb hd]; exact count_asc d h
  · rw [List.count_eq_zero_of_not_mem hd]; omega

theorem sum_app (a b : List Nat) : (a ++ b).sum = a.sum + b.sum := by
  induction a with
  | nil => simp
  | cons x a ih => simp [ih]; omega

theorem sent_text (T : Bool) (d : List Int) (c : Bool) (t : ByteArray) : sent T d c (.text t) = if c = T ∧ nameP t = d then 1 else 0 := rfl
theorem sent_filter (T : Bool) (d : List Int) (c : Bool) (l : List Pc) : ((l.filter Pc.isText).map fun o => sent T d c o).sum = (l.map fun o => sent T d c o).sum := by
  induction l with
  | nil => rfl
  | cons o l ih =>
    rw [List.filter_cons, List.map_cons, List.sum_cons]
    cases o with
    | text t => rw [if_pos (show (Pc.text t).isText = true from rfl), List.map_cons, List.sum_cons, ih]
    | sum p L dg n => rw [if_neg (by simp [Pc.isText]), ih]; simp [sent]
    | names p L ns => rw [if_neg (by simp [Pc.isText]), ih]; simp [sent]
    | want ns => rw [if_neg (by simp [Pc.isText]), ih]; simp [sent]

theorem texts_cl (T : Bool) (d : List Int) (c : Bool) (u : List It) : ((u.map fun x => Pc.text x.2.1).map fun o => cl T d c o).sum = 0 := by
  induction u with
  | nil => rfl
  | cons x u ih => simpa [cl] using ih
theorem texts_sent {T : Bool} {d : List Int} {c : Bool} : ∀ {u : List It}, Stk u → ((u.map fun x => Pc.text x.2.1).map fun o => sent T d c o).sum ≤ (if c = T ∧ hasB u d = true then 1 else 0)
  | [], _ => by simp
  | x :: u, h => by
    have hu : Stk u := ⟨(List.pairwise_cons.1 h.1).2, fun z hz => h.2 z (by simp [hz])⟩
    have ih := texts_sent (T := T) (d := d) (c := c) hu
    have hn : nameP x.2.1 = x.1 := ((h.2 x (by simp)).1).symm
    rw [List.map_cons, List.map_cons, List.sum_cons, sent_text, hn]
    by_cases hc : c = T
    · by_cases hx : x.1 = d
      · have hnb : hasB u d = false := by
          cases hb : hasB u d with
          | false => rfl
          | true =>
            obtain ⟨y, hy, he⟩ := hasB_iff.1 hb
            exact absurd (hx.trans he.symm) (ltB_ne ((List.pairwise_cons.1 h.1).1 y hy))
        rw [hnb] at ih
        have hb : hasB (x :: u) d = true := hasB_iff.2 ⟨x, by simp, hx⟩
        rw [if_pos ⟨hc, hx⟩, if_pos ⟨hc, hb⟩]
        simp at ih
        have : ((u.map fun x => Pc.text x.2.1).map fun o => sent T d c o).sum = 0 := by
          simpa using ih
        omega
      · have hb : hasB (x :: u) d = hasB u d := by simp [hasB, hx]
        rw [if_neg (fun hh => hx hh.2), hb]; omega
    · rw [if_neg (fun hh => hc hh.1), if_neg (fun hh => hc hh.1)]
      rw [if_neg (fun hh => hc hh.1)] at ih
      omega

theorem want_sent {l : List It} (h : Stk l) (T : Bool) (d : List Int) (c : Bool) (ns : List (List Int)) : ((ns.filterMap fun a => (findT l a).map Pc.text).map fun o => cl T d c o + sent T d c o).sum ≤ (if c = T then ns.count d else 0) := by
  induction ns with
  | nil => simp
  | cons a ns ih =>
    rw [List.filterMap_cons, List.count_cons]
    cases hf : findT l a with
    | none =>
      show ((ns.filterMap fun a => (findT l a).map Pc.text).map fun o => cl T d c o + sent T d c o).sum ≤ _
      by_cases hc : c = T
      · rw [if_pos hc] at ih ⊢; exact Nat.le_trans ih (Nat.le_add_right _ _)
      · rw [if_neg hc] at ih ⊢; exact ih
    | some t =>
      have hn : a = nameP t := (h.2 _ (findT_some h hf)).1
      show (((Pc.text t) :: ns.filterMap fun a => (findT l a).map Pc.text).map fun o => cl T d c o + sent T d c o).sum ≤ _
      rw [List.map_cons, List.sum_cons, show cl T d c (Pc.text t) = 0 from rfl, sent_text, ← hn]
      by_cases hc : c = T
      · rw [if_pos hc] at ih ⊢
        by_cases hd : a = d
        · rw [if_pos ⟨hc, hd⟩, if_pos (by simpa using hd)]; omega
        · rw [if_neg (fun hh => hd hh.2), if_neg (by simpa using hd)]; omega
      · rw [if_neg hc] at ih ⊢
        rw [if_neg (fun hh => hc hh.1)]; omega

theorem hear_cl {l : List It} (h : Stk l) (hl : l.length ≤ 200) {m : Pc} (hm : m.WF) (T : Bool) (d : List Int) (c : Bool) : ((hearO l m).map fun o => cl T d (!c) o + sent T d (!c) o).sum ≤ cl T d c m := by
  cases m with
  | text t => simp [hearO, cl]
  | want ns =>
    have := want_sent h T d (!c) ns
    simp only [hearO, cl]
    have e : ((!c) = T) ↔ (c = !T) := by cases c <;> cases T <;> simp
    simp only [e] at this
    exact this
  | names p L ns =>
    obtain ⟨hp, ha, hn, _⟩ := hm
    have hlack : (lackP l ns).count d ≤ if underP p L d = true then 1 else 0 := count_le (ha.filter _) fun hd => (hn d (List.mem_filter.1 hd).1).2
    have hu : Stk ((underL p L l).filter fun x => !decide (x.1 ∈ ns)) := by
      constructor
      · exact (h.1.filter _).filter _
      · intro x hx
        exact h.2 x (List.mem_filter.1 (List.mem_filter.1 hx).1).1
    have ht := texts_sent (T := T) (d := d) (c := !c) hu
    have hz := texts_cl T d (!c) ((underL p L l).filter fun x => !decide (x.1 ∈ ns))
    have hub : hasB ((underL p L l).filter fun x => !decide (x.1 ∈ ns)) d = true → underP p L d = true := fun hb => by
      obtain ⟨x, hx, rfl⟩ := hasB_iff.1 hb
      exact (List.mem_filter.1 (List.mem_filter.1 hx).1).2
    have hsplit : ∀ v : List Pc, (v.map fun o => cl T d (!c) o + sent T d (!c) o).sum = (v.map fun o => cl T d (!c) o).sum + (v.map fun o => sent T d (!c) o).sum := fun v => by
      induction v with
      | nil => rfl
      | cons o v ih => simp only [List.map_cons, List.sum_cons, ih]; omega
    simp only [hearO, List.map_append, sum_app]
    rw [hsplit (((underL p L l).filter fun x => !decide (x.1 ∈ ns)).map fun x => Pc.text x.2.1), hz]
    have hw : ((if (lackP l ns).length > 0 then [Pc.want (lackP l ns)] else []).map fun o => cl T d (!c) o + sent T d (!c) o).sum ≤ if (!c) = !T then (lackP l ns).count d else 0 := by
      split
      · simp [cl, sent]
      · simp
    show _ ≤ if underP p L d = true then 1 else 0
    by_cases hc : c = T
    · subst hc
      rw [if_pos rfl] at hw
      have hne : ¬ ((!c) = c) := by cases c <;> simp
      rw [if_neg (fun hh => hne hh.1)] at ht
      omega
    · have hne : ¬ ((!c) = !T) := by cases c <;> cases T <;> simp_all
      rw [if_neg hne] at hw
      by_cases hud : underP p L d = true
      · rw [if_pos hud]
        split at ht <;> omega
      · have : hasB ((underL p L l).filter fun x => !decide (x.1 ∈ ns)) d ≠ true := fun hb => hud (hub hb)
        rw [if_neg (fun hh => this hh.2)] at ht
        omega
  | sum p L dg n =>
    obtain ⟨hp, _, _⟩ := hm
    rw [hearO]
    show _ ≤ if underP p L d = true then 1 else 0
    split
    · simp
    · split
      · simp [cl, sent]
      · rename_i h8
        split
        · simp [cl, sent, ownS]
        · have hL : L < 128 := by
            rcases Nat.lt_or_ge L 128 with g | g
            · exact g
            · have : L = 128 := by have := hp.le; omega
              subst this
              have := names128 h hp; omega
          have hh := under_halves hp hL d
          have h1 := hh.1
          have h2 := hh.2.1
          simp only [List.map_cons, List.map_nil, List.sum_cons, List.sum_nil, cl, sent, ownS]
          cases g1 : underP p (L + 1) d with
          | true =>
            have g2 : underP (halfP p L) (L + 1) d = false := by
              cases g2 : underP (halfP p L) (L + 1) d with
              | false => rfl
              | true => exact absurd ⟨g1, g2⟩ h2
            rw [h1.2 (.inl g1), g2]; simp
          | false =>
            cases g2 : underP (halfP p L) (L + 1) d with
            | false => simp
            | true => rw [h1.2 (.inr g2)]; simp

theorem tot_step {A B : List It} (hAB : A.length + B.length ≤ 190) {σ : St} {i : Nat} {c : Bool} {m : Pc} (hok : Ok A B σ) (hi : i < σ.w.length) (he : σ.w[i] = (c, m)) (T : Bool) (d : List Int) :
    tot T d ((σ.out i).hear c m).w ((σ.out i).hear c m).t ≤ tot T d σ.w σ.t := by
  have hmem : (c, m) ∈ σ.w := by rw [← he]; exact List.getElem_mem hi
  have hg := hok.get c
  have hgl := ok_len hg.1 hg.2
  have hmw : m.WF := hok.wf _ hmem
  have h1 := hear_cl hg.1 (by omega) hmw T d c
  have hw : σ.w = σ.w.take i ++ (c, m) :: σ.w.drop (i + 1) := by rw [← he, ← List.drop_eq_getElem_cons hi, List.take_append_drop]
  have e1 : (σ.w.map fun x => cl T d x.1 x.2).sum = ((σ.out i).w.map fun x => cl T d x.1 x.2).sum + cl T d c m := by
    have h2 : (σ.out i).w = σ.w.take i ++ σ.w.drop (i + 1) := rfl
    rw [h2]
    conv => lhs; rw [hw]
    rw [List.map_append, List.map_append, sum_app, sum_app, List.map_cons, List.sum_cons]
    dsimp only
    omega
  have hsplit : ∀ v : List Pc, (v.map fun o => cl T d (!c) o + sent T d (!c) o).sum = (v.map fun o => cl T d (!c) o).sum + (v.map fun o => sent T d (!c) o).sum := fun v => by
    induction v with
    | nil => rfl
    | cons o v ih => simp only [List.map_cons, List.sum_cons, ih]; omega
  rw [hsplit] at h1
  have hsf := sent_filter T d (!c) (hearO (σ.get c) m)
  unfold tot
  have e2 : ((σ.out i).hear c m).w = (σ.out i).w ++ (hearO (σ.get c) m).map fun o => (!c, o) := rfl
  have e3 : ((σ.out i).hear c m).t = σ.t ++ ((hearO (σ.get c) m).filter Pc.isText).map fun o => (!c, o) := rfl
  rw [e2, e3, List.map_append, List.map_append, sum_app, sum_app, List.map_map, List.map_map, e1]
  simp only [Function.comp_def]
  omega

end Go.Proofs.P44
set_option linter.unusedVariables false
set_option linter.unusedSimpArgs false
namespace Go.Proofs.P44
open Go Go.Abs Go.Proofs Go.Proofs.K1 Go.Proofs.G44
set_option maxRecDepth 10000

structure Need (A B : List It) (σ : St) : Prop where
  k : Kept A B σ
  one : ∀ T d, tot T d σ.w σ.t ≤ 1
  names : ∀ u p L ns, (u, Pc.names p L ns) ∈ σ.w → ∀ a, hasB (sel A B (!u)) a = true → underP p L a = true → a ∈ ns
  want : ∀ u ns, (u, Pc.want ns) ∈ σ.w → ∀ a ∈ ns, hasB (sel A B (!u)) a = false
  text : ∀ x ∈ σ.t, ∃ t, x.2 = .text t ∧ hasB (sel A B x.1) (nameP t) = false ∧ ByteArray.size t ≤ 200

theorem kept_has {A B : List It} {σ : St} (h : Kept A B σ) {u : Bool} {a : List Int} (g : hasB (sel A B u) a = true) : hasB (sel σ.a σ.b u) a = true := by
  obtain ⟨x, hx, he⟩ := hasB_iff.1 g
  cases u
  · exact hasB_iff.2 ⟨x, h.a x hx, he⟩
  · exact hasB_iff.2 ⟨x, h.b x hx, he⟩

theorem need_start {A B : List It} : Need A B (st0 A B) := by
  refine ⟨⟨fun x hx => hx, fun x hx => hx⟩, fun T d => ?_, fun u p L ns h => ?_, fun u ns h => ?_, fun x hx => by cases hx⟩
  · simp only [tot, st0, List.map_cons, List.map_nil, List.sum_cons, List.sum_nil, cl, ownS]
    split <;> omega
  · have : (u, Pc.names p L ns) = (true, ownS z16 0 A) := by simpa [st0] using h
    cases this
  · have : (u, Pc.want ns) = (true, ownS z16 0 A) := by simpa [st0] using h
    cases this

theorem need_step {A B : List It} (hAB : A.length + B.length ≤ 190) {σ : St} {i : Nat} {c : Bool} {m : Pc} (h : Need A B σ) (hok : Ok A B σ) (hi : i < σ.w.length) (he : σ.w[i] = (c, m)) : Need A B ((σ.out i).hear c m) := by
  have hmem : (c, m) ∈ σ.w := by rw [← he]; exact List.getElem_mem hi
  have hmw : m.WF := hok.wf _ hmem
  have hg := hok.get c
  have hgl := ok_len hg.1 hg.2
  have htot := fun T d => tot_step hAB hok hi he T d
  -- the texts that are answered were lacking
  have texts : ∀ t, Pc.text t ∈ hearO (sel σ.a σ.b c) m → hasB (sel A B (!c)) (nameP t) = false := fun t ht => by
    cases m with
    | sum p L dg n =>
      rw [hearO] at ht
      split at ht
      · cases ht
      · split at ht
        · simp at ht
        · split at ht <;> simp [ownS] at ht
    | names p L ns =>
      simp only [hearO, List.mem_append, List.mem_map] at ht
      rcases ht with ht | ⟨x, hx, hxt⟩
      · split at ht <;> simp at ht
      · have hxt : x.2.1 = t := by simpa using hxt
        obtain ⟨hx1, hx2⟩ := List.mem_filter.1 hx
        obtain ⟨hx3, hx4⟩ := List.mem_filter.1 hx1
        have hn : x.1 = nameP t := by rw [← hxt]; exact (hg.1.2 x hx3).1
        rw [← hn]
        cases hb : hasB (sel A B (!c)) x.1 with
        | false => rfl
        | true =>
          have := h.names c p L ns hmem x.1 hb hx4
          simp [this] at hx2
    | want ns =>
      simp only [hearO, List.mem_filterMap, Option.map_eq_some_iff] at ht
      obtain ⟨a, ha, t', ht', hxt⟩ := ht
      have hxt : t' = t := by simpa using hxt
      subst hxt
      have hn : a = nameP t' := (hg.1.2 _ (findT_some hg.1 ht')).1
      rw [← hn]; exact h.want c ns hmem a ha
    | text t' => cases ht
  refine ⟨(h.k.out i).hear c m, fun T d => Nat.le_trans (htot T d) (h.one T d), ?_, ?_, ?_⟩
  · intro u p L ns hx a ha hu
    rcases mem_hear hx with hx | ⟨g1, g2⟩
    · exact h.names u p L ns (out_mem hx) a ha hu
    · have hux : u = !c := g1
      subst hux
      rw [Bool.not_not] at ha
      have g2 : Pc.names p L ns ∈ hearO (sel σ.a σ.b c) m := g2
      have hs := kept_has h.k ha
      cases m with
      | sum q M dg n =>
        rw [hearO] at g2
        split at g2
        · cases g2
        · split at g2
          · simp only [List.mem_singleton] at g2
            injection g2 with q1 q2 q3
            subst q1; subst q2; subst q3
            exact names_under.2 ⟨hs, hu⟩
          · split at g2 <;> simp [ownS] at g2
      | names q M ns' =>
        simp only [hearO, List.mem_append, List.mem_map] at g2
        rcases g2 with g2 | ⟨x, _, g2⟩
        · split at g2 <;> simp at g2
        · cases g2
      | want ns' =>
        simp only [hearO, List.mem_filterMap, Option.map_eq_some_iff] at g2
        obtain ⟨_, _, _, _, g2⟩ := g2
        cases g2
      | text t' => cases g2
  · intro u ns hx a ha
    rcases mem_hear hx with hx | ⟨g1, g2⟩
    · exact h.want u ns (out_mem hx) a ha
    · have hux : u = !c := g1
      subst hux
      rw [Bool.not_not]
      have g2 : Pc.want ns ∈ hearO (sel σ.a σ.b c) m := g2
      cases m with
      | sum q M dg n =>
        rw [hearO] at g2
        split at g2
        · cases g2
        · split at g2
          · simp at g2
          · split at g2 <;> simp [ownS] at g2
      | names q M ns' =>
        simp only [hearO, List.mem_append, List.mem_map] at g2
        rcases g2 with g2 | ⟨x, _, g2⟩
        · split at g2
          · simp only [List.mem_singleton] at g2
            injection g2 with q1
            subst q1
            have hl := (List.mem_filter.1 ha).2
            cases hb : hasB (sel A B c) a with
            | false => rfl
            | true => rw [kept_has h.k hb] at hl; simp at hl
          · simp at g2
        · cases g2
      | want ns' =>
        simp only [hearO, List.mem_filterMap, Option.map_eq_some_iff] at g2
        obtain ⟨_, _, _, _, g2⟩ := g2
        cases g2
      | text t' => cases g2
  · intro x hx
    rcases List.mem_append.1 hx with hx | hx
    · exact h.text x hx
    · obtain ⟨o, ho, rfl⟩ := List.mem_map.1 hx
      obtain ⟨ho1, ho2⟩ := List.mem_filter.1 ho
      cases o with
      | text t => exact ⟨t, rfl, texts t ho1, hearO_wf hg.1 (by omega) hmw _ ho1⟩
      | sum => cases ho2
      | names => cases ho2
      | want => cases ho2

theorem two_sum (f : Mv → Nat) : ∀ (l : List Mv) (i j : Nat) (hi : i < l.length) (hj : j < l.length), i < j → f l[i] = 1 → f l[j] = 1 → 2 ≤ (l.map f).sum
  | x :: l, 0, j + 1, hi, hj, _, h1, h2 => by
    have h2' : f (l[j]'(by simpa using hj)) = 1 := h2
    have h1' : f x = 1 := h1
    have : ∀ (l : List Mv) (j : Nat) (hj : j < l.length), f l[j] ≤ (l.map f).sum := fun l => by
      induction l with
      | nil => intro j hj; cases hj
      | cons y l ih =>
        intro j hj
        rw [List.map_cons, List.sum_cons]
        cases j with
        | zero => show f y ≤ _; omega
        | succ j => have := ih j (by simpa using hj); show f (l[j]'(by simpa using hj)) ≤ _; omega
    have := this l j (by simpa using hj)
    rw [List.map_cons, List.sum_cons]; omega
  | x :: l, i + 1, j + 1, hi, hj, hij, h1, h2 => by
    have := two_sum f l i j (by simpa using hi) (by simpa using hj) (by omega) h1 h2
    rw [List.map_cons, List.sum_cons]; omega

theorem sends_l3 (s2 : List Se → Int → List It → List It → (List (List It × Unit)) → Option Bool) (A B : List It) (S : List (List It × Unit)) {l : List Mv} (hl : l.length ≤ 10000000) (htx : ∀ x ∈ l, ∃ t, x.2 = .text t) {i : Nat} (hi : i < l.length)
    (hone : ∀ T d, (l.map fun x => sent T d x.1 x.2).sum ≤ 1) : ∀ (n k j : Nat), j + n = i → n < k →
    antiquarylaw44_ExchangeSendsOnlyWhatIsNeeded_l3 s2 k (l.map encS) (i : Int) (j : Int) A B S = s2 (l.map encS) ((i + 1 : Nat) : Int) A B S
  | 0, k, j, h1, h2 => by
    obtain ⟨k, rfl⟩ : ∃ k', k = k' + 1 := ⟨k - 1, by omega⟩
    have e : (i : Int) + 1 = ((i + 1 : Nat) : Int) := by omega
    unfold antiquarylaw44_ExchangeSendsOnlyWhatIsNeeded_l3
    rw [if_neg (by simp; omega), w64 _ (by omega), e]
  | n + 1, k, j, h1, h2 => by
    obtain ⟨k, rfl⟩ : ∃ k', k = k' + 1 := ⟨k - 1, by omega⟩
    have hj : j < l.length := by omega
    have e : (j : Int) + 1 = ((j + 1 : Nat) : Int) := by omega
    have hgj : List.getD (l.map encS) j (Kd.dflt KSe) = encS l[j] := by rw [getD_get _ j (by simpa using hj)]; simp
    have hgi : List.getD (l.map encS) i (Kd.dflt KSe) = encS l[i] := by rw [getD_get _ i (by simpa using hi)]; simp
    have ih := sends_l3 s2 A B S hl htx hi hone n k (j + 1) (by omega) (by omega)
    obtain ⟨tj, ej⟩ := htx _ (List.getElem_mem hj)
    obtain ⟨ti, ei⟩ := htx _ (List.getElem_mem hi)
    have l4 : antiquarylaw44_ExchangeSendsOnlyWhatIsNeeded_l4 s2 (antiquarylaw44_ExchangeSendsOnlyWhatIsNeeded_l3 s2 k) k (l.map encS) (i : Int) (j : Int) false A B S = s2 (l.map encS) ((i + 1 : Nat) : Int) A B S := by
      unfold antiquarylaw44_ExchangeSendsOnlyWhatIsNeeded_l4
      rw [if_neg (by simp), w64 _ (by omega), e, ih]
    unfold antiquarylaw44_ExchangeSendsOnlyWhatIsNeeded_l3
    rw [if_pos (by simp; omega), if_pos (by simp; omega), if_pos (by simp; omega), Int.toNat_natCast, Int.toNat_natCast, hgj, hgi]
    by_cases hT : ((encS l[j]).1 == (encS l[i]).1) = true
    · rw [if_pos hT, tl_eq]
      have hT : l[j].1 = l[i].1 := by
        have : b2i l[j].1 = b2i l[i].1 := by simpa [encS] using hT
        revert this
        cases l[j].1 <;> cases l[i].1 <;> simp [b2i]
      have hne : ¬ ((encS l[j]).2.1.2.2.2.2.2.1 = (encS l[i]).2.1.2.2.2.2.2.1) := fun ht => by
        have ht : l[j].2.enc.2.2.2.2.2.1 = l[i].2.enc.2.2.2.2.2.1 := ht
        rw [ej, ei] at ht
        have ht : tj = ti := ht
        have := two_sum (fun x => sent l[i].1 (nameP ti) x.1 x.2) l j i hj hi (by omega) (by simp [ej, sent_text, hT, ht]) (by simp [ei, sent_text])
        have := hone l[i].1 (nameP ti)
        omega
      rw [decide_eq_false hne]; exact l4
    · rw [if_neg hT]; exact l4

theorem sends_l2 {A B : List It} (hA : Stk A) (hB : Stk B) (hlA : A.length ≤ 190) (hlB : B.length ≤ 190) {σ : St} (hsa : Stk σ.a) (hla : σ.a.length ≤ 190) {l : List Mv} (hl : l.length ≤ 10000000)
    (htx : ∀ x ∈ l, ∃ t, x.2 = .text t ∧ hasB (sel A B x.1) (nameP t) = false ∧ ByteArray.size t ≤ 200) (hone : ∀ T d, (l.map fun x => sent T d x.1 x.2).sum ≤ 1) : ∀ (n k i : Nat), i + n = l.length → 20000000 + n < k →
    antiquarylaw44_ExchangeSendsOnlyWhatIsNeeded_l2 k (l.map encS) (i : Int) A B σ.stocks = some true
  | 0, k, i, h1, h2 => by
    obtain ⟨k, rfl⟩ : ∃ k', k = k' + 1 := ⟨k - 1, by omega⟩
    have hh := code_hear k (by omega) hsa (by omega) (own_wf zero_pre16 (l := σ.a) (by omega))
    have hO : hearO σ.a (ownS z16 0 σ.a) = [] := by
      show hearO σ.a (.sum z16 0 (sumP z16 0 σ.a) (namesP z16 0 σ.a).length) = []
      rw [hearO, if_pos ⟨rfl, rfl⟩]
    rw [hO] at hh
    have hh' : exchange_Hear k σ.a 1 z16 0 (sumP z16 0 σ.a) ((namesP z16 0 σ.a).length : Int) [] ⟨#[]⟩ = some (σ.a, [], 0) := hh
    unfold antiquarylaw44_ExchangeSendsOnlyWhatIsNeeded_l2
    rw [if_neg (by simp; omega), sel_stocks σ 0 (by omega)]
    rw [show sel σ.a σ.b (decide (0 = 1)) = σ.a from rfl, code_open k (by omega) σ.a (hsa.small (by omega)) hsa.rises, Option.bind_some]
    dsimp only
    rw [show List.replicate 16 (0 : Int) = z16 from rfl, hh', Option.bind_some, sanity_ge (by omega), Option.bind_some, if_pos rfl]
    rfl
  | n + 1, k, i, h1, h2 => by
    obtain ⟨k, rfl⟩ : ∃ k', k = k' + 1 := ⟨k - 1, by omega⟩
    have hi : i < l.length := by omega
    have hgi : List.getD (l.map encS) i (Kd.dflt KSe) = encS l[i] := by rw [getD_get _ i (by simpa using hi)]; simp
    have ih := sends_l2 hA hB hlA hlB hsa hla hl htx hone n k (i + 1) (by omega) (by omega)
    obtain ⟨t, et, hb, hs⟩ := htx _ (List.getElem_mem hi)
    have htxt : (encS l[i]).2.1.2.2.2.2.2.1 = t := by
      show l[i].2.enc.2.2.2.2.2.1 = t
      rw [et]; rfl
    have hc2 : (0 : Int) ≤ (encS l[i]).1 ∧ (encS l[i]).1 < 2 := by
      show 0 ≤ b2i l[i].1 ∧ b2i l[i].1 < 2
      cases l[i].1 <;> decide
    have hsel : (List.getD ([(A, ()), (B, ())] : List (List It × Unit)) (Int.toNat (encS l[i]).1) (Kd.dflt (Kd.pair (Kd.sl KI) Kd.unit))).1 = sel A B l[i].1 := by
      show (List.getD ([(A, ()), (B, ())] : List (List It × Unit)) (Int.toNat (b2i l[i].1)) _).1 = _
      cases l[i].1 <;> rfl
    have hstk : Stk (sel A B l[i].1) := by cases l[i].1 <;> assumption
    have hlen : (sel A B l[i].1).length ≤ 200 := by cases l[i].1 <;> (show List.length _ ≤ 200) <;> simp [sel] <;> omega
    obtain ⟨x, _, f, _⟩ := find_has k (by omega) hstk hlen (name_nm t)
    rw [hb, if_neg (by simp)] at f
    unfold antiquarylaw44_ExchangeSendsOnlyWhatIsNeeded_l2
    rw [if_pos (by simp; omega), if_pos (by simp; omega), Int.toNat_natCast, hgi, if_pos ⟨hc2.1, hc2.2, by simp⟩, if_pos (by have := hc2; simp; omega), htxt, ref_name k t (by omega) (by omega), Option.bind_some, hsel, f, Option.bind_some, if_neg (by simp)]
    refine Eq.trans (sends_l3 _ A B σ.stocks hl (fun x hx => ?_) hi hone i k 0 (by omega) (by omega)) ih
    obtain ⟨t, et, _⟩ := htx x hx
    exact ⟨t, et⟩

theorem pureExchangeSendsOnlyWhatIsNeeded (y0 : List ByteArray) (y1 : List ByteArray) (f0 : Kd.Fits (Kd.sl Kd.str) y0) (f1 : Kd.Fits (Kd.sl Kd.str) y1) : ∃ k, antiquarylaw44_ExchangeSendsOnlyWhatIsNeeded k y0 y1 = some true := by
  obtain ⟨K, hK⟩ : ∃ K, K = 40000000 := ⟨_, rfl⟩
  refine ⟨K, ?_⟩
  have sane := sanity_ge (k := K) (by omega)
  have l0t : antiquarylaw44_ExchangeSendsOnlyWhatIsNeeded_l0 K y0 y1 true = some true := by
    unfold antiquarylaw44_ExchangeSendsOnlyWhatIsNeeded_l0
    rw [if_pos rfl, sane]; rfl
  obtain ⟨b0, g0, w0⟩ := few_texts y0 K (by omega)
  obtain ⟨b1, g1, w1⟩ := few_texts y1 K (by omega)
  unfold antiquarylaw44_ExchangeSendsOnlyWhatIsNeeded
  rw [g0, Option.bind_some, g1, Option.bind_some]
  cases b0 with
  | false => rw [if_pos (by simp)]; exact l0t
  | true =>
    rw [if_neg (by simp)]
    cases b1 with
    | false => exact l0t
    | true =>
      obtain ⟨n0, s0⟩ := w0 rfl
      obtain ⟨n1, s1⟩ := w1 rfl
      obtain ⟨hA, lA⟩ := ofA_stk s0
      obtain ⟨hB, lB⟩ := ofA_stk s1
      obtain ⟨σ, hr, hneed, hok, hlt⟩ := run39_start hA hB (by omega) false K (by omega) (Need (ofA y0) (ofA y1)) need_start (fun σ i t c m h1 h2 h3 h4 h5 _ h7 => by
        have : t = 1 := h7 rfl
        subst this
        exact need_step (by omega) h1 h2 h3 h4)
      have la := ok_len hok.sa hok.ia
      unfold antiquarylaw44_ExchangeSendsOnlyWhatIsNeeded_l0
      rw [if_neg (by simp), code_of44 y0 (by omega) s0 _ (by omega), Option.bind_some, code_of44 y1 (by omega) s1 _ (by omega), Option.bind_some]
      dsimp only
      rw [if_neg (by simp)]
      unfold antiquarylaw44_ExchangeSendsOnlyWhatIsNeeded_l1
      rw [if_neg (by simp), hr, Option.bind_some]
      dsimp only
      by_cases hw : σ.w = []
      · rw [decide_eq_true hw, if_neg (by simp), if_neg (by simp)]
        exact sends_l2 hA hB (by omega) (by omega) hok.sa (by omega) hlt hneed.text (fun T d => by
          have := hneed.one T d
          unfold tot at this
          omega) σ.t.length K 0 (by omega) (by omega)
      · rw [decide_eq_false hw, if_pos (by simp), sane]; rfl

end Go.Proofs.P44
