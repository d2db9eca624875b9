/- The engine: an abstract machine that runs over the model's code, and its soundness. No condition. -/
import Derived.Test.YtbcbhhpbgnmpaaaDoorX1
import Derived.Laws.StructEq
import Derived.ChangeKeysEq
set_option linter.unusedVariables false
namespace Go.Abs
set_option linter.unusedSectionVars false
variable [Globs]

def eqScalar (P : Program) (t : TypeId) : Kd → Bool
  | .int k => match P.underlying t with | some (.int k') => k' == k | _ => false
  | .bool => match P.underlying t with | some .bool => true | _ => false
  | .str => match P.underlying t with | some .string => true | _ => false
  | _ => false

/-- a struct of scalars: its fields one behind the other -/
def eqOk (P : Program) : Kd → List Field → Nat → Bool
  | .unit, [], _ => true
  | .pair a b, f :: fs, off => !(f.name == "_") && f.offset == off && eqScalar P f.type a && eqOk P b fs (off + 1)
  | _, _, _ => false

def structOk (P : Program) (t : TypeId) (k : Kd) : Bool :=
  match P.underlying t with
  | some (.struct fs) => eqOk P k fs.toList 0 && !P.stoodInHeld t && !(P.eqGuardType P.depth t)
  | _ => false

section
variable {P : Program} {w : World} {O : Nat → Prop}

theorem eqScalar_run {t : TypeId} {k : Kd} (h : eqScalar P t k = true) {x y : k.T} {cx cy : List Value} (hx : Cells O w k x cx) (hy : Cells O w k y cy) (d : Nat) :
    ∃ u v, cx = [u] ∧ cy = [v] ∧ (Op.equalIn (d + 1) t u v).run P w = .ok (k.eqb x y) w ∧ (∀ e, P.underlying t ≠ some (.struct e)) ∧ (∀ n e, P.underlying t ≠ some (.array n e)) ∧ (P.underlying t).isSome = true := by
  cases k with
  | int k =>
    simp only [eqScalar] at h
    split at h
    · rename_i k' hu
      have hk : k' = k := by simpa using h
      subst hk
      simp only [Cells] at hx hy
      refine ⟨_, _, hx, hy, ?_, by rw [hu]; simp, by rw [hu]; simp, by rw [hu]; rfl⟩
      unfold Op.equalIn
      rw [Sem.run_bind, run_underlying hu, Result.andThen_ok]
      simp [Kd.eqb]
    · cases h
  | bool =>
    simp only [eqScalar] at h
    split at h
    · rename_i hu
      simp only [Cells] at hx hy
      refine ⟨_, _, hx, hy, ?_, by rw [hu]; simp, by rw [hu]; simp, by rw [hu]; rfl⟩
      unfold Op.equalIn
      rw [Sem.run_bind, run_underlying hu, Result.andThen_ok]
      rfl
    · cases h
  | str =>
    simp only [eqScalar] at h
    split at h
    · rename_i hu
      simp only [Cells] at hx hy
      refine ⟨_, _, hx, hy, ?_, by rw [hu]; simp, by rw [hu]; simp, by rw [hu]; rfl⟩
      unfold Op.equalIn
      rw [Sem.run_bind, run_underlying hu, Result.andThen_ok]
      rfl
    · cases h
  | _ => cases h

theorem run_part_one {t : TypeId} {cs : Array Value} {off : Nat} {v : Value} (h1 : ∀ e, P.underlying t ≠ some (.struct e)) (h2 : ∀ n e, P.underlying t ≠ some (.array n e)) (h3 : (P.underlying t).isSome = true)
    (h : cs[off]? = some v) : (part t cs off).run P w = .ok v w := by
  have hag : aggT P t = false := by
    unfold aggT
    split
    · rename_i e hu; exact absurd hu (h1 e)
    · rename_i n e hu; exact absurd hu (h2 n e)
    · rfl
  unfold part
  rw [Sem.run_bind, run_isAgg' h3, Result.andThen_ok, hag]
  simp [h]

/-- a value's kind where '==' is the kind's equality -/
def eqFs (P : Program) (o : TypeId → Kd → Bool) : Kd → List Field → Nat → Bool
  | .unit, [], _ => true
  | .pair a b, f :: fs, off => !(f.name == "_") && f.offset == off && o f.type a && P.cellsOf f.type == a.size && aggT P f.type == a.agg && okT P f.type && eqFs P o b fs (off + a.size)
  | _, _, _ => false

def eqGood (P : Program) : Nat → TypeId → Kd → Bool
  | 0, _, _ => false
  | n + 1, t, k => match P.underlying t, k with
    | some (.struct fs), .pair a b => eqFs P (eqGood P n) (.pair a b) fs.toList 0 && !P.stoodInHeld t
    | some (.struct fs), .unit => eqFs P (eqGood P n) .unit fs.toList 0 && !P.stoodInHeld t
    | some (.array m e), .arr m' ke => m == m' && eqGood P n e ke && P.cellsOf e == ke.size && aggT P e == ke.agg && okT P e
    | some (.int k'), .int k => k' == k
    | some .bool, .bool => true
    | some .string, .str => true
    | _, _ => false

/-- a value of a kind out of its cells -/
def ofCells (k : Kd) (c : List Value) : Value := if k.agg = true then .agg c.toArray else c.headD undef

theorem run_part_of {t : TypeId} {k : Kd} {cs : Array Value} {off : Nat} {c : List Value} (hok : okT P t = true) (hsz : P.cellsOf t = k.size) (hag : aggT P t = k.agg) (hc : (cs.toList.drop off).take k.size = c) (hl : c.length = k.size) :
    (part t cs off).run P w = .ok (ofCells k c) w := by
  obtain ⟨h1, h2⟩ := okT_iff hok
  unfold part
  rw [Sem.run_bind, run_isAgg' h2, Result.andThen_ok, hag]
  cases hg : k.agg with
  | true =>
    simp only [if_true, Sem.run_bind, run_sizeOf' h1, Result.andThen_ok, Sem.run_pure, hsz, ofCells, hg]
    congr 2
    apply Array.ext'
    simp only [Array.toList_extract, List.extract_eq_take_drop, ← hc]
    congr 1
    omega
  | false =>
    have hk1 : k.size = 1 := by cases k <;> simp [Kd.agg] at hg <;> rfl
    rw [hk1] at hc hl
    obtain ⟨v, rfl⟩ := List.length_eq_one_iff.1 hl
    have : cs[off]? = some v := by
      have := congrArg (fun l => l[0]?) hc
      simpa using this
    simp [this, ofCells, hg]

theorem eqGood_run : ∀ (m : Nat) (t : TypeId) (k : Kd), eqGood P m t k = true → ∀ {x y : k.T} {cx cy : List Value}, Cells O w k x cx → Cells O w k y cy → ∀ d, (Op.equalIn (d + m) t (ofCells k cx) (ofCells k cy)).run P w = .ok (k.eqb x y) w := by
  intro m
  induction m with
  | zero => intro t k h; cases h
  | succ m ih =>
    intro t k h x y cx cy hx hy d
    have fields : ∀ (k : Kd) (fs : List Field) (off : Nat) {x y : k.T} {cx cy : List Value} {xs ys : Array Value}, eqFs P (eqGood P m) k fs off = true → Cells O w k x cx → Cells O w k y cy →
        xs.toList.drop off = cx → ys.toList.drop off = cy → (Op.eqFields (d + m) xs ys fs).run P w = .ok (k.eqb x y) w := by
      intro k
      induction k with
      | pair a b _ ihb =>
        intro fs off x y cx cy xs ys h hx hy hxs hys
        cases fs with
        | nil => cases h
        | cons f fs =>
          simp only [eqFs, Bool.and_eq_true, Bool.not_eq_true', beq_iff_eq, beq_eq_false_iff_ne] at h
          obtain ⟨⟨⟨⟨⟨⟨hn, hoff⟩, hsc⟩, hsz⟩, hag⟩, hok⟩, hrest⟩ := h
          obtain ⟨c1, c2, rfl, hx1, hx2⟩ := hx
          obtain ⟨d1, d2, rfl, hy1, hy2⟩ := hy
          have l1 := hx1.length
          have l2 := hy1.length
          have gx : (xs.toList.drop off).take a.size = c1 := by rw [hxs, ← l1, List.take_left]
          have gy : (ys.toList.drop off).take a.size = d1 := by rw [hys, ← l2, List.take_left]
          have tx : xs.toList.drop (off + a.size) = c2 := by rw [← List.drop_drop, hxs, ← l1, List.drop_left]
          have ty : ys.toList.drop (off + a.size) = d2 := by rw [← List.drop_drop, hys, ← l2, List.drop_left]
          have hr := ihb fs (off + a.size) hrest hx2 hy2 tx ty
          have he := ih f.type a hsc hx1 hy1 d
          have hn' : f.name ≠ "_" := hn
          rw [Op.eqFields]
          rw [if_pos (show f.name ≠ "_" from hn')]
          simp only [Sem.run_bind, hoff, run_part_of hok hsz hag gx l1, run_part_of hok hsz hag gy l2, he, Result.andThen_ok]
          show _ = Result.ok (a.eqb x.1 y.1 && b.eqb x.2 y.2) w
          cases hq : a.eqb x.1 y.1
          · simp
          · simpa using hr
      | unit =>
        intro fs off x y cx cy xs ys h hx hy hxs hys
        cases fs with
        | nil => simp [Op.eqFields, Kd.eqb]
        | cons => cases h
      | _ => intro fs off x y cx cy xs ys h; cases fs <;> cases h
    have struct : ∀ (k : Kd) (fs : Array Field), P.underlying t = some (.struct fs) → k.agg = true → eqFs P (eqGood P m) k fs.toList 0 = true → P.stoodInHeld t = false → ∀ {x y : k.T} {cx cy : List Value}, Cells O w k x cx → Cells O w k y cy →
        (Op.equalIn (d + (m + 1)) t (ofCells k cx) (ofCells k cy)).run P w = .ok (k.eqb x y) w := by
      intro k fs hu hg h1 h2 x y cx cy hx hy
      have hf : P.fieldsOf t = fs := by simp [Program.fieldsOf, hu]
      unfold ofCells
      rw [if_pos hg, if_pos hg, ← Nat.add_assoc, run_equalIn_struct (P := P) w (d + m) t cx.toArray cy.toArray (by rw [hf]; exact hu) h2, hf]
      exact fields k fs.toList 0 h1 hx hy (by simp) (by simp)
    unfold eqGood at h
    split at h
    · rename_i fs a b hu
      simp only [Bool.and_eq_true, Bool.not_eq_true'] at h
      exact struct _ fs hu rfl h.1 h.2 hx hy
    · rename_i fs hu
      simp only [Bool.and_eq_true, Bool.not_eq_true'] at h
      exact struct _ fs hu rfl h.1 h.2 hx hy
    · rename_i n e n' ke hu
      simp only [Bool.and_eq_true, beq_iff_eq] at h
      obtain ⟨⟨⟨⟨rfl, h1⟩, hsz⟩, hag⟩, hok⟩ := h
      obtain ⟨hxl, css, rfl, hxa⟩ := hx
      obtain ⟨hyl, dss, rfl, hya⟩ := hy
      obtain ⟨i, hi⟩ := Option.isSome_iff_exists.1 (okT_iff hok).1
      unfold ofCells
      rw [if_pos (c := (Kd.arr n ke).agg = true) rfl, if_pos (c := (Kd.arr n ke).agg = true) rfl, ← Nat.add_assoc, run_equalIn_array (P := P) w (d + m) css.flatten.toArray dss.flatten.toArray hu hi, hsz]
      have items : ∀ (q p : Nat) (xs ys : List ke.T) (cs ds : List (List Value)), All2 (Cells O w ke) xs cs → All2 (Cells O w ke) ys ds → xs.length = q → ys.length = q → css.drop p = cs → dss.drop p = ds →
          (Op.eqItems (d + m) e ke.size css.flatten.toArray dss.flatten.toArray (List.range' p q)).run P w = .ok ((List.zipWith (fun a b => ke.eqb a b) xs ys).all id) w := by
        intro q
        induction q with
        | zero =>
          intro p xs ys cs ds _ _ hxs hys _ _
          have : xs = [] := List.eq_nil_of_length_eq_zero hxs
          subst this
          simp [Op.eqItems]
        | succ q ihq =>
          intro p xs ys cs ds hxs' hys' hxs hys hcs hds
          match xs, cs, ys, ds, hxs', hys' with
          | x0 :: xs, c0 :: cs, y0 :: ys, d0 :: ds, hxs', hys' =>
            have l1 := hxs'.1.length
            have l2 := hys'.1.length
            have g1 : (css.flatten.toArray.toList.drop (p * ke.size)).take ke.size = c0 := by
              show (css.flatten.drop (p * ke.size)).take ke.size = c0
              rw [← flatten_drop' hxa, hcs, List.flatten_cons, ← l1, List.take_left]
            have g2 : (dss.flatten.toArray.toList.drop (p * ke.size)).take ke.size = d0 := by
              show (dss.flatten.drop (p * ke.size)).take ke.size = d0
              rw [← flatten_drop' hya, hds, List.flatten_cons, ← l2, List.take_left]
            have he := ih e ke h1 hxs'.1 hys'.1 d
            have hr := ihq (p + 1) xs ys cs ds hxs'.2 hys'.2 (by simpa using hxs) (by simpa using hys) (by rw [← List.drop_drop, hcs]; rfl) (by rw [← List.drop_drop, hds]; rfl)
            rw [List.range'_succ, Op.eqItems]
            simp only [Sem.run_bind, run_part_of hok hsz hag g1 l1, run_part_of hok hsz hag g2 l2, he, Result.andThen_ok]
            simp only [List.zipWith_cons_cons, List.all_cons, id]
            cases hq : ke.eqb x0 y0
            · simp
            · simpa using hr
          | [], _, _, _, _, _ => cases hxs
          | _ :: _, _, [], _, _, _ => cases hys
          | _ :: _, [], _, _, h, _ => exact h.elim
          | _ :: _, _, _ :: _, [], _, h => exact h.elim
      rw [List.range_eq_range']
      exact items n 0 x y css dss hxa hya hxl hyl rfl rfl
    · rename_i k' k hu
      have hk : k' = k := by simpa using h
      subst hk
      simp only [Cells] at hx hy
      subst hx hy
      show (Op.equalIn (d + m + 1) t (.int k' x) (.int k' y)).run P w = _
      unfold Op.equalIn
      rw [Sem.run_bind, run_underlying hu, Result.andThen_ok]
      simp [Kd.eqb]
    · rename_i hu
      simp only [Cells] at hx hy
      subst hx hy
      show (Op.equalIn (d + m + 1) t (.bool x) (.bool y)).run P w = _
      unfold Op.equalIn
      rw [Sem.run_bind, run_underlying hu, Result.andThen_ok]
      rfl
    · rename_i hu
      simp only [Cells] at hx hy
      subst hx hy
      show (Op.equalIn (d + m + 1) t (.string x) (.string y)).run P w = _
      unfold Op.equalIn
      rw [Sem.run_bind, run_underlying hu, Result.andThen_ok]
      rfl
    · cases h

def structOk2 (P : Program) (t : TypeId) (k : Kd) : Bool := k.agg && eqGood P 12 t k && !(P.eqGuardType P.depth t)

theorem structEq_of {t : TypeId} {k : Kd} (h : structOk2 P t k = true) : StructEq P t k := by
  simp only [structOk2, Bool.and_eq_true, Bool.not_eq_true'] at h
  obtain ⟨⟨hg, hok⟩, hgt⟩ := h
  intro O w x y cx cy hx hy
  refine ⟨fun op p q => ?_, ?_⟩
  · unfold eqGuard
    cases op <;> simp [hgt]
  · have h2 := eqGood_run 12 t k hok hx hy 9988
    unfold ofCells at h2
    rw [if_pos hg, if_pos hg] at h2
    exact h2
end
end Go.Abs
namespace Go.Abs
set_option linter.unusedSectionVars false
variable [Globs]
theorem br_inv {α : Type} {c : Bool} {a b : Option α} {r : α} (h : (if c = true then a else b) = some r) : (c = true ∧ a = some r) ∨ (c = false ∧ b = some r) := by
  cases c with
  | true => exact .inl ⟨rfl, h⟩
  | false => exact .inr ⟨rfl, h⟩
theorem gd_inv {α : Type} {p : Prop} [Decidable p] {a : Option α} {r : α} (h : (if p then a else none) = some r) : p ∧ a = some r := by
  by_cases hp : p
  · rw [if_pos hp] at h; exact ⟨hp, h⟩
  · rw [if_neg hp] at h; cases h
theorem bind_inv {α β : Type} {x : Option α} {f : α → Option β} {r : β} (h : Option.bind x f = some r) : ∃ y, x = some y ∧ f y = some r := by
  cases x with
  | none => cases h
  | some y => exact ⟨y, rfl, h⟩
theorem appBound {P : Program} {et b n m : Nat} (hb : P.bytesOf et = b) (h0 : 0 < b) (h : n + m ≤ 140737488355328 / b) : AppBound P et n m := by
  have h1 : (n + m) * b ≤ 140737488355328 := Nat.le_trans (Nat.mul_le_mul_right _ h) (Nat.div_mul_le_self _ _)
  refine ⟨?_, by rw [hb]; exact h1⟩
  have : n + m ≤ (n + m) * b := Nat.le_mul_of_pos_right _ h0
  have hm : (140737488355328 : Nat) ≤ maxLen := by decide
  omega
end Go.Abs
