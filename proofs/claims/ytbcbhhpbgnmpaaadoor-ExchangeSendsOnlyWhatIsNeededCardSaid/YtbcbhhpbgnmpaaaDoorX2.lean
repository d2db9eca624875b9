/- The engine: an abstract machine that runs over the model's code, and its soundness. No condition. -/
import Derived.Test.YtbcbhhpbgnmpaaaDoorX1
import Derived.ChangeArms
import Derived.DataReads
import Derived.Below
import Derived.OpenShut
import Derived.WideShapes
set_option linter.unusedVariables false
set_option linter.unusedSimpArgs false
namespace Go.Abs
set_option linter.unusedSectionVars false
variable [Globs]

def Kd.Fits : (k : Kd) → k.T → Prop
  | .int k, n => k.min ≤ (n : Int) ∧ (n : Int) ≤ k.max
  | .bool, _ => True
  | .str, s => ByteArray.size s ≤ maxLen
  | .sl e, l => List.length l ≤ maxLen ∧ ∀ x ∈ (l : List e.T), e.Fits x
  | .unit, _ => True
  | .pair a b, x => a.Fits x.1 ∧ b.Fits x.2
  | .arr n e, l => List.length l = n ∧ ∀ x ∈ (l : List e.T), e.Fits x

def opensFs (P : Program) (o : TypeId → Kd → Bool) : List Field → Nat → Kd → Bool
  | [], _, .unit => true
  | f :: fs, off, .pair a b => (f.offset == off && P.cellsOf f.type == a.size && o f.type a) && opensFs P o fs (off + a.size) b
  | _, _, _ => false

def opens (P : Program) : Nat → TypeId → Kd → Bool
  | 0, _, _ => false
  | n + 1, t, k => match P.underlying t, k with
    | some (.int k'), .int k => decide (k' = k)
    | some .bool, .bool => true
    | some .string, .str => true
    | some (.slice e), .sl ke => opens P n e ke && P.cellsOf e == ke.size
    | some (.array m e), .arr m' ke => decide (m = m') && opens P n e ke && P.cellsOf e == ke.size && P.cellsOf t == m * ke.size
    | some (.struct fs), .pair a b => P.cellsOf t == a.size + b.size && opensFs P (opens P n) fs.toList 0 (.pair a b)
    | some (.struct fs), .unit => P.cellsOf t == 0 && opensFs P (opens P n) fs.toList 0 .unit
    | _, _ => false

theorem addr_add (a : Addr) (i j : Nat) : (a.add i).add j = a.add (i + j) := by
  unfold Addr.add
  by_cases hi : i = 0
  · subst hi; simp
  · by_cases hj : j = 0
    · subst hj; simp [hi]
    · simp [hi, hj, Nat.add_assoc]

theorem cell_none {w : World} {a : Addr} {v : Value} (h : w.cell? a = some v) : a.spot = none := by
  unfold World.cell? at h
  split at h
  · cases hs : a.spot with
    | none => rfl
    | some _ => simp [hs] at h
  · cases h

theorem cell_add {w : World} {a : Addr} {j : Nat} {v : Value} (h : w.cell? (a.add j) = some v) : w.cell? ⟨a.block, a.off + j, none⟩ = some v := by
  have hs := cell_none h
  unfold Addr.add at h hs
  split at h
  · rename_i hj
    subst hj
    rw [if_pos rfl] at hs
    cases a
    simp_all
  · exact h

section
variable {H : Type} {enc : TypeId × Value → H} {P : Program} {w : World} {sp : Nat → Bool} {held : Bool}

theorem open_kd : ∀ (n : Nat) (t : TypeId) (k : Kd), opens P n t k = true → ∀ (fuel : Nat) (cs : List Value) (x : DataW H × List MemPlace), DataW.trod enc P w 0 sp held fuel t cs = some x →
    ∃ y : k.T, Cells (fun _ => False) w k y cs ∧ k.Fits y := by
  intro n
  induction n with
  | zero => intro t k h; cases h
  | succ n ih =>
    intro t k h fuel cs x hx
    have fields : ∀ (fs : List Field) (off : Nat) (k : Kd) (xs : List (DataW H × List MemPlace)) (m : Nat) (cs' : List Value), opensFs P (opens P n) fs off k = true → cs'.length = k.size →
        (∀ (i : Nat) (f : Field), fs[i]? = some f → DataW.trod enc P w 0 sp held m f.type ((cs'.drop (f.offset - off)).take (P.cellsOf f.type)) = xs[i]?) → xs.length = fs.length →
        ∃ y : k.T, Cells (fun _ => False) w k y cs' ∧ k.Fits y := by
      intro fs
      induction fs with
      | nil =>
        intro off k xs m cs' ho hl hf hxl
        cases k <;> try (cases ho; done)
        exact ⟨(), List.eq_nil_of_length_eq_zero hl, trivial⟩
      | cons f fs ihf =>
        intro off k xs m cs' ho hl hf hxl
        cases k with
        | pair a b =>
          simp only [opensFs, Bool.and_eq_true, beq_iff_eq] at ho
          obtain ⟨⟨⟨h1, h2⟩, h3⟩, h4⟩ := ho
          cases xs with
          | nil => cases hxl
          | cons x0 xs =>
            have hf0 := hf 0 f rfl
            rw [h1, Nat.sub_self, List.drop_zero, h2] at hf0
            obtain ⟨y1, c1, f1⟩ := ih f.type a h3 m _ x0 hf0
            have hsz : cs'.length = a.size + b.size := hl
            have off_le : ∀ (fs : List Field) (off : Nat) (k : Kd), opensFs P (opens P n) fs off k = true → ∀ (i : Nat) (g : Field), fs[i]? = some g → off ≤ g.offset := by
              intro fs
              induction fs with
              | nil => intro off k _ i g hg; cases hg
              | cons g0 gs ihg =>
                intro off k ho i g hg
                cases k <;> try (cases ho; done)
                simp only [opensFs, Bool.and_eq_true, beq_iff_eq] at ho
                cases i with
                | zero => simp at hg; subst hg; omega
                | succ i => have := ihg _ _ ho.2 i g (by simpa using hg); omega
            obtain ⟨y2, c2, f2⟩ := ihf (off + a.size) b xs m (cs'.drop a.size) h4 (by rw [List.length_drop]; omega) (fun i g hg => by
              have := hf (i + 1) g (by simpa using hg)
              have hle := off_le fs (off + a.size) b h4 i g hg
              rw [List.drop_drop]
              rw [show a.size + (g.offset - (off + a.size)) = g.offset - off by omega]
              simpa using this) (by simpa using hxl)
            exact ⟨(y1, y2), ⟨cs'.take a.size, cs'.drop a.size, (List.take_append_drop _ _).symm, c1, c2⟩, f1, f2⟩
        | _ => cases ho
    unfold opens at h
    split at h
    · rename_i k' k hu
      have hk : k' = k := of_decide_eq_true h
      subst hk
      obtain ⟨m, rfl, _, hw⟩ := DataW.trod_int hu hx
      simp only [Lit.wf, Bool.and_eq_true, decide_eq_true_eq] at hw
      exact ⟨m, rfl, hw⟩
    · rename_i hu
      obtain ⟨b, rfl, _⟩ := DataW.trod_bool hu hx
      exact ⟨b, rfl, trivial⟩
    · rename_i hu
      obtain ⟨s, rfl, _, hs⟩ := DataW.trod_string hu hx
      exact ⟨s, rfl, hs⟩
    · rename_i e ke hu
      simp only [Bool.and_eq_true, beq_iff_eq] at h
      obtain ⟨ho, hc⟩ := h
      rcases DataW.trod_slice hu hx with ⟨rfl, _⟩ | ⟨a, len, cap, elems, rest, m, _, rfl, _, _, hl, hm, hlen, hel, _, _⟩
      · exact ⟨([] : List ke.T), ⟨none, 0, rfl, Nat.le_refl _, fun _ => ⟨rfl, rfl⟩, fun ad had => by cases had⟩, Nat.zero_le _, fun x hx => by cases hx⟩
      · have key : ∀ q, q ≤ len → ∃ (l : List ke.T) (css : List (List Value)), l.length = q ∧ All2 (Cells (fun _ => False) w ke) l css ∧ (∀ y ∈ l, ke.Fits y) ∧ w.rangeAt a.block a.off css.flatten ∧ (css.flatten ≠ [] → a.spot = none) := by
          intro q
          induction q with
          | zero => intro _; exact ⟨[], [], rfl, trivial, fun y hy => (by cases hy), fun j v hv => (by simp at hv), fun h => absurd rfl h⟩
          | succ q ihq =>
            intro hq
            obtain ⟨l, css, hl1, h1, h2, h3, h4⟩ := ihq (by omega)
            have := hel q (by omega)
            have hq' : q < elems.length := by omega
            rw [List.getElem?_eq_getElem hq'] at this
            obtain ⟨ci, hci, htr⟩ := Option.bind_eq_some_iff.1 this
            obtain ⟨_, hcl, hcell⟩ := World.cells?_some hci
            obtain ⟨y, hy1, hy2⟩ := ih e ke ho m ci _ htr
            have hfl : css.flatten.length = q * ke.size := by rw [flatten_length h1, hl1]
            have hcl' : ci.length = ke.size := by rw [hcl, hc]
            have hat : ∀ j v, ci[j]? = some v → w.cell? (a.add (q * ke.size + j)) = some v := by
              intro j v hv
              have hj : j < ci.length := (List.getElem?_eq_some_iff.1 hv).1
              have := hcell j (by omega)
              rw [addr_add, hc] at this
              rw [this]; exact hv
            refine ⟨l ++ [y], css ++ [ci], by simp [hl1], h1.append ⟨hy1, trivial⟩, fun z hz => ?_, fun j v hv => ?_, fun hne => ?_⟩
            · rcases List.mem_append.1 hz with hz | hz
              · exact h2 z hz
              · simp at hz; subst hz; exact hy2
            · rw [List.flatten_append] at hv
              simp only [List.flatten_cons, List.flatten_nil, List.append_nil] at hv
              by_cases hj : j < css.flatten.length
              · rw [List.getElem?_append_left hj] at hv; exact h3 j v hv
              · rw [List.getElem?_append_right (by omega)] at hv
                have := hat _ v hv
                rw [hfl, show q * ke.size + (j - q * ke.size) = j by omega] at this
                exact cell_add this
            · by_cases hp : css.flatten = []
              · rw [List.flatten_append, hp] at hne
                simp only [List.flatten_cons, List.flatten_nil, List.append_nil, List.nil_append] at hne
                have hz : q * ke.size = 0 := by rw [← hfl, hp]; rfl
                cases hci' : ci with
                | nil => exact absurd hci' hne
                | cons v r =>
                  have := hat 0 v (by rw [hci']; rfl)
                  rw [hz] at this
                  exact cell_none this
              · exact h4 hp
        obtain ⟨l, css, k1, k2, k3, k4, k5⟩ := key len (Nat.le_refl _)
        refine ⟨l, ⟨some a, cap, by rw [k1], by rw [k1]; exact hl, fun h => (by cases h), fun ad had => ?_⟩, by rw [k1]; omega, k3⟩
        cases had
        exact ⟨css, k2, fun hne => ⟨k5 hne, id⟩, k4⟩
    · rename_i m e m' ke hu
      simp only [Bool.and_eq_true, beq_iff_eq, decide_eq_true_eq] at h
      obtain ⟨⟨⟨hm, ho⟩, hc⟩, ht⟩ := h
      subst hm
      obtain ⟨xs, mm, _, _, hlen, hxl, hel⟩ := DataW.trod_array hu hx
      have key : ∀ q, q ≤ m → ∃ (l : List ke.T) (css : List (List Value)), l.length = q ∧ All2 (Cells (fun _ => False) w ke) l css ∧ (∀ y ∈ l, ke.Fits y) ∧ css.flatten = cs.take (q * ke.size) := by
        intro q
        induction q with
        | zero => intro _; exact ⟨[], [], rfl, trivial, fun y hy => (by cases hy), by simp⟩
        | succ q ihq =>
          intro hq
          obtain ⟨l, css, hl1, h1, h2, h3⟩ := ihq (by omega)
          have := hel q (by omega)
          have hq' : q < xs.length := by omega
          rw [List.getElem?_eq_getElem hq', hc] at this
          obtain ⟨y, hy1, hy2⟩ := ih e ke ho mm _ _ this
          refine ⟨l ++ [y], css ++ [(cs.drop (q * ke.size)).take ke.size], by simp [hl1], h1.append ⟨hy1, trivial⟩, fun z hz => ?_, ?_⟩
          · rcases List.mem_append.1 hz with hz | hz
            · exact h2 z hz
            · simp at hz; subst hz; exact hy2
          · rw [List.flatten_append, h3]
            simp only [List.flatten_cons, List.flatten_nil, List.append_nil]
            rw [Nat.add_mul, Nat.one_mul, List.take_add]
      obtain ⟨l, css, k1, k2, k3, k4⟩ := key m (Nat.le_refl _)
      refine ⟨l, ⟨k1, css, ?_, k2⟩, k1, k3⟩
      rw [k4, List.take_of_length_le (by omega)]
    · rename_i fs a b hu
      simp only [Bool.and_eq_true, beq_iff_eq] at h
      obtain ⟨xs, m, _, _, hl, hxl, hf⟩ := DataW.trod_struct hu hx
      exact fields fs.toList 0 (.pair a b) xs m cs h.2 (by rw [hl, h.1]; rfl) (fun i f hif => by rw [Nat.sub_zero]; exact hf i f (by simpa using hif)) (by simpa using hxl)
    · rename_i fs hu
      simp only [Bool.and_eq_true, beq_iff_eq] at h
      obtain ⟨xs, m, _, _, hl, hxl, hf⟩ := DataW.trod_struct hu hx
      exact fields fs.toList 0 .unit xs m cs h.2 (by rw [hl, h.1]; rfl) (fun i f hif => by rw [Nat.sub_zero]; exact hf i f (by simpa using hif)) (by simpa using hxl)
    · cases h
end
end Go.Abs
set_option linter.unusedVariables false
set_option linter.unusedSimpArgs false
namespace Go.Abs
set_option linter.unusedSectionVars false
variable [Globs]
open Go.RowKit

theorem own_none (base : Nat → Prop) (ρ : Nat → Loc) : Own base (est []) ρ = base := by
  funext b
  simp only [Own, est, List.map_nil]
  refine propext ⟨fun h => ?_, fun h => .inl h⟩
  rcases h with h | ⟨r, h, _⟩
  · exact h
  · cases h

theorem law_calls {P : Program} {f : Nat} {args : List AV} {cargs : List Value} {w : World} {ρ : Nat → Loc} (h : SpecOk P ⟨f, args, [], .v (.p .bool true), []⟩) (hgl : GlobOk (fun _ => False) w) (ha : All2 (VRel (fun _ => False) ρ w) args cargs) :
    Calls P f cargs.toArray w fun e w' => e = .returned (.bool true) ∧ Below w.heap.size w w' := by
  have hl : ∀ b, ¬ Live (est []) ρ b := fun b hb => by
    obtain ⟨r, hr, _⟩ := hb
    cases hr
  intro cs
  obtain ⟨e, w', fr, ⟨v, ρ', rfl, _, _, hv, _, hf⟩, h2⟩ := h w (fun _ => False) ρ cargs (fun _ hb => hb.elim) ⟨fun r x hx => (by cases hx), fun r r' b hr => (by cases hr), fun r b hr => (by cases hr)⟩ (by rw [own_none]; exact hgl) (by rw [own_none]; exact ha) cs
  refine ⟨_, w', fr, ⟨?_, ⟨hf.os, hf.tape, hf.output, hf.size, fun k hk => hf.block k hk (hl k)⟩⟩, h2⟩
  have : v = .bool true := VRel.p_bool hv
  rw [this]

theorem arg_rel {H : Type} {enc : TypeId × Value → H} {P : Program} {W : World} {sp : Nat → Bool} {held : Bool} {base n : Nat} {t : TypeId} {k : Kd} {v : Value} {d : DataW H} {ps : List MemPlace} {ρ : Nat → Loc}
    (ho : opens P n t k = true) (hw : Value.okWide P W .any base t v) (ht : DataW.Trod enc P W 0 sp held t v d ps) : ∃ y : k.T, VRel (fun _ => False) ρ W (AV.nf (.p k y)) v ∧ k.Fits y := by
  obtain ⟨fuel, hf⟩ := ht
  obtain ⟨y, hc, hfit⟩ := open_kd n t k ho fuel _ _ hf
  refine ⟨y, VRel.nf ?_, hfit⟩
  cases n with
  | zero => cases ho
  | succ n =>
    have single : k.agg = false → v.cells.toList = [v] → VRel (fun _ => False) ρ W (.p k y) v := fun hk hv => .inr (.inr ⟨hk, by rw [hv] at hc; exact .p hc⟩)
    have many : ∀ cs : Array Value, k.agg = true → v = .agg cs → VRel (fun _ => False) ρ W (.p k y) v := fun cs hk hv => by
      subst hv
      exact .inr (.inl ⟨hk, cs.toList, by simp, .p hc⟩)
    unfold opens at ho
    split at ho
    · rename_i hu
      obtain ⟨m, rfl⟩ := Go.WideShapes.okWide_int hu hw
      exact single rfl rfl
    · rename_i hu
      obtain ⟨m, rfl⟩ := Go.WideShapes.okWide_bool hu hw
      exact single rfl rfl
    · rename_i hu
      obtain ⟨m, rfl⟩ := Go.WideShapes.okWide_string hu hw
      exact single rfl rfl
    · rename_i e ke hu
      obtain ⟨a, len, cap, rfl⟩ := Go.WideShapes.okWide_slice hu hw
      exact single rfl rfl
    · rename_i m e m' ke hu
      simp only [Value.okWide, hu] at hw
      obtain ⟨cs, hv, _⟩ := hw
      exact many cs rfl hv
    · rename_i fs a b hu
      simp only [Value.okWide, hu] at hw
      obtain ⟨cs, hv, _⟩ := hw
      exact many cs rfl hv
    · rename_i fs hu
      simp only [Value.okWide, hu] at hw
      obtain ⟨cs, hv, _⟩ := hw
      exact many cs rfl hv
    · cases ho
end Go.Abs
