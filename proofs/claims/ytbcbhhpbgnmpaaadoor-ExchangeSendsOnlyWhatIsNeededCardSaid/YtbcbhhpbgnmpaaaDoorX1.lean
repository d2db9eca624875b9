/- The engine: an abstract machine that runs over the model's code, and its soundness. No condition. -/
import Derived.Test.YtbcbhhpbgnmpaaaDoorX0
import Derived.Lib.AppendStr
import Derived.Laws.BytesString
import Derived.Laws.StructEq
import Derived.ChangeKeysEq
set_option linter.unusedVariables false
set_option linter.unusedSimpArgs false
namespace Go.Abs
set_option linter.unusedSectionVars false
variable [Globs]

section
variable {P : Program} {c : Cx} {ρ : Nat → Loc} {st : St} {a : Act} {w : World}

theorem zeroOf_some {t : TypeId} {k : Kd} {zs : List AV} (h : zeroOf P t = some (k, zs)) : ∃ i z, P.info? t = some i ∧ i.zero = some z ∧ k.zmatch z.cells.toList = some [] ∧ i.size = k.size ∧ aggT P t = k.agg ∧ zs = k.zeros := by
  unfold zeroOf at h
  cases hk : kdOf P 12 t with
  | none => rw [hk] at h; cases h
  | some k' =>
    cases hi : P.info? t with
    | none => rw [hk, hi] at h; cases h
    | some i =>
      rw [hk, hi] at h
      dsimp only at h
      cases hz : i.zero with
      | none => rw [hz] at h; cases h
      | some z =>
        rw [hz] at h
        dsimp only at h
        split at h
        · rename_i hm
          split at h
          · rename_i hq
            cases h
            exact ⟨i, z, rfl, hz, hm, hq.1, hq.2, rfl⟩
          · cases h
        · cases h

theorem run_zeroValue' {t : TypeId} {i : TypeInfo} {z : Value} (hi : P.info? t = some i) (hz : i.zero = some z) (w : World) : (zeroValue t).run P w = .ok z w := by
  simp [zeroValue, typeInfo, hi, hz]

theorem Kd.zeros_refs : ∀ (k : Kd), AV.refsL k.zeros = []
  | .pair a b => by simp only [Kd.zeros, refsL_append, Kd.zeros_refs a, Kd.zeros_refs b, List.append_nil]
  | .unit => rfl
  | .int _ => rfl
  | .bool => rfl
  | .str => rfl
  | .sl _ => rfl
  | .arr _ _ => rfl

theorem newBox (sim : SimR c ρ st a w) {d : Nat} (hd : d < c.n) (hfresh : ∀ k x, St.get k st = some x → d ∉ x.refs) (hk : d ∉ c.kp) {cs : List AV} {vals : Array Value} (t : TypeId)
    (hc : CsRel (Own c.base st ρ) ρ w cs vals.toList) (hr : d ∉ AV.refsL cs) :
    SimR c (upd ρ d (.box w.heap.size)) ((ek d, some (.box cs)) :: (sk d, some (.v (.ptr d 0))) :: st) (a.put (some d) (.pointer (some ⟨w.heap.size, 0, none⟩))) (w.alloc (.cells vals t)) := by
  have hsz : (w.alloc (.cells vals t)).heap.size = w.heap.size + 1 := by show (w.heap.push _).size = _; simp
  refine sim.create hd hfresh hk (by omega) (fun b hb => heap_alloc_old w _ b hb) rfl rfl rfl ?_ (fun hs => ?_) (fun hs => ?_)
  · intro b hb
    cases hb
    omega
  · exact ⟨w.heap.size, vals, t, rfl, heap_alloc_new w _, hc.stays hs (fun r hr' => upd_ne _ _ (fun h => hr (h ▸ hr')))⟩
  · exact .of_one rfl (.ptr (upd_eq _ _ _))

theorem ownsRow_new {e : Kd} {et : Nat} {vals : Array Value} {n : Nat} {cells : List Value} (hv : vals.toList = cells) (hl : cells.length = n * e.size) (hm : n ≤ maxLen) :
    (w.alloc (.cells vals et)).ownsRow 0 et e.size (.slice (some ⟨w.heap.size, 0, none⟩) n n) n cells :=
  ⟨hl, .inr ⟨w.heap.size, n, vals, rfl, Nat.zero_le _, heap_alloc_new w _, Nat.le_refl _, hm, by rw [← Array.length_toList, hv, hl], by rw [hv, ← hl, List.take_length]⟩⟩

theorem newRow' (sim : SimR c ρ st a w) {d : Nat} (hd : d < c.n) (hfresh : ∀ k x, St.get k st = some x → d ∉ x.refs) (hk : d ∉ c.kp) {e : Kd} {et : Nat} {l : List e.T} {css : List (List Value)} {vals : Array Value}
    (hc : All2 (Cells (Own c.base st ρ) w e) l css) (hv : vals.toList = css.flatten) (hm : l.length ≤ maxLen) {n : Nat} (hn : n = l.length) :
    SimR c (upd ρ d (.row (.slice (some ⟨w.heap.size, 0, none⟩) l.length l.length))) ((ek d, some (.row e et l)) :: (sk d, some (.v (.row d n))) :: st)
      (a.put (some d) (.slice (some ⟨w.heap.size, 0, none⟩) l.length l.length)) (w.alloc (.cells vals et)) := by
  have hsz : (w.alloc (.cells vals et)).heap.size = w.heap.size + 1 := by show (w.heap.push _).size = _; simp
  subst hn
  refine sim.create hd hfresh hk (by omega) (fun b hb => heap_alloc_old w _ b hb) rfl rfl rfl ?_ (fun hs => ?_) (fun hs => ?_)
  · intro b hb
    have : w.heap.size = b := by simpa [Loc.block, Value.ownBlock] using hb
    omega
  · exact ⟨_, css, rfl, All2.mono (fun _ _ h => h.stays hs) hc, ownsRow_new hv (flatten_length hc) hm⟩
  · exact .of_one rfl (.row (upd_eq _ _ _) (Nat.le_refl _))

theorem foldl_setIfInBounds (vs : List Value) : ∀ (off i : Nat) (cs : Array Value), off + i + vs.length ≤ cs.size →
    (vs.zipIdx i).foldl (fun cs (cv, j) => cs.setIfInBounds (off + j) cv) cs = (cs.toList.take (off + i) ++ vs ++ cs.toList.drop (off + i + vs.length)).toArray := by
  induction vs with
  | nil => intro off i cs h; simp
  | cons v vs ih =>
    intro off i cs h
    simp only [List.length_cons] at h
    simp only [List.zipIdx_cons, List.foldl_cons]
    rw [ih off (i + 1) (cs.setIfInBounds (off + i) v) (by simp; omega)]
    congr 1
    have e := list_seg_step cs.toList (off + i) v vs (by simp; omega)
    simp only [List.length_cons]
    rw [← e]
    simp [Nat.add_assoc]

theorem partsOf_sound (sim : SimR c ρ st a w) : ∀ {ps : List (Nat × Operand)} {As : List (Nat × AV)}, (partsOf ps).run st = some As →
    All2 (fun A p => A.1 = p.1 ∧ A.2 ≠ .und ∧ VRel (Own c.base st ρ) ρ w A.2 (a.eval p.2)) As ps ∧ ∀ A ∈ As, ∀ r ∈ A.2.refs, ∃ k y, St.get k st = some y ∧ r ∈ y.refs
  | [], As, h => by cases h; exact ⟨trivial, by simp⟩
  | (i, x) :: ps, As, h => by
    obtain ⟨A, h1, h2⟩ := RM.run_bind_some h
    have hA := opa_sound sim h1
    have hR := opa_refs h1
    have hne : A ≠ .und := by intro hh; subst hh; cases h2
    have h2' : ((partsOf ps).bind fun as => RM.ret ((i, A) :: as)).run st = some As := by cases A <;> first | exact h2 | exact absurd rfl hne
    obtain ⟨As', h3, h4⟩ := RM.run_bind_some h2'
    cases h4
    obtain ⟨k1, k2⟩ := partsOf_sound sim h3
    refine ⟨⟨⟨rfl, hne, hA⟩, k1⟩, fun B hB r hr => ?_⟩
    rcases List.mem_cons.1 hB with rfl | hB
    · exact hR r hr
    · exact k2 B hB r hr

theorem cells_toList_size (v : Value) : v.cells.toList.length = v.cells.size := by simp

theorem fill_sound {O : Nat → Prop} {ev : Operand → Value} {place : Nat → Option (Nat × Nat)} : ∀ {As : List (Nat × AV)} {ps : List (Nat × Operand)} {cs cs' : List AV} {vals : Array Value},
    All2 (fun A p => A.1 = p.1 ∧ A.2 ≠ .und ∧ VRel O ρ w A.2 (ev p.2)) As ps → CsRel O ρ w cs vals.toList → fillAV place As cs = some cs' →
    ∃ vals', Instr.fill place vals (ps.map fun p => (p.1, ev p.2)) = some vals' ∧ CsRel O ρ w cs' vals'.toList ∧ vals'.size = vals.size
  | [], [], cs, cs', vals, _, h, hf => by
    cases hf
    exact ⟨vals, rfl, h, rfl⟩
  | (i, A) :: As, (j, x) :: ps, cs, cs', vals, hr, h, hf => by
    obtain ⟨⟨h1, h2, h3⟩, h4⟩ := hr
    simp only at h1 h2 h3
    subst h1
    simp only [fillAV] at hf
    cases hp : place i with
    | none => rw [hp] at hf; cases hf
    | some on =>
      obtain ⟨off, n⟩ := on
      rw [hp] at hf
      dsimp only at hf
      split at hf
      · rename_i hsz
        cases hu : AV.upds cs off A.cellsOf n with
        | none => rw [hu] at hf; cases hf
        | some cs1 =>
          rw [hu] at hf
          dsimp only at hf
          have hc := h3.cells h2
          have hl := hc.length
          obtain ⟨u1, u2⟩ := AV.upds_sound h (AV.cellsOf_sound hc) (hl.trans hsz) hu
          have hsize : (ev x).cells.size = n := by rw [← cells_toList_size, hl, hsz]
          have hle : off + (ev x).cells.size ≤ vals.size := by rw [hsize]; simpa using u2
          obtain ⟨vals', k1, k2, k3⟩ := fill_sound (vals := (vals.toList.take off ++ (ev x).cells.toList ++ vals.toList.drop (off + n)).toArray) h4 u1 hf
          refine ⟨vals', ?_, k2, ?_⟩
          · simp only [List.map_cons, Instr.fill, hp]
            rw [if_neg (by simp [hsize]; omega)]
            rw [← k1]
            congr 1
            have := foldl_setIfInBounds (ev x).cells.toList off 0 vals (by simpa using hle)
            rw [Nat.add_zero, cells_toList_size, hsize] at this
            rw [← this, ← Array.foldl_toList]
            simp
          · rw [k3]
            simp
            omega
      · cases hf
  | [], _ :: _, _, _, _, h, _, _ => h.elim
  | _ :: _, [], _, _, _, h, _, _ => h.elim

theorem run_mapM_places {t : TypeId} {fs : Array Field} (hall : fs.all (fun f => (P.info? f.type).isSome) = true) (w : World) :
    (fs.mapM (m := Sem) fun f => do pure (f.offset, ← sizeOf f.type)).run P w = .ok (fs.map fun f => (f.offset, P.cellsOf f.type)) w := by
  have key : ∀ (l : List Field) , (∀ f ∈ l, (P.info? f.type).isSome = true) →
      (l.mapM (m := Sem) fun f => do pure (f.offset, ← sizeOf f.type)).run P w = .ok (l.map fun f => (f.offset, P.cellsOf f.type)) w := by
    intro l
    induction l with
    | nil => intro _; rfl
    | cons f l ih =>
      intro h
      rw [List.mapM_cons]
      simp only [Sem.run_bind, run_sizeOf' (h f (by simp)), Result.andThen_ok, Sem.run_pure, ih (fun g hg => h g (by simp [hg])), List.map_cons]
  have hl := key fs.toList (fun f hf => (Array.all_eq_true_iff_forall_mem.1 hall) f (by simpa using hf))
  rw [Array.mapM_eq_mapM_toList]
  simp only [Sem.run_map, hl, Result.andThen_ok]
  congr 1
  apply Array.ext'
  simp

theorem fillRow_sound {O : Nat → Prop} {k : Kd} {ev : Operand → Value} : ∀ {As : List (Nat × AV)} {ps : List (Nat × Operand)} {l l' : List k.T} {css : List (List Value)} {vals : Array Value},
    All2 (fun A p => A.1 = p.1 ∧ A.2 ≠ .und ∧ VRel O ρ w A.2 (ev p.2)) As ps → All2 (Cells O w k) l css → vals.toList = css.flatten → fillRow k As l = some l' →
    ∃ vals' css', Instr.fill (fun i => some (i * k.size, k.size)) vals (ps.map fun p => (p.1, ev p.2)) = some vals' ∧ All2 (Cells O w k) l' css' ∧ vals'.toList = css'.flatten ∧ l'.length = l.length
  | [], [], l, l', css, vals, _, h, hv, hf => by
    cases hf
    exact ⟨vals, css, rfl, h, hv, rfl⟩
  | (i, A) :: As, (j, x) :: ps, l, l', css, vals, hr, h, hv, hf => by
    obtain ⟨⟨h1, h2, h3⟩, h4⟩ := hr
    simp only at h1 h2 h3
    subst h1
    simp only [fillRow] at hf
    split at hf
    · rename_i hq
      obtain ⟨hi, hsz⟩ := hq
      cases hu : AV.toP k A.cellsOf with
      | none => rw [hu] at hf; cases hf
      | some yr =>
        obtain ⟨y, r⟩ := yr
        rw [hu] at hf
        cases r with
        | cons => cases hf
        | nil =>
          dsimp only at hf
          have hc := h3.cells h2
          have hl := hc.length
          obtain ⟨c1, c2, hc12, hy, hnil⟩ := AV.toP_sound (AV.cellsOf_sound hc) hu
          have := hnil.inv_nil
          subst this
          rw [List.append_nil] at hc12
          have hyl := hy.length
          have hset := list_flatten_set h i hi c1 hyl
          have hfl := flatten_length h
          have hle : (i + 1) * k.size ≤ l.length * k.size := Nat.mul_le_mul_right _ hi
          rw [Nat.add_mul, Nat.one_mul] at hle
          have hvs : vals.size = l.length * k.size := by rw [← Array.length_toList, hv, hfl]
          have hcs : (ev x).cells.size = k.size := by rw [← cells_toList_size, hc12, hyl]
          obtain ⟨vals', css', k1, k2, k3, k4⟩ := fillRow_sound (vals := (css.set i c1).flatten.toArray) h4 (All2.set h i y c1 hy) (by simp) hf
          refine ⟨vals', css', ?_, k2, k3, by rw [k4, List.length_set]⟩
          simp only [List.map_cons, Instr.fill]
          rw [if_neg (by simp [hcs]; omega)]
          rw [← k1]
          congr 1
          have := foldl_setIfInBounds (ev x).cells.toList (i * k.size) 0 vals (by rw [cells_toList_size, hcs]; omega)
          rw [Nat.add_zero, cells_toList_size, hcs, hc12, hv, ← hset] at this
          rw [← this, ← Array.foldl_toList, ← hc12]
          simp
    · cases hf
  | [], _ :: _, _, _, _, _, h, _, _, _ => h.elim
  | _ :: _, [], _, _, _, _, h, _, _, _ => h.elim

theorem arrayT_some {t et : TypeId} {n : Nat} (h : arrayT P t = some (n, et)) : P.underlying t = some (.array n et) := by
  unfold arrayT at h
  split at h
  · cases h; assumption
  · cases h
theorem fits_some {et : TypeId} {e : Kd} (h : fits P et e = true) : P.cellsOf et = e.size ∧ (P.info? et).isSome = true ∧ 0 < e.size := by
  simpa [fits, and_assoc] using h

theorem build_sound (sim : SimR c ρ st a w) {t : TypeId} {ps : Array (Nat × Operand)} {As : List (Nat × AV)} {A : AV} (hp : (partsOf ps.toList).run st = some As) (hb : evBuild P t As = some A) :
    ∃ v, (Instr.build t (ps.map fun (i, x) => (i, a.eval x))).run P w = .ok v w ∧ VRel (Own c.base st ρ) ρ w A v := by
  unfold evBuild at hb
  cases hz : zeroOf P t with
  | none => rw [hz] at hb; cases hb
  | some kz =>
    obtain ⟨k, zs⟩ := kz
    rw [hz] at hb
    by_cases hk : ∃ n e, k = .arr n e
    · obtain ⟨n, e, rfl⟩ := hk
      dsimp only at hb
      split at hb
      · rename_i n' et hat
        split at hb
        · rename_i hfit
          obtain ⟨f1, f2, f3⟩ := fits_some hfit
          obtain ⟨i, z, hi, hzv, hm, hsz, hag, _⟩ := zeroOf_some hz
          obtain ⟨c1, hc1, hd, _⟩ := Kd.zmatch_sound (O := Own c.base st ρ) (ρ := ρ) (w := w) hm
          rw [List.append_nil] at hc1
          obtain ⟨_, css, hcss, hall⟩ := hd
          obtain ⟨h1, h2⟩ := partsOf_sound sim hp
          cases hf : fillRow e As (List.replicate n e.dflt) with
          | none => rw [hf] at hb; cases hb
          | some l' =>
            rw [hf] at hb
            cases hb
            obtain ⟨vals', css', k1, k2, k3, k4⟩ := fillRow_sound (vals := z.cells) h1 hall (by rw [hc1, hcss]) hf
            have hu := arrayT_some hat
            have hpt : (ps.map fun (i, x) => (i, a.eval x)).toList = ps.toList.map fun p => (p.1, a.eval p.2) := by simp
            refine ⟨.agg vals', ?_, .inr (.inl ⟨rfl, vals'.toList, by simp, .p ⟨by rw [k4]; exact List.length_replicate, css', k3, k2⟩⟩)⟩
            unfold Instr.build
            simp only [Sem.run_bind, run_zeroValue' hi hzv, Result.andThen_ok, run_underlying hu, run_sizeOf' f2, f1]
            rw [hpt, k1]
            rfl
        · cases hb
      · cases hb
    have hb : (if allTyped P t then (fillAV (placeOf P t) As zs).map AV.agg else none) = some A := by
      cases k <;> first | exact hb | exact absurd ⟨_, _, rfl⟩ hk
    split at hb
    · rename_i hall
      cases hf : fillAV (placeOf P t) As zs with
      | none => rw [hf] at hb; cases hb
      | some cs' =>
        rw [hf] at hb
        cases hb
        obtain ⟨i, z, hi, hzv, hm, hsz, hag, rfl⟩ := zeroOf_some hz
        obtain ⟨c1, hc1, hd, hzs⟩ := Kd.zmatch_sound (O := Own c.base st ρ) (ρ := ρ) (w := w) hm
        rw [List.append_nil] at hc1
        subst hc1
        obtain ⟨h1, h2⟩ := partsOf_sound sim hp
        obtain ⟨vals', f1, f2, f3⟩ := fill_sound h1 hzs hf
        unfold allTyped at hall
        cases hu : P.underlying t with
        | none => rw [hu] at hall; cases hall
        | some dsc =>
          cases dsc with
          | struct fs =>
            rw [hu] at hall
            dsimp only at hall
            have hplace : (fun j => (fs.map fun f => (f.offset, P.cellsOf f.type))[j]?) = placeOf P t := by
              funext j
              unfold placeOf
              rw [hu]
              dsimp only
              rw [Array.getElem?_map]
              cases hj : fs[j]? with
              | none => rfl
              | some f =>
                have := (Array.all_eq_true_iff_forall_mem.1 hall) f (Array.mem_of_getElem? hj)
                simp [this]
            have hpt : (ps.map fun (i, x) => (i, a.eval x)).toList = ps.toList.map fun p => (p.1, a.eval p.2) := by simp
            refine ⟨.agg vals', ?_, .inr (.inl ⟨rfl, vals'.toList, by simp, .agg f2⟩)⟩
            unfold Instr.build
            simp only [Sem.run_bind, run_zeroValue' hi hzv, Result.andThen_ok, run_underlying hu, run_mapM_places (t := t) hall]
            rw [hplace, hpt, f1]
            rfl
          | _ => rw [hu] at hall; cases hall
    · cases hb
end
end Go.Abs
set_option linter.unusedVariables false
set_option linter.unusedSimpArgs false
namespace Go.Abs
set_option linter.unusedSectionVars false
variable [Globs]

theorem rep_flatten (z : Array Value) (h : 0 < z.size) : ∀ n, (List.range (n * z.size)).map (fun i => z[i % z.size]!) = (List.replicate n z.toList).flatten
  | 0 => by simp
  | n + 1 => by
    rw [Nat.add_mul, Nat.one_mul, Nat.add_comm, List.range_add, List.map_append, List.replicate_succ, List.flatten_cons, ← rep_flatten z h n]
    congr 1
    · apply List.ext_getElem?
      intro i
      rw [List.getElem?_map]
      by_cases hi : i < z.size
      · rw [List.getElem?_range hi]; simp [hi, Nat.mod_eq_of_lt hi]
      · rw [List.getElem?_eq_none (by simpa using hi), List.getElem?_eq_none (by simpa using hi)]; rfl
    · rw [List.map_map]
      congr 1
      funext i
      simp [Function.comp]

theorem rep_flatten' (z : Array Value) (n : Nat) (h : 0 < z.size) : ((Array.range (n * z.size)).map fun i => z[i % z.size]!).toList = (List.replicate n z.toList).flatten := by
  rw [← rep_flatten z h n]; simp

theorem all2_replicate {α β : Type} {R : α → β → Prop} {x : α} {y : β} (h : R x y) : ∀ n, All2 R (List.replicate n x) (List.replicate n y)
  | 0 => trivial
  | n + 1 => ⟨h, all2_replicate h n⟩

section
variable {P : Program} {c : Cx} {ρ : Nat → Loc} {st : St} {a : Act} {w : World}

theorem sliceT_some {t et : TypeId} (h : sliceT P t = some et) : P.underlying t = some (.slice et) := by
  unfold sliceT at h
  split at h
  · rename_i hq; cases h; exact hq
  · cases h

theorem buildSlice_sound (sim : SimR c ρ st a w) {t : TypeId} {n d : Nat} {ps : Array (Nat × Operand)} {As : List (Nat × AV)} {e : Eff} (hp : (partsOf ps.toList).run st = some As) (hb : evBuildSlice P t n As d = some e)
    (hd : d < c.n) (hfresh : ∀ r ∈ e.n, ∀ k x, St.get k st = some x → r ∉ x.refs) (hkp : ∀ r ∈ e.n, r ∉ c.kp) :
    ∃ v w' ρ', (Instr.buildSlice t n (ps.map fun (i, x) => (i, a.eval x))).run P w = .ok v w' ∧ SimR c ρ' (e.w ++ st) (a.put (some d) v) w' := by
  unfold evBuildSlice at hb
  cases hs : sliceT P t with
  | none => rw [hs] at hb; cases hb
  | some et =>
    rw [hs] at hb
    dsimp only at hb
    cases hz : zeroOf P et with
    | none => rw [hz] at hb; cases hb
    | some kz =>
      obtain ⟨k, zs⟩ := kz
      rw [hz] at hb
      dsimp only at hb
      split at hb
      · rename_i hq
        obtain ⟨hbig, hpos⟩ := hq
        cases hf : fillRow k As (List.replicate n k.dflt) with
        | none => rw [hf] at hb; cases hb
        | some l =>
          rw [hf] at hb
          cases hb
          obtain ⟨i, z, hi, hzv, hm, hsz, hag, rfl⟩ := zeroOf_some hz
          obtain ⟨c1, hc1, hdf, hzs⟩ := Kd.zmatch_sound (O := Own c.base st ρ) (ρ := ρ) (w := w) hm
          rw [List.append_nil] at hc1
          have hzl : z.cells.size = k.size := by rw [← cells_toList_size, hc1, hdf.length]
          obtain ⟨h1, h2⟩ := partsOf_sound sim hp
          have hrep : All2 (Cells (Own c.base st ρ) w k) (List.replicate n k.dflt) (List.replicate n z.cells.toList) := all2_replicate (by rw [hc1]; exact hdf) n
          have hvals : ((Array.range (n * k.size)).map fun i => z.cells[i % z.cells.size]!).toList = (List.replicate n z.cells.toList).flatten := by
            rw [← hzl]; exact rep_flatten' z.cells n (by omega)
          obtain ⟨vals', css', f1, f2, f3, f4⟩ := fillRow_sound h1 hrep hvals hf
          rw [List.length_replicate] at f4
          have hml : l.length ≤ maxLen := by
            rw [f4]
            have : n * 1 ≤ n * k.size := Nat.mul_le_mul_left _ hpos
            simp only [maxLen]
            omega
          have hsim := newRow' sim hd (hfresh d (by simp)) (hkp d (by simp)) f2 f3 hml (et := et) (n := n) f4.symm
          refine ⟨_, _, _, ?_, hsim⟩
          have hpt : (ps.map fun (i, x) => (i, a.eval x)).toList = ps.toList.map fun p => (p.1, a.eval p.2) := by simp
          have hsize : i.size = k.size := hsz
          have hcell : P.cellsOf et = k.size := by simp [Program.cellsOf, hi, hsize]
          unfold Instr.buildSlice
          simp only [Sem.run_bind, run_underlying (sliceT_some hs), Result.andThen_ok, run_sizeOf' (t := et) (by rw [hi]; rfl), hcell]
          rw [if_neg (by omega)]
          try simp only [Sem.run_pure, Result.andThen_ok, Sem.run_bind]
          by_cases hn : n * k.size = 0
          · have hn0 : n = 0 := by
              rcases Nat.mul_eq_zero.1 hn with h | h
              · exact h
              · omega
            rw [if_pos hn]
            subst hn0
            rw [hpt]
            simp only [Nat.zero_mul] at f1 ⊢
            have e1 : (Array.range 0).map (fun i => (#[] : Array Value)[i % (#[] : Array Value).size]!) = (Array.range 0).map (fun i => z.cells[i % z.cells.size]!) := by simp
            simp only [Sem.run_bind, Sem.run_pure, Result.andThen_ok]
            rw [e1, f1]
            simp only [Sem.run_pure, Result.andThen_ok, newRow, Sem.run_bind, run_newObj]
            rw [f4]
            rfl
          · rw [if_neg hn]
            simp only [Sem.run_bind, run_zeroValue' hi hzv, Result.andThen_ok, Sem.run_pure]
            rw [hpt, f1]
            simp only [Sem.run_pure, Result.andThen_ok, newRow, Sem.run_bind, run_newObj]
            rw [f4]
            rfl
      · cases hb

theorem elems_sound (sim : SimR c ρ st a w) {k : Kd} {X : AV} {x : Value} {l2 : List k.T} {cs : List Prop} {part : Bool} (hX : VRel (Own c.base st ρ) ρ w X x) (h : (evElems part k X).run st = some (l2, cs)) (hcs : ∀ p ∈ cs, p) :
    ∃ A cp css, x = .slice A l2.length cp ∧ All2 (Cells (Own c.base st ρ) w k) l2 css ∧ (A = none → l2 = []) ∧ ∀ ad, A = some ad → ∀ j u, css.flatten[j]? = some u → w.cell? (ad.add j) = some u := by
  have addr : ∀ (ad : Addr) (j : Nat) (u : Value), (j = 0 → ad.spot = none) → w.cell? ⟨ad.block, ad.off + j, none⟩ = some u → w.cell? (ad.add j) = some u := by
    intro ad j u hsp hu
    unfold Addr.add
    split
    · rename_i hj
      subst hj
      have := hsp rfl
      cases ad
      simp_all
    · exact hu
  cases X with
  | p k' y =>
    cases k' with
    | sl e' =>
      simp only [evElems] at h
      split at h
      · rename_i he
        subst he
        cases h
        have hc := hX.one rfl (by simp)
        cases hc with
        | p hc =>
          obtain ⟨A, cp, hv, hle, hA, hr⟩ := hc
          cases hv
          cases A with
          | none =>
            have hnil := (hA rfl).1
            refine ⟨none, cp, [], rfl, ?_, fun _ => hnil, (fun ad h => by cases h)⟩
            have : (y : List e'.T) = [] := hnil
            rw [this]; trivial
          | some ad =>
            obtain ⟨css, h1, h2, h3⟩ := hr ad rfl
            refine ⟨some ad, cp, css, rfl, h1, fun h => (by cases h), fun ad' had j u hu => ?_⟩
            cases had
            have hne : css.flatten ≠ [] := by intro hh; rw [hh] at hu; simp at hu
            exact addr ad j u (fun _ => (h2 hne).1) (h3 j u hu)
      · cases h
    | _ => cases h
  | nilsl =>
    cases h
    have hc := hX.one rfl (by simp)
    cases hc
    exact ⟨none, 0, [], rfl, trivial, fun _ => rfl, fun ad h => by cases h⟩
  | row r n =>
    obtain ⟨y, hg, hy⟩ := get_run h
    cases y with
    | row e' et l =>
      dsimp only at hy
      split at hy
      · rename_i he
        subst he
        cases part with
        | false =>
          cases hy
          have hn : n = List.length l := hcs _ (by simp)
          subst hn
          have hc := hX.one rfl (by simp)
          cases hc with
          | row hr hle =>
            rename_i m cp A
            obtain ⟨v, css, h1, h2, h3, h4⟩ := row_range (sim.ents r _ hg)
            rw [hr] at h1
            cases h1
            rcases h3.2 with ⟨hv, hl⟩ | ⟨g, cap, cur, hv, h0, hh, hnc, hcm, hcs', htake⟩
            · cases hv
              refine ⟨none, 0, css, rfl, h2, fun _ => List.eq_nil_of_length_eq_zero hl, fun ad h => by cases h⟩
            · cases hv
              refine ⟨some ⟨g, 0, none⟩, cp, css, rfl, h2, (fun h => by cases h), fun ad had j u hu => ?_⟩
              cases had
              exact addr _ j u (fun _ => rfl) (h4 g _ cp rfl j u hu)
        | true =>
          cases hy
          have hn : n ≤ List.length l := hcs _ (by simp)
          have hlen : (List.take n l).length = n := by rw [List.length_take]; omega
          have hc := hX.one rfl (by simp)
          cases hc with
          | row hr hle =>
            rename_i m cp A
            obtain ⟨v, css, h1, h2, h3, h4⟩ := row_range (sim.ents r _ hg)
            rw [hr] at h1
            cases h1
            have hpre : ∀ (j : Nat) (u : Value), (css.take n).flatten[j]? = some u → css.flatten[j]? = some u := by
              intro j u hu
              rw [← List.take_append_drop n css, List.flatten_append]
              exact (List.getElem?_append_left (List.getElem?_eq_some_iff.1 hu).1).trans hu
            rcases h3.2 with ⟨hv, hl⟩ | ⟨g, cap, cur, hv, h0, hh, hnc, hcm, hcs', htake⟩
            · simp only [Value.slice.injEq] at hv
              obtain ⟨rfl, _, rfl⟩ := hv
              refine ⟨none, 0, css.take n, by rw [hlen], h2.take n, fun _ => ?_, fun ad h => by cases h⟩
              have : l = [] := List.eq_nil_of_length_eq_zero hl
              subst this
              simp
            · simp only [Value.slice.injEq] at hv
              obtain ⟨rfl, _, rfl⟩ := hv
              refine ⟨some ⟨g, 0, none⟩, cp, css.take n, by rw [hlen], h2.take n, (fun h => by cases h), fun ad had j u hu => ?_⟩
              cases had
              exact addr _ j u (fun _ => rfl) (h4 g _ cp rfl j u (hpre j u hu))
      · cases hy
    | v => cases hy
    | t => cases hy
    | box => cases hy
  | rsuf e2 r lo n =>
    obtain ⟨y, hg, hy⟩ := get_run h
    cases y with
    | row e' et l =>
      dsimp only at hy
      split at hy
      · rename_i he
        subst he
        split at hy
        · rename_i he2
          subst he2
          cases hy
          have hn : lo + n ≤ List.length l := hcs _ (by simp)
          have hlen : (List.take n (List.drop lo l)).length = n := by rw [List.length_take, List.length_drop]; omega
          have hc := hX.one rfl (by simp)
          cases hc with
          | rsuf hr ha hle hcc =>
            rename_i m c cp A a0
            obtain ⟨v, css, h1, h2, h3, h4⟩ := row_range (sim.ents r _ hg)
            rw [hr] at h1
            cases h1
            refine ⟨A, cp, (css.drop lo).take n, by rw [hlen], (h2.drop _).take _, fun hA => ?_, fun ad had j u hu => ?_⟩
            · rcases Nat.eq_zero_or_pos n with h0 | h0
              · subst h0; simp
              · obtain ⟨b, _, g2⟩ := ha h0
                rw [hA] at g2; cases g2
            · rcases Nat.eq_zero_or_pos n with h0 | h0
              · subst h0; simp at hu
              · obtain ⟨b, g1, g2⟩ := ha h0
                subst g1
                subst g2
                cases had
                have hrg := range_sub (h4 b _ _ rfl) (lo * e2.size) (n * e2.size)
                rw [flatten_take' (h2.drop _), flatten_drop' h2] at hu
                have := hrg j u hu
                refine addr _ j u (fun _ => rfl) ?_
                simpa using this
        · cases hy
      · cases hy
    | v => cases hy
    | t => cases hy
    | box => cases hy
  | _ => cases h

theorem get_append3 (d r : Nat) (E V : Val) (st : St) (hdr : d ≠ r) (q : Nat) :
    St.get (ek q) ((ek d, some E) :: (ek r, none) :: (sk d, some V) :: st) = if q = d then some E else if q = r then none else St.get (ek q) st := by
  by_cases h : q = d
  · subst h; rw [get_cons_eq, if_pos rfl]
  · rw [get_cons_ne _ _ (fun hh => h (ek_inj hh)), if_neg h]
    by_cases h' : q = r
    · subst h'; rw [get_cons_eq, if_pos rfl]
    · rw [get_cons_ne _ _ (fun hh => h' (ek_inj hh)), if_neg h', get_cons_ne _ _ (fun hh => sk_ne_ek d q hh.symm)]

theorem SimR.appended (sim : SimR c ρ st a w) {d r : Nat} (hd : d < c.n) (hdr : d ≠ r) (hfresh : ∀ k x, St.get k st = some x → d ∉ x.refs) (hk : d ∉ c.kp) {E : Val} {L : Loc} {w' : World} {v u : Value} {n : Nat}
    (hlive : (St.get (ek r) st).isSome = true) (hold : ρ r = .row u)
    (hg : w.grownBy w' u.ownBlock)
    (hL : ∀ b, L.block = some b → some b = u.ownBlock ∨ (w.heap.size ≤ b ∧ b < w'.heap.size))
    (hE : Stays (Own c.base st ρ) w (Own c.base ((ek d, some E) :: (ek r, none) :: (sk d, some (.v (.row d n))) :: st) (upd ρ d L)) w' →
      ERel (Own c.base ((ek d, some E) :: (ek r, none) :: (sk d, some (.v (.row d n))) :: st) (upd ρ d L)) (upd ρ d L) w' E L)
    (hV : CRel (Own c.base ((ek d, some E) :: (ek r, none) :: (sk d, some (.v (.row d n))) :: st) (upd ρ d L)) (upd ρ d L) w' (.row d n) [v]) :
    SimR c (upd ρ d L) ((ek d, some E) :: (ek r, none) :: (sk d, some (.v (.row d n))) :: st) (a.put (some d) v) w' := by
  have hget := get_append3 d r E (.v (.row d n)) st hdr
  have hmineR := fun b (h : u.ownBlock = some b) => sim.mine r b hlive (by rw [hold]; exact h)
  have hown : ∀ b, Own c.base ((ek d, some E) :: (ek r, none) :: (sk d, some (.v (.row d n))) :: st) (upd ρ d L) b → b < w.heap.size → Own c.base st ρ b := by
    rintro b (hb | ⟨q, hq, hb⟩) hlt
    · exact .inl hb
    · rw [hget] at hq
      by_cases h : q = d
      · subst h
        rw [upd_eq] at hb
        rcases hL b hb with h1 | h1
        · exact .inr ⟨r, hlive, by rw [hold]; exact h1.symm⟩
        · omega
      · rw [if_neg h] at hq
        by_cases h' : q = r
        · rw [if_pos h'] at hq; cases hq
        · rw [if_neg h'] at hq
          rw [upd_ne _ _ h] at hb
          exact .inr ⟨q, hq, hb⟩
  have hblk : ∀ b, b < w.heap.size → some b ≠ u.ownBlock → w'.heap[b]? = w.heap[b]? := hg.block
  have hs : Stays (Own c.base st ρ) w (Own c.base ((ek d, some E) :: (ek r, none) :: (sk d, some (.v (.row d n))) :: st) (upd ρ d L)) w' :=
    fun b hb hO => ⟨fun h => hO (hown b h hb), hblk b hb (fun h => hO (.inr ⟨r, hlive, by rw [hold]; exact h.symm⟩))⟩
  refine sim.step (fun k x hx q hq => upd_ne _ _ (fun h => hfresh k x hx (h ▸ hq))) hs ?_ ?_ ?_ ?_
    ⟨hg.os.trans sim.frame.os, hg.tape.trans sim.frame.tape, hg.output.trans sim.frame.output, Nat.le_trans sim.frame.size hg.size, fun b hb hm => by
      rw [hblk b (Nat.lt_of_lt_of_le hb sim.frame.size) ?_, sim.frame.block b hb hm]
      intro h
      rcases (hmineR b h.symm).2.1 with h1 | h1
      · exact hm h1
      · omega⟩
    (by rw [put_dfr]; exact sim.dfr) (by rw [put_size]; exact sim.size) (fun q hq => upd_ne _ _ (fun h => hk (h ▸ hq)))
  · intro t y hy
    rw [get_cons_ne _ _ (fun hh => sk_ne_ek t d hh), get_cons_ne _ _ (fun hh => sk_ne_ek t r hh)] at hy
    rw [put_getD _ _ _ _ (by rw [sim.size]; exact hd)]
    by_cases ht : t = d
    · subst ht
      rw [get_cons_eq] at hy
      cases hy
      rw [if_pos rfl]
      exact .inl (.of_one rfl hV)
    · rw [get_cons_ne _ _ (fun hh => ht (sk_inj hh))] at hy
      rw [if_neg ht]
      exact .inr ⟨hy, rfl⟩
  · intro q y hy
    rw [hget] at hy
    by_cases h : q = d
    · subst h
      rw [if_pos rfl] at hy
      cases hy
      rw [upd_eq]
      exact .inl (hE hs)
    · rw [if_neg h] at hy
      by_cases h' : q = r
      · rw [if_pos h'] at hy; cases hy
      · rw [if_neg h'] at hy
        refine .inr ⟨hy, upd_ne _ _ h, fun b hb => hblk b (sim.mine q b (by rw [hy]; rfl) hb).2.2 (fun hh => h' (sim.inj q r b (by rw [hy]; rfl) hlive hb (by rw [hold]; exact hh.symm)))⟩
  · intro q q' b h1 h2 h3 h4
    rw [hget] at h1 h2
    have other : ∀ q, q ≠ d → (if q = r then none else St.get (ek q) st).isSome = true → (upd ρ d L q).block = some b → L.block = some b → False := by
      intro q hqd hq hqb hLb
      by_cases hqr : q = r
      · rw [if_pos hqr] at hq; cases hq
      · rw [if_neg hqr] at hq
        rw [upd_ne _ _ hqd] at hqb
        rcases hL b hLb with h | h
        · exact hqr (sim.inj q r b hq hlive hqb (by rw [hold]; exact h.symm))
        · have := (sim.mine q b hq hqb).2.2
          omega
    by_cases h : q = d <;> by_cases h' : q' = d
    · rw [h, h']
    · subst h
      rw [if_neg h'] at h2
      rw [upd_eq] at h3
      exact (other q' h' h2 h4 h3).elim
    · subst h'
      rw [if_neg h] at h1
      rw [upd_eq] at h4
      exact (other q h h1 h3 h4).elim
    · rw [if_neg h] at h1
      rw [if_neg h'] at h2
      by_cases hqr : q = r
      · rw [if_pos hqr] at h1; cases h1
      · by_cases hqr' : q' = r
        · rw [if_pos hqr'] at h2; cases h2
        · rw [if_neg hqr] at h1
          rw [if_neg hqr'] at h2
          rw [upd_ne _ _ h] at h3
          rw [upd_ne _ _ h'] at h4
          exact sim.inj q q' b h1 h2 h3 h4
  · intro q b h1 h3
    rw [hget] at h1
    by_cases h : q = d
    · subst h
      rw [upd_eq] at h3
      rcases hL b h3 with h | h
      · obtain ⟨k1, k2, k3⟩ := hmineR b h.symm
        exact ⟨k1, k2, Nat.lt_of_lt_of_le k3 hg.size⟩
      · exact ⟨fun hb => by have := (sim.base b hb).1; have := sim.frame.size; omega, .inr (Nat.le_trans sim.frame.size h.1), h.2⟩
    · rw [if_neg h] at h1
      by_cases h' : q = r
      · rw [if_pos h'] at h1; cases h1
      · rw [if_neg h'] at h1
        rw [upd_ne _ _ h] at h3
        obtain ⟨k1, k2, k3⟩ := sim.mine q b h1 h3
        exact ⟨k1, k2, Nat.lt_of_lt_of_le k3 hg.size⟩

end
end Go.Abs
set_option linter.unusedVariables false
set_option linter.unusedSimpArgs false
namespace Go.Abs
set_option linter.unusedSectionVars false
variable [Globs]
section
variable {P : Program} {c : Cx} {ρ : Nat → Loc} {st : St} {a : Act} {w : World} {O : Nat → Prop}

theorem run_int (op : BinOp) (k : IntKind) (x y : Int) {r : AV} {cs : List Prop} (h : evInt op k x y = some (r, cs)) (hcs : ∀ p ∈ cs, p) (t : TypeId) (p q : Operand) :
    ∃ v, (do eqGuard op t p q (.int k x) (.int k y); binOp op t (.int k x) (.int k y) : Sem Value).run P w = .ok v w ∧ VRel O ρ w r v := by
  cases op <;> simp only [evInt] at h <;> try (cases h; done)
  all_goals (cases h)
  case quo => have hy : y ≠ 0 := hcs _ (by simp); exact ⟨_, by simp [eqGuard, binOp, Op.intDiv, hy], .of_int⟩
  case rem => have hy : y ≠ 0 := hcs _ (by simp); exact ⟨_, by simp [eqGuard, binOp, Op.intDiv, hy], .of_int⟩
  case eql => exact ⟨.bool (x == y), by simp [eqGuard, binOp, Op.intCmp], .of_bool⟩
  case neq => exact ⟨.bool (x != y), by simp [eqGuard, binOp, Op.intCmp], .of_bool⟩
  case lss => exact ⟨.bool (decide (x < y)), by simp [eqGuard, binOp, Op.intCmp], .of_bool⟩
  case leq => exact ⟨.bool (decide (x ≤ y)), by simp [eqGuard, binOp, Op.intCmp], .of_bool⟩
  case gtr => exact ⟨.bool (decide (x > y)), by simp [eqGuard, binOp, Op.intCmp], .of_bool⟩
  case geq => exact ⟨.bool (decide (x ≥ y)), by simp [eqGuard, binOp, Op.intCmp], .of_bool⟩
  all_goals exact ⟨_, by simp [eqGuard, binOp, Op.intArith, Op.intBits], .of_int⟩

theorem run_shift (op : BinOp) (k k' : IntKind) (x y : Int) (hy : 0 ≤ y) (t : TypeId) (p q : Operand) (hop : op = .shl ∨ op = .shr) :
    (do eqGuard op t p q (.int k x) (.int k' y); binOp op t (.int k x) (.int k' y) : Sem Value).run P w =
      .ok (if op = .shl then .int k (k.wrap (x * 2 ^ (min y.toNat k.bits))) else .int k (x.fdiv (2 ^ (min y.toNat k.bits)))) w := by
  have hn : ¬ y < 0 := by omega
  rcases hop with rfl | rfl <;> simp [eqGuard, binOp, Op.shift, hn]

theorem run_equal_bool {t : TypeId} (hu : P.underlying t = some .bool) (x y : Bool) : (Op.equal t (.bool x) (.bool y)).run P w = .ok (x == y) w := by
  have key : ∀ d, (Op.equalIn (d + 1) t (.bool x) (.bool y)).run P w = .ok (x == y) w := by
    intro d
    unfold Op.equalIn
    rw [Sem.run_bind, run_underlying hu, Result.andThen_ok]
    rfl
  exact key 9999

theorem run_equal_slice {t : TypeId} (hs : (P.underlying t).any isSlice = true) (x y : Option Addr × Nat × Nat) (hy : x.1 = none ∨ y.1 = none) :
    (Op.equal t (.slice x.1 x.2.1 x.2.2) (.slice y.1 y.2.1 y.2.2)).run P w = .ok (x.1.isNone && y.1.isNone) w := by
  obtain ⟨e, hu⟩ : ∃ e, P.underlying t = some (.slice e) := by
    cases hu : P.underlying t with
    | none => rw [hu] at hs; cases hs
    | some d =>
      rw [hu] at hs
      cases d <;> try (cases hs; done)
      exact ⟨_, rfl⟩
  have key : ∀ d, (Op.equalIn (d + 1) t (.slice x.1 x.2.1 x.2.2) (.slice y.1 y.2.1 y.2.2)).run P w = .ok (x.1.isNone && y.1.isNone) w := by
    intro d
    unfold Op.equalIn
    rw [Sem.run_bind, run_underlying hu, Result.andThen_ok]
    obtain ⟨x1, x2, x3⟩ := x
    obtain ⟨y1, y2, y3⟩ := y
    cases x1 with
    | none => cases y1 <;> rfl
    | some _ =>
      cases y1 with
      | none => rfl
      | some _ => rcases hy with h | h <;> cases h
  exact key 9999

theorem nil_sound {op : BinOp} {xt : TypeId} {R : AV} {cs : List Prop} {a c : Option Addr} {n m k l : Nat} {b : Bool} (hr : (Op.equal xt (.slice a n m) (.slice c k l)).run P w = .ok b w) (h : evNil op b = some (R, cs)) (p q : Operand) :
    ∃ v, (do eqGuard op xt p q (.slice a n m) (.slice c k l); binOp op xt (.slice a n m) (.slice c k l) : Sem Value).run P w = .ok v w ∧ VRel O ρ w R v := by
  have g : ∀ op, (eqGuard op xt p q (.slice a n m) (.slice c k l)).run P w = .ok () w := by
    intro op; cases op <;> rfl
  unfold evNil at h
  split at h
  · cases h
    have hb : binOp .eql xt (.slice a n m) (.slice c k l) = (do pure (.bool (← Op.equal xt (.slice a n m) (.slice c k l)))) := rfl
    exact ⟨.bool b, by rw [Sem.run_bind, g, Result.andThen_ok, hb, Sem.run_bind, hr, Result.andThen_ok, Sem.run_pure], .of_bool⟩
  · cases h
    have hb : binOp .neq xt (.slice a n m) (.slice c k l) = (do pure (.bool (!(← Op.equal xt (.slice a n m) (.slice c k l))))) := rfl
    exact ⟨.bool (!b), by rw [Sem.run_bind, g, Result.andThen_ok, hb, Sem.run_bind, hr, Result.andThen_ok, Sem.run_pure], .of_bool⟩
  · cases h

theorem bin_sound {op : BinOp} {xt : TypeId} {A B R : AV} {cs : List Prop} {x y : Value} (hA : VRel O ρ w A x) (hB : VRel O ρ w B y) (h : evBin P op xt A B = some (R, cs)) (hcs : ∀ p ∈ cs, p) (p q : Operand) :
    ∃ v, (do eqGuard op xt p q x y; binOp op xt x y : Sem Value).run P w = .ok v w ∧ VRel O ρ w R v := by
  have agg : ∀ (A B : AV), VRel O ρ w A x → VRel O ρ w B y → evAggEq P op xt A B = some (R, cs) → ∃ v, (do eqGuard op xt p q x y; binOp op xt x y : Sem Value).run P w = .ok v w ∧ VRel O ρ w R v := by
    intro A B hA hB h
    unfold evAggEq at h
    split at h
    · rename_i k hga hgb hk
      split at h
      · rename_i dx dy hx hy
        have key : ∀ (S : StructEq P xt k), ∃ cx cy : List Value, x = .agg cx.toArray ∧ y = .agg cy.toArray ∧ (∀ (op : BinOp), (eqGuard op xt p q (.agg cx.toArray) (.agg cy.toArray)).run P w = .ok () w) ∧
            (Op.equal xt (.agg cx.toArray) (.agg cy.toArray)).run P w = .ok (k.eqb dx dy) w := by
          intro S
          rcases hA with ⟨h1, _⟩ | ⟨_, cx, rfl, h1⟩ | ⟨h1, _⟩
          · subst h1; simp [AV.isAgg] at hga
          · rcases hB with ⟨h2, _⟩ | ⟨_, cy, rfl, h2⟩ | ⟨h2, _⟩
            · subst h2; simp [AV.isAgg] at hgb
            · obtain ⟨c1, c2, e1, hx1, hx2⟩ := AV.toP_sound (AV.cellsOf_sound h1) hx
              obtain ⟨c3, c4, e2, hy1, hy2⟩ := AV.toP_sound (AV.cellsOf_sound h2) hy
              have := hx2.inv_nil
              have := hy2.inv_nil
              subst c2 c4
              rw [List.append_nil] at e1 e2
              subst e1 e2
              obtain ⟨s1, s2⟩ := S O w dx dy cx cy hx1 hy1
              exact ⟨cx, cy, rfl, rfl, fun op => s1 op p q, s2⟩
            · rw [hgb] at h2; cases h2
          · rw [hga] at h1; cases h1
        split at h
        · cases h
          obtain ⟨cx, cy, rfl, rfl, g, r⟩ := key (hcs _ (by simp))
          exact ⟨_, by simp only [Sem.run_bind, g, Result.andThen_ok, binOp, r, Sem.run_pure], .of_bool⟩
        · cases h
          obtain ⟨cx, cy, rfl, rfl, g, r⟩ := key (hcs _ (by simp))
          exact ⟨_, by simp only [Sem.run_bind, g, Result.andThen_ok, binOp, r, Sem.run_pure], .of_bool⟩
        · cases h
      · cases h
    · cases h
  cases A with
  | p ka xa =>
    cases B with
    | p kb xb =>
      cases ka with
      | int k =>
        cases kb with
        | int k' =>
          have hx := hA.p_int
          have hy := hB.p_int
          subst hx hy
          simp only [evBin] at h
          split at h
          · cases h
            exact ⟨_, run_shift .shl k k' xa xb (hcs _ (by simp)) xt p q (.inl rfl), .of_int⟩
          · cases h
            exact ⟨_, run_shift .shr k k' xa xb (hcs _ (by simp)) xt p q (.inr rfl), .of_int⟩
          · split at h
            · rename_i hk
              subst hk
              exact run_int op k xa xb h hcs xt p q
            · cases h
        | _ => exact agg _ _ hA hB h
      | bool =>
        cases kb with
        | bool =>
          have hx := hA.p_bool
          have hy := hB.p_bool
          subst hx hy
          simp only [evBin] at h
          split at h
          · rename_i hb
            have hu : P.underlying xt = some .bool := by
              unfold boolT at hb
              split at hb
              · assumption
              · cases hb
            have g : ∀ op, (eqGuard op xt p q (.bool xa) (.bool xb)).run P w = .ok () w := by
              intro op; cases op <;> rfl
            split at h
            · cases h
              have hb : binOp .eql xt (.bool xa) (.bool xb) = (do pure (.bool (← Op.equal xt (.bool xa) (.bool xb)))) := rfl
              exact ⟨.bool (xa == xb), by rw [Sem.run_bind, g, Result.andThen_ok, hb, Sem.run_bind, run_equal_bool hu, Result.andThen_ok, Sem.run_pure], .of_bool⟩
            · cases h
              have hb : binOp .neq xt (.bool xa) (.bool xb) = (do pure (.bool (!(← Op.equal xt (.bool xa) (.bool xb))))) := rfl
              exact ⟨.bool (!(xa == xb)), by rw [Sem.run_bind, g, Result.andThen_ok, hb, Sem.run_bind, run_equal_bool hu, Result.andThen_ok, Sem.run_pure], .of_bool⟩
            · cases h
          · cases h
        | _ => exact agg _ _ hA hB h
      | str =>
        cases kb with
        | str =>
          have hx := hA.p_str
          have hy := hB.p_str
          subst hx hy
          simp only [evBin] at h
          split at h
          case h_1 =>
            cases h
            have hb : ((xa.size + xb.size : Nat) : Int) ≤ IntKind.i64.max := hcs _ (by simp)
            have hb' : ¬ (((xa.size + xb.size : Nat) : Int) > IntKind.i64.max) := by omega
            refine ⟨.string (xa ++ xb), ?_, .of_str⟩
            simp only [eqGuard, binOp, Op.stringOp]
            rw [if_neg hb']
            simp
          all_goals first
            | (cases h; done)
            | (cases h; exact ⟨_, by simp only [eqGuard, binOp, Op.stringOp, Sem.run_bind, Sem.run_pure, Result.andThen_ok]; rfl, .of_bool⟩)
        | _ => exact agg _ _ hA hB h
      | _ => exact agg _ _ hA hB h
    | _ => exact agg _ _ hA hB (by cases ka <;> exact h)
  | nilsl =>
    cases B with
    | nilsl =>
      have hx := hA.one rfl (by simp)
      have hy := hB.one rfl (by simp)
      cases hx
      cases hy
      simp only [evBin] at h
      split at h
      · rename_i hs
        exact nil_sound (run_equal_slice (P := P) (w := w) hs (none, 0, 0) (none, 0, 0) (.inr rfl)) h p q
      · cases h
    | _ => exact agg _ _ hA hB h
  | nn e l =>
    cases B with
    | nilsl =>
      have hx := hA.one rfl (by simp)
      have hy := hB.one rfl (by simp)
      cases hy
      cases hx with
      | nn hc hn =>
        obtain ⟨a, cap, hv, _⟩ := hc
        cases hv
        simp only [evBin] at h
        split at h
        · rename_i hs
          have := run_equal_slice (P := P) (w := w) hs (a, List.length l, cap) (none, 0, 0) (.inr rfl)
          cases a with
          | none => cases hn
          | some a => exact nil_sound this h p q
        · cases h
    | _ => exact agg _ _ hA hB h
  | _ => exact agg _ _ hA hB (by cases B <;> exact h)

theorem un_sound {op : UnOp} {A R : AV} {x : Value} (hA : VRel O ρ w A x) (h : evUn op A = some R) : ∃ v, (Op.unary op x).run P w = .ok v w ∧ VRel O ρ w R v := by
  cases A with
  | p k n =>
    cases k with
    | bool =>
      have := hA.p_bool; subst this
      cases op <;> simp only [evUn] at h <;> try (cases h; done)
      cases h
      exact ⟨_, by simp [Op.unary], .of_bool⟩
    | int k =>
      have := hA.p_int; subst this
      cases op <;> simp only [evUn] at h <;> try (cases h; done)
      · cases h
        exact ⟨_, by simp [Op.unary, Op.intArith], .of_int⟩
      · cases h
        exact ⟨_, by simp [Op.unary, Op.intBits], .of_int⟩
    | _ => cases h
  | _ => cases h

theorem flatten_drop {e : Kd} : ∀ {l : List e.T} {css : List (List Value)} (h : All2 (Cells O w e) l css) (i : Nat), (css.drop i).flatten = css.flatten.drop (i * e.size)
  | [], [], _, i => by simp
  | _ :: _, _ :: _, _, 0 => by simp
  | x :: l, cc :: css, h, i + 1 => by
    have hl := h.1.length
    rw [List.drop_succ_cons, flatten_drop h.2 i, List.flatten_cons, Nat.add_mul, Nat.one_mul, show i * e.size + e.size = cc.length + i * e.size by omega, List.drop_length_add_append]
  | [], _ :: _, h, _ => h.elim
  | _ :: _, [], h, _ => h.elim

theorem flatten_take {e : Kd} : ∀ {l : List e.T} {css : List (List Value)} (h : All2 (Cells O w e) l css) (i : Nat), (css.take i).flatten = css.flatten.take (i * e.size)
  | [], [], _, i => by simp
  | _ :: _, _ :: _, _, 0 => by simp
  | x :: l, cc :: css, h, i + 1 => by
    have hl := h.1.length
    rw [List.take_succ_cons, List.flatten_cons, flatten_take h.2 i, List.flatten_cons, Nat.add_mul, Nat.one_mul, show i * e.size + e.size = cc.length + i * e.size by omega, List.take_length_add_append]
  | [], _ :: _, h, _ => h.elim
  | _ :: _, [], h, _ => h.elim

theorem cells_slice {e : Kd} {x : List e.T} {A : Option Addr} {n cap l h : Nat} (hc : Cells O w (.sl e) x [.slice A n cap]) (hl : l ≤ h) (hh : h ≤ x.length) :
    n = x.length ∧ x.length ≤ cap ∧ Cells O w (.sl e) (List.drop l (List.take h x)) [.slice (if cap = l then A else A.map (·.add (l * e.size))) (h - l) (cap - l)] := by
  obtain ⟨A', cap', hv, hle, hA, hr⟩ := hc
  cases hv
  have hlen : (List.drop l (List.take h x)).length = h - l := by rw [List.length_drop, List.length_take, Nat.min_eq_left hh]
  have hnil : h - l = 0 → List.drop l (List.take h x) = [] := fun h0 => List.eq_nil_of_length_eq_zero (by rw [hlen]; exact h0)
  refine ⟨rfl, hle, ?_⟩
  refine ⟨_, cap - l, by rw [hlen], by rw [hlen]; omega, ?_, ?_⟩
  · intro hnone
    have hAn : A = none := by
      split at hnone
      · exact hnone
      · cases A with
        | none => rfl
        | some _ => cases hnone
    obtain ⟨h1, h2⟩ := hA hAn
    have hx0 : x.length = 0 := by rw [h1]; rfl
    exact ⟨hnil (by omega), by omega⟩
  · intro ad had
    by_cases hcl : cap = l
    · rw [if_pos hcl] at had
      have h0 : h - l = 0 := by omega
      rw [hnil h0]
      exact ⟨[], trivial, fun hne => absurd rfl hne, fun j v hv => by simp at hv⟩
    · rw [if_neg hcl] at had
      cases A with
      | none => cases had
      | some ad0 =>
        cases had
        obtain ⟨css, h1, h2, h3⟩ := hr ad0 rfl
        have hall : All2 (Cells O w e) (List.drop l (List.take h x)) ((css.take h).drop l) := (h1.take h).drop l
        have hfl : ((css.take h).drop l).flatten = (css.flatten.take (h * e.size)).drop (l * e.size) := by
          rw [flatten_drop (h1.take h), flatten_take h1]
        refine ⟨_, hall, fun hne => ?_, ?_⟩
        · have hne' : css.flatten ≠ [] := by intro hh'; rw [hfl, hh'] at hne; simp at hne
          obtain ⟨k1, k2⟩ := h2 hne'
          constructor
          · unfold Addr.add
            split
            · exact k1
            · rfl
          · unfold Addr.add
            split <;> exact k2
        · have hr1 := range_sub h3 (l * e.size) (h * e.size - l * e.size)
          rw [hfl]
          rw [List.drop_take]
          have e1 : (ad0.add (l * e.size)).block = ad0.block := by unfold Addr.add; split <;> rfl
          have e2 : (ad0.add (l * e.size)).off = ad0.off + l * e.size := by
            unfold Addr.add; split
            · rename_i hz; rw [hz]; rfl
            · rfl
          rw [e1, e2]
          exact hr1

theorem sliceAt_eq {t : TypeId} {x : Value} {lo hi : Option Value} {d : TypeDesc} (hu : P.underlying t = some d) (hd : ∀ n e, d ≠ .array n e) :
    (Instr.sliceAt t x lo hi none).run P w = (Instr.slice t x lo hi none).run P w := by
  unfold Instr.sliceAt
  rw [Sem.run_bind, run_underlying hu, Result.andThen_ok]
  cases d <;> first | rfl | exact absurd rfl (hd _ _)

theorem run_bounds {isS : Bool} {len cap : Nat} {lo hi : Option Value} {l h : Nat} (hlo : (lo = none ∧ l = 0) ∨ ∃ k n, lo = some (.int k n) ∧ 0 ≤ n ∧ n.toNat = l) (hhi : (hi = none ∧ h = len) ∨ ∃ k n, hi = some (.int k n) ∧ 0 ≤ n ∧ n.toNat = h)
    (h1 : l ≤ h) (h2 : h ≤ cap) : (Instr.sliceBounds isS len cap lo hi none).run P w = .ok (l, h, cap) w := by
  have hb : ∀ (k : IntKind) (n : Int) (y : Nat) (cd : BoundsCode), 0 ≤ n → n.toNat ≤ y → (Instr.sliceBound (.int k n) y cd).run P w = .ok n.toNat w := by
    intro k n y cd h0 hy
    unfold Instr.sliceBound
    simp only [asIntOf, Sem.run_bind, Sem.run_pure, Result.andThen_ok]
    rw [if_pos ⟨h0, by omega⟩]
    rfl
  unfold Instr.sliceBounds
  rcases hlo with ⟨rfl, rfl⟩ | ⟨k, n, rfl, hn0, rfl⟩ <;> rcases hhi with ⟨rfl, rfl⟩ | ⟨k', n', rfl, hn0', rfl⟩
  · simp
  · simp [hb k' n' cap _ hn0' h2]
  · simp [hb k n _ _ hn0 h1]
  · simp [hb k' n' cap _ hn0' h2, hb k n _ _ hn0 h1]
end
end Go.Abs
set_option linter.unusedVariables false
set_option linter.unusedSimpArgs false
namespace Go.Abs
set_option linter.unusedSectionVars false
variable [Globs]
section
variable {P : Program} {c : Cx} {ρ : Nat → Loc} {st : St} {a : Act} {w : World}

theorem optI_bound (sim : SimR c ρ st a w) {x : Option Operand} {n : Option Int} (h : (optI x).run st = some n) :
    (x.map a.eval = none ∧ n = none) ∨ ∃ k m, x.map a.eval = some (.int k m) ∧ n = some m := by
  rcases optI_sound sim h with ⟨rfl, rfl⟩ | ⟨y, k, m, rfl, rfl, hy⟩
  · exact .inl ⟨rfl, rfl⟩
  · exact .inr ⟨k, m, by simp [hy], rfl⟩

theorem stringT_some {t : TypeId} (h : stringT P t = true) : P.underlying t = some .string := by
  unfold stringT at h
  split at h
  · assumption
  · cases h

theorem bnds_sound {n : Nat} {nl nh : Option Int} {vl vh : Option Value} (bl : (vl = none ∧ nl = none) ∨ ∃ k m, vl = some (.int k m) ∧ nl = some m) (bh : (vh = none ∧ nh = none) ∨ ∃ k m, vh = some (.int k m) ∧ nh = some m)
    (hcs : ∀ p ∈ (bnds n nl nh).2.2, p) :
    ((vl = none ∧ (bnds n nl nh).1 = 0) ∨ ∃ k m, vl = some (.int k m) ∧ 0 ≤ m ∧ m.toNat = (bnds n nl nh).1) ∧ ((vh = none ∧ (bnds n nl nh).2.1 = n) ∨ ∃ k m, vh = some (.int k m) ∧ 0 ≤ m ∧ m.toNat = (bnds n nl nh).2.1) ∧
      (bnds n nl nh).1 ≤ (bnds n nl nh).2.1 ∧ (bnds n nl nh).2.1 ≤ n := by
  rcases bl with ⟨b1, rfl⟩ | ⟨kl, ml, b1, rfl⟩ <;> rcases bh with ⟨b2, rfl⟩ | ⟨kh, mh, b2, rfl⟩
  · exact ⟨.inl ⟨b1, rfl⟩, .inl ⟨b2, rfl⟩, Nat.zero_le _, Nat.le_refl _⟩
  · have c1 : 0 ≤ mh := hcs _ (by simp [bnds])
    have c2 : mh ≤ (n : Int) := hcs _ (by simp [bnds])
    exact ⟨.inl ⟨b1, rfl⟩, .inr ⟨kh, mh, b2, c1, rfl⟩, Nat.zero_le _, by simp only [bnds]; omega⟩
  · have c1 : 0 ≤ ml := hcs _ (by simp [bnds])
    have c2 : ml ≤ (n : Int) := hcs _ (by simp [bnds])
    exact ⟨.inr ⟨kl, ml, b1, c1, rfl⟩, .inl ⟨b2, rfl⟩, by simp only [bnds]; omega, Nat.le_refl _⟩
  · have c1 : 0 ≤ mh := hcs _ (by simp [bnds])
    have c2 : mh ≤ (n : Int) := hcs _ (by simp [bnds])
    have c3 : 0 ≤ ml := hcs _ (by simp [bnds])
    have c4 : ml ≤ mh := hcs _ (by simp [bnds])
    exact ⟨.inr ⟨kl, ml, b1, c3, rfl⟩, .inr ⟨kh, mh, b2, c1, rfl⟩, by simp only [bnds]; omega, by simp only [bnds]; omega⟩

theorem elemKd_some {et : TypeId} {e : Kd} (h : elemKd P et = some e) : P.cellsOf et = e.size ∧ (P.info? et).isSome = true ∧ 0 < e.size := by
  unfold elemKd at h
  split at h
  · split at h
    · rename_i hf
      cases h
      exact fits_some hf
    · cases h
  · cases h

theorem slice_sound (sim : SimR c ρ st a w) {t : TypeId} {A R : AV} {cs : List Prop} {v : Value} {lo hi : Option Operand} {nl nh : Option Int} (hA : VRel (Own c.base st ρ) ρ w A v)
    (hlo : (optI lo).run st = some nl) (hhi : (optI hi).run st = some nh) (h : (evSlice P t nl nh A).run st = some (R, cs)) (hcs : ∀ p ∈ cs, p) :
    ∃ u, (Instr.sliceAt t v (lo.map a.eval) (hi.map a.eval) none).run P w = .ok u w ∧ VRel (Own c.base st ρ) ρ w R u := by
  have bl := optI_bound sim hlo
  have bh := optI_bound sim hhi
  -- what the bounds come to
  have str : ∀ (s : ByteArray) (l h : Nat), P.underlying t = some .string → ((lo.map a.eval = none ∧ l = 0) ∨ ∃ k n, lo.map a.eval = some (.int k n) ∧ 0 ≤ n ∧ n.toNat = l) →
      ((hi.map a.eval = none ∧ h = s.size) ∨ ∃ k n, hi.map a.eval = some (.int k n) ∧ 0 ≤ n ∧ n.toNat = h) → l ≤ h → h ≤ s.size →
      (Instr.sliceAt t (.string s) (lo.map a.eval) (hi.map a.eval) none).run P w = .ok (.string (s.extract l h)) w := by
    intro s l h hu h1 h2 h3 h4
    rw [sliceAt_eq hu (by intro n e hh; cases hh)]
    unfold Instr.slice
    rw [Sem.run_bind, run_underlying hu, Result.andThen_ok]
    simp only [Option.isSome_none, Bool.false_eq_true, if_false, Sem.run_bind]
    simp only [Sem.run_bind, run_bounds h1 h2 h3 h4, Result.andThen_ok, Sem.run_pure]
  have sl : ∀ (A : Option Addr) (n cap l h : Nat) (et : TypeId), P.underlying t = some (.slice et) → (P.info? et).isSome = true → ((lo.map a.eval = none ∧ l = 0) ∨ ∃ k n, lo.map a.eval = some (.int k n) ∧ 0 ≤ n ∧ n.toNat = l) →
      ((hi.map a.eval = none ∧ h = n) ∨ ∃ k n, hi.map a.eval = some (.int k n) ∧ 0 ≤ n ∧ n.toNat = h) → l ≤ h → h ≤ cap →
      (Instr.sliceAt t (.slice A n cap) (lo.map a.eval) (hi.map a.eval) none).run P w = .ok (.slice (if cap = l then A else A.map (·.add (l * P.cellsOf et))) (h - l) (cap - l)) w := by
    intro A n cap l h et hu hi' h1 h2 h3 h4
    rw [sliceAt_eq hu (by intro n e hh; cases hh)]
    unfold Instr.slice
    rw [Sem.run_bind, run_underlying hu, Result.andThen_ok]
    simp only [Sem.run_bind, run_bounds h1 h2 h3 h4, Result.andThen_ok, run_sizeOf' hi', Sem.run_pure]
  cases A with
  | p k x =>
    cases k with
    | str =>
      have := hA.p_str; subst this
      simp only [evSlice] at h
      split at h
      · rename_i hs
        have hu := stringT_some hs
        rcases bl with ⟨b1, rfl⟩ | ⟨kl, ml, b1, rfl⟩ <;> rcases bh with ⟨b2, rfl⟩ | ⟨kh, mh, b2, rfl⟩
        · cases h
          exact ⟨_, str x 0 x.size hu (.inl ⟨b1, rfl⟩) (.inl ⟨b2, rfl⟩) (Nat.zero_le _) (Nat.le_refl _), .of_str⟩
        · cases h
          have c1 : 0 ≤ mh := hcs _ (by simp)
          have c2 : mh ≤ (x.size : Int) := hcs _ (by simp)
          exact ⟨_, str x 0 mh.toNat hu (.inl ⟨b1, rfl⟩) (.inr ⟨kh, mh, b2, c1, rfl⟩) (Nat.zero_le _) (by omega), .of_str⟩
        · cases h
          have c1 : 0 ≤ ml := hcs _ (by simp)
          have c2 : ml ≤ (x.size : Int) := hcs _ (by simp)
          exact ⟨_, str x ml.toNat x.size hu (.inr ⟨kl, ml, b1, c1, rfl⟩) (.inl ⟨b2, rfl⟩) (by omega) (Nat.le_refl _), .of_str⟩
        · cases h
          have c1 : 0 ≤ mh := hcs _ (by simp)
          have c2 : mh ≤ (x.size : Int) := hcs _ (by simp)
          have c3 : 0 ≤ ml := hcs _ (by simp)
          have c4 : ml ≤ mh := hcs _ (by simp)
          exact ⟨_, str x ml.toNat mh.toNat hu (.inr ⟨kl, ml, b1, c3, rfl⟩) (.inr ⟨kh, mh, b2, c1, rfl⟩) (by omega) (by omega), .of_str⟩
      · cases h
    | sl e =>
      have hc := hA.one rfl (by simp)
      cases hc with
      | p hc =>
        simp only [evSlice] at h
        split at h
        · rename_i et hst
          have hu := sliceT_some hst
          split at h
          · rename_i hf
            obtain ⟨f1, f2, f3⟩ := fits_some hf
            have hv : ∃ A cap, v = .slice A (List.length x) cap := by
              obtain ⟨A, cap, hv, _⟩ := hc
              exact ⟨A, cap, by simpa using hv⟩
            obtain ⟨A, cap, rfl⟩ := hv
            have hle := (cells_slice (l := 0) (h := 0) hc (Nat.le_refl _) (Nat.zero_le _)).2.1
            have fin : ∀ l h, l ≤ h → h ≤ List.length x → VRel (Own c.base st ρ) ρ w (.p (.sl e) (List.drop l (List.take h x))) (.slice (if cap = l then A else A.map (·.add (l * P.cellsOf et))) (h - l) (cap - l)) := by
              intro l h h1 h2
              rw [f1]
              exact .of_one rfl (.p (cells_slice hc h1 h2).2.2)
            rcases bl with ⟨b1, rfl⟩ | ⟨kl, ml, b1, rfl⟩ <;> rcases bh with ⟨b2, rfl⟩ | ⟨kh, mh, b2, rfl⟩
            · cases h
              have := fin 0 (List.length x) (Nat.zero_le _) (Nat.le_refl _)
              rw [List.take_length, List.drop_zero] at this
              exact ⟨_, sl A _ cap 0 (List.length x) et hu f2 (.inl ⟨b1, rfl⟩) (.inl ⟨b2, rfl⟩) (Nat.zero_le _) hle, this⟩
            · cases h
              have c1 : 0 ≤ mh := hcs _ (by simp)
              have c2 : mh ≤ (List.length x : Int) := hcs _ (by simp)
              have := fin 0 mh.toNat (Nat.zero_le _) (by omega)
              rw [List.drop_zero] at this
              exact ⟨_, sl A _ cap 0 mh.toNat et hu f2 (.inl ⟨b1, rfl⟩) (.inr ⟨kh, mh, b2, c1, rfl⟩) (Nat.zero_le _) (by omega), this⟩
            · cases h
              have c1 : 0 ≤ ml := hcs _ (by simp)
              have c2 : ml ≤ (List.length x : Int) := hcs _ (by simp)
              have := fin ml.toNat (List.length x) (by omega) (Nat.le_refl _)
              rw [List.take_length] at this
              exact ⟨_, sl A _ cap ml.toNat (List.length x) et hu f2 (.inr ⟨kl, ml, b1, c1, rfl⟩) (.inl ⟨b2, rfl⟩) (by omega) hle, this⟩
            · cases h
              have c1 : 0 ≤ mh := hcs _ (by simp)
              have c2 : mh ≤ (List.length x : Int) := hcs _ (by simp)
              have c3 : 0 ≤ ml := hcs _ (by simp)
              have c4 : ml ≤ mh := hcs _ (by simp)
              exact ⟨_, sl A _ cap ml.toNat mh.toNat et hu f2 (.inr ⟨kl, ml, b1, c3, rfl⟩) (.inr ⟨kh, mh, b2, c1, rfl⟩) (by omega) (by omega), fin _ _ (by omega) (by omega)⟩
          · cases h
        · cases h
    | _ => cases h
  | row r n =>
    have hc := hA.one rfl (by simp)
    cases hc with
    | row hr hn =>
      rename_i m cp A
      simp only [evSlice] at h
      split at h
      · rename_i et hst
        have hu := sliceT_some hst
        obtain ⟨y, hg, hy⟩ := get_run h
        cases y with
        | row e et' xs =>
          dsimp only at hy
          split at hy
          · rename_i hf
            obtain ⟨f1, f2, f3⟩ := fits_some hf
            obtain ⟨v', css, h1, h2, h3, h4⟩ := row_range (sim.ents r _ hg)
            rw [hr] at h1
            cases h1
            have hmc : m ≤ cp ∧ m = xs.length ∧ (0 < m → ∃ b, A = some ⟨b, 0, none⟩) := by
              rcases h3.2 with ⟨hv, hl⟩ | ⟨g, cap, cur, hv, h0, hh, hnc, hcm, hcs', htake⟩
              · cases hv; exact ⟨Nat.le_refl _, hl.symm, fun h => by omega⟩
              · cases hv; exact ⟨hnc, rfl, fun _ => ⟨g, rfl⟩⟩
            rcases bl with ⟨b1, rfl⟩ | ⟨kl, ml, b1, rfl⟩ <;> rcases bh with ⟨b2, rfl⟩ | ⟨kh, mh, b2, rfl⟩
            · cases hy
              have := sl A n cp 0 n et hu f2 (.inl ⟨b1, rfl⟩) (.inl ⟨b2, rfl⟩) (Nat.zero_le _) (by omega)
              refine ⟨_, this, .of_one rfl ?_⟩
              have e1 : (if cp = 0 then A else A.map (·.add (0 * P.cellsOf et))) = A := by
                split
                · rfl
                · cases A with
                  | none => rfl
                  | some ad => simp [Addr.add]
              rw [e1]
              exact .row hr hn
            · cases hy
              have c1 : 0 ≤ mh := hcs _ (by simp)
              have c2 : mh ≤ (n : Int) := hcs _ (by simp)
              have := sl A n cp 0 mh.toNat et hu f2 (.inl ⟨b1, rfl⟩) (.inr ⟨kh, mh, b2, c1, rfl⟩) (Nat.zero_le _) (by omega)
              refine ⟨_, this, .of_one rfl ?_⟩
              have e1 : (if cp = 0 then A else A.map (·.add (0 * P.cellsOf et))) = A := by
                split
                · rfl
                · cases A with
                  | none => rfl
                  | some ad => simp [Addr.add]
              rw [e1]
              exact .row hr (by omega)
            · cases hy
              have c1 : 0 ≤ ml := hcs _ (by simp)
              have c2 : ml ≤ (n : Int) := hcs _ (by simp)
              have := sl A n cp ml.toNat n et hu f2 (.inr ⟨kl, ml, b1, c1, rfl⟩) (.inl ⟨b2, rfl⟩) (by omega) (by omega)
              refine ⟨_, this, .of_one rfl (.rsuf hr (fun hpos => ?_) (by omega) (by omega))⟩
              obtain ⟨b, hb⟩ := hmc.2.2 (by omega)
              subst hb
              refine ⟨b, rfl, ?_⟩
              rw [if_neg (by omega), f1]
              simp [Addr.add_mid]
            · cases hy
          · cases hy
        | v => cases hy
        | t => cases hy
        | box => cases hy
      · cases h
  | ptr r off =>
    have hc := hA.one rfl (by simp)
    cases hc with
    | ptr hb =>
      rename_i b
      simp only [evSlice] at h
      split at h
      · rename_i n et hat
        split at h
        · rename_i e hek
          obtain ⟨f1, f2, f3⟩ := elemKd_some hek
          cases h
          obtain ⟨q1, q2, q3, q4⟩ := bnds_sound bl bh hcs
          have hu := arrayT_some hat
          obtain ⟨l, hl⟩ : ∃ l, l = (bnds n nl nh).1 := ⟨_, rfl⟩
          obtain ⟨h', hh'⟩ : ∃ h, h = (bnds n nl nh).2.1 := ⟨_, rfl⟩
          rw [← hl] at q1 q3 ⊢
          rw [← hh'] at q2 q3 q4 ⊢
          refine ⟨.slice (some (if n = l then ⟨b, off, none⟩ else (⟨b, off, none⟩ : Addr).add (l * P.cellsOf et))) (h' - l) (n - l), ?_, .of_one rfl (.bsl hb (fun hlt => ?_) (by omega))⟩
          · unfold Instr.sliceAt
            simp only [Sem.run_bind, run_underlying hu, Result.andThen_ok, Instr.sureAddr, Sem.run_pure, run_bounds q1 q2 q3 q4, run_sizeOf' f2]
          · rw [if_neg (by omega), f1]
            simp [Addr.add_mid]
        · cases h
      · cases h
  | bsl e r off n lo' m =>
    have hc := hA.one rfl (by simp)
    cases hc with
    | bsl hb ha hm =>
      rename_i b ad
      simp only [evSlice] at h
      split at h
      · rename_i et hst
        have hu := sliceT_some hst
        split at h
        · rename_i hf
          obtain ⟨f1, f2, f3⟩ := fits_some hf
          cases h
          obtain ⟨q1, q2, q3, q4⟩ := bnds_sound bl bh hcs
          obtain ⟨l, hl⟩ : ∃ l, l = (bnds m nl nh).1 := ⟨_, rfl⟩
          obtain ⟨h', hh'⟩ : ∃ h, h = (bnds m nl nh).2.1 := ⟨_, rfl⟩
          rw [← hl] at q1 q3 ⊢
          rw [← hh'] at q2 q3 q4 ⊢
          have := sl (some ad) m (n - lo') l h' et hu f2 q1 q2 q3 (by omega)
          have e1 : (if n - lo' = l then some ad else (some ad).map (·.add (l * P.cellsOf et))) = some (if n - lo' = l then ad else ad.add (l * P.cellsOf et)) := by split <;> rfl
          rw [e1, Nat.sub_sub] at this
          refine ⟨_, this, .of_one rfl (.bsl hb (fun hlt => ?_) (by omega))⟩
          rw [if_neg (by omega), ha (by omega), f1, Addr.add_mid, Nat.add_mul, Nat.add_assoc]
        · cases h
      · cases h
  | _ => cases h
end
end Go.Abs
set_option linter.unusedVariables false
set_option linter.unusedSimpArgs false
namespace Go.Abs
set_option linter.unusedSectionVars false
variable [Globs]
section
variable {P : Program} {c : Cx} {ρ : Nat → Loc} {st : St} {a : Act} {w : World}

theorem indexAddr_sound (sim : SimR c ρ st a w) {t : TypeId} {A R : AV} {cs : List Prop} {v : Value} {k : IntKind} {i : Int} (hA : VRel (Own c.base st ρ) ρ w A v)
    (h : (evIndexAddr P t i A).run st = some (R, cs)) (hcs : ∀ p ∈ cs, p) :
    ∃ u, (Instr.indexAt t v (.int k i)).run P w = .ok u w ∧ VRel (Own c.base st ρ) ρ w R u := by
  have run : ∀ (ad : Addr) (n cap : Nat) (et : TypeId), P.underlying t = some (.slice et) → (P.info? et).isSome = true → 0 ≤ i → i < (n : Int) →
      (Instr.indexAt t (.slice (some ad) n cap) (.int k i)).run P w = .ok (.pointer (some (ad.add (i.toNat * P.cellsOf et)))) w := by
    intro ad n cap et hu hi h0 h1
    unfold Instr.indexAt
    simp only [asIntOf, Sem.run_bind, Sem.run_pure, Result.andThen_ok, run_underlying hu]
    rw [if_pos ⟨h0, h1⟩]
    simp only [Sem.run_bind, run_sizeOf' hi, Result.andThen_ok, Sem.run_pure]
  have runA : ∀ (b o n : Nat) (et : TypeId), arrayT P t = some (n, et) → (P.info? et).isSome = true → 0 ≤ i → i < (n : Int) →
      (Instr.indexAt t (.pointer (some ⟨b, o, none⟩)) (.int k i)).run P w = .ok (.pointer (some ⟨b, o + i.toNat * P.cellsOf et, none⟩)) w := by
    intro b o n et ha hi h0 h1
    have hu := arrayT_some ha
    unfold Instr.indexAt
    simp only [asIntOf, Sem.run_bind, Sem.run_pure, Result.andThen_ok, run_underlying hu, Instr.sureAddr]
    rw [if_pos ⟨h0, h1⟩]
    simp only [Sem.run_bind, run_sizeOf' hi, Result.andThen_ok, Sem.run_pure, Addr.add_mid]
  cases A with
  | p kk x =>
    cases kk with
    | sl e =>
      have hc := hA.one rfl (by simp)
      cases hc with
      | p hc =>
        simp only [evIndexAddr] at h
        split at h
        · rename_i et hst
          have hu := sliceT_some hst
          split at h
          · rename_i hf
            obtain ⟨f1, f2, f3⟩ := fits_some hf
            cases h
            have h0 : 0 ≤ i := hcs _ (by simp)
            have h1 : i < (List.length x : Int) := hcs _ (by simp)
            obtain ⟨B, cap, hv, hle, hB, hr⟩ := hc
            cases hv
            cases B with
            | none =>
              have := (hB rfl).1
              have : List.length x = 0 := by rw [this]; rfl
              omega
            | some ad =>
              obtain ⟨css, k1, k2, k3⟩ := hr ad rfl
              have hi' : i.toNat < List.length x := by omega
              refine ⟨_, run ad _ cap et hu f2 h0 h1, .of_one rfl ?_⟩
              rw [f1]
              have hne : css.flatten ≠ [] := by
                intro hh
                have := flatten_length k1
                rw [hh] at this
                have h2 : 1 * e.size ≤ List.length x * e.size := Nat.mul_le_mul_right _ (by omega)
                simp only [List.length_nil] at this
                omega
              have hsp : (ad.add (i.toNat * e.size)) = ⟨ad.block, ad.off + i.toNat * e.size, none⟩ := by
                unfold Addr.add
                split
                · rename_i hq
                  have := (k2 hne).1
                  cases ad
                  simp_all
                · rfl
              rw [hsp]
              exact .eptr (off := 0) k1 (fun hne => (k2 hne).2) k3 hi'
          · cases h
        · cases h
    | _ => cases h
  | row r n =>
    have hc := hA.one rfl (by simp)
    cases hc with
    | row hr hn =>
      rename_i m cp B
      simp only [evIndexAddr] at h
      split at h
      · rename_i et hst
        have hu := sliceT_some hst
        obtain ⟨y, hg, hy⟩ := get_run h
        cases y with
        | row e et' xs =>
          dsimp only at hy
          split at hy
          · rename_i hf
            obtain ⟨f1, f2, f3⟩ := fits_some hf
            cases hy
            have h0 : 0 ≤ i := hcs _ (by simp)
            have h1 : i < (n : Int) := hcs _ (by simp)
            obtain ⟨v', css, q1, q2, q3, q4⟩ := row_range (sim.ents r _ hg)
            rw [hr] at q1
            cases q1
            rcases q3.2 with ⟨hv, hl⟩ | ⟨g, cap, cur, hv, _, hh, hnc, hcm, hcs', htake⟩
            · cases hv; omega
            · cases hv
              refine ⟨_, run _ _ cp et hu f2 h0 h1, .of_one rfl ?_⟩
              rw [f1, Addr.add_mid, Nat.zero_add]
              have := CRel.rptr (O := Own c.base st ρ) (ρ := ρ) (w := w) (e := e) (i := i.toNat) (off := 0) hr
              simpa using this
          · cases hy
        | v => cases hy
        | t => cases hy
        | box => cases hy
      · cases h
  | ptr r off =>
    have hc := hA.one rfl (by simp)
    cases hc with
    | ptr hb =>
      simp only [evIndexAddr] at h
      split at h
      · rename_i n et hat
        split at h
        · rename_i e hek
          obtain ⟨f1, f2, f3⟩ := elemKd_some hek
          cases h
          have h0 : 0 ≤ i := hcs _ (by simp)
          have h1 : i < (n : Int) := hcs _ (by simp)
          refine ⟨_, runA _ _ n et hat f2 h0 h1, .of_one rfl ?_⟩
          have := CRel.aptr (O := Own c.base st ρ) (ρ := ρ) (w := w) (e := e) (off := off) (n := n) (i := i.toNat) (o := 0) hb (by omega)
          rw [f1]
          simpa using this
        · cases h
      · cases h
  | eptr k' l j off =>
    have hc := hA.one rfl (by simp)
    cases hc with
    | eptr hl hO hr hj =>
      rename_i ad css
      simp only [evIndexAddr] at h
      split at h
      · rename_i n et hat
        split at h
        · rename_i e hek
          obtain ⟨f1, f2, f3⟩ := elemKd_some hek
          split at h
          · rename_i n' e' x hsub
            split at h
            · rename_i he
              obtain ⟨he, hn'⟩ := he
              subst he
              subst hn'
              cases h
              have h0 : 0 ≤ i := hcs _ (by simp)
              have h1 : i < (n' : Int) := hcs _ (by simp)
              obtain ⟨d, hd1, hd2⟩ := flatten_part hl j hj
              obtain ⟨k1, _, k3, _, _⟩ := Kd.sub_sound (ρ := ρ) hd1 hsub
              have hdl := hd1.length
              have hr1 := range_sub hr (j * k'.size) k'.size
              rw [hd2] at hr1
              have hr2 := range_sub hr1 off (n' * e'.size)
              cases k1 with
              | p k1 =>
                obtain ⟨hxl, css2, hcss2, hall⟩ := k1
                rw [hcss2] at hr2
                refine ⟨_, runA _ _ n' et hat f2 h0 h1, .of_one rfl ?_⟩
                rw [f1]
                have := CRel.eptr (O := Own c.base st ρ) (ρ := ρ) (w := w) (e := e') (l := x) (i := i.toNat) (off := 0) (ad := ⟨ad.block, ad.off + j * k'.size + off, none⟩) hall (fun hne => hO (fun hh => by
                  apply hne
                  rw [← hcss2]
                  have hd0 : d = [] := by rw [← hd2, hh]; simp
                  rw [hd0]; simp)) hr2 (by rw [hxl]; omega)
                simpa using this
            · cases h
          · cases h
        · cases h
      · cases h
  | bsl e r off n lo m =>
    have hc := hA.one rfl (by simp)
    cases hc with
    | bsl hb ha hm =>
      rename_i b ad
      simp only [evIndexAddr] at h
      split at h
      · rename_i et hst
        have hu := sliceT_some hst
        split at h
        · rename_i hf
          obtain ⟨f1, f2, f3⟩ := fits_some hf
          cases h
          have h0 : 0 ≤ i := hcs _ (by simp)
          have h1 : i < (m : Int) := hcs _ (by simp)
          have hlt : lo < n := by omega
          rw [ha hlt]
          refine ⟨_, run _ _ _ et hu f2 h0 h1, .of_one rfl ?_⟩
          rw [f1, Addr.add_mid]
          have := CRel.aptr (O := Own c.base st ρ) (ρ := ρ) (w := w) (e := e) (off := off) (n := n) (i := lo + i.toNat) (o := 0) hb (by omega)
          rw [Nat.add_mul, ← Nat.add_assoc, Nat.add_zero] at this
          exact this
        · cases h
      · cases h
  | _ => cases h

theorem bt_eq (s : ByteArray) (i : Int) (h0 : 0 ≤ i) (h1 : i < (s.size : Int)) : ∃ b, s[i.toNat]? = some b ∧ (b.toNat : Int) = bt s i := by
  have hi : i.toNat < s.size := by omega
  refine ⟨s[i.toNat]'hi, getElem?_pos s i.toNat hi, ?_⟩
  unfold bt
  have hl : s.data.toList.length = s.size := by rw [Array.length_toList]; rfl
  rw [List.getD_eq_getElem?_getD, List.getElem?_eq_getElem (by omega)]
  rfl

theorem part_sound {O : Nat → Prop} {ft : TypeId} {B : AV} {cs : Array Value} {off : Nat} (hok : okT P ft = true) (hg : B.isAgg = aggT P ft) (hB : CRel O ρ w B ((cs.toList.drop off).take (P.cellsOf ft))) (hl : off + P.cellsOf ft ≤ cs.toList.length) :
    ∃ u, (part ft cs off).run P w = .ok u w ∧ VRel O ρ w B u := by
  obtain ⟨h1, h2⟩ := okT_iff hok
  unfold part
  rw [Sem.run_bind, run_isAgg' h2, Result.andThen_ok]
  cases hag : aggT P ft with
  | true =>
    rw [hag] at hg
    refine ⟨.agg ((cs.toList.drop off).take (P.cellsOf ft)).toArray, ?_, .inr (.inl ⟨hg, _, rfl, hB⟩)⟩
    simp only [if_true, Sem.run_bind, run_sizeOf' h1, Result.andThen_ok, Sem.run_pure]
    congr 2
    apply Array.ext'
    simp only [Array.toList_extract, List.extract_eq_take_drop]
    congr 1
    omega
  | false =>
    rw [hag] at hg
    obtain ⟨v, hv⟩ := hB.single hg
    rw [hv] at hB
    have : cs[off]? = some v := by
      have := congrArg (fun l => l[0]?) hv
      simp only [List.getElem?_take, List.getElem?_drop] at this
      split at this
      · simpa using this
      · simp at this
    refine ⟨v, by simp [this], .inr (.inr ⟨hg, hB⟩)⟩

theorem field_sound {O : Nat → Prop} {t : TypeId} {f : Nat} {A R : AV} {v : Value} (hA : VRel O ρ w A v) (h : evField P t f A = some R) : ∃ u, (Instr.field t v f).run P w = .ok u w ∧ VRel O ρ w R u := by
  cases A with
  | agg as =>
    simp only [evField] at h
    split at h
    · rename_i off ft hfo
      split at h
      · rename_i hok
        cases hs : AV.subs as off (P.cellsOf ft) (aggT P ft) with
        | none => rw [hs] at h; cases h
        | some B =>
          rw [hs] at h
          cases h
          rcases hA with ⟨hh, _⟩ | ⟨_, c, rfl, hc⟩ | ⟨hh, _⟩
          · cases hh
          · cases hc with
            | agg hc =>
              obtain ⟨k1, k2, k3, _⟩ := AV.subs_sound hc hs
              unfold fieldOff at hfo
              split at hfo
              · rename_i fs hu
                cases hf : fs[f]? with
                | none => rw [hf] at hfo; cases hfo
                | some fd =>
                  rw [hf] at hfo
                  cases hfo
                  obtain ⟨u, hu1, hu2⟩ := part_sound (cs := c.toArray) hok k2 (by simpa using k1) (by simpa using k3)
                  refine ⟨u, ?_, hu2.nf⟩
                  unfold Instr.field
                  simp only [Sem.run_bind, run_underlying hu, Result.andThen_ok, hf]
                  simpa [asAgg] using hu1
              · cases hfo
          · cases hh
      · cases h
    · cases h
  | _ => cases h

theorem index_sound {O : Nat → Prop} {t : TypeId} {A R : AV} {cs : List Prop} {v : Value} {k : IntKind} {i : Int} (hA : VRel O ρ w A v)
    (h : (evIndex P t i A).run st = some (R, cs)) (hcs : ∀ p ∈ cs, p) : ∃ u, (Instr.index t v (.int k i)).run P w = .ok u w ∧ VRel O ρ w R u := by
  cases A with
  | p kk x =>
    cases kk with
    | str =>
      have := hA.p_str; subst this
      simp only [evIndex] at h
      split at h
      · rename_i hs
        have hu := stringT_some hs
        cases h
        have h0 : 0 ≤ i := hcs _ (by simp)
        have h1 : i < (x.size : Int) := hcs _ (by simp)
        obtain ⟨b, hb1, hb2⟩ := bt_eq x i h0 h1
        refine ⟨.int .u8 b.toNat, ?_, by rw [hb2]; exact .of_int⟩
        unfold Instr.index
        simp only [asIntOf, Sem.run_bind, Sem.run_pure, Result.andThen_ok, run_underlying hu]
        rw [if_pos h0, hb1]
        rfl
      · cases h
    | arr n e =>
      simp only [evIndex] at h
      split at h
      · rename_i n' et hat
        split at h
        · rename_i hq
          obtain ⟨rfl, hf, hok, hag⟩ := hq
          obtain ⟨f1, f2, f3⟩ := fits_some hf
          have hu := arrayT_some hat
          cases h
          have h0 : 0 ≤ i := hcs _ (by simp)
          have h1 : i < (n' : Int) := hcs _ (by simp)
          rcases hA with ⟨hh, _⟩ | ⟨_, c, rfl, hc⟩ | ⟨hh, _⟩
          · cases hh
          · cases hc with
            | p hc =>
              obtain ⟨hxl, css, rfl, hall⟩ := hc
              obtain ⟨d, hd1, hd2⟩ := flatten_part hall i.toNat (by omega)
              have hfl := flatten_length hall
              have hle : (i.toNat + 1) * e.size ≤ n' * e.size := Nat.mul_le_mul_right _ (by omega)
              rw [Nat.add_mul, Nat.one_mul] at hle
              rw [hxl] at hfl
              obtain ⟨u, hu1, hu2⟩ := part_sound (ρ := ρ) (O := O) (B := .p e (List.getD x i.toNat e.dflt)) (cs := css.flatten.toArray) (off := i.toNat * e.size) hok (by rw [hag]; rfl) (by rw [f1]; show CRel O ρ w _ ((css.flatten.drop (i.toNat * e.size)).take e.size); rw [hd2]; exact .p hd1) (by rw [f1]; show _ ≤ css.flatten.length; omega)
              refine ⟨u, ?_, hu2.nf⟩
              unfold Instr.index
              simp only [asIntOf, Sem.run_bind, Sem.run_pure, Result.andThen_ok, run_underlying hu]
              rw [if_pos ⟨h0, h1⟩]
              simp only [Sem.run_bind, run_sizeOf' f2, Result.andThen_ok, f1]
              exact hu1
          · cases hh
        · cases h
      · cases h
    | _ => cases h
  | _ => cases h

theorem fieldAddr_sound {O : Nat → Prop} {t : TypeId} {A R : AV} {v : Value} {f : Nat} (hA : VRel O ρ w A v)
    (h : evFieldAddr P t f A = some R) : ∃ u, (Instr.fieldAt t v f).run P w = .ok u w ∧ VRel O ρ w R u := by
  unfold evFieldAddr at h
  cases hf : fieldOff P t f with
  | none => rw [hf] at h; cases h
  | some of =>
    obtain ⟨o, ft⟩ := of
    rw [hf] at h
    dsimp only at h
    split at h
    · cases h
    · rename_i hq
      have hq1 : P.cellsOf ft ≠ 0 := fun hh => hq (.inl hh)
      have hq2 : (P.info? ft).isSome = true := by
        cases hh : P.info? ft with
        | none => exact absurd (.inr (by rw [hh]; rfl)) hq
        | some _ => rfl
      unfold fieldOff at hf
      split at hf
      · rename_i fs hu
        cases hfs : fs[f]? with
        | none => rw [hfs] at hf; cases hf
        | some fd =>
          rw [hfs] at hf
          cases hf
          have run : ∀ (b off : Nat), (Instr.fieldAt t (.pointer (some ⟨b, off, none⟩)) f).run P w = .ok (.pointer (some ⟨b, off + fd.offset, none⟩)) w := by
            intro b off
            unfold Instr.fieldAt
            simp only [Sem.run_bind, run_underlying hu, Result.andThen_ok, hfs, Instr.sureAddr, Sem.run_pure]
            unfold fieldPlace
            simp only [Sem.run_bind, run_sizeOf' hq2, Result.andThen_ok]
            rw [if_neg hq1]
            simp [Addr.add_mid]
          cases A with
          | ptr r off =>
            cases h
            have hc := hA.one rfl (by simp)
            cases hc with
            | ptr hb => exact ⟨_, run _ _, .of_one rfl (.ptr hb)⟩
          | eptr e l i off =>
            cases h
            have hc := hA.one rfl (by simp)
            cases hc with
            | eptr h1 h2 h3 h4 =>
              refine ⟨_, run _ _, .of_one rfl ?_⟩
              rw [Nat.add_assoc]
              exact .eptr h1 h2 h3 h4
          | rptr e r i off =>
            cases h
            have hc := hA.one rfl (by simp)
            cases hc with
            | rptr hb =>
              refine ⟨_, run _ _, .of_one rfl ?_⟩
              rw [Nat.add_assoc]
              exact .rptr hb
          | aptr e r off n i p =>
            cases h
            have hc := hA.one rfl (by simp)
            cases hc with
            | aptr hb hi =>
              refine ⟨_, run _ _, .of_one rfl ?_⟩
              rw [Nat.add_assoc]
              exact .aptr hb hi
          | _ => cases h
      · cases hf

theorem len_sound {O : Nat → Prop} {t ty : TypeId} {A : AV} {v : Value} {n : Int} (hA : VRel O ρ w A v) (h : lenAV A = some n) (ht : lenT P t A = true) : ∀ {ts : Array TypeId}, ts[0]? = some t →
    (Builtin.len_ ts ty #[v]).run P w = .ok (.int .i64 n) w := by
  intro ts hts
  have sl : ∀ (B : Option Addr) (m cap : Nat), (sliceT P t).isSome = true → (Builtin.len_ ts ty #[.slice B m cap]).run P w = .ok (.int .i64 m) w := by
    intro B m cap hs
    obtain ⟨et, hs⟩ := Option.isSome_iff_exists.1 hs
    have hu := sliceT_some hs
    unfold Builtin.len_
    rw [hts]
    simp [run_underlying hu, goInt]
  cases A with
  | p k x =>
    cases k with
    | sl e =>
      cases h
      have hc := hA.one rfl (by simp)
      cases hc with
      | p hc =>
        obtain ⟨B, cap, hv, _⟩ := hc
        cases hv
        exact sl _ _ _ ht
    | str =>
      cases h
      have := hA.p_str; subst this
      have hu := stringT_some ht
      unfold Builtin.len_
      rw [hts]
      simp [run_underlying hu, goInt]
    | _ => cases h
  | nilsl =>
    cases h
    have hc := hA.one rfl (by simp)
    cases hc
    exact sl _ _ _ ht
  | row r m =>
    cases h
    have hc := hA.one rfl (by simp)
    cases hc
    exact sl _ _ _ ht
  | rsuf e r lo m =>
    cases h
    have hc := hA.one rfl (by simp)
    cases hc
    exact sl _ _ _ ht
  | bsl e r off n lo m =>
    cases h
    have hc := hA.one rfl (by simp)
    cases hc
    exact sl _ _ _ ht
  | _ => cases h

theorem mm_sound {O : Nat → Prop} (mx : Bool) {k : IntKind} {x z : Int} : ∀ {As : List AV} {vs : List Value}, All2 (VRel O ρ w) As vs → evMM mx k x As = some z →
    (vs.foldlM (if mx then Builtin.max2 else Builtin.min2) (.int k x)).run P w = .ok (.int k z) w := by
  intro As
  induction As generalizing x with
  | nil =>
    intro vs h he
    cases vs with
    | nil => cases he; simp
    | cons => exact h.elim
  | cons A As ih =>
    intro vs h he
    cases vs with
    | nil => exact h.elim
    | cons v vs =>
      cases A with
      | p kk y =>
        cases kk with
        | int k' =>
          simp only [evMM] at he
          split at he
          · rename_i hk
            subst hk
            have := h.1.p_int
            subst this
            have h2 := ih h.2 he
            rw [List.foldlM_cons, Sem.run_bind]
            cases mx
            · simp only [Bool.false_eq_true, if_false] at h2 ⊢
              simp only [Builtin.min2, Sem.run_pure, Result.andThen_ok]
              simpa [mm] using h2
            · simp only [if_true] at h2 ⊢
              simp only [Builtin.max2, Sem.run_pure, Result.andThen_ok]
              simpa [mm] using h2
          · cases he
        | _ => cases he
      | _ => cases he


theorem run_append_mine {et : TypeId} {i : TypeInfo} {z : Value} {t ty : TypeId} {size : Nat} (ht : P.underlying t = some (.slice et)) (hi : P.info? et = some i) (hz : i.zero = some z) (hsize : i.size = size) (hzs : z.cells.size = size) (hsz : 0 < size)
    {v : Value} {n : Nat} {xs : List Value} (ho : w.ownsRow 0 et size v n xs) {A : Option Addr} {m cp : Nat} {news : List Value} (hl : news.length = m * size) (hA : A = none → m = 0)
    (hnews : ∀ ad, A = some ad → ∀ j u, news[j]? = some u → w.cell? (ad.add j) = some u) (h1 : ∀ u ∈ news, u.oneCell' = true) (h63 : n + m ≤ maxLen) (hbytes : (n + m) * i.bytes ≤ 140737488355328) :
    ∃ v' w', (Builtin.append_ #[t, t] ty #[v, .slice A m cp]).run P w = .ok v' w' ∧ w'.ownsRow 0 et size v' (n + m) (xs ++ news) ∧ w.grownBy w' v.ownBlock ∧
      (∀ b, v'.ownBlock = some b → some b = v.ownBlock ∨ w.heap.size ≤ b) := by
  subst hsize
  cases A with
  | none =>
    have hm := hA rfl
    subst hm
    have hnil : news = [] := List.eq_nil_of_length_eq_zero (by omega)
    subst hnil
    refine ⟨v, w, ?_, by simpa using ho, ⟨rfl, rfl, rfl, Nat.le_refl _, fun _ _ _ => rfl⟩, fun b hb => .inl hb.symm⟩
    rcases ho.2 with ⟨rfl, rfl⟩ | ⟨g, cap, cur, rfl, _, hh, hnc, _⟩
    · simp [Builtin.append_, run_underlying ht, sizeOf, typeInfo, hi, Builtin.lenOf, Builtin.firstCells, loadCells, loadCellsFrom]
    · simp [Builtin.append_, run_underlying ht, sizeOf, typeInfo, hi, Builtin.lenOf, Builtin.firstCells, loadCells, loadCellsFrom, storeCells, hnc]
  | some ad =>
    have hn := hnews ad rfl
    rcases ho.2 with ⟨rfl, rfl⟩ | ⟨g, cap, cur, rfl, _, hh, hnc, hcm, hcs, htk⟩
    · -- from nothing: whatever comes is new
      have hxs : xs = [] := List.eq_nil_of_length_eq_zero (by simpa using ho.1)
      subst hxs
      obtain ⟨v', w', r1, r2, r3, _⟩ := run_append_own (P := P) w w.heap.size t ty et i z i.size i.bytes ht hi hz rfl rfl hzs hsz (.slice none 0 0) 0 [] (World.ownsRow_nil w _ _ _) ad m cp news hl hn h1 h63 hbytes (Nat.le_refl _)
      refine ⟨v', w', r1, ⟨r2.1, ?_⟩, r3, fun b hb => .inr (r2.lt b hb).1⟩
      rcases r2.2 with h | ⟨g, cap, cur, q1, q2, q3⟩
      · exact .inl h
      · exact .inr ⟨g, cap, cur, q1, Nat.zero_le _, q3⟩
    · by_cases hroom : n + m ≤ cap
      · obtain ⟨v', w', r1, r2, r3, _⟩ := run_append_own (P := P) w 0 t ty et i z i.size i.bytes ht hi hz rfl rfl hzs hsz _ n xs ho ad m cp news hl hn h1 h63 hbytes (Nat.zero_le _)
        have hfit : n * i.size + news.length ≤ cur.size := by rw [hl, hcs, ← Nat.add_mul]; exact Nat.mul_le_mul_right _ hroom
        have hr := run_append_room (P := P) w t ty et i ht hi g n cap cur hh ad m cp news hl hn h1 hroom hfit
        rw [r1] at hr
        cases hr
        exact ⟨_, _, r1, r2, r3, fun b hb => .inl hb.symm⟩
      · obtain ⟨v', w', r1, r2, r3, _⟩ := run_append_own (P := P) w 0 t ty et i z i.size i.bytes ht hi hz rfl rfl hzs hsz _ n xs ho ad m cp news hl hn h1 h63 hbytes (Nat.zero_le _)
        have holds : ∀ j u, xs[j]? = some u → w.cell? ((⟨g, 0, none⟩ : Addr).add j) = some u := ho.cells (g := g) rfl
        have hr := run_append_grow (P := P) w t ty et i z ht hi hz ⟨g, 0, none⟩ n cap xs ho.1 holds ad m cp news hl hn (by omega) (by simp only [maxLen] at h63; omega) (growslice_fits (by omega) hbytes)
        rw [r1] at hr
        cases hr
        refine ⟨_, _, r1, r2, r3, fun b hb => .inr ?_⟩
        have : w.heap.size = b := by simpa [Value.ownBlock] using hb
        omega

theorem owned_slice {O : Nat → Prop} {e n : Nat} {size : Nat} {v : Value} {xs : List Value} {w : World} (h : w.ownsRow 0 e size v n xs) : ∃ A c, v = .slice A n c := by
  rcases h.2 with ⟨rfl, rfl⟩ | ⟨g, cap, cur, rfl, _⟩
  · exact ⟨none, 0, rfl⟩
  · exact ⟨_, cap, rfl⟩

theorem run_append_mine_str {et : TypeId} {i : TypeInfo} {t u ty : TypeId} (ht : P.underlying t = some (.slice et)) (hu : P.underlying u = some .string) (hi : P.info? et = some i) (hz : i.zero = some (.int .u8 0)) (hsize : i.size = 1) (hby : i.bytes = 1)
    {v : Value} {n : Nat} {xs : List Value} (ho : w.ownsRow 0 et 1 v n xs) (s : ByteArray) (h63 : n + s.size ≤ maxLen) (hbytes : n + s.size ≤ 140737488355328) :
    ∃ v' w', (Builtin.append_ #[t, u] ty #[v, .string s]).run P w = .ok v' w' ∧ w'.ownsRow 0 et 1 v' (n + s.size) (xs ++ Lib.strCells s) ∧ w.grownBy w' v.ownBlock ∧
      (∀ b, v'.ownBlock = some b → some b = v.ownBlock ∨ w.heap.size ≤ b) := by
  rcases ho.2 with ⟨rfl, rfl⟩ | ⟨g, cap, cur, rfl, _, hh, hnc, hcm, hcs, htk⟩
  · have hxs : xs = [] := List.eq_nil_of_length_eq_zero (by simpa using ho.1)
    subst hxs
    obtain ⟨v', w', r1, r2, r3, _⟩ := Lib.run_append_own_string (P := P) w w.heap.size t u ty et i ht hu hi hz hsize hby (.slice none 0 0) 0 [] (World.ownsRow_nil w _ _ _) s h63 hbytes (Nat.le_refl _)
    refine ⟨v', w', r1, ⟨r2.1, ?_⟩, r3, fun b hb => .inr (r2.lt b hb).1⟩
    rcases r2.2 with h | ⟨g, cap, cur, q1, q2, q3⟩
    · exact .inl h
    · exact .inr ⟨g, cap, cur, q1, Nat.zero_le _, q3⟩
  · obtain ⟨v', w', r1, r2, r3, _⟩ := Lib.run_append_own_string (P := P) w 0 t u ty et i ht hu hi hz hsize hby _ n xs ho s h63 hbytes (Nat.zero_le _)
    have hcs' : cur.size = cap := by simpa using hcs
    by_cases hroom : n + s.size ≤ cap
    · have hr := Lib.run_append_room_string (P := P) w t u ty et i ht hu hi hsize g n cap cur hh s hroom (by omega)
      rw [r1] at hr
      cases hr
      exact ⟨_, _, r1, r2, r3, fun b hb => .inl hb.symm⟩
    · have holds : ∀ j u, xs[j]? = some u → w.cell? ((⟨g, 0, none⟩ : Addr).add j) = some u := ho.cells (g := g) rfl
      have hxl : xs.length = n := by simpa using ho.1
      have hr := Lib.run_append_grow_string (P := P) w t u ty et i (.int .u8 0) ht hu hi hz ⟨g, 0, none⟩ n cap xs (by rw [hsize]; simpa using hxl) holds s (by omega) (by simp only [maxLen] at h63; omega) (by rw [hby]; exact growslice_fits (by omega) (by omega))
      rw [r1] at hr
      cases hr
      refine ⟨_, _, r1, r2, r3, fun b hb => .inr ?_⟩
      have : w.heap.size = b := by simpa [Value.ownBlock] using hb
      omega

theorem bytes_cells {O : Nat → Prop} (s : ByteArray) : ∃ css, All2 (Cells O w (.int .u8)) (bytesOf s) css ∧ css.flatten = Lib.strCells s := by
  have key : ∀ (l : List UInt8), ∃ css, All2 (Cells O w (.int .u8)) (l.map fun b => (b.toNat : Int)) css ∧ css.flatten = l.map fun b => Value.int .u8 b.toNat := by
    intro l
    induction l with
    | nil => exact ⟨[], trivial, rfl⟩
    | cons b l ih =>
      obtain ⟨css, h1, h2⟩ := ih
      exact ⟨[.int .u8 b.toNat] :: css, ⟨rfl, h1⟩, by rw [List.flatten_cons, h2]; rfl⟩
  exact key _
theorem bytesOf_length (s : ByteArray) : (bytesOf s).length = s.size := by
  unfold bytesOf
  rw [List.length_map, Array.length_toList]; rfl

theorem appendS_sound (sim : SimR c ρ st a w) {t t2 ty : TypeId} {S X : AV} {s x : Value} {d : Nat} {e : Eff} (hS : VRel (Own c.base st ρ) ρ w S s) (hX : VRel (Own c.base st ρ) ρ w X x)
    (h : (evAppendS P t t2 S X d).run st = some e) (hcs : ∀ p ∈ e.c, p) (hd : d < c.n) (hfresh : ∀ r ∈ e.n, ∀ k x, St.get k st = some x → r ∉ x.refs) (hkp : ∀ r ∈ e.n, r ∉ c.kp) :
    ∃ v w' ρ', (Builtin.append_ #[t, t2] ty #[s, x]).run P w = .ok v w' ∧ SimR c ρ' (e.w ++ st) (a.put (some d) v) w' := by
  unfold evAppendS at h
  split at h
  · rename_i et str hst
    have hu := sliceT_some hst
    split at h
    · rename_i zs hz
      split at h
      · rename_i hq
        obtain ⟨hq1, hq2, hq3⟩ := hq
        have hu2 := stringT_some hq1
        have hx := hX.p_str
        subst hx
        obtain ⟨i, z, hi, hzv, hm, hsz, hag, _⟩ := zeroOf_some hz
        have hsz1 : i.size = 1 := hsz
        have hby : i.bytes = 1 := by simpa [Program.bytesOf, hi] using hq2
        have hz0 : z = .int .u8 0 := by
          unfold zeroU8 at hq3
          rw [hi] at hq3
          dsimp only at hq3
          rw [hzv] at hq3
          cases z <;> try (cases hq3; done)
          rename_i k n
          cases k <;> try (cases hq3; done)
          have : n = 0 := by simpa using hq3
          rw [this]
        subst hz0
        obtain ⟨css2, hall, hfl2⟩ := bytes_cells (O := Own c.base st ρ) (w := w) str
        cases S with
        | nilsl =>
          cases h
          have hc := hS.one rfl (by simp)
          cases hc
          have hbound : AppBound P et 0 (List.length (bytesOf str)) := hcs _ (by simp)
          have hb := hbound.2
          rw [hq2, Nat.mul_one] at hb
          have hb1 := hbound.1
          rw [bytesOf_length] at hb hb1
          obtain ⟨v', w', r1, r2, r3, r4⟩ := run_append_mine_str (P := P) (ty := ty) hu hu2 hi hzv hsz1 hby (World.ownsRow_nil w 0 et 1) str hb1 hb
          rw [Nat.zero_add, List.nil_append, ← hfl2, ← bytesOf_length] at r2
          have hvb : (Value.slice none 0 0).ownBlock = none := rfl
          rw [hvb] at r3 r4
          obtain ⟨B, cpp, rfl⟩ := owned_slice (O := fun _ => False) r2
          refine ⟨_, w', _, r1, sim.create (L := .row (.slice B (List.length (bytesOf str)) cpp)) hd (hfresh d (by simp)) (hkp d (by simp)) r3.size (fun b hb => r3.block b hb (by simp)) r3.os r3.tape r3.output ?_ (fun hs => ?_) (fun hs => ?_)⟩
          · intro b hb
            refine ⟨?_, (r2.lt b hb).2⟩
            rcases r4 b hb with h | h
            · cases h
            · exact h
          · exact ⟨_, css2, rfl, All2.mono (fun _ _ h => h.stays hs) hall, r2⟩
          · exact .of_one rfl (.row (upd_eq _ _ _) (Nat.le_refl _))
        | row r n =>
          dsimp only at h
          obtain ⟨y, hg, hy⟩ := get_run h
          cases y with
          | row e' et' l =>
            dsimp only at hy
            split at hy
            · rename_i he
              subst he
              split at hy
              · rename_i het
                obtain ⟨het, hdr⟩ := het
                subst het
                cases hy
                have hc := hS.one rfl (by simp)
                cases hc with
                | row hr hle =>
                  rename_i m cp0 A0
                  have hnl : n = List.length l := hcs _ (by simp)
                  have hbound : AppBound P et' (List.length l) (List.length (bytesOf str)) := hcs _ (by simp)
                  have hb := hbound.2
                  rw [hq2, Nat.mul_one] at hb
                  have hb1 := hbound.1
                  rw [bytesOf_length] at hb hb1
                  obtain ⟨u, css, q1, q2, q3, q4⟩ := row_range (sim.ents r _ hg)
                  rw [hr] at q1
                  cases q1
                  have hml : m = List.length l := by
                    rcases q3.2 with ⟨hv, hl⟩ | ⟨g, cap, cur, hv, _⟩
                    · cases hv; omega
                    · cases hv; rfl
                  subst hml
                  subst hnl
                  obtain ⟨v', w', r1, r2, r3, r4⟩ := run_append_mine_str (P := P) (ty := ty) hu hu2 hi hzv hsz1 hby q3 str hb1 hb
                  rw [← hfl2, ← bytesOf_length, ← List.length_append, ← List.flatten_append] at r2
                  obtain ⟨B, cpp, rfl⟩ := owned_slice (O := fun _ => False) r2
                  refine ⟨_, w', _, r1, sim.appended (L := .row (.slice B (List.length (l ++ bytesOf str)) cpp)) hd hdr (hfresh d (by simp)) (hkp d (by simp)) (by rw [hg]; rfl) hr r3 ?_ (fun hs => ?_) (.row (upd_eq _ _ _) (Nat.le_refl _))⟩
                  · intro b hb
                    rcases r4 b hb with h | h
                    · exact .inl h
                    · exact .inr ⟨h, (r2.lt b hb).2⟩
                  · exact ⟨_, css ++ css2, rfl, All2.mono (fun _ _ h => h.stays hs) (q2.append hall), r2⟩
              · cases hy
            · cases hy
          | v => cases hy
          | t => cases hy
          | box => cases hy
        | _ => cases h
      · cases h
    · cases h
  · cases h

theorem append_sound (sim : SimR c ρ st a w) {t t2 ty : TypeId} {S X : AV} {s x : Value} {d : Nat} {e : Eff} {part : Bool} (hS : VRel (Own c.base st ρ) ρ w S s) (hX : VRel (Own c.base st ρ) ρ w X x)
    (h : (evAppend P t t2 S X d part).run st = some e) (hcs : ∀ p ∈ e.c, p) (hd : d < c.n) (hfresh : ∀ r ∈ e.n, ∀ k x, St.get k st = some x → r ∉ x.refs) (hkp : ∀ r ∈ e.n, r ∉ c.kp) :
    ∃ v w' ρ', (Builtin.append_ #[t, t2] ty #[s, x]).run P w = .ok v w' ∧ SimR c ρ' (e.w ++ st) (a.put (some d) v) w' := by
  unfold evAppend at h
  split at h
  · exact appendS_sound sim hS hX h hcs hd hfresh hkp
  · rename_i htt
    have htt : t = t2 := by
      by_cases hh : t = t2
      · exact hh
      · exact absurd hh htt
    subst htt
    cases hst : sliceT P t with
    | none => rw [hst] at h; cases h
    | some et =>
      rw [hst] at h
      dsimp only at h
      have hu := sliceT_some hst
      cases hz : zeroOf P et with
      | none => rw [hz] at h; cases h
      | some kz =>
        obtain ⟨k, zs⟩ := kz
        rw [hz] at h
        dsimp only at h
        split at h
        · cases h
        · rename_i hk0
          obtain ⟨i, z, hi, hzv, hm, hsz, hag, rfl⟩ := zeroOf_some hz
          obtain ⟨c1, hc1, hdf, hzs⟩ := Kd.zmatch_sound (O := Own c.base st ρ) (ρ := ρ) (w := w) hm
          rw [List.append_nil] at hc1
          have hzl : z.cells.size = k.size := by rw [← cells_toList_size, hc1, hdf.length]
          have hby : P.bytesOf et = i.bytes := by simp [Program.bytesOf, hi]
          cases S with
          | nilsl =>
            dsimp only at h
            obtain ⟨⟨l2, cs2⟩, h1, h2⟩ := RM.run_bind_some h
            cases h2
            have hc := hS.one rfl (by simp)
            cases hc
            have hbound : AppBound P et 0 (List.length l2) := hcs _ (by simp)
            obtain ⟨A, cp, css2, hx, hall, hA, hcell⟩ := elems_sound sim hX h1 (fun p hp => hcs p (by simp [hp]))
            have hb := hbound.2
            rw [hby] at hb
            subst hx
            obtain ⟨v', w', r1, r2, r3, r4⟩ := run_append_mine (P := P) (ty := ty) hu hi hzv hsz hzl (by omega) (World.ownsRow_nil w 0 et k.size) (flatten_length hall) (fun h => by rw [hA h]; rfl) hcell (flatten_one hall) hbound.1 hb
            have hvb : (Value.slice none 0 0).ownBlock = none := rfl
            rw [hvb] at r3 r4
            rw [Nat.zero_add, List.nil_append] at r2
            obtain ⟨B, cpp, rfl⟩ := owned_slice (O := fun _ => False) r2
            refine ⟨_, w', _, r1, sim.create (L := .row (.slice B (List.length l2) cpp)) hd (hfresh d (by simp)) (hkp d (by simp)) r3.size (fun b hb => r3.block b hb (by simp)) r3.os r3.tape r3.output ?_ (fun hs => ?_) (fun hs => ?_)⟩
            · intro b hb
              refine ⟨?_, (r2.lt b hb).2⟩
              rcases r4 b hb with h | h
              · cases h
              · exact h
            · exact ⟨_, css2, rfl, All2.mono (fun _ _ h => h.stays hs) hall, r2⟩
            · exact .of_one rfl (.row (upd_eq _ _ _) (Nat.le_refl _))
          | row r n =>
            dsimp only at h
            obtain ⟨y, hg, hy⟩ := get_run h
            cases y with
            | row e' et' l =>
              dsimp only at hy
              split at hy
              · rename_i he
                subst he
                split at hy
                · rename_i het
                  obtain ⟨het, hdr⟩ := het
                  subst het
                  obtain ⟨⟨l2, cs2⟩, h1, h2⟩ := RM.run_bind_some hy
                  cases h2
                  have hc := hS.one rfl (by simp)
                  cases hc with
                  | row hr hle =>
                    rename_i m cp0 A0
                    have hnl : n = List.length l := hcs _ (by simp)
                    have hbound : AppBound P et' (List.length l) (List.length l2) := hcs _ (by simp)
                    obtain ⟨A, cp, css2, hx, hall, hA, hcell⟩ := elems_sound sim hX h1 (fun p hp => hcs p (by simp [hp]))
                    have hb := hbound.2
                    rw [hby] at hb
                    subst hx
                    obtain ⟨u, css, q1, q2, q3, q4⟩ := row_range (sim.ents r _ hg)
                    rw [hr] at q1
                    cases q1
                    have hml : m = List.length l := by
                      rcases q3.2 with ⟨hv, hl⟩ | ⟨g, cap, cur, hv, _⟩
                      · cases hv; omega
                      · cases hv; rfl
                    subst hml
                    subst hnl
                    obtain ⟨v', w', r1, r2, r3, r4⟩ := run_append_mine (P := P) (ty := ty) hu hi hzv hsz hzl (by omega) q3 (flatten_length hall) (fun h => by rw [hA h]; rfl) hcell (flatten_one hall) hbound.1 hb
                    rw [← List.length_append, ← List.flatten_append] at r2
                    obtain ⟨B, cpp, rfl⟩ := owned_slice (O := fun _ => False) r2
                    refine ⟨_, w', _, r1, sim.appended (L := .row (.slice B (List.length (l ++ l2)) cpp)) hd hdr (hfresh d (by simp)) (hkp d (by simp)) (by rw [hg]; rfl) hr r3 ?_ (fun hs => ?_) (.row (upd_eq _ _ _) (Nat.le_refl _))⟩
                    · intro b hb
                      rcases r4 b hb with h | h
                      · exact .inl h
                      · exact .inr ⟨h, (r2.lt b hb).2⟩
                    · exact ⟨_, css ++ css2, rfl, All2.mono (fun _ _ h => h.stays hs) (q2.append hall), r2⟩
                · cases hy
              · cases hy
            | v => cases hy
            | t => cases hy
            | box => cases hy
          | _ => cases h
end
end Go.Abs
set_option linter.unusedVariables false
set_option linter.unusedSimpArgs false
namespace Go.Abs
set_option linter.unusedSectionVars false
variable [Globs]

mutual
theorem ren_size {m : List (Nat × Nat)} {a a' : AV} (hr : a.ren m = some a') : a'.size = a.size ∧ a'.isAgg = a.isAgg := match a, hr with
  | .p _ _, hr => by cases hr; exact ⟨rfl, rfl⟩
  | .nilsl, hr => by cases hr; exact ⟨rfl, rfl⟩
  | .nn _ _, hr => by cases hr; exact ⟨rfl, rfl⟩
  | .und, hr => by cases hr; exact ⟨rfl, rfl⟩
  | .eptr _ _ _ _, hr => by cases hr; exact ⟨rfl, rfl⟩
  | .ptr r o, hr => by
    simp only [AV.ren] at hr
    cases hx : rename m r with
    | none => rw [hx] at hr; cases hr
    | some r' => rw [hx] at hr; cases hr; exact ⟨rfl, rfl⟩
  | .rptr e r i o, hr => by
    simp only [AV.ren] at hr
    cases hx : rename m r with
    | none => rw [hx] at hr; cases hr
    | some r' => rw [hx] at hr; cases hr; exact ⟨rfl, rfl⟩
  | .row r n, hr => by
    simp only [AV.ren] at hr
    cases hx : rename m r with
    | none => rw [hx] at hr; cases hr
    | some r' => rw [hx] at hr; cases hr; exact ⟨rfl, rfl⟩
  | .rsuf e r lo n, hr => by
    simp only [AV.ren] at hr
    cases hx : rename m r with
    | none => rw [hx] at hr; cases hr
    | some r' => rw [hx] at hr; cases hr; exact ⟨rfl, rfl⟩
  | .aptr e r off n i o, hr => by
    simp only [AV.ren] at hr
    cases hx : rename m r with
    | none => rw [hx] at hr; cases hr
    | some r' => rw [hx] at hr; cases hr; exact ⟨rfl, rfl⟩
  | .bsl e r off n lo m', hr => by
    simp only [AV.ren] at hr
    cases hx : rename m r with
    | none => rw [hx] at hr; cases hr
    | some r' => rw [hx] at hr; cases hr; exact ⟨rfl, rfl⟩
  | .agg cs, hr => by
    simp only [AV.ren] at hr
    cases hx : AV.renL m cs with
    | none => rw [hx] at hr; cases hr
    | some cs' => rw [hx] at hr; cases hr; exact ⟨by simp only [AV.size]; exact renL_size hx, rfl⟩
  | .fn f cs, hr => by
    simp only [AV.ren] at hr
    cases hx : AV.renL m cs with
    | none => rw [hx] at hr; cases hr
    | some cs' => rw [hx] at hr; cases hr; exact ⟨rfl, rfl⟩
theorem renL_size {m : List (Nat × Nat)} {cs cs' : List AV} (hr : AV.renL m cs = some cs') : AV.size.sizes cs' = AV.size.sizes cs := match cs, hr with
  | [], hr => by cases hr; rfl
  | a :: as, hr => by
    simp only [AV.renL] at hr
    cases hx : a.ren m with
    | none => rw [hx] at hr; cases hr
    | some b =>
      cases hy : AV.renL m as with
      | none => rw [hx, hy] at hr; cases hr
      | some bs => rw [hx, hy] at hr; cases hr; simp only [AV.size.sizes, (ren_size hx).1, renL_size hy]
end

theorem renL_ones {m : List (Nat × Nat)} : ∀ {cs cs' : List AV}, AV.renL m cs = some cs' → AV.ones cs = true → AV.ones cs' = true
  | [], _, hr, _ => by cases hr; rfl
  | a :: as, _, hr, ho => by
    simp only [AV.renL] at hr
    cases hx : a.ren m with
    | none => rw [hx] at hr; cases hr
    | some b =>
      cases hy : AV.renL m as with
      | none => rw [hx, hy] at hr; cases hr
      | some bs =>
        rw [hx, hy] at hr; cases hr
        simp only [AV.ones, List.all_cons, Bool.and_eq_true] at ho ⊢
        obtain ⟨h1, h2⟩ := ren_size hx
        rw [h1, h2]
        exact ⟨ho.1, renL_ones hy ho.2⟩

section
variable {O : Nat → Prop} {ρ ρ' : Nat → Loc} {w : World} {m : List (Nat × Nat)}
mutual
theorem CRel.ren (hm : ∀ r r', rename m r = some r' → ρ' r' = ρ r) {a a' : AV} {c : List Value} (h : CRel O ρ w a c) (hr : a.ren m = some a') : CRel O ρ' w a' c ∧ a'.isAgg = a.isAgg := match a, c, h, hr with
  | _, _, .p h, hr => by cases hr; exact ⟨.p h, rfl⟩
  | _, _, .nilsl, hr => by cases hr; exact ⟨.nilsl, rfl⟩
  | _, _, .nn h hn, hr => by cases hr; exact ⟨.nn h hn, rfl⟩
  | .agg cs, _, .agg h, hr => by
    simp only [AV.ren] at hr
    cases hx : AV.renL m cs with
    | none => rw [hx] at hr; cases hr
    | some cs' => rw [hx] at hr; cases hr; exact ⟨.agg (CsRel.ren hm h hx), rfl⟩
  | .ptr r o, _, .ptr h, hr => by
    simp only [AV.ren] at hr
    cases hx : rename m r with
    | none => rw [hx] at hr; cases hr
    | some r' => rw [hx] at hr; cases hr; exact ⟨.ptr (by rw [hm _ _ hx]; exact h), rfl⟩
  | _, _, .eptr h1 h2 h3 h4, hr => by cases hr; exact ⟨.eptr h1 h2 h3 h4, rfl⟩
  | .rptr e r i o, _, .rptr h, hr => by
    simp only [AV.ren] at hr
    cases hx : rename m r with
    | none => rw [hx] at hr; cases hr
    | some r' => rw [hx] at hr; cases hr; exact ⟨.rptr (by rw [hm _ _ hx]; exact h), rfl⟩
  | .row r n, _, .row h hn, hr => by
    simp only [AV.ren] at hr
    cases hx : rename m r with
    | none => rw [hx] at hr; cases hr
    | some r' => rw [hx] at hr; cases hr; exact ⟨.row (by rw [hm _ _ hx]; exact h) hn, rfl⟩
  | .rsuf e r lo n, _, .rsuf h h1 h2 h3, hr => by
    simp only [AV.ren] at hr
    cases hx : rename m r with
    | none => rw [hx] at hr; cases hr
    | some r' => rw [hx] at hr; cases hr; exact ⟨.rsuf (by rw [hm _ _ hx]; exact h) h1 h2 h3, rfl⟩
  | .aptr e r off n i o, _, .aptr h hi, hr => by
    simp only [AV.ren] at hr
    cases hx : rename m r with
    | none => rw [hx] at hr; cases hr
    | some r' => rw [hx] at hr; cases hr; exact ⟨.aptr (by rw [hm _ _ hx]; exact h) hi, rfl⟩
  | .bsl e r off n lo m', _, .bsl h ha hmm, hr => by
    simp only [AV.ren] at hr
    cases hx : rename m r with
    | none => rw [hx] at hr; cases hr
    | some r' => rw [hx] at hr; cases hr; exact ⟨.bsl (by rw [hm _ _ hx]; exact h) ha hmm, rfl⟩
  | .fn f cs, _, .fn h hl, hr => by
    simp only [AV.ren] at hr
    cases hx : AV.renL m cs with
    | none => rw [hx] at hr; cases hr
    | some cs' => rw [hx] at hr; cases hr; exact ⟨.fn (CsRel.ren hm h hx) (renL_ones hx hl), rfl⟩
theorem CsRel.ren (hm : ∀ r r', rename m r = some r' → ρ' r' = ρ r) {cs cs' : List AV} {c : List Value} (h : CsRel O ρ w cs c) (hr : AV.renL m cs = some cs') : CsRel O ρ' w cs' c := match cs, c, h, hr with
  | _, _, .nil, hr => by cases hr; exact .nil
  | a :: as, _, .cons h1 h2, hr => by
    simp only [AV.renL] at hr
    cases hx : a.ren m with
    | none => rw [hx] at hr; cases hr
    | some b =>
      cases hy : AV.renL m as with
      | none => rw [hx, hy] at hr; cases hr
      | some bs => rw [hx, hy] at hr; cases hr; exact .cons (CRel.ren hm h1 hx).1 (CsRel.ren hm h2 hy)
end

theorem VRel.ren (hm : ∀ r r', rename m r = some r' → ρ' r' = ρ r) {a a' : AV} {v : Value} (h : VRel O ρ w a v) (hr : a.ren m = some a') : VRel O ρ' w a' v := by
  rcases h with ⟨rfl, h⟩ | ⟨hg, c, hv, h⟩ | ⟨hg, h⟩
  · cases hr; exact .inl ⟨rfl, h⟩
  · obtain ⟨h1, h2⟩ := h.ren hm hr
    exact .inr (.inl ⟨by rw [h2]; exact hg, c, hv, h1⟩)
  · obtain ⟨h1, h2⟩ := h.ren hm hr
    exact .inr (.inr ⟨by rw [h2]; exact hg, h1⟩)

theorem All2V.ren (hm : ∀ r r', rename m r = some r' → ρ' r' = ρ r) : ∀ {as as' : List AV} {vs : List Value}, All2 (VRel O ρ w) as vs → AV.renL m as = some as' → All2 (VRel O ρ' w) as' vs
  | [], _, [], _, hr => by cases hr; trivial
  | a :: as, as', v :: vs, h, hr => by
    simp only [AV.renL] at hr
    cases hx : a.ren m with
    | none => rw [hx] at hr; cases hr
    | some b =>
      cases hy : AV.renL m as with
      | none => rw [hx, hy] at hr; cases hr
      | some bs => rw [hx, hy] at hr; cases hr; exact ⟨h.1.ren hm hx, All2V.ren hm h.2 hy⟩
  | [], _, _ :: _, h, _ => h.elim
  | _ :: _, _, [], h, _ => h.elim

theorem SRel.ren (hm : ∀ r r', rename m r = some r' → ρ' r' = ρ r) {x y : Val} {v : Value} (h : SRel O ρ w x v) (hr : x.ren m = some y) : SRel O ρ' w y v := by
  cases x with
  | v a =>
    simp only [Val.ren] at hr
    cases hx : a.ren m with
    | none => rw [hx] at hr; cases hr
    | some b => rw [hx] at hr; cases hr; exact VRel.ren hm h hx
  | t as =>
    simp only [Val.ren] at hr
    cases hx : AV.renL m as with
    | none => rw [hx] at hr; cases hr
    | some b => rw [hx] at hr; cases hr; obtain ⟨vs, hv, h⟩ := h; exact ⟨vs, hv, All2V.ren hm h hx⟩
  | box cs =>
    simp only [Val.ren] at hr
    cases hx : AV.renL m cs with
    | none => rw [hx] at hr; cases hr
    | some b => rw [hx] at hr; cases hr; trivial
  | row => cases hr; trivial

theorem ERel.ren (hm : ∀ r r', rename m r = some r' → ρ' r' = ρ r) {x y : Val} {l : Loc} (h : ERel O ρ w x l) (hr : x.ren m = some y) : ERel O ρ' w y l := by
  cases x with
  | v a =>
    simp only [Val.ren] at hr
    cases hx : a.ren m with
    | none => rw [hx] at hr; cases hr
    | some b => rw [hx] at hr; cases hr; trivial
  | t as =>
    simp only [Val.ren] at hr
    cases hx : AV.renL m as with
    | none => rw [hx] at hr; cases hr
    | some b => rw [hx] at hr; cases hr; trivial
  | box cs =>
    simp only [Val.ren] at hr
    cases hx : AV.renL m cs with
    | none => rw [hx] at hr; cases hr
    | some b => rw [hx] at hr; cases hr; obtain ⟨bb, c, t, h1, h2, h3⟩ := h; exact ⟨bb, c, t, h1, h2, CsRel.ren hm h3 hx⟩
  | row e t l => cases hr; exact h
end

section
variable {O O' : Nat → Prop} {ρ : Nat → Loc} {w : World}
theorem Cells.flat : ∀ {k : Kd} {x : k.T} {c : List Value}, k.flat = true → Cells O w k x c → Cells O' w k x c
  | .int _, _, _, _, h => by simpa [Cells] using h
  | .bool, _, _, _, h => by simpa [Cells] using h
  | .str, _, _, _, h => by simpa [Cells] using h
  | .sl _, _, _, hf, _ => by cases hf
  | .unit, _, _, _, h => by simpa [Cells] using h
  | .pair a b, _, _, hf, h => by
    simp only [Kd.flat, Bool.and_eq_true] at hf
    obtain ⟨c1, c2, rfl, h1, h2⟩ := h
    exact ⟨c1, c2, rfl, Cells.flat hf.1 h1, Cells.flat hf.2 h2⟩
  | .arr n e, l, _, hf, h => by
    obtain ⟨hn, css, rfl, h⟩ := h
    exact ⟨hn, css, rfl, All2.mono (fun a b hab => Cells.flat (k := e) hf hab) h⟩

mutual
theorem CRel.flat {a : AV} {c : List Value} (hf : a.flat = true) (h : CRel O ρ w a c) : CRel O' ρ w a c := match a, c, hf, h with
  | _, _, hf, .p h => .p (h.flat hf)
  | _, _, _, .nilsl => .nilsl
  | _, _, hf, .agg h => .agg (CsRel.flat hf h)
  | _, _, _, .ptr h => .ptr h
  | .eptr _ _ _ _, _, hf, _ => by cases hf
  | .nn _ _, _, hf, _ => by cases hf
  | _, _, _, .rptr h => .rptr h
  | _, _, _, .row h hn => .row h hn
  | _, _, _, .rsuf h h1 h2 h3 => .rsuf h h1 h2 h3
  | _, _, _, .aptr h hi => .aptr h hi
  | _, _, _, .bsl h ha hm => .bsl h ha hm
  | _, _, hf, .fn h hl => .fn (CsRel.flat hf h) hl
theorem CsRel.flat {cs : List AV} {c : List Value} (hf : AV.flatL cs = true) (h : CsRel O ρ w cs c) : CsRel O' ρ w cs c := match cs, c, hf, h with
  | _, _, _, .nil => .nil
  | _, _, hf, .cons h1 h2 => by
    simp only [AV.flatL, Bool.and_eq_true] at hf
    exact .cons (CRel.flat hf.1 h1) (CsRel.flat hf.2 h2)
end

theorem VRel.flat {a : AV} {v : Value} (hf : a.flat = true) (h : VRel O ρ w a v) : VRel O' ρ w a v := by
  rcases h with h | ⟨hg, c, hv, h⟩ | ⟨hg, h⟩
  · exact .inl h
  · exact .inr (.inl ⟨hg, c, hv, h.flat hf⟩)
  · exact .inr (.inr ⟨hg, h.flat hf⟩)

theorem All2V.flat : ∀ {as : List AV} {vs : List Value}, AV.flatL as = true → All2 (VRel O ρ w) as vs → All2 (VRel O' ρ w) as vs
  | [], [], _, _ => trivial
  | a :: as, v :: vs, hf, h => by
    simp only [AV.flatL, Bool.and_eq_true] at hf
    exact ⟨h.1.flat hf.1, All2V.flat hf.2 h.2⟩
  | [], _ :: _, _, h => h.elim
  | _ :: _, [], _, h => h.elim

theorem SRel.flat {x : Val} {v : Value} (hf : x.flat = true) (h : SRel O ρ w x v) : SRel O' ρ w x v := by
  cases x with
  | v a => exact VRel.flat hf h
  | t as => obtain ⟨vs, hv, h⟩ := h; exact ⟨vs, hv, All2V.flat hf h⟩
  | box => trivial
  | row => trivial

theorem ERel.flat {x : Val} {l : Loc} (hf : x.flat = true) (h : ERel O ρ w x l) : ERel O' ρ w x l := by
  cases x with
  | v a => trivial
  | t as => trivial
  | box cs => obtain ⟨bb, c, t, h1, h2, h3⟩ := h; exact ⟨bb, c, t, h1, h2, h3.flat hf⟩
  | row e t l => obtain ⟨v, css, h1, h2, h3⟩ := h; exact ⟨v, css, h1, All2.mono (fun _ _ h => Cells.flat hf h) h2, h3⟩
end

section
variable {P : Program} {c : Cx} {ρ : Nat → Loc} {st : St} {a : Act} {w : World}

mutual
theorem lend_sound (sim : SimR c ρ st a w) {ids : List Nat} {O2 : Nat → Prop} (h2 : ∀ b, O2 b → Own c.base st ρ b) (hids : ∀ r ∈ ids, (St.get (ek r) st).isSome = true → ∀ b, (ρ r).block = some b → ¬ O2 b) {A B : AV} {cs : List Prop} {cc : List Value}
    (h : CRel (Own c.base st ρ) ρ w A cc) (hl : (lendAV ids A).run st = some (B, cs)) (hcs : ∀ p ∈ cs, p) : CRel O2 ρ w B cc ∧ B.isAgg = A.isAgg :=
  have hst : Stays (Own c.base st ρ) w O2 w := fun b _ hO => ⟨fun h => hO (h2 b h), rfl⟩
  match A, cc, h, hl with
  | .row r n, _, .row (m := m) (c := cp) (a := ad) hr hn, hl => by
    simp only [lendAV] at hl
    split at hl
    · rename_i hc
      obtain ⟨y, hg, hy⟩ := get_run hl
      cases y with
      | row e et l =>
        cases hy
        have hnl : n = List.length l := hcs _ (by simp)
        subst hnl
        obtain ⟨v, css, q1, q2, q3, q4⟩ := row_range (sim.ents r _ hg)
        rw [hr] at q1
        cases q1
        refine ⟨.p ⟨ad, cp, rfl, ?_, ?_, ?_⟩, rfl⟩
        · rcases q3.2 with ⟨hv, hl⟩ | ⟨g, cap, cur, hv, _, hh, hnc, _⟩
          · cases hv; omega
          · cases hv; exact hnc
        · intro hnone
          rcases q3.2 with ⟨hv, hl⟩ | ⟨g, cap, cur, hv, _⟩
          · cases hv; exact ⟨List.eq_nil_of_length_eq_zero hl, rfl⟩
          · cases hv; cases hnone
        · intro ad' had
          rcases q3.2 with ⟨hv, hl⟩ | ⟨g, cap, cur, hv, _⟩
          · cases hv; cases had
          · cases hv
            cases had
            exact ⟨css, All2.mono (fun _ _ h => h.stays hst) q2, fun _ => ⟨rfl, hids r (by simpa using hc) (by rw [hg]; rfl) g (by rw [hr]; rfl)⟩, q4 g _ _ rfl⟩
      | v => cases hy
      | t => cases hy
      | box => cases hy
    · cases hl; exact ⟨.row hr hn, rfl⟩
  | .agg as, _, .agg h, hl => by
    simp only [lendAV] at hl
    obtain ⟨⟨bs, cs'⟩, h3, h4⟩ := RM.run_bind_some hl
    cases h4
    exact ⟨.agg (lendL_sound sim h2 hids h h3 hcs), rfl⟩
  | .p k x, _, .p h, hl => by cases hl; exact ⟨.p (h.stays hst), rfl⟩
  | .nilsl, _, .nilsl, hl => by cases hl; exact ⟨.nilsl, rfl⟩
  | .nn e l, _, .nn h hn, hl => by cases hl; exact ⟨.nn (h.stays hst) hn, rfl⟩
  | .ptr r o, _, .ptr h, hl => by cases hl; exact ⟨.ptr h, rfl⟩
  | .eptr e l i o, _, .eptr k1 k2 k3 k4, hl => by cases hl; exact ⟨.eptr (All2.mono (fun _ _ h => h.stays hst) k1) (fun hne hO => k2 hne (h2 _ hO)) k3 k4, rfl⟩
  | .rptr e r i o, _, .rptr h, hl => by cases hl; exact ⟨.rptr h, rfl⟩
  | .rsuf e r lo n, _, .rsuf h k1 k2 k3, hl => by cases hl; exact ⟨.rsuf h k1 k2 k3, rfl⟩
  | .aptr e r off n i o, _, .aptr h hi, hl => by cases hl; exact ⟨.aptr h hi, rfl⟩
  | .bsl e r off n lo m, _, .bsl (b := b) (ad := ad) hr ha hm, hl => by
    simp only [lendAV] at hl
    split at hl
    · rename_i hc
      obtain ⟨y, hg, hy⟩ := get_run hl
      cases y with
      | box ccs =>
        dsimp only at hy
        split at hy
        · rename_i n' e' x hsub
          split at hy
          · rename_i he
            obtain ⟨he, hn'⟩ := he
            subst he
            subst hn'
            cases hy
            obtain ⟨vals, tt, hh, hcc⟩ := box_of sim hr hg
            obtain ⟨h1, _, h3, _⟩ := AV.subs_sound hcc hsub
            cases h1 with
            | p h1 =>
              obtain ⟨hxl, css, hcss, hall⟩ := h1
              refine ⟨.p ⟨some ad, n' - lo, ?_, ?_, fun h => (by cases h), fun ad' had => ?_⟩, rfl⟩
              · have hlen : List.length (List.take m (List.drop lo x)) = m := by rw [List.length_take, List.length_drop, hxl]; omega
                rw [hlen]
              · rw [List.length_take, List.length_drop, hxl]; omega
              · cases had
                refine ⟨(css.drop lo).take m, All2.mono (fun _ _ h => h.stays hst) ((hall.drop _).take _), fun hne => ?_, ?_⟩
                · have hlt : lo < n' := by
                    rcases Nat.lt_or_ge lo n' with h | h
                    · exact h
                    · exfalso
                      apply hne
                      have hcl : css.length = n' := by rw [← hall.length, hxl]
                      rw [List.drop_of_length_le (by omega)]
                      simp
                  rw [ha hlt]
                  exact ⟨rfl, hids r (by simpa using hc) (by rw [hg]; rfl) b (by rw [hr]; rfl)⟩
                · by_cases hlt : lo < n'
                  · rw [ha hlt, flatten_take' (hall.drop _), flatten_drop' hall, ← hcss]
                    have hr1 := rangeAt_cells hh off (n' * e'.size)
                    have hr2 := range_sub hr1 (lo * e'.size) (m * e'.size)
                    exact hr2
                  · have hcl : css.length = n' := by rw [← hall.length, hxl]
                    rw [List.drop_of_length_le (by omega)]
                    intro j v hv
                    simp at hv
          · cases hy
        · cases hy
      | v => cases hy
      | t => cases hy
      | row => cases hy
    · cases hl; exact ⟨.bsl hr ha hm, rfl⟩
  | .fn f cs, _, .fn h hn, hl => by cases hl; exact ⟨.fn (h.stays hst (fun _ _ => rfl)) hn, rfl⟩
theorem lendL_sound (sim : SimR c ρ st a w) {ids : List Nat} {O2 : Nat → Prop} (h2 : ∀ b, O2 b → Own c.base st ρ b) (hids : ∀ r ∈ ids, (St.get (ek r) st).isSome = true → ∀ b, (ρ r).block = some b → ¬ O2 b) {As Bs : List AV} {cs : List Prop} {cc : List Value}
    (h : CsRel (Own c.base st ρ) ρ w As cc) (hl : (lendL ids As).run st = some (Bs, cs)) (hcs : ∀ p ∈ cs, p) : CsRel O2 ρ w Bs cc :=
  match As, cc, h, hl with
  | _, _, .nil, hl => by cases hl; exact .nil
  | A :: As, _, .cons k1 k2, hl => by
    simp only [lendL] at hl
    obtain ⟨⟨B, c1⟩, h3, h4⟩ := RM.run_bind_some hl
    obtain ⟨⟨Bs', c2⟩, h5, h6⟩ := RM.run_bind_some h4
    cases h6
    exact .cons (lend_sound sim h2 hids k1 h3 (fun p hp => hcs p (by simp [hp]))).1 (lendL_sound sim h2 hids k2 h5 (fun p hp => hcs p (by simp [hp])))
end

theorem lendV_sound (sim : SimR c ρ st a w) {ids : List Nat} {O2 : Nat → Prop} (h2 : ∀ b, O2 b → Own c.base st ρ b) (hids : ∀ r ∈ ids, (St.get (ek r) st).isSome = true → ∀ b, (ρ r).block = some b → ¬ O2 b) : ∀ {As Bs : List AV} {cs : List Prop} {vs : List Value},
    All2 (VRel (Own c.base st ρ) ρ w) As vs → (lendL ids As).run st = some (Bs, cs) → (∀ p ∈ cs, p) → All2 (VRel O2 ρ w) Bs vs
  | [], Bs, cs, [], _, hl, _ => by cases hl; trivial
  | A :: As, Bs, cs, v :: vs, h, hl, hcs => by
    simp only [lendL] at hl
    obtain ⟨⟨B, c1⟩, h3, h4⟩ := RM.run_bind_some hl
    obtain ⟨⟨Bs', c2⟩, h5, h6⟩ := RM.run_bind_some h4
    cases h6
    refine ⟨?_, lendV_sound sim h2 hids h.2 h5 (fun p hp => hcs p (by simp [hp]))⟩
    rcases h.1 with ⟨rfl, hv⟩ | ⟨hg, cc, hv, hc⟩ | ⟨hg, hc⟩
    · cases h3
    · obtain ⟨k1, k2⟩ := lend_sound sim h2 hids hc h3 (fun p hp => hcs p (by simp [hp]))
      exact .inr (.inl ⟨by rw [k2]; exact hg, cc, hv, k1⟩)
    · obtain ⟨k1, k2⟩ := lend_sound sim h2 hids hc h3 (fun p hp => hcs p (by simp [hp]))
      exact .inr (.inr ⟨by rw [k2]; exact hg, k1⟩)
  | [], _, _, _ :: _, h, _, _ => h.elim
  | _ :: _, _, _, [], h, _, _ => h.elim
end

def est (es : List (Nat × Val)) : St := es.map fun x => (ek x.1, some x.2)

structure HeldR (base : Nat → Prop) (ρ : Nat → Loc) (st : St) (w : World) : Prop where
  ents : ∀ r x, St.get (ek r) st = some x → ERel (Own base st ρ) ρ w x (ρ r)
  inj : ∀ r r' b, (St.get (ek r) st).isSome = true → (St.get (ek r') st).isSome = true → (ρ r).block = some b → (ρ r').block = some b → r = r'
  mine : ∀ r b, (St.get (ek r) st).isSome = true → (ρ r).block = some b → ¬ base b ∧ b < w.heap.size

def Live (st : St) (ρ : Nat → Loc) (b : Nat) : Prop := ∃ r, (St.get (ek r) st).isSome = true ∧ (ρ r).block = some b

def SpecOk (P : Program) (s : Spc) : Prop :=
  ∀ (w : World) (base : Nat → Prop) (ρ : Nat → Loc) (cargs : List Value), (∀ b, base b → b < w.heap.size) → HeldR base ρ (est s.ents) w → GlobOk (Own base (est s.ents) ρ) w → All2 (VRel (Own base (est s.ents) ρ) ρ w) s.args cargs →
    Calls P s.f cargs.toArray w fun e w' => ∃ v ρ', e = .returned v ∧
      (∀ r, (St.get (ek r) (est s.ents)).isSome = true → (St.get (ek r) (est s.outs)).isSome = true → ρ' r = ρ r) ∧
      HeldR base ρ' (est s.outs) w' ∧ SRel (Own base (est s.outs) ρ') ρ' w' s.res v ∧
      (∀ b, Live (est s.outs) ρ' b → Live (est s.ents) ρ b ∨ w.heap.size ≤ b) ∧ Frm (Live (est s.ents) ρ) w w'

end Go.Abs
set_option linter.unusedVariables false
set_option linter.unusedSimpArgs false
namespace Go.Abs
set_option linter.unusedSectionVars false
variable [Globs]
theorem get_filter (r : Nat) (st : St) : ∀ (ws : St) (k : Nat), St.get k ((ws.filter fun z => !Nat.beq r z.1) ++ st) = if k = r then St.get k st else St.get k (ws ++ st)
  | [], k => by simp
  | (q, v) :: ws, k => by
    have ih := get_filter r st ws k
    by_cases hq : r = q
    · subst hq
      rw [List.filter_cons_of_neg (by simp), ih]
      by_cases hk : k = r
      · rw [if_pos hk, if_pos hk]
      · rw [if_neg hk, if_neg hk, List.cons_append, get_cons_ne _ _ hk]
    · have hb : (!Nat.beq r q) = true := by
        cases hb : Nat.beq r q with
        | false => rfl
        | true => exact absurd (Nat.eq_of_beq_eq_true hb) hq
      rw [List.filter_cons_of_pos (by exact hb), List.cons_append, List.cons_append]
      by_cases hk : k = q
      · subst hk
        rw [get_cons_eq, get_cons_eq, if_neg (fun h => hq h.symm)]
      · rw [get_cons_ne _ _ hk, get_cons_ne _ _ hk, ih]

theorem sameKeys_sound {st : St} : ∀ {rs : List Nat} {e0 e : Eff}, (sameKeys rs e0).run st = some e → (∀ p ∈ e.c, p) → (∀ p ∈ e0.c, p) ∧ e0.n = e.n ∧ ∀ k, St.get k (e.w ++ st) = St.get k (e0.w ++ st)
  | [], e0, e, h, hcs => by cases h; exact ⟨hcs, rfl, fun _ => rfl⟩
  | r :: rs, e0, e, h, hcs => by
    simp only [sameKeys] at h
    obtain ⟨x, hg, hy⟩ := get_run h
    split at hy
    · rename_i y hw
      obtain ⟨k1, k2, k3⟩ := sameKeys_sound hy hcs
      have hxy : x = y := k1 _ (by simp)
      subst hxy
      refine ⟨fun p hp => k1 p (by simp [hp]), k2, fun k => ?_⟩
      rw [k3 k, get_filter]
      by_cases hk : k = ek r
      · subst hk
        rw [if_pos rfl, get_append, hg]
        have : has (ek r) e0.w = true := by
          cases hb : has (ek r) e0.w with
          | true => rfl
          | false =>
            have hh := get_append (ek r) e0.w []
            rw [List.append_nil, hb, hw] at hh
            cases hh
        rw [if_pos this, hw]
      · rw [if_neg hk]
    · cases hy

section
variable {P : Program} {c : Cx} {ρ : Nat → Loc} {st : St} {a : Act} {w : World}

theorem nodupN_get {l : List Nat} (h : nodupN l = true) : l.Nodup := by
  induction l with
  | nil => simp
  | cons a l ih =>
    simp only [nodupN, Bool.and_eq_true, Bool.not_eq_true'] at h
    rw [List.nodup_cons]
    exact ⟨by have := h.1; simpa using this, ih h.2⟩

theorem rename_mem {m : List (Nat × Nat)} {r r' : Nat} (h : rename m r = some r') : (r, r') ∈ m := by
  induction m with
  | nil => cases h
  | cons x m ih =>
    obtain ⟨p, q⟩ := x
    simp only [rename] at h
    split at h
    · rename_i hh; cases h; subst hh; simp
    · exact List.mem_cons_of_mem _ (ih h)

theorem rename_of_mem {m : List (Nat × Nat)} {r r' : Nat} (hn : (m.map (·.1)).Nodup) (h : (r, r') ∈ m) : rename m r = some r' := by
  induction m with
  | nil => cases h
  | cons x m ih =>
    obtain ⟨p, q⟩ := x
    rw [List.map_cons, List.nodup_cons] at hn
    simp only [rename]
    rcases List.mem_cons.1 h with h | h
    · cases h; rw [if_pos rfl]
    · have hne : r ≠ p := fun hh => hn.1 (List.mem_map.2 ⟨(r, r'), h, hh⟩)
      rw [if_neg hne]
      exact ih hn.2 h

theorem mem_snd_inj {m : List (Nat × Nat)} {p q r : Nat} (hn : (m.map (·.2)).Nodup) (h1 : (p, r) ∈ m) (h2 : (q, r) ∈ m) : p = q := by
  induction m with
  | nil => cases h1
  | cons x m ih =>
    rw [List.map_cons, List.nodup_cons] at hn
    rcases List.mem_cons.1 h1 with h1 | h1 <;> rcases List.mem_cons.1 h2 with h2 | h2
    · rw [← h1] at h2; cases h2; rfl
    · exact absurd (List.mem_map.2 ⟨_, h2, by rw [← h1]⟩) hn.1
    · exact absurd (List.mem_map.2 ⟨_, h1, by rw [← h2]⟩) hn.1
    · exact ih hn.2 h1 h2

theorem mem_fst_inj {m : List (Nat × Nat)} {p q r : Nat} (hn : (m.map (·.1)).Nodup) (h1 : (r, p) ∈ m) (h2 : (r, q) ∈ m) : p = q := by
  have e1 := rename_of_mem hn h1
  have e2 := rename_of_mem hn h2
  rw [e1] at e2; cases e2; rfl

theorem est_get {es : List (Nat × Val)} {r : Nat} {x : Val} (h : St.get (ek r) (est es) = some x) : (r, x) ∈ es := by
  induction es with
  | nil => cases h
  | cons y es ih =>
    obtain ⟨k, z⟩ := y
    by_cases hh : r = k
    · subst hh
      have : St.get (ek r) (est ((r, z) :: es)) = some z := get_cons_eq _ _ _
      rw [this] at h; cases h; simp
    · have : St.get (ek r) (est ((k, z) :: es)) = St.get (ek r) (est es) := get_cons_ne _ _ (fun e => hh (ek_inj e))
      rw [this] at h
      exact List.mem_cons_of_mem _ (ih h)

theorem est_get_of {es : List (Nat × Val)} {r : Nat} {x : Val} (hn : (es.map (·.1)).Nodup) (h : (r, x) ∈ es) : St.get (ek r) (est es) = some x := by
  induction es with
  | nil => cases h
  | cons y es ih =>
    obtain ⟨k, z⟩ := y
    rw [List.map_cons, List.nodup_cons] at hn
    rcases List.mem_cons.1 h with h | h
    · cases h; exact get_cons_eq _ _ _
    · have hne : r ≠ k := fun hh => hn.1 (List.mem_map.2 ⟨(r, x), h, hh⟩)
      have : St.get (ek r) (est ((k, z) :: es)) = St.get (ek r) (est es) := get_cons_ne _ _ (fun e => hne (ek_inj e))
      rw [this]; exact ih hn.2 h

theorem est_get_sk {es : List (Nat × Val)} {t : Nat} : St.get (sk t) (est es) = none := by
  induction es with
  | nil => rfl
  | cons y es ih =>
    have : St.get (sk t) (est (y :: es)) = St.get (sk t) (est es) := get_cons_ne _ _ (fun e => sk_ne_ek _ _ e)
    rw [this]; exact ih

theorem getEnts_sound : ∀ {m : List (Nat × Nat)} {es : List (Nat × Val)}, (getEnts m).run st = some es → es.map (·.1) = m.map (·.2) ∧ ∀ k x, (k, x) ∈ es → ∃ k0, (k0, k) ∈ m ∧ St.get (ek k0) st = some x
  | [], es, h => by cases h; exact ⟨rfl, by simp⟩
  | (p, q) :: m, es, h => by
    obtain ⟨x, hg, h⟩ := get_run h
    obtain ⟨es', h1, h2⟩ := RM.run_bind_some h
    cases h2
    obtain ⟨k1, k2⟩ := getEnts_sound h1
    refine ⟨by simp [k1], fun k y hy => ?_⟩
    rcases List.mem_cons.1 hy with hy | hy
    · cases hy; exact ⟨p, by simp, hg⟩
    · obtain ⟨k0, h3, h4⟩ := k2 k y hy
      exact ⟨k0, List.mem_cons_of_mem _ h3, h4⟩

theorem getEnts_live : ∀ {m : List (Nat × Nat)} {es : List (Nat × Val)}, (getEnts m).run st = some es → ∀ p q, (p, q) ∈ m → (St.get (ek p) st).isSome = true
  | [], es, h, p, q, hm => by cases hm
  | (p', q') :: m, es, h, p, q, hm => by
    obtain ⟨x, hg, h⟩ := get_run h
    obtain ⟨es', h1, h2⟩ := RM.run_bind_some h
    rcases List.mem_cons.1 hm with hm | hm
    · cases hm; rw [hg]; rfl
    · exact getEnts_live h1 p q hm

theorem renEnts_sound {m : List (Nat × Nat)} : ∀ {es es2 : List (Nat × Val)}, renEnts m es = some es2 → es2.map (·.1) = es.map (·.1) ∧ ∀ k y, (k, y) ∈ es2 → ∃ x, (k, x) ∈ es ∧ x.ren m = some y
  | [], es2, h => by cases h; exact ⟨rfl, by simp⟩
  | (k, x) :: es, es2, h => by
    simp only [renEnts] at h
    cases hx : x.ren m with
    | none => rw [hx] at h; cases h
    | some y =>
      cases hy : renEnts m es with
      | none => rw [hx, hy] at h; cases h
      | some ys =>
        rw [hx, hy] at h
        cases h
        obtain ⟨k1, k2⟩ := renEnts_sound hy
        refine ⟨by simp [k1], fun k' z hz => ?_⟩
        rcases List.mem_cons.1 hz with hz | hz
        · cases hz; exact ⟨x, by simp, hx⟩
        · obtain ⟨x', h3, h4⟩ := k2 k' z hz
          exact ⟨x', List.mem_cons_of_mem _ h3, h4⟩

theorem renKeys_sound {m : List (Nat × Nat)} : ∀ {es es2 : List (Nat × Val)}, renKeys m es = some es2 → ∀ k y, (k, y) ∈ es2 → ∃ k0 x, (k0, x) ∈ es ∧ rename m k0 = some k ∧ x.ren m = some y
  | [], es2, h => by cases h; simp
  | (k, x) :: es, es2, h => by
    simp only [renKeys] at h
    cases hk : rename m k with
    | none => rw [hk] at h; cases h
    | some k' =>
      cases hx : x.ren m with
      | none => rw [hk, hx] at h; cases h
      | some y =>
        cases hy : renKeys m es with
        | none => rw [hk, hx, hy] at h; cases h
        | some ys =>
          rw [hk, hx, hy] at h
          cases h
          intro k2 z hz
          rcases List.mem_cons.1 hz with hz | hz
          · cases hz; exact ⟨k, x, by simp, hk, hx⟩
          · obtain ⟨k0, x', h3, h4⟩ := renKeys_sound hy k2 z hz
            exact ⟨k0, x', List.mem_cons_of_mem _ h3, h4⟩

theorem renKeys_keys {m : List (Nat × Nat)} : ∀ {es es2 : List (Nat × Val)}, renKeys m es = some es2 → ∀ k0 x, (k0, x) ∈ es → ∃ k y, (k, y) ∈ es2 ∧ rename m k0 = some k
  | [], es2, h, k0, x, hm => by cases hm
  | (k, x) :: es, es2, h, k0, x0, hm => by
    simp only [renKeys] at h
    cases hk : rename m k with
    | none => rw [hk] at h; cases h
    | some k' =>
      cases hx : x.ren m with
      | none => rw [hk, hx] at h; cases h
      | some y =>
        cases hy : renKeys m es with
        | none => rw [hk, hx, hy] at h; cases h
        | some ys =>
          rw [hk, hx, hy] at h
          cases h
          rcases List.mem_cons.1 hm with hm | hm
          · cases hm; exact ⟨k', y, by simp, hk⟩
          · obtain ⟨k2, y2, h3, h4⟩ := renKeys_keys hy k0 x0 hm
            exact ⟨k2, y2, List.mem_cons_of_mem _ h3, h4⟩

theorem names_back (ρ : Nat → Loc) {m : List (Nat × Nat)} (n2 : (m.map (·.2)).Nodup) : ∃ ρc : Nat → Loc, ∀ p q, (p, q) ∈ m → ρc q = ρ p := by
  refine ⟨fun r => match (m.find? fun x => x.2 == r) with | some x => ρ x.1 | none => .row undef, fun p q hm => ?_⟩
  show (match (m.find? fun x => x.2 == q) with | some x => ρ x.1 | none => Loc.row undef) = ρ p
  cases hf : m.find? fun x => x.2 == q with
  | none =>
    have := List.find?_eq_none.1 hf _ hm
    simp at this
  | some x =>
    have h1 := List.find?_some hf
    have h2 := List.mem_of_find?_eq_some hf
    obtain ⟨x1, x2⟩ := x
    have : x2 = q := by simpa using h1
    subst this
    rw [mem_snd_inj n2 h2 hm]

theorem names_new (ρ ρ' : Nat → Loc) (news : List Nat) {m : List (Nat × Nat)} (n2 : (m.map (·.2)).Nodup) : ∃ ρ2 : Nat → Loc, (∀ r, r ∉ news → ρ2 r = ρ r) ∧ ∀ p q, (p, q) ∈ m → q ∈ news → ρ2 q = ρ' p := by
  obtain ⟨ρc, hc⟩ := names_back ρ' n2
  refine ⟨fun r => if r ∈ news then ρc r else ρ r, fun r hr => if_neg hr, fun p q hm hq => ?_⟩
  show (if q ∈ news then ρc q else ρ q) = ρ' p
  rw [if_pos hq, hc p q hm]

theorem call_sound (sim : SimR c ρ st a w) {o : Oper} {f : Nat} {As : List AV} {vs : List Value} {h : CallHint} {e : Eff} (hA : All2 (VRel (Own c.base st ρ) ρ w) As vs)
    (he : (evCall (SpecOk P) o f As h).run st = some e) (hcs : ∀ p ∈ e.c, p) (hfresh : ∀ r ∈ e.n, ∀ k x, St.get k st = some x → r ∉ x.refs) (hkp : ∀ r ∈ e.n, r ∉ c.kp) (hdst : ∀ d, o.dst = some d → d < c.n)
    {K : Act → World → Prop} {Q : Exit → Act → World → Prop} (hK : ∀ ρ' a' w', SimR c ρ' (e.w ++ st) a' w' → K a' w') :
    Calls P f vs.toArray w fun
      | .returned v, w'' => K (a.put o.dst v) w''
      | .panicked chain, w'' => Q (.panic chain) a w''
      | .outgrown, _ => LetsOut Q := by
  unfold evCall at he
  obtain ⟨⟨args1, c1⟩, hl, he⟩ := RM.run_bind_some he
  dsimp only at he
  cases hr : AV.renL h.pass args1 with
  | none => rw [hr] at he; cases he
  | some args2 =>
    rw [hr] at he
    dsimp only at he
    obtain ⟨es, hes, he⟩ := RM.run_bind_some he
    cases hre : renEnts h.pass es with
    | none => rw [hre] at he; cases he
    | some es2 =>
      rw [hre] at he
      dsimp only at he
      cases hro : renKeys h.back h.outs with
      | none => rw [hro] at he; cases he
      | some outs2 =>
        cases hrr : h.res.ren h.back with
        | none => rw [hro, hrr] at he; cases he
        | some res2 =>
          rw [hro, hrr] at he
          dsimp only at he
          split at he
          case isFalse => cases he
          rename_i hck
          obtain ⟨n1, n2, n3, n4, n5, hbp, hlp, hlf⟩ := hck
          have n1 := nodupN_get n1
          have n2 := nodupN_get n2
          have n3 := nodupN_get n3
          have n4 := nodupN_get n4
          have n5 := nodupN_get n5
          cases hd : o.dst with
          | none => rw [hd] at he; cases he
          | some d =>
            rw [hd] at he
            cases he
            have hdn := hdst d hd
            have hspec : SpecOk P ⟨f, args2, es2, h.res, h.outs⟩ := hcs _ (by simp)
            have hlend : ∀ r ∈ h.lend.map (·.1), r ∉ h.pass.map (·.1) ∧ r ∉ h.back.map (·.2) := by
              intro r hr
              obtain ⟨⟨r', g⟩, hm, rfl⟩ := List.mem_map.1 hr
              have := (List.all_eq_true.1 hlp) _ hm
              simpa using this
            have hback : ∀ p q, (p, q) ∈ h.back → (∀ x y, (x, y) ∈ h.pass → (x = q ↔ y = p)) ∧ ∃ z, (p, z) ∈ h.outs := by
              intro p q hm
              have := (List.all_eq_true.1 hbp) _ hm
              simp only [Bool.and_eq_true] at this
              refine ⟨fun x y hxy => ?_, ?_⟩
              · have h1 := (List.all_eq_true.1 this.1) _ hxy
                simp only [beq_iff_eq] at h1
                constructor
                · intro hh; subst hh; simp at h1; exact h1
                · intro hh; subst hh; simp at h1; exact h1
              · obtain ⟨⟨k, z⟩, h1, h2⟩ := List.any_eq_true.1 this.2
                have : k = p := by simpa using h2
                subst this
                exact ⟨z, h1⟩
            -- the callee's view
            obtain ⟨ρc, hρc⟩ : ∃ ρc : Nat → Loc, ∀ p q, (p, q) ∈ h.pass → ρc q = ρ p := names_back ρ n2
            have hren : ∀ r r', rename h.pass r = some r' → ρc r' = ρ r := fun r r' hm => hρc _ _ (rename_mem hm)
            obtain ⟨ge1, ge2⟩ := getEnts_sound hes
            have hlive := getEnts_live hes
            obtain ⟨re1, re2⟩ := renEnts_sound hre
            have hkeys : es2.map (·.1) = h.pass.map (·.2) := re1.trans ge1
            have hnod : (es2.map (·.1)).Nodup := by rw [hkeys]; exact n2
            -- which names live in the callee
            have hliveC : ∀ q, (St.get (ek q) (est es2)).isSome = true → ∃ p, (p, q) ∈ h.pass ∧ (St.get (ek p) st).isSome = true := by
              intro q hq
              obtain ⟨x, hx⟩ := Option.isSome_iff_exists.1 hq
              have hm := est_get hx
              have : q ∈ h.pass.map (·.2) := by rw [← hkeys]; exact List.mem_map.2 ⟨_, hm, rfl⟩
              obtain ⟨⟨p, q'⟩, h1, rfl⟩ := List.mem_map.1 this
              exact ⟨p, h1, hlive p _ h1⟩
            have hliveC' : ∀ p q, (p, q) ∈ h.pass → (St.get (ek q) (est es2)).isSome = true := by
              intro p q hm
              have : q ∈ es2.map (·.1) := by rw [hkeys]; exact List.mem_map.2 ⟨_, hm, rfl⟩
              obtain ⟨⟨q', x⟩, h1, rfl⟩ := List.mem_map.1 this
              rw [est_get_of hnod h1]; rfl
            obtain ⟨baseC, hbaseC⟩ : ∃ baseC : Nat → Prop, ∀ b, baseC b ↔ (Own c.base st ρ b ∧ (∀ p q, (p, q) ∈ h.pass → (ρ p).block ≠ some b) ∧ ∀ r ∈ h.lend.map (·.1), (St.get (ek r) st).isSome = true → (ρ r).block ≠ some b) := ⟨_, fun _ => Iff.rfl⟩
            have hownC : ∀ b, Own baseC (est es2) ρc b → Own c.base st ρ b := by
              rintro b (hb | ⟨q, hq, hb⟩)
              · exact ((hbaseC b).1 hb).1
              · obtain ⟨p, hp, hpl⟩ := hliveC q hq
                rw [hρc p q hp] at hb
                exact .inr ⟨p, hpl, hb⟩
            have hlb : ∀ r ∈ h.lend.map (·.1), (St.get (ek r) st).isSome = true → ∀ b, (ρ r).block = some b → ¬ Own baseC (est es2) ρc b := by
              rintro r hr' hrl b hb (hh | ⟨q, hq, hh⟩)
              · exact ((hbaseC b).1 hh).2.2 r hr' hrl hb
              · obtain ⟨p, hp, hpl⟩ := hliveC q hq
                rw [hρc p q hp] at hh
                have := sim.inj p r b hpl hrl hh hb
                subst this
                exact (hlend p hr').1 (List.mem_map.2 ⟨_, hp, rfl⟩)
            -- the call is made
            have hconds : ∀ p ∈ c1, p := fun p hp => hcs p (by simp [hp])
            have hv1 := lendV_sound sim (O2 := Own baseC (est es2) ρc) hownC hlb hA hl hconds
            have hargs := All2V.ren hren hv1 hr
            have hsame : Stays (Own c.base st ρ) w (Own baseC (est es2) ρc) w := fun b _ hO => ⟨fun hh => hO (hownC b hh), rfl⟩
            have hheld : HeldR baseC ρc (est es2) w := by
              refine ⟨fun q x hx => ?_, fun q q' b h1 h2 h3 h4 => ?_, fun q b h1 h2 => ?_⟩
              · have hm := est_get hx
                obtain ⟨x0, hx0, hxr⟩ := re2 q x hm
                obtain ⟨p, hp, hpx⟩ := ge2 q x0 hx0
                rw [hρc p q hp]
                exact ERel.ren hren ((sim.ents p x0 hpx).stays hsame (fun _ _ => rfl) (fun _ _ => rfl)) hxr
              · obtain ⟨p, hp, hpl⟩ := hliveC q h1
                obtain ⟨p', hp', hpl'⟩ := hliveC q' h2
                rw [hρc p q hp] at h3
                rw [hρc p' q' hp'] at h4
                have := sim.inj p p' b hpl hpl' h3 h4
                subst this
                exact mem_fst_inj n1 hp hp'
              · obtain ⟨p, hp, hpl⟩ := hliveC q h1
                rw [hρc p q hp] at h2
                exact ⟨fun hh => ((hbaseC b).1 hh).2.1 p q hp h2, (sim.mine p b hpl h2).2.2⟩
            have hbase : ∀ b, baseC b → b < w.heap.size := by
              intro b hb0
              rcases ((hbaseC b).1 hb0).1 with hb | ⟨r, hr', hb⟩
              · exact Nat.lt_of_lt_of_le (sim.base b hb).1 sim.frame.size
              · exact (sim.mine r b hr' hb).2.2
            refine (hspec w baseC ρc vs hbase hheld (sim.gl.stays hsame) hargs).mono ?_
            rintro e w' ⟨v, ρ', rfl, hst, hH, hres, hlv, hfr⟩
            dsimp only
            -- the names that come back
            obtain ⟨news, hnews⟩ : ∃ news : List Nat, ∀ q, q ∈ news ↔ (q ∈ h.back.map (·.2) ∧ q ∉ h.pass.map (·.1)) := ⟨(h.back.map (·.2)).filter fun k => !(h.pass.map (·.1)).contains k, fun q => by rw [List.mem_filter]; simp⟩
            have hfresh' : ∀ r ∈ news, ∀ k x, St.get k st = some x → r ∉ x.refs := by
              intro r hr'
              refine hfresh r ?_
              obtain ⟨q1, q2⟩ := (hnews r).1 hr'
              exact List.mem_filter.2 ⟨q1, by simpa using q2⟩
            have hkp' : ∀ r ∈ c.kp, r ∉ news := by
              intro r hr hn
              obtain ⟨q1, q2⟩ := (hnews r).1 hn
              exact hkp r (List.mem_filter.2 ⟨q1, by simpa using q2⟩) hr
            clear hfresh hkp
            obtain ⟨ρ2, hold, hnewN⟩ : ∃ ρ2 : Nat → Loc, (∀ r, r ∉ news → ρ2 r = ρ r) ∧ ∀ p q, (p, q) ∈ h.back → q ∈ news → ρ2 q = ρ' p := names_new ρ ρ' news n4
            have houtlive : ∀ p q, (p, q) ∈ h.back → (St.get (ek p) (est h.outs)).isSome = true := by
              intro p q hm
              obtain ⟨z, hz⟩ := (hback p q hm).2
              rw [est_get_of n5 hz]; rfl
            have hnew : ∀ p q, (p, q) ∈ h.back → ρ2 q = ρ' p := by
              intro p q hm
              by_cases hq : q ∈ news
              · exact hnewN p q hm hq
              · rw [hold q hq]
                have hqp : q ∈ h.pass.map (·.1) := by
                  by_cases hh : q ∈ h.pass.map (·.1)
                  · exact hh
                  · exfalso
                    exact hq ((hnews q).2 ⟨List.mem_map.2 ⟨_, hm, rfl⟩, hh⟩)
                obtain ⟨⟨q', y⟩, hqy, rfl⟩ := List.mem_map.1 hqp
                have hy : y = p := ((hback p q' hm).1 q' y hqy).1 rfl
                subst hy
                rw [hst y (hliveC' q' y hqy) (houtlive y q' hm)]
                exact (hρc q' y hqy).symm
            have hren2 : ∀ r r', rename h.back r = some r' → ρ2 r' = ρ' r := fun r r' hm => hnew _ _ (rename_mem hm)
            -- the state behind the call
            obtain ⟨st', hst'⟩ : ∃ st' : St, st' = outs2.map (fun (k, x) => (ek k, some x)) ++ h.pass.map (fun (k, _) => (ek k, none)) ++ (h.lend.filter (·.2)).map (fun (k, _) => (ek k, none)) ++ [(sk d, some res2)] ++ st := ⟨_, rfl⟩
            have hoe : outs2.map (fun (k, x) => (ek k, some x)) = est outs2 := by unfold est; rfl
            have hasE : ∀ (es : List (Nat × Val)) (r : Nat), has (ek r) (est es) = true ↔ r ∈ es.map (·.1) := by
              intro es r
              unfold has est
              rw [List.any_map, List.any_eq_true]
              constructor
              · rintro ⟨x, hx, hb⟩
                exact List.mem_map.2 ⟨x, hx, (ek_inj (Nat.eq_of_beq_eq_true hb)).symm⟩
              · intro hm
                obtain ⟨x, hx, rfl⟩ := List.mem_map.1 hm
                exact ⟨x, hx, by simp⟩
            have hasN : ∀ (ls : List Nat) (r : Nat), has (ek r) (ls.map fun k => (ek k, none)) = true ↔ r ∈ ls := by
              intro ls r
              unfold has
              rw [List.any_map, List.any_eq_true]
              constructor
              · rintro ⟨x, hx, hb⟩
                have := ek_inj (Nat.eq_of_beq_eq_true hb)
                subst this; exact hx
              · intro hm
                exact ⟨r, hm, by simp⟩
            have getN : ∀ (ls : List Nat) (k : Nat), St.get k (ls.map fun k => (ek k, none)) = none := by
              intro ls k
              induction ls with
              | nil => rfl
              | cons x ls ih =>
                rw [List.map_cons]
                by_cases hk : k = ek x
                · subst hk; exact get_cons_eq _ _ _
                · rw [get_cons_ne _ _ hk]; exact ih
            have eqP : h.pass.map (fun (k, _) => (ek k, (none : Option Val))) = (h.pass.map (·.1)).map fun k => (ek k, none) := by simp
            have eqL : (h.lend.filter (·.2)).map (fun (k, _) => (ek k, (none : Option Val))) = ((h.lend.filter (·.2)).map (·.1)).map fun k => (ek k, none) := by simp
            have gete : ∀ r, St.get (ek r) st' = if r ∈ outs2.map (·.1) then St.get (ek r) (est outs2) else if r ∈ h.pass.map (·.1) then none else if r ∈ (h.lend.filter (·.2)).map (·.1) then none else St.get (ek r) st := by
              intro r
              rw [hst', hoe, eqP, eqL, List.append_assoc, List.append_assoc, List.append_assoc, get_append]
              by_cases h1 : r ∈ outs2.map (·.1)
              · rw [if_pos ((hasE _ _).2 h1), if_pos h1]
              · rw [if_neg (fun hh => h1 ((hasE _ _).1 hh)), if_neg h1, get_append]
                by_cases h2 : r ∈ h.pass.map (·.1)
                · rw [if_pos ((hasN _ _).2 h2), if_pos h2, getN]
                · rw [if_neg (fun hh => h2 ((hasN _ _).1 hh)), if_neg h2, get_append]
                  by_cases h3 : r ∈ (h.lend.filter (·.2)).map (·.1)
                  · rw [if_pos ((hasN _ _).2 h3), if_pos h3, getN]
                  · rw [if_neg (fun hh => h3 ((hasN _ _).1 hh)), if_neg h3]
                    exact get_cons_ne _ _ (fun hh => sk_ne_ek d r hh.symm)
            have gets : ∀ t, St.get (sk t) st' = if t = d then some res2 else St.get (sk t) st := by
              intro t
              have hno : ∀ (ls : List Nat), has (sk t) (ls.map fun k => (ek k, (none : Option Val))) = false := by
                intro ls
                cases hb : has (sk t) (ls.map fun k => (ek k, (none : Option Val))) with
                | false => rfl
                | true =>
                  obtain ⟨x, hx, he⟩ := has_mem hb
                  obtain ⟨k, hk, rfl⟩ := List.mem_map.1 hx
                  exact absurd he.symm (sk_ne_ek t k)
              have hno' : has (sk t) (est outs2) = false := by
                cases hb : has (sk t) (est outs2) with
                | false => rfl
                | true =>
                  obtain ⟨x, hx, he⟩ := has_mem hb
                  obtain ⟨k, hk, rfl⟩ := List.mem_map.1 hx
                  exact absurd he.symm (sk_ne_ek t k.1)
              rw [hst', hoe, eqP, eqL, List.append_assoc, List.append_assoc, List.append_assoc, get_append, hno', get_append, hno, get_append, hno]
              simp only [Bool.false_eq_true, if_false]
              by_cases ht : t = d
              · subst ht; rw [if_pos rfl]; exact get_cons_eq _ _ _
              · rw [if_neg ht]; exact get_cons_ne _ _ (fun hh => ht (sk_inj hh))
            -- which names live behind the call
            have liveOut : ∀ r, r ∈ outs2.map (·.1) → ∃ p, (p, r) ∈ h.back ∧ (St.get (ek p) (est h.outs)).isSome = true := by
              intro r hr'
              obtain ⟨⟨k, y⟩, hm, rfl⟩ := List.mem_map.1 hr'
              obtain ⟨k0, x, h1, h2, h3⟩ := renKeys_sound hro k y hm
              exact ⟨k0, rename_mem h2, houtlive _ _ (rename_mem h2)⟩
            have outNew : ∀ r, r ∈ outs2.map (·.1) → ∀ b, (ρ2 r).block = some b → (∃ p, p ∈ h.pass.map (·.1) ∧ (St.get (ek p) st).isSome = true ∧ (ρ p).block = some b) ∨ w.heap.size ≤ b := by
              intro r hr' b hb
              obtain ⟨p, hp, hpl⟩ := liveOut r hr'
              rw [hnew p r hp] at hb
              rcases hlv b ⟨p, hpl, hb⟩ with ⟨q, hq, hqb⟩ | hb'
              · obtain ⟨p', hp', hpl'⟩ := hliveC q hq
                rw [hρc p' q hp'] at hqb
                exact .inl ⟨p', List.mem_map.2 ⟨_, hp', rfl⟩, hpl', hqb⟩
              · exact .inr hb'
            have oldOf : ∀ r, (St.get (ek r) st').isSome = true → r ∉ outs2.map (·.1) → r ∉ h.pass.map (·.1) ∧ r ∉ (h.lend.filter (·.2)).map (·.1) ∧ (St.get (ek r) st).isSome = true ∧ St.get (ek r) st' = St.get (ek r) st := by
              intro r hr' hno
              have hg := gete r
              rw [if_neg hno] at hg
              by_cases h2 : r ∈ h.pass.map (·.1)
              · rw [if_pos h2] at hg; rw [hg] at hr'; cases hr'
              · rw [if_neg h2] at hg
                by_cases h3 : r ∈ (h.lend.filter (·.2)).map (·.1)
                · rw [if_pos h3] at hg; rw [hg] at hr'; cases hr'
                · rw [if_neg h3] at hg
                  exact ⟨h2, h3, by rw [← hg]; exact hr', hg⟩
            have newsOut : ∀ r ∈ news, r ∈ outs2.map (·.1) := by
              intro r hr'
              have := ((hnews r).1 hr').1
              obtain ⟨⟨p, q⟩, hm, rfl⟩ := List.mem_map.1 this
              obtain ⟨z, hz⟩ := (hback p q hm).2
              obtain ⟨k, y, h1, h2⟩ := renKeys_keys hro p z hz
              rw [rename_of_mem n3 hm] at h2
              cases h2
              exact List.mem_map.2 ⟨_, h1, rfl⟩
            have hown2 : ∀ b, b < w.heap.size → Own c.base st' ρ2 b → Own c.base st ρ b := by
              rintro b hlt (hb | ⟨r, hr', hb⟩)
              · exact .inl hb
              · by_cases hro' : r ∈ outs2.map (·.1)
                · rcases outNew r hro' b hb with ⟨p, _, hpl, hpb⟩ | hge
                  · exact .inr ⟨p, hpl, hpb⟩
                  · omega
                · obtain ⟨k1, k2, k3, _⟩ := oldOf r hr' hro'
                  rw [hold r (fun hh => hro' (newsOut r hh))] at hb
                  exact .inr ⟨r, k3, hb⟩
            have hblk : ∀ b, b < w.heap.size → ¬ Live (est es2) ρc b → w'.heap[b]? = w.heap[b]? := hfr.block
            have liveOwn : ∀ b, Live (est es2) ρc b → Own c.base st ρ b := by
              rintro b ⟨q, hq, hqb⟩
              obtain ⟨p, hp, hpl⟩ := hliveC q hq
              rw [hρc p q hp] at hqb
              exact .inr ⟨p, hpl, hqb⟩
            have hs : Stays (Own c.base st ρ) w (Own c.base st' ρ2) w' := fun b hb hO => ⟨fun hh => hO (hown2 b hb hh), hblk b hb (fun hh => hO (liveOwn b hh))⟩
            -- what comes back is read as ours
            have hO3 : ((h.lend.all (·.2)) = true ∧ ∀ b, Own c.base st' ρ2 b → Own baseC (est h.outs) ρ' b) ∨ (h.res.flat && h.outs.all (·.2.flat)) = true := by
              rcases Bool.or_eq_true_iff.1 hlf with hall | hfl
              case inr => exact .inr hfl
              case inl =>
                refine .inl ⟨hall, ?_⟩
                rintro b (hb | ⟨r, hr', hb⟩)
                · refine .inl ((hbaseC b).2 ⟨.inl hb, fun p q hm hpb => ?_, fun r _ hrl hrb => (sim.mine r b hrl hrb).1 hb⟩)
                  exact (sim.mine p b (hlive p q hm) hpb).1 hb
                · by_cases hro' : r ∈ outs2.map (·.1)
                  · obtain ⟨p, hp, hpl⟩ := liveOut r hro'
                    rw [hnew p r hp] at hb
                    exact .inr ⟨p, hpl, hb⟩
                  · obtain ⟨k1, k2, k3, _⟩ := oldOf r hr' hro'
                    rw [hold r (fun hh => hro' (newsOut r hh))] at hb
                    refine .inl ((hbaseC b).2 ⟨.inr ⟨r, k3, hb⟩, fun p q hm hpb => ?_, fun r' hr'' hrl hrb => ?_⟩)
                    · have := sim.inj p r b (hlive p q hm) k3 hpb hb
                      subst this
                      exact k1 (List.mem_map.2 ⟨_, hm, rfl⟩)
                    · have := sim.inj r' r b hrl k3 hrb hb
                      subst this
                      apply k2
                      obtain ⟨⟨x, g⟩, hm, rfl⟩ := List.mem_map.1 hr''
                      refine List.mem_map.2 ⟨(x, g), List.mem_filter.2 ⟨hm, ?_⟩, rfl⟩
                      exact (List.all_eq_true.1 hall) _ hm
            have toOurs : ∀ (O3 : Nat → Prop), (∀ b, Own c.base st' ρ2 b → O3 b) → Stays O3 w' (Own c.base st' ρ2) w' := fun O3 hh b _ hO => ⟨fun h' => hO (hh b h'), rfl⟩
            have hres2 : SRel (Own c.base st' ρ2) ρ2 w' res2 v := by
              refine SRel.ren hren2 ?_ hrr
              rcases hO3 with ⟨_, hh⟩ | hfl
              · exact hres.stays (toOurs _ hh) (fun _ _ => rfl)
              · simp only [Bool.and_eq_true] at hfl
                exact SRel.flat hfl.1 hres
            have hents2 : ∀ r y, (r, y) ∈ outs2 → ERel (Own c.base st' ρ2) ρ2 w' y (ρ2 r) := by
              intro r y hm
              obtain ⟨k0, x, h1, h2, h3⟩ := renKeys_sound hro r y hm
              rw [hnew k0 r (rename_mem h2)]
              refine ERel.ren hren2 ?_ h3
              have he := hH.ents k0 x (est_get_of n5 h1)
              rcases hO3 with ⟨_, hh⟩ | hfl
              · exact he.stays (toOurs _ hh) (fun _ _ => rfl) (fun _ _ => rfl)
              · simp only [Bool.and_eq_true] at hfl
                exact ERel.flat ((List.all_eq_true.1 hfl.2) _ h1) he
            rw [← hst'] at hK
            refine hK ρ2 _ w' (sim.step (fun k x hx r hr' => hold r (fun hh => hfresh' r hh k x hx hr')) hs ?_ ?_ ?_ ?_ ?_ (by rw [put_dfr]; exact sim.dfr) (by rw [put_size]; exact sim.size) (fun r hr => hold r (hkp' r hr)))
            · intro t y hy
              have hy' : St.get (sk t) st' = some y := hy
              rw [gets] at hy'
              rw [put_getD _ _ _ _ (by rw [sim.size]; exact hdn)]
              by_cases ht : t = d
              · rw [if_pos ht] at hy' ⊢
                cases hy'
                exact .inl hres2
              · rw [if_neg ht] at hy' ⊢
                exact .inr ⟨hy', rfl⟩
            · intro r y hy
              have hy' : St.get (ek r) st' = some y := hy
              by_cases hro' : r ∈ outs2.map (·.1)
              · rw [gete, if_pos hro'] at hy'
                exact .inl (hents2 r y (est_get hy'))
              · obtain ⟨k1, k2, k3, k4⟩ := oldOf r (by rw [hy']; rfl) hro'
                rw [k4] at hy'
                refine .inr ⟨hy', hold r (fun hh => hro' (newsOut r hh)), fun b hb => hblk b (sim.mine r b k3 hb).2.2 ?_⟩
                rintro ⟨q, hq, hqb⟩
                obtain ⟨p, hp, hpl⟩ := hliveC q hq
                rw [hρc p q hp] at hqb
                have := sim.inj p r b hpl k3 hqb hb
                subst this
                exact k1 (List.mem_map.2 ⟨_, hp, rfl⟩)
            · intro r r' b h1 h2 h3 h4
              have cross : ∀ r r', r ∈ outs2.map (·.1) → r' ∉ outs2.map (·.1) → (St.get (ek r') st').isSome = true → (ρ2 r).block = some b → (ρ2 r').block = some b → False := by
                intro r r' hr1 hr2 hl2 hb1 hb2
                obtain ⟨k1, k2, k3, k4⟩ := oldOf r' hl2 hr2
                rw [hold r' (fun hh => hr2 (newsOut r' hh))] at hb2
                rcases outNew r hr1 b hb1 with ⟨p, hpm, hpl, hpb⟩ | hge
                · have := sim.inj p r' b hpl k3 hpb hb2
                  subst this
                  exact k1 hpm
                · have := (sim.mine r' b k3 hb2).2.2
                  omega
              by_cases hr1 : r ∈ outs2.map (·.1) <;> by_cases hr2 : r' ∈ outs2.map (·.1)
              · obtain ⟨p, hp, hpl⟩ := liveOut r hr1
                obtain ⟨p', hp', hpl'⟩ := liveOut r' hr2
                rw [hnew p r hp] at h3
                rw [hnew p' r' hp'] at h4
                have := hH.inj p p' b hpl hpl' h3 h4
                subst this
                exact mem_fst_inj n3 hp hp'
              · exact (cross r r' hr1 hr2 h2 h3 h4).elim
              · exact (cross r' r hr2 hr1 h1 h4 h3).elim
              · obtain ⟨_, _, k3, _⟩ := oldOf r h1 hr1
                obtain ⟨_, _, k3', _⟩ := oldOf r' h2 hr2
                rw [hold r (fun hh => hr1 (newsOut r hh))] at h3
                rw [hold r' (fun hh => hr2 (newsOut r' hh))] at h4
                exact sim.inj r r' b k3 k3' h3 h4
            · intro r b h1 h2
              by_cases hr1 : r ∈ outs2.map (·.1)
              · obtain ⟨p, hp, hpl⟩ := liveOut r hr1
                have hb := h2
                rw [hnew p r hp] at hb
                obtain ⟨m1, m2⟩ := hH.mine p b hpl hb
                rcases outNew r hr1 b h2 with ⟨p', hpm, hpl', hpb⟩ | hge
                · obtain ⟨q1, q2, q3⟩ := sim.mine p' b hpl' hpb
                  exact ⟨q1, q2, m2⟩
                · refine ⟨fun hb' => ?_, .inr (Nat.le_trans sim.frame.size hge), m2⟩
                  have := (sim.base b hb').1
                  have := sim.frame.size
                  omega
              · obtain ⟨_, _, k3, _⟩ := oldOf r h1 hr1
                rw [hold r (fun hh => hr1 (newsOut r hh))] at h2
                obtain ⟨q1, q2, q3⟩ := sim.mine r b k3 h2
                exact ⟨q1, q2, Nat.lt_of_lt_of_le q3 hfr.size⟩
            · refine ⟨hfr.os.trans sim.frame.os, hfr.tape.trans sim.frame.tape, hfr.output.trans sim.frame.output, Nat.le_trans sim.frame.size hfr.size, fun b hb hm => ?_⟩
              rw [hblk b (Nat.lt_of_lt_of_le hb sim.frame.size) ?_, sim.frame.block b hb hm]
              rintro ⟨q, hq, hqb⟩
              obtain ⟨p, hp, hpl⟩ := hliveC q hq
              rw [hρc p q hp] at hqb
              rcases (sim.mine p b hpl hqb).2.1 with hh | hh
              · exact hm hh
              · omega
end
end Go.Abs
set_option linter.unusedVariables false
set_option linter.unusedSimpArgs false
namespace Go.Abs
set_option linter.unusedSectionVars false
variable [Globs]
section
variable {P : Program} {c : Cx} {ρ : Nat → Loc} {st : St} {a : Act} {w : World}

theorem strOf_foldl (l : List Int) : l.foldl (fun r n => r.push (UInt8.ofNat n.toNat)) ByteArray.empty = strOf l := by
  have key : ∀ (l : List Int) (s : ByteArray), l.foldl (fun r n => r.push (UInt8.ofNat n.toNat)) s = ⟨s.data ++ (l.map fun n => UInt8.ofNat n.toNat).toArray⟩ := by
    intro l
    induction l with
    | nil => intro s; simp
    | cons n l ih =>
      intro s
      rw [List.foldl_cons, ih]
      congr 1
      simp [ByteArray.push]
  rw [key]
  simp [strOf, ByteArray.empty, ByteArray.emptyWithCapacity]
  rfl

theorem cells_bytes {O : Nat → Prop} {k : IntKind} : ∀ {l : List Int} {css : List (List Value)}, All2 (Cells O w (.int k)) l css → css.flatten = l.map (Value.int k)
  | [], [], _ => rfl
  | x :: l, cc :: css, h => by
    have h1 : cc = [.int k x] := h.1
    rw [List.flatten_cons, cells_bytes h.2, h1]; rfl
  | [], _ :: _, h => h.elim
  | _ :: _, [], h => h.elim

theorem run_conv_bytes {src dst e : TypeId} (hs : P.underlying src = some (.slice e)) (he : P.underlying e = some (.int .u8)) (hd : P.underlying dst = some .string) {A : Option Addr} {cp : Nat} {l : List Int}
    (hA : A = none → l = []) (hl : ∀ ad, A = some ad → ∀ j u, (l.map (Value.int .u8))[j]? = some u → w.cell? (ad.add j) = some u) :
    (convert src dst (.slice A l.length cp)).run P w = .ok (.string (strOf l)) w := by
  rw [run_convert_bytes_string w src dst e A l.length cp hs he hd]
  cases A with
  | none =>
    have := hA rfl
    subst this
    simp [Conv.bytesToString, strOf, ByteArray.empty, ByteArray.emptyWithCapacity]
    rfl
  | some ad =>
    have hld := run_loadCells_list (P := P) w ad (l.map (Value.int .u8)) (hl ad rfl)
    rw [List.length_map] at hld
    rw [run_bytesToString w ad l.length cp l hld, strOf_foldl]

theorem conv_sound (sim : SimR c ρ st a w) {src dst : TypeId} {A R : AV} {v : Value} (hA : VRel (Own c.base st ρ) ρ w A v) (h : (evConv P src dst A).run st = some R) :
    ∃ u, (convert src dst v).run P w = .ok u w ∧ VRel (Own c.base st ρ) ρ w R u := by
  cases A with
  | p k x =>
    cases k with
    | int k =>
      have := hA.p_int; subst this
      simp only [evConv] at h
      split at h
      · rename_i k1 k2 h1 h2
        cases h
        exact ⟨_, by simp [convert, run_underlying h1, run_underlying h2, Conv.intToInt], .of_int⟩
      · cases h
    | str =>
      have := hA.p_str; subst this
      simp only [evConv] at h
      split at h
      · rename_i h1 h2
        cases h
        exact ⟨.string x, by simp [convert, run_underlying h1, run_underlying h2], .of_str⟩
      · cases h
    | sl e =>
      cases e with
      | int k =>
        cases k <;> try (cases h; done)
        simp only [evConv] at h
        split at h
        · rename_i e h1 h2
          split at h
          · rename_i h3
            cases h
            have hc := hA.one rfl (by simp)
            cases hc with
            | p hc =>
              obtain ⟨B, cap, hv, hle, hB, hr⟩ := hc
              cases hv
              refine ⟨_, run_conv_bytes h1 h3 h2 (fun hh => (hB hh).1) (fun ad had j u hu => ?_), .of_str⟩
              obtain ⟨css, k1, k2, k3⟩ := hr ad had
              rw [← cells_bytes k1] at hu
              have hne : css.flatten ≠ [] := by intro hh; rw [hh] at hu; simp at hu
              have hcell := k3 j u hu
              unfold Addr.add
              split
              · rename_i hj
                subst hj
                have := (k2 hne).1
                cases ad
                simp_all
              · exact hcell
          · cases h
        · cases h
      | _ => cases h
    | _ => cases h
  | row r n =>
    simp only [evConv] at h
    split at h
    · rename_i e h1 h2
      split at h
      · rename_i h3
        obtain ⟨y, hg, hy⟩ := get_run h
        cases y with
        | row e' et l =>
          cases e' with
          | int k =>
            cases k <;> try (cases hy; done)
            cases hy
            have hc := hA.one rfl (by simp)
            cases hc with
            | row hr hn =>
              rename_i m cp B
              obtain ⟨v', css, q1, q2, q3, q4⟩ := row_range (sim.ents r _ hg)
              rw [hr] at q1
              cases q1
              have hnl : n ≤ List.length l := by
                rcases q3.2 with ⟨hv, hl⟩ | ⟨g, cap, cur, hv, _⟩
                · cases hv; omega
                · cases hv; exact hn
              have hlen : (List.take n l).length = n := by rw [List.length_take]; exact Nat.min_eq_left hnl
              have hcv := run_conv_bytes (w := w) (A := B) (cp := cp) (l := List.take n l) h1 h3 h2 ?_ ?_
              · rw [hlen] at hcv
                exact ⟨_, hcv, .of_str⟩
              · intro hB
                subst hB
                rcases q3.2 with ⟨hv, hl⟩ | ⟨g, cap, cur, hv, _⟩
                · cases hv
                  have : (l : List Int) = [] := List.eq_nil_of_length_eq_zero hl
                  rw [this]; simp
                · cases hv
              · intro ad had j u hu
                subst had
                rcases q3.2 with ⟨hv, hl⟩ | ⟨g, cap, cur, hv, _⟩
                · cases hv
                · cases hv
                  rw [Addr.add_mid]
                  refine q4 g _ cp rfl j u ?_
                  rw [cells_bytes q2]
                  rw [List.map_take, List.getElem?_take] at hu
                  split at hu
                  · exact hu
                  · cases hu
          | _ => cases hy
        | v => cases hy
        | t => cases hy
        | box => cases hy
      · cases h
    · cases h
  | bsl e r off n lo m =>
    simp only [evConv] at h
    split at h
    · rename_i et h1 h2
      split at h
      · rename_i h3
        obtain ⟨y, hg, hy⟩ := get_run h
        cases y with
        | box cs =>
          dsimp only at hy
          split at hy
          · rename_i n' x hsub
            split at hy
            · rename_i he
              obtain ⟨he, hn'⟩ := he
              subst he
              subst hn'
              cases hy
              have hc := hA.one rfl (by simp)
              cases hc with
              | bsl hb ha hm =>
                rename_i b ad
                obtain ⟨hxl, css, hall, hcell⟩ := bsl_read sim hb ha hm hg hsub
                have hlen : (List.take m (List.drop lo x)).length = m := by rw [List.length_take, List.length_drop, hxl]; omega
                have := run_conv_bytes (A := some ad) (cp := n' - lo) h1 h3 h2 (fun hh => by cases hh) (fun ad' had j u hu => by
                  cases had
                  rw [← cells_bytes hall] at hu
                  exact hcell j u hu)
                rw [hlen] at this
                exact ⟨_, this, .of_str⟩
            · cases hy
          · cases hy
        | v => cases hy
        | t => cases hy
        | row => cases hy
      · cases h
    · cases h
  | _ => cases h

theorem caps_all {O : Nat → Prop} : ∀ {As : List AV} {vs : List Value}, CsRel O ρ w As vs → AV.ones As = true → All2 (VRel O ρ w) As vs
  | [], vs, h, _ => by rw [h.inv_nil]; trivial
  | A :: As, vs, h, ho => by
    simp only [AV.ones, List.all_cons, Bool.and_eq_true, beq_iff_eq, Bool.not_eq_true'] at ho
    obtain ⟨c1, c2, rfl, h1, h2⟩ := h.inv
    have hl := h1.length
    rw [ho.1.1] at hl
    obtain ⟨v, rfl⟩ := List.length_eq_one_iff.1 hl
    exact ⟨.of_one ho.1.2 h1, caps_all h2 ho.2⟩

theorem ones_cells {O : Nat → Prop} : ∀ {As : List AV} {vs : List Value}, All2 (VRel O ρ w) As vs → AV.ones As = true → CsRel O ρ w As vs
  | [], [], _, _ => .nil
  | A :: As, v :: vs, h, ho => by
    simp only [AV.ones, List.all_cons, Bool.and_eq_true, beq_iff_eq, Bool.not_eq_true'] at ho
    have h1 := h.1.one ho.1.2 (by intro hh; subst hh; simp [AV.size] at ho)
    have := CsRel.cons h1 (ones_cells h.2 ho.2)
    simpa using this
  | [], _ :: _, h, _ => h.elim
  | _ :: _, [], h, _ => h.elim

theorem splice_take {α : Type} (cur R : List α) (p q L : Nat) (hR : R.length = q) (h1 : p + q ≤ L) (h2 : L ≤ cur.length) :
    (cur.take p ++ R ++ cur.drop (p + q)).take L = (cur.take L).take p ++ R ++ (cur.take L).drop (p + q) := by
  have lp : (cur.take p).length = p := by rw [List.length_take]; omega
  rw [List.append_assoc, List.take_append, lp, List.take_of_length_le (by omega : (cur.take p).length ≤ L), List.take_append, hR, List.take_of_length_le (by omega : R.length ≤ L - p),
    List.take_take, Nat.min_eq_left (by omega : p ≤ L), List.drop_take, List.append_assoc, Nat.sub_sub]

theorem zeroCells_list (z : Array Value) (n : Nat) (h : 0 < z.size) : (Builtin.zeroCells z n).toList = (List.replicate n z.toList).flatten := by
  unfold Builtin.zeroCells
  exact rep_flatten' z n h

theorem clear_sound (sim : SimR c ρ st a w) {t ty : TypeId} {A : AV} {v : Value} {d : Option Nat} {e : Eff} (hA : VRel (Own c.base st ρ) ρ w A v) (h : (evClear P t d A).run st = some e) (hcs : ∀ p ∈ e.c, p)
    (hdst : ∀ x, d = some x → x < c.n) {ts : Array TypeId} (hts : ts[0]? = some t) :
    ∃ w', (Builtin.clear_ ts ty #[v]).run P w = .ok (.tuple #[]) w' ∧ SimR c ρ (e.w ++ st) (a.put d (.tuple #[])) w' := by
  cases A with
  | rsuf ee r lo n =>
    simp only [evClear] at h
    cases hst : sliceT P t with
    | none => rw [hst] at h; cases h
    | some et =>
      rw [hst] at h
      dsimp only at h
      have hu := sliceT_some hst
      obtain ⟨y, hg, hy⟩ := get_run h
      cases y with
      | row e' et' l =>
        dsimp only at hy
        split at hy
        · rename_i he
          subst he
          split at hy
          · rename_i hq
            obtain ⟨rfl, hf⟩ := hq
            obtain ⟨f1, f2, f3⟩ := fits_some hf
            cases hz : zeroOf P et' with
            | none => rw [hz] at hy; cases hy
            | some kz =>
              obtain ⟨k, zs⟩ := kz
              rw [hz] at hy
              dsimp only at hy
              split at hy
              · rename_i hk
                subst hk
                cases hy
                have hle : lo + n ≤ l.length := hcs _ (by simp)
                obtain ⟨i, z, hi, hzv, hm, hsz, hag, rfl⟩ := zeroOf_some hz
                obtain ⟨c1, hc1, hdf, hzs⟩ := Kd.zmatch_sound (O := Own c.base st ρ) (ρ := ρ) (w := w) hm
                rw [List.append_nil] at hc1
                have hzl : z.cells.size = k.size := by rw [← cells_toList_size, hc1, hdf.length]
                -- the slot of the result
                have slot : ∃ st1, st1 = (slotT d ++ st) ∧ SimR c ρ st1 (a.put d (.tuple #[])) w ∧ (∀ q, St.get (ek q) st1 = St.get (ek q) st) := by
                  cases d with
                  | none => exact ⟨st, rfl, sim, fun _ => rfl⟩
                  | some d => exact ⟨_, rfl, sim.putSlot (hdst d rfl) (x := .t []) ⟨[], rfl, trivial⟩, fun q => isSome_cons_sk q⟩
                obtain ⟨st1, rfl, sim1, hge⟩ := slot
                have hcat : ((ek r, some (Val.row k et' (List.take lo l ++ List.replicate n k.dflt ++ List.drop (lo + n) l))) :: slotT d) ++ st =
                    (ek r, some (Val.row k et' (List.take lo l ++ List.replicate n k.dflt ++ List.drop (lo + n) l))) :: (slotT d ++ st) := rfl
                have hc := hA.one rfl (by simp)
                cases hc with
                | rsuf hr ha hn hcc =>
                  rename_i m cp c' B B0
                  rcases Nat.eq_zero_or_pos n with h0 | hpos
                  · subst h0
                    have hl : List.take lo l ++ List.replicate 0 k.dflt ++ List.drop (lo + 0) l = l := by simp
                    refine ⟨w, ?_, ?_⟩
                    · unfold Builtin.clear_
                      rw [hts]
                      cases B <;> simp [run_underlying hu]
                    · rw [hcat, hl]
                      refine SimR.congr (fun q => ?_) sim1
                      by_cases hq : q = ek r
                      · subst hq; rw [get_cons_eq, hge]; exact hg.symm
                      · exact get_cons_ne _ _ hq
                  · obtain ⟨b, hb0, hb⟩ := ha hpos
                    subst hb0 hb
                    have hg1 : St.get (ek r) (slotT d ++ st) = some (.row k et' l) := by rw [hge]; exact hg
                    obtain ⟨v', css, q1, q2, q3, q4⟩ := row_range (sim1.ents r _ hg1)
                    rw [hr] at q1
                    cases q1
                    rcases q3.2 with ⟨hv, hl⟩ | ⟨g, cap, cur, hv, h00, hh, hnc, hcm, hcs', htk⟩
                    · cases hv
                    cases hv
                    have hfl := flatten_length q2
                    have hzc := zeroCells_list z.cells n (by omega)
                    have hrep : All2 (Cells (Own c.base (slotT d ++ st) ρ) w k) (List.replicate n k.dflt) (List.replicate n z.cells.toList) := by
                      refine all2_replicate ?_ n
                      rw [hc1]
                      exact hdf.stays (fun b _ hO => ⟨fun hh => hO (by
                        rcases hh with hh | ⟨q, hq, hh⟩
                        · exact .inl hh
                        · exact .inr ⟨q, by rw [← hge]; exact hq, hh⟩), rfl⟩)
                    have hrl := flatten_length hrep
                    rw [List.length_replicate] at hrl
                    have hle1 : (lo + n) * k.size ≤ l.length * k.size := Nat.mul_le_mul_right _ hle
                    have hle2 : l.length * k.size ≤ cp * k.size := Nat.mul_le_mul_right _ hnc
                    rw [Nat.add_mul] at hle1
                    have hrun := run_storeCells_at P b (lo * k.size) et' (List.replicate n z.cells.toList).flatten 0 cur w hh (by rw [hrl]; omega) (flatten_one hrep)
                    rw [Nat.add_zero, hrl] at hrun
                    refine ⟨w.setRow b (cur.toList.take (lo * k.size) ++ (List.replicate n z.cells.toList).flatten ++ cur.toList.drop (lo * k.size + n * k.size)).toArray, ?_, ?_⟩
                    · unfold Builtin.clear_
                      rw [hts]
                      have hne : n ≠ 0 := by omega
                      obtain ⟨n', rfl⟩ : ∃ n', n = n' + 1 := ⟨n - 1, by omega⟩
                      have e0 : (#[Value.slice (some ⟨b, lo * k.size, none⟩) (n' + 1) c'] : Array Value)[0]? = some (Value.slice (some ⟨b, lo * k.size, none⟩) (n' + 1) c') := rfl
                      rw [e0]
                      show Sem.run P (underlying t >>= _) w = _
                      rw [Sem.run_bind, run_underlying hu, Result.andThen_ok]
                      dsimp only
                      simp only [Sem.run_bind, run_zeroValue' hi hzv, Result.andThen_ok]
                      rw [hzc, hrun]
                      rfl
                    · rw [hcat]
                      refine sim1.write (b := b) (by rw [hg1]; rfl) (by rw [hr]; rfl) (setRow_size _ _ _) (fun b' hb' => setRow_other _ _ _ _ hb') rfl rfl rfl (fun hs => ?_)
                      have hall : All2 (Cells (Own c.base (slotT d ++ st) ρ) w k) (List.take lo l ++ List.replicate n k.dflt ++ List.drop (lo + n) l) (css.take lo ++ List.replicate n z.cells.toList ++ css.drop (lo + n)) :=
                        ((q2.take lo).append hrep).append (q2.drop (lo + n))
                      have hlen' : (List.take lo l ++ List.replicate n k.dflt ++ List.drop (lo + n) l).length = l.length := by
                        simp only [List.length_append, List.length_take, List.length_replicate, List.length_drop]
                        omega
                      refine ⟨_, _, hr, All2.mono (fun _ _ h => h.stays hs) hall, ?_, .inr ⟨b, cp, _, ?_, Nat.zero_le _, setRow_heap w b cur _ et' (0, 0) hh, ?_, hcm, ?_, ?_⟩⟩
                      · rw [flatten_length hall]
                      · rw [hlen']
                      · rw [hlen']; exact hnc
                      · simp only [List.size_toArray, List.length_append, List.length_take, List.length_drop, Array.length_toList, hrl]
                        omega
                      · rw [hlen', List.flatten_append, List.flatten_append, flatten_take q2, flatten_drop q2, ← htk]
                        have hcl : cur.toList.length = cp * k.size := by simpa using hcs'
                        rw [Nat.add_mul]
                        exact splice_take cur.toList _ _ _ _ hrl (by omega) (by omega)
              · cases hy
          · cases hy
        · cases hy
      | v => cases hy
      | t => cases hy
      | box => cases hy
  | _ => cases h

theorem copy_sound (sim : SimR c ρ st a w) {t t2 ty : TypeId} {S X : AV} {s x : Value} {d : Nat} {e : Eff} (hS : VRel (Own c.base st ρ) ρ w S s) (hX : VRel (Own c.base st ρ) ρ w X x)
    (h : (evCopy P t t2 d S X).run st = some e) (hd : d < c.n) :
    ∃ v w' ρ', (Builtin.copy_ #[t, t2] ty #[s, x]).run P w = .ok v w' ∧ SimR c ρ' (e.w ++ st) (a.put (some d) v) w' := by
  unfold evCopy at h
  split at h
  · rename_i ek0 r off n lo m str et hst
    have hu := sliceT_some hst
    split at h
    · rename_i hq
      obtain ⟨rfl, hf, hst2⟩ := hq
      obtain ⟨f1, f2, f3⟩ := fits_some hf
      have hx := hX.p_str
      subst hx
      obtain ⟨y, hg, hy⟩ := get_run h
      cases y with
      | box cs =>
        dsimp only at hy
        split at hy
        · rename_i n' l hsub
          split at hy
          · rename_i hn
            subst hn
            split at hy
            · rename_i cs' hup
              cases hy
              have hc := hS.one rfl (by simp)
              cases hc with
              | bsl hb ha hm =>
                rename_i b ad
                obtain ⟨vals, tt, hh, hcc⟩ := box_of sim hb hg
                obtain ⟨h1, _, h3, _⟩ := AV.subs_sound hcc hsub
                rw [Nat.mul_one] at h1 h3
                cases h1 with
                | p h1 =>
                  obtain ⟨hll, css, hcss, hall⟩ := h1
                  obtain ⟨k, hk⟩ : ∃ k, k = min str.size m := ⟨_, rfl⟩
                  rw [← hk] at hup ⊢
                  have hbl := bytesOf_length str
                  have htk : List.take m (bytesOf str) = List.take k (bytesOf str) := by
                    rw [List.take_eq_take_iff, hbl, hk]; omega
                  rw [htk] at hup
                  -- the bytes as cells
                  obtain ⟨bs, hbs⟩ : ∃ bs, bs = (List.take k (bytesOf str)).map (Value.int .u8) := ⟨_, rfl⟩
                  have hbsl : bs.length = k := by rw [hbs, List.length_map, List.length_take, hbl, hk]; omega
                  have hbc : All2 (Cells (Own c.base st ρ) w (.int .u8)) (List.take k (bytesOf str)) (bs.map fun v => [v]) := by
                    rw [hbs]
                    generalize List.take k (bytesOf str) = q
                    induction q with
                    | nil => trivial
                    | cons z q ih => exact ⟨rfl, ih⟩
                  have hfb : (bs.map fun v => [v]).flatten = bs := by
                    generalize bs = q
                    induction q with
                    | nil => rfl
                    | cons z q ih => simp only [List.map_cons, List.flatten_cons, ih]; rfl
                  have hnew : Cells (Own c.base st ρ) w (.arr n' (.int .u8)) (List.take lo l ++ List.take k (bytesOf str) ++ List.drop (lo + k) l) (css.take lo ++ (bs.map fun v => [v]) ++ css.drop (lo + k)).flatten := by
                    refine ⟨?_, _, rfl, ((hall.take lo).append hbc).append (hall.drop _)⟩
                    simp only [List.length_append, List.length_take, List.length_drop, hbl, hll]
                    omega
                  have hnfl : (css.take lo ++ (bs.map fun v => [v]) ++ css.drop (lo + k)).flatten = css.flatten.take lo ++ bs ++ css.flatten.drop (lo + k) := by
                    rw [List.flatten_append, List.flatten_append, hfb, flatten_take' hall, flatten_drop' hall]
                    have h1 : (Kd.int .u8).size = 1 := rfl
                    rw [h1, Nat.mul_one, Nat.mul_one]
                  obtain ⟨k1, k2⟩ := AV.upds_sound hcc (CsRel.single (.p hnew)) hnew.length (by simpa [Kd.size] using hup)
                  have hks : (Kd.arr n' (.int .u8)).size = n' := by show n' * 1 = n'; omega
                  rw [hks] at k1 k2
                  have hvl : off + n' ≤ vals.toList.length := k2
                  have hcfl : css.flatten.length = n' := by rw [← hcss, List.length_take, List.length_drop]; omega
                  have hval : vals.toList.take off ++ (css.take lo ++ (bs.map fun v => [v]) ++ css.drop (lo + k)).flatten ++ vals.toList.drop (off + n') = vals.toList.take (off + lo) ++ bs ++ vals.toList.drop (off + lo + k) := by
                    rw [hnfl, ← hcss]
                    rw [List.take_take, Nat.min_eq_left (by omega), List.drop_take, List.drop_drop]
                    have e1 : vals.toList.take (off + lo) = vals.toList.take off ++ (vals.toList.drop off).take lo := by rw [List.take_add]
                    have e2 : vals.toList.drop (off + lo + k) = (vals.toList.drop (off + (lo + k))).take (n' - (lo + k)) ++ vals.toList.drop (off + n') := by
                      have := List.take_append_drop (n' - (lo + k)) (vals.toList.drop (off + (lo + k)))
                      rw [List.drop_drop, show off + (lo + k) + (n' - (lo + k)) = off + n' by omega] at this
                      rw [show off + lo + k = off + (lo + k) by omega]
                      exact this.symm
                    rw [e1, e2]
                    simp only [List.append_assoc]
                  rw [hval] at k1
                  -- the run
                  have hcell : ((str.extract 0 k).data.map fun b => Value.int .u8 b.toNat).toList = bs := by
                    rw [hbs]
                    unfold bytesOf
                    simp only [Array.toList_map, List.map_take, List.map_map]
                    have hex : (str.extract 0 k).data.toList = str.data.toList.take k := by
                      simp [ByteArray.extract, ByteArray.copySlice]
                    rw [hex]
                    simp [List.map_take, Function.comp_def]
                  have hlast : ∀ v ∈ bs, v.oneCell' = true := by
                    intro v hv
                    rw [hbs] at hv
                    obtain ⟨z, _, rfl⟩ := List.mem_map.1 hv
                    rfl
                  have hstore : (storeCells ad ((str.extract 0 k).data.map fun b => Value.int .u8 b.toNat).toList).run P w = .ok () (w.setRow b (vals.toList.take (off + lo) ++ bs ++ vals.toList.drop (off + lo + k)).toArray) := by
                    rw [hcell]
                    by_cases hk0 : k = 0
                    · have hb0 : bs = [] := List.eq_nil_of_length_eq_zero (by omega)
                      subst hk0
                      rw [hb0]
                      have : (vals.toList.take (off + lo) ++ [] ++ vals.toList.drop (off + lo + 0)).toArray = vals := by simp
                      rw [this, setRow_self w b vals tt (0, 0) hh]
                      rfl
                    · rw [ha (by omega)]
                      have hrun := run_storeCells_at P b (off + lo) tt bs 0 vals w hh (by rw [hbsl]; have : vals.toList.length = vals.size := Array.length_toList; omega) hlast
                      rw [Nat.add_zero, hbsl] at hrun
                      have h1 : (Kd.int .u8).size = 1 := rfl
                      rw [h1, Nat.mul_one]
                      exact hrun
                  have hwr := sim.write (E := .box cs') (w' := w.setRow b (vals.toList.take (off + lo) ++ bs ++ vals.toList.drop (off + lo + k)).toArray) (b := b) (by rw [hg]; rfl) (by rw [hb]; rfl) (setRow_size _ _ _) (fun b' hb' => setRow_other _ _ _ _ hb') rfl rfl rfl (fun hs => by
                    refine ⟨b, _, tt, hb, setRow_heap w b vals _ tt (0, 0) hh, ?_⟩
                    exact (k1.stays hs (fun _ _ => rfl)))
                  refine ⟨.int .i64 (k : Int), _, ρ, ?_, hwr.putSlot hd (x := .v (.p (.int .i64) ((k : Nat) : Int))) .of_int⟩
                  unfold Builtin.copy_
                  simp only [List.getElem?_toArray, List.getElem?_cons_zero, List.getElem?_cons_succ, Sem.run_bind, run_underlying hu, Result.andThen_ok, Builtin.lenOf, Sem.run_pure, run_sizeOf' f2]
                  have hmin : Nat.min str.size m = k := hk.symm
                  rw [hmin]
                  simp only [Builtin.firstCells, Sem.run_pure, Result.andThen_ok, hstore]
                  rfl
            · cases hy
          · cases hy
        · cases hy
      | v => cases hy
      | t => cases hy
      | row => cases hy
    · cases h
  · cases h

theorem arrayAt_sound {O : Nat → Prop} {t : TypeId} {A R : AV} {cs : List Prop} {v : Value} (hA : VRel O ρ w A v) (h : evArrayAt P t A = some (R, cs)) (hcs : ∀ p ∈ cs, p) :
    ∃ u, (Instr.arrayAt t v).run P w = .ok u w ∧ VRel O ρ w R u := by
  cases A with
  | bsl e r off n lo m =>
    simp only [evArrayAt] at h
    split at h
    · rename_i n' et hat
      split at h
      · rename_i hq
        cases h
        have hle : n' ≤ m := hcs _ (by simp)
        have hu := arrayT_some hat
        have hc := hA.one rfl (by simp)
        cases hc with
        | bsl hb ha hm =>
          refine ⟨_, ?_, .of_one rfl (.ptr hb)⟩
          unfold Instr.arrayAt
          simp only [Sem.run_bind, run_underlying hu, Result.andThen_ok]
          rw [if_neg (by omega), ha (by omega)]
          rfl
      · cases h
    · cases h
  | _ => cases h

theorem op_sound (hd' : c.P = P) {h : Hint} {o : Oper} {e : Eff} (he : (opEff P (SpecOk P) h o).run st = some e) (hcs : ∀ p ∈ e.c, p) (hfresh : ∀ r ∈ e.n, ∀ k x, St.get k st = some x → r ∉ x.refs) (hkp : ∀ r ∈ e.n, r ∉ c.kp)
    (hdst : ∀ d, o.dst = some d → d < c.n) (sim : SimR c ρ st a w) {K : Act → World → Prop} {Q : Exit → Act → World → Prop} (hK : ∀ ρ' a' w', SimR c ρ' (e.w ++ st) a' w' → K a' w') : o.wp P a w K Q := by
  -- a value, the world as it was
  have value : ∀ {V : Val} {cs : List Prop} {x : Value}, (put1 o V cs).run st = some e → ((∀ p ∈ cs, p) → SRel (Own c.base st ρ) ρ w V x ∧ (execOp a.eval o).run P w = .ok (.value x) w) → o.wp P a w K Q :=
    fun hp hv => op_put sim hp hdst hv hcs hK
  have valueR : ∀ {m : RM (AV × List Prop)}, (putR o m).run st = some e → (∀ A cs, m.run st = some (A, cs) → (∀ p ∈ cs, p) → ∃ x, VRel (Own c.base st ρ) ρ w A x ∧ (execOp a.eval o).run P w = .ok (.value x) w) → o.wp P a w K Q := by
    intro m hp hv
    obtain ⟨⟨A, cs⟩, h1, h2⟩ := RM.run_bind_some hp
    obtain ⟨d, hd, hee⟩ := put1_some h2
    obtain ⟨x, hx1, hx2⟩ := hv A cs h1 (fun p hp => hcs p (by rw [hee]; exact hp))
    exact value h2 (fun _ => ⟨hx1, hx2⟩)
  have valueO : ∀ {m : Option (AV × List Prop)}, (putO o m).run st = some e → (∀ A cs, m = some (A, cs) → (∀ p ∈ cs, p) → ∃ x, VRel (Own c.base st ρ) ρ w A x ∧ (execOp a.eval o).run P w = .ok (.value x) w) → o.wp P a w K Q := by
    intro m hp hv
    cases hm : m with
    | none => rw [hm] at hp; cases hp
    | some Ac =>
      obtain ⟨A, cs⟩ := Ac
      rw [hm] at hp
      obtain ⟨d, hd, hee⟩ := put1_some (V := .v A) (cs := cs) hp
      obtain ⟨x, hx1, hx2⟩ := hv A cs hm (fun p hp => hcs p (by rw [hee]; exact hp))
      exact value (V := .v A) (cs := cs) hp (fun _ => ⟨hx1, hx2⟩)
  unfold opEff at he
  split at he
  · -- move
    rename_i x ho
    obtain ⟨V, h1, h2⟩ := RM.run_bind_some he
    exact value h2 (fun _ => ⟨opv_sound sim h1, by simp [execOp, ho]⟩)
  · rename_i x ho
    obtain ⟨V, h1, h2⟩ := RM.run_bind_some he
    exact value h2 (fun _ => ⟨opv_sound sim h1, by simp [execOp, ho]⟩)
  · -- pick
    rename_i cc x y ho
    obtain ⟨B, h1, h2⟩ := RM.run_bind_some he
    have hB := opa_sound sim h1
    split at h2
    · rename_i b
      have hb := hB.p_bool
      split at h2
      · obtain ⟨V, h3, h4⟩ := RM.run_bind_some h2
        refine value h4 (fun hc => ⟨opv_sound sim h3, ?_⟩)
        have : b = true := hc _ (by simp)
        simp [execOp, ho, hb, asBool, this]
      · obtain ⟨V, h3, h4⟩ := RM.run_bind_some h2
        refine value h4 (fun hc => ⟨opv_sound sim h3, ?_⟩)
        have : b = false := hc _ (by simp)
        simp [execOp, ho, hb, asBool, this]
      · cases h2
    · cases h2
  · -- alloc
    rename_i t ho
    split at he
    · rename_i k zs d hz hd
      cases he
      obtain ⟨i, z, hi, hzv, hm, hsz, hag, rfl⟩ := zeroOf_some hz
      obtain ⟨c1, hc1, hdf, hzs⟩ := Kd.zmatch_sound (O := Own c.base st ρ) (ρ := ρ) (w := w) hm
      rw [List.append_nil] at hc1
      rw [← hc1] at hzs
      have := newBox sim (hdst d hd) (hfresh d (by simp)) (hkp d (by simp)) t hzs (by rw [Kd.zeros_refs]; simp)
      refine wp_value (w' := w.alloc (.cells z.cells t)) (v := .pointer (some ⟨w.heap.size, 0, none⟩)) ?_ (hK _ _ _ (by rw [hd]; exact this))
      simp only [execOp, ho, Instr.alloc, Sem.run_bind, run_zeroValue' hi hzv, Result.andThen_ok, newVar, newRow, run_newObj, Sem.run_pure]
      rfl
    · cases he
  · -- box
    rename_i t x ho
    obtain ⟨A, h1, h2⟩ := RM.run_bind_some he
    have hA := opa_sound sim h1
    have hne' : A ≠ .und := by intro hh; subst hh; cases h2
    cases hd : o.dst with
    | none => rw [hd] at h2; cases A <;> cases h2
    | some d =>
      rw [hd] at h2
      have hee : e = ⟨[(ek d, some (.box A.cellsOf)), (sk d, some (.v (.ptr d 0)))], [], [d]⟩ := by
        cases A <;> first | (cases h2; rfl) | exact absurd rfl hne'
      subst hee
      have hc := hA.cells hne'
      have := newBox sim (hdst d hd) (hfresh d (by simp)) (hkp d (by simp)) (vals := (a.eval x).cells) t (AV.cellsOf_sound hc) (by
        rw [AV.cellsOf_refs]
        intro hr
        obtain ⟨k, y, hk, hy⟩ := opa_refs h1 d hr
        exact hfresh d (by simp) k y hk hy)
      refine wp_value (w' := w.alloc (.cells (a.eval x).cells t)) (v := .pointer (some ⟨w.heap.size, 0, none⟩)) ?_ (hK _ _ _ (by rw [hd]; exact this))
      simp only [execOp, ho, Instr.box, newVar, newRow, Sem.run_bind, run_newObj, Result.andThen_ok, Sem.run_pure]
      rfl
  · -- load
    rename_i t x ho
    obtain ⟨A, h1, h2⟩ := RM.run_bind_some he
    split at h2
    · rename_i hok
      refine valueR h2 (fun B cs hB hc => ?_)
      obtain ⟨⟨B0, cs0⟩, hB0, hB1⟩ := RM.run_bind_some hB
      cases hB1
      obtain ⟨u, hu1, hu2⟩ := load_sound sim hok (opa_sound sim h1) hB0 hc
      exact ⟨u, hu2.nf, by simp [execOp, ho, hu1]⟩
    · cases h2
  · -- store
    rename_i t x y ho
    obtain ⟨A, h1, h2⟩ := RM.run_bind_some he
    obtain ⟨V, h3, h4⟩ := RM.run_bind_some h2
    split at h4
    · rename_i hnd
      have hnone : o.dst = none := by simpa [noDst] using hnd
      have hA := opa_sound sim h1
      have hV := opa_sound sim h3
      obtain ⟨vx, hvx⟩ : ∃ v, v = a.eval x := ⟨_, rfl⟩
      rw [← hvx] at hA
      have fin : ∀ {w' : World} {ρ' : Nat → Loc}, (Instr.storeAt t vx (a.eval y)).run P w = .ok () w' → SimR c ρ' (e.w ++ st) a w' → o.wp P a w K Q := by
        intro w' ρ' hrun hs
        refine wp_skipped (w' := w') ?_ (hK ρ' _ _ (by rw [hnone]; exact hs))
        simp only [execOp, ho, ← hvx, Sem.run_bind, hrun, Result.andThen_ok, Sem.run_pure]
      cases A with
      | ptr r off =>
        have hc := hA.one rfl (by simp)
        cases hc with
        | ptr hb =>
          obtain ⟨z, hg, hz⟩ := get_run h4
          cases z with
          | box cs =>
            dsimp only at hz
            split at hz
            · rename_i hst
              split at hz
              · rename_i cs' hu
                cases hz
                obtain ⟨w', r1, r2⟩ := store_ptr sim hst hV hb hg hu
                exact fin r1 r2
              · cases hz
            · cases hz
          | v => cases hz
          | t => cases hz
          | row => cases hz
      | rptr ee r i off =>
        have hc := hA.one rfl (by simp)
        cases hc with
        | rptr hb =>
          obtain ⟨z, hg, hz⟩ := get_run h4
          cases z with
          | row e' et l =>
            dsimp only at hz
            split at hz
            · rename_i hst
              obtain ⟨hst, hoff⟩ := hst
              subst hoff
              split at hz
              · rename_i hee
                subst hee
                dsimp only at hz
                split at hz
                · rename_i yy hu
                  cases hz
                  have hi : i < l.length := hcs _ (by simp)
                  obtain ⟨w', r1, r2⟩ := store_rptr sim hst hV hb hg hu hi
                  exact fin (by rw [Nat.add_zero]; exact r1) r2
                · cases hz
              · cases hz
            · cases hz
          | v => cases hz
          | t => cases hz
          | box => cases hz
      | aptr ee r off n i p =>
        have hc := hA.one rfl (by simp)
        cases hc with
        | aptr hb hi =>
          simp only [evStore, evStoreA] at h4
          obtain ⟨z, hg, hz⟩ := get_run h4
          cases z with
          | box cs =>
            dsimp only at hz
            split at hz
            · rename_i hst
              obtain ⟨hst, hoff⟩ := hst
              subst hoff
              split at hz
              · rename_i n' e' y hsub
                split at hz
                · rename_i hee
                  obtain ⟨hee, hn'⟩ := hee
                  subst hee
                  subst hn'
                  split at hz
                  · rename_i yy hu
                    split at hz
                    · rename_i cs' hup
                      cases hz
                      obtain ⟨w', r1, r2⟩ := store_aptr sim hst hV hb hi hg hsub hu hup
                      exact fin (by rw [Nat.add_zero]; exact r1) r2
                    · cases hz
                  · cases hz
                · cases hz
              · cases hz
            · cases hz
          | v => cases hz
          | t => cases hz
          | row => cases hz
      | _ => cases h4
    · cases h4
  · -- binOp
    rename_i op xt x y yt ho
    obtain ⟨A, h1, h2⟩ := RM.run_bind_some he
    obtain ⟨B, h3, h4⟩ := RM.run_bind_some h2
    refine valueO h4 (fun R cs hR hc => ?_)
    obtain ⟨u, hu1, hu2⟩ := bin_sound (opa_sound sim h1) (opa_sound sim h3) hR hc x y
    refine ⟨u, hu2, ?_⟩
    simp only [execOp, ho]
    rw [Sem.run_bind, hu1]
    rfl
  · -- unOp
    rename_i op xt x ho
    obtain ⟨A, h1, h2⟩ := RM.run_bind_some he
    refine valueO h2 (fun R cs hR hc => ?_)
    cases hq : evUn op A with
    | none => rw [hq] at hR; cases hR
    | some R' =>
      rw [hq] at hR
      cases hR
      obtain ⟨u, hu1, hu2⟩ := un_sound (P := P) (opa_sound sim h1) hq
      exact ⟨u, hu2, by simp [execOp, ho, hu1]⟩
  · -- convert
    rename_i s d x ho
    obtain ⟨A, h1, h2⟩ := RM.run_bind_some he
    refine valueR h2 (fun R cs hR hc => ?_)
    obtain ⟨R', h3, h4⟩ := RM.run_bind_some hR
    cases h4
    obtain ⟨u, hu1, hu2⟩ := conv_sound sim (opa_sound sim h1) h3
    exact ⟨u, hu2, by simp [execOp, ho, hu1]⟩
  · -- makeFunc
    rename_i f first caps ho
    split at he
    · rename_i hf
      obtain ⟨As, h1, h2⟩ := RM.run_bind_some he
      split at h2
      · rename_i hall
        have hAs := opas_sound sim h1
        refine value h2 (fun _ => ⟨.of_one rfl (.fn (ones_cells hAs hall) hall), ?_⟩)
        have hfe : first = #[] := by simpa using hf
        subst hfe
        simp only [execOp, ho, Instr.makeFunc, Sem.run_bind, Sem.run_pure, Result.andThen_ok]
        simp
        apply Array.ext'
        simp
      · cases h2
    · cases he
  · -- slice
    rename_i t x lo hi ho
    obtain ⟨A, h1, h2⟩ := RM.run_bind_some he
    obtain ⟨nl, h3, h4⟩ := RM.run_bind_some h2
    obtain ⟨nh, h5, h6⟩ := RM.run_bind_some h4
    refine valueR h6 (fun R cs hR hc => ?_)
    obtain ⟨u, hu1, hu2⟩ := slice_sound sim (opa_sound sim h1) h3 h5 hR hc
    exact ⟨u, hu2, by simp only [execOp, ho, Option.map_none]; rw [Sem.run_bind, hu1]; rfl⟩
  · -- fieldAddr
    rename_i t x f ho
    obtain ⟨A, h1, h2⟩ := RM.run_bind_some he
    refine valueO h2 (fun R cs hR hc => ?_)
    cases hq : evFieldAddr P t f A with
    | none => rw [hq] at hR; cases hR
    | some R' =>
      rw [hq] at hR
      cases hR
      obtain ⟨u, hu1, hu2⟩ := fieldAddr_sound (opa_sound sim h1) hq
      exact ⟨u, hu2, by simp [execOp, ho, hu1]⟩
  · -- indexAddr
    rename_i t x i ho
    obtain ⟨A, h1, h2⟩ := RM.run_bind_some he
    obtain ⟨I, h3, h4⟩ := RM.run_bind_some h2
    have hI := opa_sound sim h3
    split at h4
    · rename_i k n
      have := hI.p_int
      refine valueR h4 (fun R cs hR hc => ?_)
      obtain ⟨u, hu1, hu2⟩ := indexAddr_sound (k := k) sim (opa_sound sim h1) hR hc
      exact ⟨u, hu2, by simp [execOp, ho, this, hu1]⟩
    · cases h4
  · -- index
    rename_i t x i ho
    obtain ⟨A, h1, h2⟩ := RM.run_bind_some he
    obtain ⟨I, h3, h4⟩ := RM.run_bind_some h2
    have hI := opa_sound sim h3
    split at h4
    · rename_i k n
      have := hI.p_int
      refine valueR h4 (fun R cs hR hc => ?_)
      obtain ⟨u, hu1, hu2⟩ := index_sound (k := k) (opa_sound sim h1) hR hc
      exact ⟨u, hu2, by simp [execOp, ho, this, hu1]⟩
    · cases h4
  · -- build
    rename_i t parts ho
    obtain ⟨ps, h1, h2⟩ := RM.run_bind_some he
    refine valueO h2 (fun R cs hR hc => ?_)
    cases hq : evBuild P t ps with
    | none => rw [hq] at hR; cases hR
    | some R' =>
      rw [hq] at hR
      cases hR
      obtain ⟨u, hu1, hu2⟩ := build_sound sim h1 hq
      exact ⟨u, hu2, by simp only [execOp, ho]; rw [Sem.run_bind, hu1]; rfl⟩
  · -- buildSlice
    rename_i t n parts ho
    obtain ⟨ps, h1, h2⟩ := RM.run_bind_some he
    split at h2
    · rename_i d hd
      split at h2
      · rename_i e' hb
        cases h2
        obtain ⟨v, w', ρ', r1, r2⟩ := buildSlice_sound sim h1 hb (hdst d hd) hfresh hkp
        refine wp_value (w' := w') (v := v) ?_ (hK ρ' _ _ (by rw [hd]; exact r2))
        simp only [execOp, ho]
        rw [Sem.run_bind, r1]
        rfl
      · cases h2
    · cases h2
  · -- extract
    rename_i x i ho
    obtain ⟨V, h1, h2⟩ := RM.run_bind_some he
    have hV := opv_sound sim h1
    split at h2
    · rename_i as
      split at h2
      · rename_i A hA
        obtain ⟨vs, hv, hall⟩ := hV
        obtain ⟨v, hv1, hv2⟩ := hall.get i A hA
        refine value h2 (fun _ => ⟨hv2, ?_⟩)
        simp [execOp, ho, hv, Instr.extract, hv1]
      · cases h2
    · cases h2
  · -- sliceToArrayPointer
    rename_i t x ho
    obtain ⟨A, h1, h2⟩ := RM.run_bind_some he
    refine valueO h2 (fun R cs hR hc => ?_)
    obtain ⟨u, hu1, hu2⟩ := arrayAt_sound (opa_sound sim h1) hR hc
    exact ⟨u, hu2, by simp [execOp, ho, hu1]⟩
  · -- field
    rename_i t x f ho
    obtain ⟨A, h1, h2⟩ := RM.run_bind_some he
    refine valueO h2 (fun R cs hR hc => ?_)
    cases hq : evField P t f A with
    | none => rw [hq] at hR; cases hR
    | some R' =>
      rw [hq] at hR
      cases hR
      obtain ⟨u, hu1, hu2⟩ := field_sound (opa_sound sim h1) hq
      exact ⟨u, hu2, by simp [execOp, ho, hu1]⟩
  · -- nilCheck
    rename_i x ho
    obtain ⟨A, h1, h2⟩ := RM.run_bind_some he
    have hA := opa_sound sim h1
    split at h2
    · rename_i r off
      obtain ⟨vx, hvx⟩ : ∃ v, v = a.eval x := ⟨_, rfl⟩
      rw [← hvx] at hA
      refine value (x := vx) h2 (fun _ => ⟨hA, ?_⟩)
      have hc := hA.one rfl (by simp)
      cases hc with
      | ptr hb => simp only [execOp, ho, ← hvx]; rfl
    · cases h2
  · -- call
    rename_i cl ho
    split at he
    · -- a builtin
      rename_i b hb
      obtain ⟨As, h1, h2⟩ := RM.run_bind_some he
      have hAs := opas_sound sim h1
      have hargs : cl.args.map a.eval = (cl.args.toList.map a.eval).toArray := by apply Array.ext'; simp
      split at h2
      · -- len
        rename_i A
        split at h2
        · rename_i t n ht hn
          split at h2
          · rename_i hlt
            refine value h2 (fun _ => ⟨.of_int, ?_⟩)
            cases hal : cl.args.toList with
            | nil => rw [hal] at hAs; exact hAs.elim
            | cons x xs =>
              rw [hal] at hAs
              cases xs with
              | cons => exact hAs.2.elim
              | nil =>
                rw [hal] at hargs
                have hl := len_sound (P := P) (ty := o.type) hAs.1 hn hlt ht
                simp only [execOp, ho, resolve, hb, Sem.run_bind, Sem.run_pure, Result.andThen_ok, invoke, builtin]
                rw [hargs]
                simp only [List.map_cons, List.map_nil]
                rw [hl]
                rfl
          · cases h2
        · cases h2
      · -- append
        rename_i S X
        split at h2
        · rename_i t t2 d ht ht2 hd
          cases hal : cl.args.toList with
          | nil => rw [hal] at hAs; exact hAs.elim
          | cons x xs =>
            rw [hal] at hAs
            cases xs with
            | nil => exact hAs.2.elim
            | cons y ys =>
              cases ys with
              | cons => exact hAs.2.2.elim
              | nil =>
                rw [hal] at hargs
                obtain ⟨v, w', ρ', r1, r2⟩ := append_sound (ty := o.type) sim hAs.1 hAs.2.1 h2 hcs (hdst d hd) hfresh hkp
                refine wp_value (w' := w') (v := v) ?_ (hK ρ' _ _ (by rw [hd]; exact r2))
                simp only [execOp, ho, resolve, hb, Sem.run_bind, Sem.run_pure, Result.andThen_ok, invoke, builtin]
                rw [hargs]
                simp only [List.map_cons, List.map_nil]
                have : (Builtin.append_ cl.argTypes o.type #[a.eval x, a.eval y]).run P w = (Builtin.append_ #[t, t2] o.type #[a.eval x, a.eval y]).run P w := by
                  unfold Builtin.append_
                  rw [ht, ht2]
                  rfl
                rw [this, r1]
                rfl
        · cases h2
      · -- copy
        rename_i S X
        split at h2
        · rename_i t t2 d ht ht2 hd
          cases hal : cl.args.toList with
          | nil => rw [hal] at hAs; exact hAs.elim
          | cons x xs =>
            rw [hal] at hAs
            cases xs with
            | nil => exact hAs.2.elim
            | cons y ys =>
              cases ys with
              | cons => exact hAs.2.2.elim
              | nil =>
                rw [hal] at hargs
                obtain ⟨v, w', ρ', r1, r2⟩ := copy_sound (ty := o.type) sim hAs.1 hAs.2.1 h2 (hdst d hd)
                refine wp_value (w' := w') (v := v) ?_ (hK ρ' _ _ (by rw [hd]; exact r2))
                simp only [execOp, ho, resolve, hb, Sem.run_bind, Sem.run_pure, Result.andThen_ok, invoke, builtin]
                rw [hargs]
                simp only [List.map_cons, List.map_nil]
                have : (Builtin.copy_ cl.argTypes o.type #[a.eval x, a.eval y]).run P w = (Builtin.copy_ #[t, t2] o.type #[a.eval x, a.eval y]).run P w := by
                  unfold Builtin.copy_
                  rw [ht]
                  rfl
                rw [this, r1]
                rfl
        · cases h2
      · -- max
        rename_i k x r
        split at h2
        · rename_i z hz
          refine value h2 (fun _ => ⟨.of_int, ?_⟩)
          cases hal : cl.args.toList with
          | nil => rw [hal] at hAs; exact hAs.elim
          | cons y ys =>
            rw [hal] at hAs
            rw [hal] at hargs
            have hx := hAs.1.p_int
            have := mm_sound (P := P) true hAs.2 hz
            simp only [execOp, ho, resolve, hb, Sem.run_bind, Sem.run_pure, Result.andThen_ok, invoke, builtin, Builtin.max_]
            rw [hargs]
            simp only [List.map_cons, hx]
            rw [if_pos rfl] at this
            rw [this]
            rfl
        · cases h2
      · -- min
        rename_i k x r
        split at h2
        · rename_i z hz
          refine value h2 (fun _ => ⟨.of_int, ?_⟩)
          cases hal : cl.args.toList with
          | nil => rw [hal] at hAs; exact hAs.elim
          | cons y ys =>
            rw [hal] at hAs
            rw [hal] at hargs
            have hx := hAs.1.p_int
            have := mm_sound (P := P) false hAs.2 hz
            simp only [execOp, ho, resolve, hb, Sem.run_bind, Sem.run_pure, Result.andThen_ok, invoke, builtin, Builtin.min_]
            rw [hargs]
            simp only [List.map_cons, hx]
            rw [if_neg (by simp)] at this
            rw [this]
            rfl
        · cases h2
      · -- clear
        rename_i A
        split at h2
        · rename_i t ht
          cases hal : cl.args.toList with
          | nil => rw [hal] at hAs; exact hAs.elim
          | cons x xs =>
            rw [hal] at hAs
            cases xs with
            | cons => exact hAs.2.elim
            | nil =>
              rw [hal] at hargs
              obtain ⟨w', r1, r2⟩ := clear_sound (ty := o.type) sim hAs.1 h2 hcs hdst ht
              refine wp_value (w' := w') (v := .tuple #[]) ?_ (hK ρ _ _ r2)
              simp only [execOp, ho, resolve, hb, Sem.run_bind, Sem.run_pure, Result.andThen_ok, invoke, builtin]
              rw [hargs]
              simp only [List.map_cons, List.map_nil]
              rw [r1]
              rfl
        · cases h2
      · cases h2
    · -- a function
      rename_i f hf
      obtain ⟨G, h1, h2⟩ := RM.run_bind_some he
      obtain ⟨As, h3, h4⟩ := RM.run_bind_some h2
      have hG := opa_sound sim h1
      have hAs := opas_sound sim h3
      split at h4
      · rename_i fid caps ch hch
        obtain ⟨vx, hvx⟩ : ∃ v, v = a.eval f := ⟨_, rfl⟩
        rw [← hvx] at hG
        have hc := hG.one rfl (by simp)
        cases hc with
        | fn hcr hlen =>
          rename_i cvs
          have hall := hAs.append (caps_all hcr hlen)
          have hrun : (execOp a.eval o).run P w = (callFunc fid ((cl.args.toList.map a.eval) ++ cvs).toArray).run P w := by
            simp only [execOp, ho, resolve, hf, ← hvx, Deferred.ofValue, Sem.run_bind, Sem.run_pure, Result.andThen_ok, invoke]
            congr 2
            simp
          split at h4
          · rename_i hck
            unfold Oper.wp
            have hcall : (callFunc fid ((cl.args.toList.map a.eval) ++ cvs).toArray).run P w = .ok (.enter fid ((cl.args.toList.map a.eval) ++ cvs).toArray) w := by
              unfold callOk at hck
              unfold callFunc
              rw [Sem.run_bind, run_program, Result.andThen_ok]
              cases hfn : P.funcs[fid]? with
              | none => rw [hfn] at hck; cases hck
              | some fn =>
                rw [hfn] at hck
                simp only [Bool.and_eq_true, Bool.not_eq_true'] at hck
                dsimp only
                rw [hck.2]
                have : fn.body.isNone = false := by
                  cases hb : fn.body with
                  | none => rw [hb] at hck; cases hck.1
                  | some _ => rfl
                simp [this]
            rw [hrun, hcall]
            obtain ⟨e0, h5, h6⟩ := RM.run_bind_some h4
            obtain ⟨k1, k2, k3⟩ := sameKeys_sound h6 hcs
            exact call_sound sim hall h5 k1 (by rw [k2]; exact hfresh) (by rw [k2]; exact hkp) hdst (fun ρ' a' w' hs => hK ρ' a' w' (hs.congr k3))
          · cases h4
      · cases h4
    · cases he
  · cases he
end
end Go.Abs
set_option linter.unusedVariables false
namespace Go.Abs
set_option linter.unusedSectionVars false
variable [Globs]

theorem opSound (P : Program) : OpSound P (SpecOk P) := by
  intro c ops h o st e ρ a w K Q hP he hcs hfresh hkp hdst sim hK
  unfold operEff at he
  split at he
  · rename_i hg
    have : Region.wanted o (yielded ops a.tmps) = true := by unfold Region.wanted; rw [hg]
    rw [if_pos this]
    exact op_sound hP he hcs hfresh hkp hdst sim hK
  · rename_i j want hg
    have skip : ∀ (b : Bool) (cs : List Prop), yielded ops a.tmps j ≠ some want → (match o.dst with | some d => RM.ret (Eff.mk [(sk d, some (.v .und))] cs []) | none => RM.ret (Eff.mk [] cs [])).run st = some e →
        (if Region.wanted o (yielded ops a.tmps) = true then o.wp P a w K Q else K (a.put o.dst undef) w) := by
      intro b cs hy hr
      have hw : ¬ Region.wanted o (yielded ops a.tmps) = true := by
        unfold Region.wanted; rw [hg]
        simpa using hy
      rw [if_neg hw]
      cases hd : o.dst with
      | none => rw [hd] at hr; cases hr; exact hK ρ a w sim
      | some d =>
        rw [hd] at hr; cases hr
        exact hK ρ _ w (sim.putSlot (hdst d hd) (x := .v .und) (.inl ⟨rfl, rfl⟩))
    split at he
    · cases he
    · rename_i t ht
      obtain ⟨y, hgt, hy⟩ := get_run he
      have hs := sim.slots t y hgt
      have hyield : yielded ops a.tmps j = match a.tmps[t]? with | some (.bool b) => some b | _ => none := by
        unfold yielded
        rw [ht]
        rfl
      have hgetD : a.tmps.getD t undef = (a.tmps[t]?).getD undef := by rw [Array.getD_eq_getD_getElem?]
      cases y with
      | v A =>
        cases A with
        | p k b =>
          cases k with
          | bool =>
            have hb := VRel.p_bool hs
            have hyb : yielded ops a.tmps j = some b := by
              rw [hyield]
              rw [hgetD] at hb
              cases htt : a.tmps[t]? with
              | none => rw [htt] at hb; cases hb
              | some v => rw [htt] at hb; simp only [Option.getD_some] at hb; rw [hb]
            dsimp only at hy
            split at hy
            · rename_i x hx
              split at hy
              · rename_i hxw
                obtain ⟨e', h1, h2⟩ := RM.run_bind_some hy
                cases h2
                have hbx : b = x := hcs _ (by simp)
                have hw : Region.wanted o (yielded ops a.tmps) = true := by
                  unfold Region.wanted; rw [hg]; dsimp only; rw [hyb, hbx, hxw]; simp
                rw [if_pos hw]
                exact op_sound hP h1 (fun p hp => hcs p (by simp [hp])) hfresh hkp hdst sim hK
              · rename_i hxw
                have hbx : b = x := by
                  cases hd : o.dst with
                  | none => rw [hd] at hy; cases hy; exact hcs _ (by simp)
                  | some d => rw [hd] at hy; cases hy; exact hcs _ (by simp)
                refine skip b [b = x] ?_ hy
                rw [hyb, hbx]
                simpa using hxw
            · cases hy
          | _ => cases hy
        | und =>
          have hb := VRel.und hs
          refine skip true [] ?_ hy
          rw [hyield]
          rw [hgetD] at hb
          cases htt : a.tmps[t]? with
          | none => simp
          | some v => rw [htt] at hb; simp only [Option.getD_some] at hb; rw [hb]; simp [undef]
        | _ => cases hy
      | t => cases hy
      | box => cases hy
      | row => cases hy
end Go.Abs
set_option linter.unusedVariables false
namespace Go.Abs
set_option linter.unusedSectionVars false
variable [Globs]

inductive Co where
  /-- nil is a slice without elements -/
  | nsl (e : Kd)
  /-- nil is a row of our own, without elements -/
  | mk (r : Nat) (e : Kd) (et : Nat)
  /-- a view of a row is a row by itself -/
  | mv (r2 : Nat)
  /-- that it is not nil is forgotten -/
  | unn
  /-- a view of a row is as long as the row -/
  | ln
  /-- a row of our own is only data from now on -/
  | fz

def setL (f : AV → Option AV) : Nat → List AV → Option (List AV)
  | _, [] => none
  | 0, a :: as => (f a).map (· :: as)
  | i + 1, a :: as => (setL f i as).map (a :: ·)

def Val.setAt (i : Nat) (f : AV → Option AV) : Val → Option Val
  | .v (.agg cs) => (setL f i cs).map fun cs => .v (.agg cs)
  | .v a => if i = 0 then (f a).map .v else none
  | .t as => (setL f i as).map .t
  | .box cs => (setL f i cs).map .box
  | .row _ _ _ => none

def Val.getAt (i : Nat) : Val → Option AV
  | .v (.agg cs) => cs[i]?
  | .v a => if i = 0 then some a else none
  | .t as => as[i]?
  | .box cs => cs[i]?
  | .row _ _ _ => none

def fNsl (e : Kd) : AV → Option AV
  | .nilsl => some (.p (.sl e) [])
  | _ => none
def fUnn : AV → Option AV
  | .nn e l => some (.p (.sl e) l)
  | _ => none
def fMk (r : Nat) : AV → Option AV
  | .nilsl => some (.row r 0)
  | _ => none
def fMv (r r2 m : Nat) : AV → Option AV
  | .row q _ => match Nat.beq q r with
    | true => some (.row r2 m)
    | false => none
  | _ => none

def fFz (r : Nat) (e : Kd) (l : List e.T) : AV → Option AV
  | .row q _ => match Nat.beq q r with
    | true => some (.p (.sl e) l)
    | false => none
  | _ => none

def freshIn (r : Nat) (kp : List Nat) (st : St) : Bool :=
  !kp.contains r && st.all fun x => match x.2 with | some y => !y.refs.contains r && !Nat.beq x.1 (ek r) | none => true

def coRun (kp : List Nat) (key i : Nat) (co : Co) (st : St) : Option (St × List Prop) :=
  match St.get key st with
  | none => none
  | some x => match co with
    | .nsl e => match x.setAt i (fNsl e) with
      | some y => some ((key, some y) :: st, [])
      | none => none
    | .unn => match x.setAt i fUnn with
      | some y => some ((key, some y) :: st, [])
      | none => none
    | .mk r e et => match freshIn r kp st, x.setAt i (fMk r) with
      | true, some y => some ((key, some y) :: (ek r, some (.row e et [])) :: st, [])
      | _, _ => none
    | .ln => match x.getAt i with
      | some (.row r n) => match St.get (ek r) st with
        | some (.row e et l) => match x.setAt i (fMv r r (List.length l)) with
          | some y => some ((key, some y) :: st, [n = l.length])
          | none => none
        | _ => none
      | _ => none
    | .fz => match x.getAt i with
      | some (.row r n) => match St.get (ek r) st with
        | some (.row e et l) => match x.setAt i (fFz r e l) with
          | some y => some ((ek r, none) :: (key, some y) :: st, [n = l.length])
          | none => none
        | _ => none
      | _ => none
    | .mv r2 => match x.getAt i with
      | some (.row r n) => match St.get (ek r) st with
        | some (.row e et l) => match freshIn r2 kp st, x.setAt i (fMv r r2 (List.length (List.take n l))) with
          | true, some y => some ((key, some y) :: (ek r2, some (.row e et (List.take n l))) :: (ek r, none) :: st, [n ≤ l.length])
          | _, _ => none
        | _ => none
      | _ => none

theorem fresh_refs {r : Nat} {kp : List Nat} : ∀ {st : St}, freshIn r kp st = true → r ∉ kp ∧ (∀ k x, St.get k st = some x → r ∉ x.refs) ∧ St.get (ek r) st = none := by
  intro st h
  unfold freshIn at h
  simp only [Bool.and_eq_true, Bool.not_eq_true'] at h
  refine ⟨by simpa using h.1, ?_⟩
  have h2 := h.2
  clear h
  induction st with
  | nil => exact ⟨fun k x hx => (by cases hx), rfl⟩
  | cons y st ih =>
    obtain ⟨q, v⟩ := y
    simp only [List.all_cons, Bool.and_eq_true] at h2
    obtain ⟨i1, i2⟩ := ih h2.2
    have hq := h2.1
    constructor
    · intro k x hx
      by_cases hk : k = q
      · subst hk
        rw [get_cons_eq] at hx
        subst hx
        simp only [Bool.and_eq_true, Bool.not_eq_true'] at hq
        simpa using hq.1
      · rw [get_cons_ne _ _ hk] at hx
        exact i1 k x hx
    · by_cases hk : ek r = q
      · subst hk
        rw [get_cons_eq]
        cases v with
        | none => rfl
        | some y => simp at hq
      · rw [get_cons_ne _ _ hk]; exact i2

section
variable {O : Nat → Prop} {ρ : Nat → Loc} {w : World}

theorem setL_sound {f : AV → Option AV} : ∀ {i : Nat} {cs ds : List AV} {cc : List Value} (hf : ∀ a, cs[i]? = some a → ∀ b cc, f a = some b → CRel O ρ w a cc → CRel O ρ w b cc), setL f i cs = some ds → CsRel O ρ w cs cc → CsRel O ρ w ds cc
  | i, [], _, _, _, h, _ => by cases i <;> cases h
  | 0, a :: as, ds, cc, hf, h, hr => by
    simp only [setL, Option.map_eq_some_iff] at h
    obtain ⟨b, hb, rfl⟩ := h
    cases hr with
    | cons h1 h2 => exact .cons (hf a rfl b _ hb h1) h2
  | i + 1, a :: as, ds, cc, hf, h, hr => by
    simp only [setL, Option.map_eq_some_iff] at h
    obtain ⟨bs, hb, rfl⟩ := h
    cases hr with
    | cons h1 h2 => exact .cons h1 (setL_sound (fun a ha => hf a (by simpa using ha)) hb h2)

theorem setV_sound {f : AV → Option AV} : ∀ {i : Nat} {cs ds : List AV} {cc : List Value} (hf : ∀ a, cs[i]? = some a → ∀ b v, f a = some b → VRel O ρ w a v → VRel O ρ w b v), setL f i cs = some ds → All2 (VRel O ρ w) cs cc → All2 (VRel O ρ w) ds cc
  | i, [], _, _, _, h, _ => by cases i <;> cases h
  | _, _ :: _, _, [], _, _, hr => hr.elim
  | 0, a :: as, ds, v :: vs, hf, h, hr => by
    simp only [setL, Option.map_eq_some_iff] at h
    obtain ⟨b, hb, rfl⟩ := h
    exact ⟨hf a rfl b _ hb hr.1, hr.2⟩
  | i + 1, a :: as, ds, v :: vs, hf, h, hr => by
    simp only [setL, Option.map_eq_some_iff] at h
    obtain ⟨bs, hb, rfl⟩ := h
    exact ⟨hr.1, setV_sound (fun a ha => hf a (by simpa using ha)) hb hr.2⟩

structure FOk (O : Nat → Prop) (ρ : Nat → Loc) (w : World) (p : AV → Prop) (f : AV → Option AV) : Prop where
  cells : ∀ a, p a → ∀ b cc, f a = some b → CRel O ρ w a cc → CRel O ρ w b cc
  agg : ∀ a b, f a = some b → a.isAgg = false ∧ b.isAgg = false
  und : f .und = none

theorem FOk.val {p : AV → Prop} {f : AV → Option AV} (hf : FOk O ρ w p f) {a b : AV} {v : Value} (hp : p a) (h : f a = some b) (hr : VRel O ρ w a v) : VRel O ρ w b v := by
  obtain ⟨h1, h2⟩ := hf.agg a b h
  rcases hr with ⟨rfl, _⟩ | ⟨hg, _⟩ | ⟨_, hc⟩
  · rw [hf.und] at h; cases h
  · rw [h1] at hg; cases hg
  · exact .inr (.inr ⟨h2, hf.cells a hp b _ h hc⟩)

theorem setAt_slot {p : AV → Prop} {f : AV → Option AV} (hf : FOk O ρ w p f) {i : Nat} {x y : Val} {v : Value} (hp : ∀ a, x.getAt i = some a → p a) (h : x.setAt i f = some y) (hr : SRel O ρ w x v) : SRel O ρ w y v := by
  cases x with
  | v a =>
    have one : ∀ (a : AV), (i = 0 → p a) → (if i = 0 then (f a).map Val.v else none) = some y → VRel O ρ w a v → SRel O ρ w y v := by
      intro a hp h hr
      split at h
      · simp only [Option.map_eq_some_iff] at h
        obtain ⟨b, hb, rfl⟩ := h
        exact hf.val (hp (by assumption)) hb hr
      · cases h
    cases a with
    | agg cs =>
      simp only [Val.setAt, Option.map_eq_some_iff] at h
      obtain ⟨ds, hd, rfl⟩ := h
      rcases hr with ⟨h1, _⟩ | ⟨hg, c, hv, hc⟩ | ⟨h1, _⟩
      · cases h1
      · cases hc with
        | agg hc => exact .inr (.inl ⟨rfl, c, hv, .agg (setL_sound (fun a ha => hf.cells a (hp a ha)) hd hc)⟩)
      · cases h1
    | _ => exact one _ (fun hi => hp _ (if_pos hi)) h hr
  | t as =>
    simp only [Val.setAt, Option.map_eq_some_iff] at h
    obtain ⟨ds, hd, rfl⟩ := h
    obtain ⟨vs, hv, hc⟩ := hr
    exact ⟨vs, hv, setV_sound (fun a ha b v => hf.val (hp a ha)) hd hc⟩
  | box cs =>
    simp only [Val.setAt, Option.map_eq_some_iff] at h
    obtain ⟨ds, hd, rfl⟩ := h
    trivial
  | row e et l => cases h

theorem setAt_ent {p : AV → Prop} {f : AV → Option AV} (hf : FOk O ρ w p f) {i : Nat} {x y : Val} {l : Loc} (hp : ∀ a, x.getAt i = some a → p a) (h : x.setAt i f = some y) (hr : ERel O ρ w x l) : ERel O ρ w y l := by
  cases x with
  | v a =>
    cases a with
    | agg cs =>
      simp only [Val.setAt, Option.map_eq_some_iff] at h
      obtain ⟨ds, hd, rfl⟩ := h
      trivial
    | _ =>
      simp only [Val.setAt] at h
      split at h
      · simp only [Option.map_eq_some_iff] at h
        obtain ⟨ds, hd, rfl⟩ := h
        trivial
      · cases h
  | t as =>
    simp only [Val.setAt, Option.map_eq_some_iff] at h
    obtain ⟨ds, hd, rfl⟩ := h
    trivial
  | box cs =>
    simp only [Val.setAt, Option.map_eq_some_iff] at h
    obtain ⟨ds, hd, rfl⟩ := h
    obtain ⟨b, c, t, h1, h2, h3⟩ := hr
    exact ⟨b, c, t, h1, h2, setL_sound (fun a ha => hf.cells a (hp a ha)) hd h3⟩
  | row e et l => cases h
end

theorem own_again {base : Nat → Prop} {st : St} {ρ : Nat → Loc} {key : Nat} {x y : Val} (hx : St.get key st = some x) : Own base ((key, some y) :: st) ρ = Own base st ρ := by
  have : ∀ r, (St.get (ek r) ((key, some y) :: st)).isSome = (St.get (ek r) st).isSome := by
    intro r
    by_cases h : ek r = key
    · subst h; rw [get_cons_eq, hx]; rfl
    · rw [get_cons_ne _ _ h]
  funext b; simp only [Own, this]

theorem SimR.reput {c : Cx} {ρ : Nat → Loc} {st : St} {a : Act} {w : World} (sim : SimR c ρ st a w) {key : Nat} {x y : Val} (hx : St.get key st = some x)
    (hslot : ∀ t, key = sk t → SRel (Own c.base st ρ) ρ w x (a.tmps.getD t undef) → SRel (Own c.base st ρ) ρ w y (a.tmps.getD t undef))
    (hent : ∀ r, key = ek r → ERel (Own c.base st ρ) ρ w x (ρ r) → ERel (Own c.base st ρ) ρ w y (ρ r)) : SimR c ρ ((key, some y) :: st) a w := by
  have ho := own_again (base := c.base) (ρ := ρ) (y := y) hx
  have hs : ∀ r, (St.get (ek r) ((key, some y) :: st)).isSome = true → (St.get (ek r) st).isSome = true := by
    intro r h
    by_cases hk : ek r = key
    · subst hk; rw [hx]; rfl
    · rw [get_cons_ne _ _ hk] at h; exact h
  refine sim.step (fun _ _ _ _ _ => rfl) (by rw [ho]; exact Stays.refl _ _) (fun t z hz => ?_) (fun r z hz => ?_) (fun r r' b h1 h2 => sim.inj r r' b (hs r h1) (hs r' h2)) (fun r b h1 => sim.mine r b (hs r h1)) sim.frame sim.dfr sim.size (fun _ _ => rfl)
  · by_cases hk : sk t = key
    · subst hk
      rw [get_cons_eq] at hz; cases hz
      rw [ho]
      exact .inl (hslot t rfl (sim.slots t x hx))
    · rw [get_cons_ne _ _ hk] at hz
      exact .inr ⟨hz, rfl⟩
  · by_cases hk : ek r = key
    · subst hk
      rw [get_cons_eq] at hz; cases hz
      rw [ho]
      exact .inl (hent r rfl (sim.ents r x hx))
    · rw [get_cons_ne _ _ hk] at hz
      exact .inr ⟨hz, rfl, fun _ _ => rfl⟩

theorem SimR.setAt {c : Cx} {ρ : Nat → Loc} {st : St} {a : Act} {w : World} (sim : SimR c ρ st a w) {key i : Nat} {x y : Val} {f : AV → Option AV} {p : AV → Prop} (hx : St.get key st = some x) (hp : ∀ a, x.getAt i = some a → p a) (hy : x.setAt i f = some y)
    (hf : FOk (Own c.base st ρ) ρ w p f) : SimR c ρ ((key, some y) :: st) a w :=
  sim.reput hx (fun t _ h => setAt_slot hf hp hy h) (fun r _ h => setAt_ent hf hp hy h)

theorem SimR.named {c : Cx} {ρ : Nat → Loc} {st : St} {a : Act} {w : World} (sim : SimR c ρ st a w) {r2 : Nat} (hfr : freshIn r2 c.kp st = true) {y : Val} {L : Loc} (drop : List Nat)
    (hy : ERel (Own c.base st ρ) ρ w y L) (hyr : y.refs = [])
    (hb : ∀ b, L.block = some b → ∃ r ∈ drop, (St.get (ek r) st).isSome = true ∧ (ρ r).block = some b)
    (hd : ∀ r ∈ drop, ∀ b, (ρ r).block = some b → L.block = some b) :
    ∃ ρ', ρ' r2 = L ∧ (∀ r, r ≠ r2 → ρ' r = ρ r) ∧ SimR c ρ' ((ek r2, some y) :: (drop.map fun r => (ek r, none)) ++ st) a w := by
  obtain ⟨hk, hrefs, hnone⟩ := fresh_refs hfr
  let ρ' : Nat → Loc := fun r => if r = r2 then L else ρ r
  have e1 : ρ' r2 = L := if_pos rfl
  have e2 : ∀ r, r ≠ r2 → ρ' r = ρ r := fun r h => if_neg h
  have gdrop : ∀ (drop : List Nat) k z, St.get k ((drop.map fun r => (ek r, none)) ++ st) = some z → St.get k st = some z ∧ ∀ r ∈ drop, k ≠ ek r := by
    intro drop
    induction drop with
    | nil => intro k z h; exact ⟨h, fun r hr => by cases hr⟩
    | cons d ds ih =>
      intro k z h
      simp only [List.map_cons, List.cons_append] at h
      by_cases hk : k = ek d
      · subst hk; rw [get_cons_eq] at h; cases h
      · rw [get_cons_ne _ _ hk] at h
        obtain ⟨h1, h2⟩ := ih k z h
        refine ⟨h1, fun r hr => ?_⟩
        rcases List.mem_cons.1 hr with rfl | hr
        · exact hk
        · exact h2 r hr
  have gnew : ∀ k z, St.get k ((ek r2, some y) :: (drop.map fun r => (ek r, none)) ++ st) = some z → (k = ek r2 ∧ z = y) ∨ (k ≠ ek r2 ∧ St.get k st = some z ∧ ∀ r ∈ drop, k ≠ ek r) := by
    intro k z h
    by_cases hk : k = ek r2
    · subst hk
      rw [List.cons_append, get_cons_eq] at h; cases h
      exact .inl ⟨rfl, rfl⟩
    · rw [List.cons_append, get_cons_ne _ _ hk] at h
      exact .inr ⟨hk, gdrop drop k z h⟩
  have live : ∀ r, (St.get (ek r) ((ek r2, some y) :: (drop.map fun r => (ek r, none)) ++ st)).isSome = true → r = r2 ∨ (r ≠ r2 ∧ (St.get (ek r) st).isSome = true ∧ r ∉ drop) := by
    intro r h
    obtain ⟨z, hz⟩ := Option.isSome_iff_exists.1 h
    rcases gnew _ _ hz with ⟨h1, _⟩ | ⟨h1, h2, h3⟩
    · exact .inl (ek_inj h1)
    · exact .inr ⟨fun hh => h1 (by rw [hh]), by rw [h2]; rfl, fun hm => h3 r hm rfl⟩
  have hown : ∀ b, Own c.base ((ek r2, some y) :: (drop.map fun r => (ek r, none)) ++ st) ρ' b → Own c.base st ρ b := by
    rintro b (hb' | ⟨r, hl, hbl⟩)
    · exact .inl hb'
    · rcases live r hl with rfl | ⟨h1, h2, _⟩
      · rw [e1] at hbl
        obtain ⟨q, _, q2, q3⟩ := hb b hbl
        exact .inr ⟨q, q2, q3⟩
      · rw [e2 r h1] at hbl
        exact .inr ⟨r, h2, hbl⟩
  have hs : Stays (Own c.base st ρ) w (Own c.base ((ek r2, some y) :: (drop.map fun r => (ek r, none)) ++ st) ρ') w := fun b _ hO => ⟨fun h => hO (hown b h), rfl⟩
  refine ⟨ρ', e1, e2, sim.step (fun k z hz r hr => e2 r (fun hh => hrefs k z hz (hh ▸ hr))) hs (fun t z hz => ?_) (fun r z hz => ?_) (fun r r' b h1 h2 g1 g2 => ?_) (fun r b h1 g1 => ?_) sim.frame sim.dfr sim.size (fun r hr => e2 r (fun hh => hk (hh ▸ hr)))⟩
  · rcases gnew _ _ hz with ⟨h1, _⟩ | ⟨h1, h2, _⟩
    · exact absurd h1 (sk_ne_ek _ _)
    · exact .inr ⟨h2, rfl⟩
  · rcases gnew _ _ hz with ⟨h1, h2⟩ | ⟨h1, h2, _⟩
    · have := ek_inj h1
      subst this
      subst h2
      rw [e1]
      exact .inl (hy.stays hs (by rw [hyr]; simp) (fun _ _ => rfl))
    · exact .inr ⟨h2, e2 r (fun hh => h1 (by rw [hh])), fun _ _ => rfl⟩
  · rcases live r h1 with rfl | ⟨k1, k2, k3⟩
    · rcases live r' h2 with rfl | ⟨k4, k5, k6⟩
      · rfl
      · rw [e1] at g1
        rw [e2 r' k4] at g2
        obtain ⟨q, q1, q2, q3⟩ := hb b g1
        have := sim.inj q r' b q2 k5 q3 g2
        subst this
        exact absurd q1 k6
    · rcases live r' h2 with rfl | ⟨k4, k5, k6⟩
      · rw [e1] at g2
        rw [e2 r k1] at g1
        obtain ⟨q, q1, q2, q3⟩ := hb b g2
        have := sim.inj q r b q2 k2 q3 g1
        subst this
        exact absurd q1 k3
      · rw [e2 r k1] at g1
        rw [e2 r' k4] at g2
        exact sim.inj r r' b k2 k5 g1 g2
  · rcases live r h1 with rfl | ⟨k1, k2, k3⟩
    · rw [e1] at g1
      obtain ⟨q, _, q2, q3⟩ := hb b g1
      exact sim.mine q b q2 q3
    · rw [e2 r k1] at g1
      exact sim.mine r b k2 g1

theorem SimR.fz {c : Cx} {ρ : Nat → Loc} {st : St} {a : Act} {w : World} (sim : SimR c ρ st a w) {key i : Nat} {x y : Val} {r n et : Nat} {e : Kd} {l : List e.T} (hx : St.get key st = some x) (hget : x.getAt i = some (.row r n))
    (hr : St.get (ek r) st = some (.row e et l)) (hy : x.setAt i (fFz r e l) = some y) (hn : n = l.length) : SimR c ρ ((ek r, none) :: (key, some y) :: st) a w := by
  have hkr : key ≠ ek r := by
    intro hk; subst hk; rw [hr] at hx; cases hx; cases hget
  have gnew : ∀ k z, St.get k ((ek r, none) :: (key, some y) :: st) = some z → k ≠ ek r ∧ ((k = key ∧ z = y) ∨ (k ≠ key ∧ St.get k st = some z)) := by
    intro k z h
    by_cases h1 : k = ek r
    · subst h1; rw [get_cons_eq] at h; cases h
    · rw [get_cons_ne _ _ h1] at h
      by_cases h2 : k = key
      · subst h2; rw [get_cons_eq] at h; cases h; exact ⟨h1, .inl ⟨rfl, rfl⟩⟩
      · rw [get_cons_ne _ _ h2] at h; exact ⟨h1, .inr ⟨h2, h⟩⟩
  have live : ∀ q, (St.get (ek q) ((ek r, none) :: (key, some y) :: st)).isSome = true → q ≠ r ∧ (St.get (ek q) st).isSome = true := by
    intro q h
    obtain ⟨z, hz⟩ := Option.isSome_iff_exists.1 h
    obtain ⟨h1, h2⟩ := gnew _ _ hz
    refine ⟨fun hh => h1 (by rw [hh]), ?_⟩
    rcases h2 with ⟨h2, _⟩ | ⟨_, h3⟩
    · rw [h2, hx]; rfl
    · rw [h3]; rfl
  have hown : ∀ b, Own c.base ((ek r, none) :: (key, some y) :: st) ρ b → Own c.base st ρ b := by
    rintro b (hb | ⟨q, hq, hb⟩)
    · exact .inl hb
    · exact .inr ⟨q, (live q hq).2, hb⟩
  have hs : Stays (Own c.base st ρ) w (Own c.base ((ek r, none) :: (key, some y) :: st) ρ) w := fun b _ hO => ⟨fun h => hO (hown b h), rfl⟩
  obtain ⟨v, css, q1, q2, q3, q4⟩ := row_range (sim.ents r _ hr)
  have hnot : ∀ b, (ρ r).block = some b → ¬ Own c.base ((ek r, none) :: (key, some y) :: st) ρ b := by
    rintro b hb (h | ⟨q, hq, hqb⟩)
    · exact (sim.mine r b (by rw [hr]; rfl) hb).1 h
    · obtain ⟨g1, g2⟩ := live q hq
      exact g1 (sim.inj q r b g2 (by rw [hr]; rfl) hqb hb)
  have hf : FOk (Own c.base ((ek r, none) :: (key, some y) :: st) ρ) ρ w (fun a => a = .row r n) (fFz r e l) := by
    refine ⟨fun a ha b cc hf hc => ?_, fun a b hf => ?_, rfl⟩
    · subst ha
      simp only [fFz] at hf
      split at hf
      · cases hf
        cases hc with
        | row g1 g2 =>
          rename_i m cp ad
          rw [g1] at q1
          cases q1
          subst hn
          refine .p ⟨ad, cp, rfl, ?_, ?_, ?_⟩
          · rcases q3.2 with ⟨hv, hl⟩ | ⟨g, cap, cur, hv, _, hh, hnc, _⟩
            · cases hv; omega
            · cases hv; exact hnc
          · intro hnone
            rcases q3.2 with ⟨hv, hl⟩ | ⟨g, cap, cur, hv, _⟩
            · cases hv; exact ⟨List.eq_nil_of_length_eq_zero hl, rfl⟩
            · cases hv; cases hnone
          · intro ad' had
            rcases q3.2 with ⟨hv, hl⟩ | ⟨g, cap, cur, hv, _⟩
            · cases hv; cases had
            · cases hv
              cases had
              exact ⟨css, All2.mono (fun _ _ h => h.stays hs) q2, fun _ => ⟨rfl, hnot g (by rw [g1]; rfl)⟩, q4 g _ _ rfl⟩
      · cases hf
    · cases a <;> try (cases hf; done)
      simp only [fFz] at hf
      split at hf
      · cases hf; exact ⟨rfl, rfl⟩
      · cases hf
  have hp : ∀ a, x.getAt i = some a → a = AV.row r n := fun a ha => by rw [hget] at ha; cases ha; rfl
  refine sim.step (fun _ _ _ _ _ => rfl) hs (fun t z hz => ?_) (fun q z hz => ?_) (fun q q' b h1 h2 => sim.inj q q' b (live q h1).2 (live q' h2).2) (fun q b h1 => sim.mine q b (live q h1).2) sim.frame sim.dfr sim.size (fun _ _ => rfl)
  · obtain ⟨h1, h2⟩ := gnew _ _ hz
    rcases h2 with ⟨h2, rfl⟩ | ⟨h2, h3⟩
    · subst h2
      exact .inl (setAt_slot hf hp hy ((sim.slots t x hx).stays hs (fun _ _ => rfl)))
    · exact .inr ⟨h3, rfl⟩
  · obtain ⟨h1, h2⟩ := gnew _ _ hz
    rcases h2 with ⟨h2, rfl⟩ | ⟨h2, h3⟩
    · subst h2
      exact .inl (setAt_ent hf hp hy ((sim.ents q x hx).stays hs (fun _ _ => rfl) (fun _ _ => rfl)))
    · exact .inr ⟨h3, rfl, fun _ _ => rfl⟩

theorem SimR.co {c : Cx} {ρ : Nat → Loc} {st st' : St} {a : Act} {w : World} (sim : SimR c ρ st a w) {key i : Nat} {co : Co} {cs : List Prop} (h : coRun c.kp key i co st = some (st', cs)) (hcs : ∀ p ∈ cs, p) :
    ∃ ρ', SimR c ρ' st' a w := by
  unfold coRun at h
  cases hx : St.get key st with
  | none => rw [hx] at h; cases h
  | some x =>
    rw [hx] at h
    cases co with
    | nsl e =>
      dsimp only at h
      split at h
      · rename_i y hy
        cases h
        refine ⟨ρ, sim.setAt (p := fun _ => True) hx (fun _ _ => trivial) hy ⟨fun a _ b cc hf hr => ?_, fun a b hf => ?_, rfl⟩⟩
        · cases a <;> try (cases hf; done)
          cases hf
          cases hr
          exact .p ⟨none, 0, rfl, Nat.le_refl _, fun _ => ⟨rfl, rfl⟩, fun ad h => by cases h⟩
        · cases a <;> try (cases hf; done)
          cases hf
          exact ⟨rfl, rfl⟩
      · cases h
    | unn =>
      dsimp only at h
      split at h
      · rename_i y hy
        cases h
        refine ⟨ρ, sim.setAt (p := fun _ => True) hx (fun _ _ => trivial) hy ⟨fun a _ b cc hf hr => ?_, fun a b hf => ?_, rfl⟩⟩
        · cases a <;> try (cases hf; done)
          cases hf
          cases hr with
          | nn h _ => exact .p h
        · cases a <;> try (cases hf; done)
          cases hf
          exact ⟨rfl, rfl⟩
      · cases h
    | mk r e et =>
      dsimp only at h
      split at h
      · rename_i y hfr hy
        cases h
        obtain ⟨ρ', e1, e2, sim'⟩ := sim.named (y := .row e et []) (L := .row (.slice none 0 0)) hfr [] ⟨.slice none 0 0, [], rfl, trivial, World.ownsRow_nil w 0 et e.size⟩ rfl (fun b hb => by cases hb) (fun r hr => by cases hr)
        have hx' : St.get key ((ek r, some (.row e et [])) :: st) = some x := by
          rw [get_cons_ne]
          · exact hx
          · intro hk
            subst hk
            rw [(fresh_refs hfr).2.2] at hx; cases hx
        refine ⟨ρ', SimR.setAt (p := fun _ => True) (sim' : SimR c ρ' ((ek r, some (.row e et [])) :: st) a w) hx' (fun _ _ => trivial) hy ⟨fun a _ b cc hf hr => ?_, fun a b hf => ?_, rfl⟩⟩
        · cases a <;> try (cases hf; done)
          cases hf
          cases hr
          exact .row (m := 0) e1 (Nat.le_refl _)
        · cases a <;> try (cases hf; done)
          cases hf
          exact ⟨rfl, rfl⟩
      · cases h
    | ln =>
      dsimp only at h
      split at h
      · rename_i r n hget
        split at h
        · rename_i e et l hr
          split at h
          · rename_i y hy
            cases h
            have hn : n = l.length := hcs _ (by simp)
            refine ⟨ρ, sim.setAt (p := fun a => a = .row r n) hx (fun a ha => by rw [hget] at ha; cases ha; rfl) hy ⟨fun a ha b cc hf hr => ?_, fun a b hf => ?_, rfl⟩⟩
            · subst ha
              simp only [fMv] at hf
              split at hf
              · cases hf
                rw [← hn]; exact hr
              · cases hf
            · cases a <;> try (cases hf; done)
              simp only [fMv] at hf
              split at hf
              · cases hf; exact ⟨rfl, rfl⟩
              · cases hf
          · cases h
        · cases h
      · cases h
    | fz =>
      dsimp only at h
      split at h
      · rename_i r n hget
        split at h
        · rename_i e et l hr
          split at h
          · rename_i y hy
            cases h
            exact ⟨ρ, sim.fz hx hget hr hy (hcs _ (by simp))⟩
          · cases h
        · cases h
      · cases h
    | mv r2 =>
      dsimp only at h
      split at h
      · rename_i r n hget
        split at h
        · rename_i e et l hr
          split at h
          · rename_i y hfr hy
            cases h
            have hn : n ≤ l.length := hcs _ (by simp)
            obtain ⟨v, css, hv, hc, ho⟩ := sim.ents r _ hr
            obtain ⟨A, cp, rfl⟩ := owned_slice (O := fun _ => False) ho
            have hne : r ≠ r2 := by
              intro hh; subst hh
              rw [(fresh_refs hfr).2.2] at hr; cases hr
            have hlen : (List.take n l).length = n := by rw [List.length_take]; omega
            have hblk : (Loc.row (.slice A n cp)).block = (ρ r).block := by
              rw [hv]; cases A <;> rfl
            have hE : ERel (Own c.base st ρ) ρ w (.row e et (List.take n l)) (.row (.slice A n cp)) := by
              refine ⟨.slice A n cp, css.take n, rfl, hc.take n, ?_⟩
              rw [hlen]
              refine ⟨?_, ?_⟩
              · have := flatten_length (hc.take n)
                rw [this, hlen]
              · rcases ho.2 with ⟨h1, h2⟩ | ⟨g, cap, cur, h1, h2, h3, h4, h5, h6, h7⟩
                · simp only [Value.slice.injEq] at h1
                  obtain ⟨rfl, h1, rfl⟩ := h1
                  have : n = 0 := by omega
                  subst this
                  exact .inl ⟨rfl, rfl⟩
                · cases h1
                  refine .inr ⟨g, cp, cur, rfl, h2, h3, by omega, h5, h6, ?_⟩
                  rw [flatten_take hc n, ← h7, List.take_take]
                  congr 1
                  exact (Nat.min_eq_left (Nat.mul_le_mul_right _ hn)).symm
            obtain ⟨ρ', e1, e2, sim'⟩ := sim.named (y := .row e et (List.take n l)) (L := .row (.slice A n cp)) hfr [r] hE rfl (fun b hb => ⟨r, by simp, by rw [hr]; rfl, by rw [← hblk]; exact hb⟩) (fun q hq b hb => by
              simp at hq; subst hq; rw [hblk]; exact hb)
            have hx' : St.get key ((ek r2, some (.row e et (List.take n l))) :: (ek r, none) :: st) = some x := by
              rw [get_cons_ne, get_cons_ne]
              · exact hx
              · intro hk
                subst hk
                rw [hr] at hx; cases hx
                cases hget
              · intro hk
                subst hk
                rw [(fresh_refs hfr).2.2] at hx; cases hx
            have hρr : ρ' r = .row (.slice A l.length cp) := by rw [e2 r hne]; exact hv
            refine ⟨ρ', SimR.setAt (p := fun a => a = .row r n) (sim' : SimR c ρ' ((ek r2, some (.row e et (List.take n l))) :: (ek r, none) :: st) a w) hx' (fun a ha => by rw [hget] at ha; cases ha; rfl) hy ⟨fun a ha b cc hf hr => ?_, fun a b hf => ?_, rfl⟩⟩
            · subst ha
              simp only [fMv] at hf
              split at hf
              · cases hf
                cases hr with
                | row g1 g2 =>
                  rw [hρr] at g1
                  cases g1
                  have : (List.take n l).length = n := hlen
                  rw [this]
                  exact .row e1 (Nat.le_refl _)
              · cases hf
            · cases a <;> try (cases hf; done)
              simp only [fMv] at hf
              split at hf
              · cases hf; exact ⟨rfl, rfl⟩
              · cases hf
          · cases h
        · cases h
      · cases h

end Go.Abs
set_option linter.unusedVariables false
namespace Go.Abs
set_option linter.unusedSectionVars false
variable [Globs]

def norm : Nat → List Item → List Item
  | 0, t => t
  | n + 1, .code .skip :: k => norm n k
  | n + 1, .code (.seq x y) :: k => norm n (.code x :: .code y :: k)
  | n + 1, .code (.block id c) :: k => norm n (.code c :: .inBlock id :: k)
  | n + 1, .code (.loop c) :: k => norm n (.code c :: .inLoop c :: k)
  | n + 1, .inBlock _ :: k => norm n k
  | n + 1, .inLoop c :: k => norm n (.code c :: .inLoop c :: k)
  | n + 1, .code (.exit id) :: k => match exitTo id k with
    | some k' => norm n k'
    | none => .code (.exit id) :: k
  | _ + 1, t => t

theorem norm_steps {P : Program} {b : Frame} {a : Act} {cs : List Frame} {w : World} : ∀ (n : Nat) (t : List Item), Steps P (lone (b.at a t) cs w) (lone (b.at a (norm n t)) cs w) := by
  intro n
  induction n with
  | zero => intro t; exact Steps.refl _ _
  | succ n ih =>
    intro t
    cases t with
    | nil => exact Steps.refl _ _
    | cons x k =>
      cases x with
      | code cd =>
        cases cd with
        | skip => exact .head step_skip (ih _)
        | seq x y => exact .head step_seq (ih _)
        | block id c => exact .head step_block (ih _)
        | loop c => exact .head step_loop (ih _)
        | exit id =>
          show Steps P _ (lone (b.at a (match exitTo id k with | some k' => norm n k' | none => .code (.exit id) :: k)) cs w)
          cases h : exitTo id k with
          | some k' => exact .head (step_exit h) (ih _)
          | none => exact Steps.refl _ _
        | _ => exact Steps.refl _ _
      | inBlock id => exact .head step_inBlock (ih _)
      | inLoop c => exact .head step_inLoop (ih _)
      | _ => exact Steps.refl _ _

inductive Dir where
  | reg (hs : List (Nat × Hint))
  | cond (b : Bool)
  | keep (ks : List Nat)
  | ren (m : List (Nat × Nat))
  | co (key i : Nat) (c : Co)

def look (hs : List (Nat × Hint)) (i : Nat) : Hint := match hs with
  | [] => {}
  | (j, h) :: hs => if i = j then h else look hs i

def keepSt (ks : List Nat) (st : St) : St := ks.map fun k => (k, St.get k st)

def renSt (m : List (Nat × Nat)) : St → Option St
  | [] => some []
  | (k, none) :: st => renSt m st
  | (k, some x) :: st => match (if k % 2 = 0 then some k else (rename m (k / 2)).map ek), x.ren m, renSt m st with
    | some k', some y, some st' => some ((k', some y) :: st')
    | _, _, _ => none

def nodupKeys : St → Bool
  | [] => true
  | (k, _) :: st => !(st.any fun x => x.1 == k) && nodupKeys st

def renOk (kp : List Nat) (m : List (Nat × Nat)) (st : St) : Bool :=
  nodupKeys st && nodupN (m.map (·.1)) && nodupN (m.map (·.2)) && m.all fun (a, b) => !kp.contains b || a == b

def fuelN : Nat := 200

def pick2 (b : Bool) (y z : Code) : Code := match b with
  | true => y
  | false => z

def execD (P : Program) (S : Spc → Prop) (n : Nat) (kp : List Nat) : List Dir → List Item → St → Option (List Item × St × List Prop)
  | [], t, st => some (t, st, [])
  | .reg hs :: ds, .code (.region _ ops draw) :: k, st => match regionRun P S n kp ops draw (look hs) st with
    | some (st', cs) => match execD P S n kp ds (norm fuelN k) st' with
      | some (t, s, cs') => some (t, s, cs ++ cs')
      | none => none
    | none => none
  | .cond b :: ds, .code (.cond x y z) :: k, st => match (opa x).run st with
    | some (.p .bool v) => match execD P S n kp ds (norm fuelN (.code (pick2 b y z) :: k)) st with
      | some (t, s, cs') => some (t, s, (v = b) :: cs')
      | none => none
    | _ => none
  | .keep ks :: ds, t, st => execD P S n kp ds t (keepSt ks st)
  | .ren m :: ds, t, st => match renOk kp m st, renSt m st with
    | true, some st' => execD P S n kp ds t st'
    | _, _ => none
  | .co key i c :: ds, t, st => match coRun kp key i c st with
    | some (st', cs) => match execD P S n kp ds t st' with
      | some (t, s, cs') => some (t, s, cs ++ cs')
      | none => none
    | none => none
  | _, _, _ => none

theorem get_keep {ks : List Nat} {st : St} {k : Nat} {x : Val} (h : St.get k (keepSt ks st) = some x) : St.get k st = some x := by
  induction ks with
  | nil => cases h
  | cons q ks ih =>
    by_cases hk : k = q
    · subst hk
      have : St.get k (keepSt (k :: ks) st) = St.get k st := get_cons_eq _ _ _
      rw [this] at h; exact h
    · have : St.get k (keepSt (q :: ks) st) = St.get k (keepSt ks st) := get_cons_ne _ _ hk
      rw [this] at h; exact ih h

theorem get_none_of {k : Nat} : ∀ {st : St}, (st.any fun x => x.1 == k) = false → St.get k st = none
  | [], _ => rfl
  | (q, v) :: st, h => by
    simp only [List.any_cons, Bool.or_eq_false_iff, beq_eq_false_iff_ne] at h
    rw [get_cons_ne _ _ (Ne.symm h.1)]
    exact get_none_of h.2

theorem renSt_get {m : List (Nat × Nat)} : ∀ {st st' : St}, renSt m st = some st' → nodupKeys st = true → ∀ k y, St.get k st' = some y → ∃ q x, St.get q st = some x ∧ x.ren m = some y ∧
    ((∃ t, k = sk t ∧ q = sk t) ∨ ∃ r r', k = ek r' ∧ q = ek r ∧ rename m r = some r')
  | [], st', h, _, k, y, hy => by cases h; cases hy
  | (q, none) :: st, st', h, hn, k, y, hy => by
    simp only [renSt] at h
    simp only [nodupKeys, Bool.and_eq_true, Bool.not_eq_true'] at hn
    obtain ⟨q', x, h1, h2, h3⟩ := renSt_get h hn.2 k y hy
    refine ⟨q', x, ?_, h2, h3⟩
    have hne : q' ≠ q := by
      intro hh; subst hh
      rw [get_none_of hn.1] at h1; cases h1
    rw [get_cons_ne _ _ hne]; exact h1
  | (q, some x) :: st, st', h, hn, k, y, hy => by
    simp only [renSt] at h
    simp only [nodupKeys, Bool.and_eq_true, Bool.not_eq_true'] at hn
    split at h
    · rename_i k' y' st1 hk hx hst
      cases h
      by_cases hkk : k = k'
      · subst hkk
        rw [get_cons_eq] at hy
        cases hy
        refine ⟨q, x, get_cons_eq _ _ _, hx, ?_⟩
        split at hk
        · rename_i hq
          cases hk
          exact .inl ⟨q / 2, by unfold sk; omega, by unfold sk; omega⟩
        · rename_i hq
          cases hr : rename m (q / 2) with
          | none => rw [hr] at hk; cases hk
          | some r' =>
            rw [hr] at hk
            cases hk
            exact .inr ⟨q / 2, r', rfl, by unfold ek; omega, hr⟩
      · rw [get_cons_ne _ _ hkk] at hy
        obtain ⟨q', x', h1, h2, h3⟩ := renSt_get hst hn.2 k y hy
        refine ⟨q', x', ?_, h2, h3⟩
        have hne : q' ≠ q := by
          intro hh; subst hh
          rw [get_none_of hn.1] at h1; cases h1
        rw [get_cons_ne _ _ hne]; exact h1
    · cases h

theorem SimR.rename {c : Cx} {ρ : Nat → Loc} {st st' : St} {a : Act} {w : World} (sim : SimR c ρ st a w) {m : List (Nat × Nat)} (hok : renOk c.kp m st = true) (hr : renSt m st = some st') : ∃ ρ', SimR c ρ' st' a w := by
  unfold renOk at hok
  simp only [Bool.and_eq_true] at hok
  obtain ⟨⟨⟨hn, h1⟩, h2⟩, hkp⟩ := hok
  have h1 := nodupN_get h1
  have h2 := nodupN_get h2
  obtain ⟨ρm, hρm⟩ := names_back ρ h2
  obtain ⟨ρ', hρ1, hρ2⟩ : ∃ ρ' : Nat → Loc, (∀ r ∈ m.map (·.2), ρ' r = ρm r) ∧ (∀ r, r ∉ m.map (·.2) → ρ' r = ρ r) :=
    ⟨fun r => if r ∈ m.map (·.2) then ρm r else ρ r, fun r h => if_pos h, fun r h => if_neg h⟩
  have hm : ∀ r r', Abs.rename m r = some r' → ρ' r' = ρ r := fun r r' h => by
    have := rename_mem h
    rw [hρ1 r' (List.mem_map.2 ⟨_, this, rfl⟩), hρm r r' this]
  have hget := renSt_get hr hn
  -- which names live
  have live : ∀ r', (St.get (ek r') st').isSome = true → ∃ r, (St.get (ek r) st).isSome = true ∧ Abs.rename m r = some r' := by
    intro r' h
    obtain ⟨y, hy⟩ := Option.isSome_iff_exists.1 h
    obtain ⟨q, x, g1, g2, g3⟩ := hget _ _ hy
    rcases g3 with ⟨t, g4, _⟩ | ⟨r, r2, g4, g5, g6⟩
    · exact absurd g4.symm (sk_ne_ek _ _)
    · have := ek_inj g4
      subst this
      subst g5
      exact ⟨r, by rw [g1]; rfl, g6⟩
  have own : ∀ b, Own c.base st' ρ' b → Own c.base st ρ b := by
    rintro b (hb | ⟨r', hl, hb⟩)
    · exact .inl hb
    · obtain ⟨r, hr1, hr2⟩ := live r' hl
      rw [hm r r' hr2] at hb
      exact .inr ⟨r, hr1, hb⟩
  have hs : Stays (Own c.base st ρ) w (Own c.base st' ρ') w := fun b _ hO => ⟨fun h => hO (own b h), rfl⟩
  refine ⟨ρ', ⟨fun t x hx => ?_, fun r' x hx => ?_, fun r r' b g1 g2 g3 g4 => ?_, fun r b g1 g2 => ?_, sim.frame, sim.base, sim.dfr, sim.size, fun r hrk => ?_, sim.gl.stays hs⟩⟩
  · obtain ⟨q, y, g1, g2, g3⟩ := hget _ _ hx
    rcases g3 with ⟨t', g4, g5⟩ | ⟨r, r2, g4, _, _⟩
    · have := sk_inj g4
      subst this
      subst g5
      exact SRel.ren hm ((sim.slots t y g1).stays hs (fun _ _ => rfl)) g2
    · exact absurd g4 (sk_ne_ek _ _)
  · obtain ⟨q, y, g1, g2, g3⟩ := hget _ _ hx
    rcases g3 with ⟨t', g4, _⟩ | ⟨r, r2, g4, g5, g6⟩
    · exact absurd g4.symm (sk_ne_ek _ _)
    · have := ek_inj g4
      subst this
      subst g5
      rw [hm r r' g6]
      exact ERel.ren hm ((sim.ents r y g1).stays hs (fun _ _ => rfl) (fun _ _ => rfl)) g2
  · obtain ⟨q, q1, q2⟩ := live r g1
    obtain ⟨q', q1', q2'⟩ := live r' g2
    rw [hm q r q2] at g3
    rw [hm q' r' q2'] at g4
    have := sim.inj q q' b q1 q1' g3 g4
    subst this
    rw [q2] at q2'; cases q2'; rfl
  · obtain ⟨q, q1, q2⟩ := live r g1
    rw [hm q r q2] at g2
    exact sim.mine q b q1 g2
  · by_cases hin : r ∈ m.map (·.2)
    · obtain ⟨⟨p, q⟩, hpq, rfl⟩ := List.mem_map.1 hin
      have := (List.all_eq_true.1 hkp) _ hpq
      have hp : p = q := by
        simp only [Bool.or_eq_true, Bool.not_eq_true'] at this
        rcases this with h | h
        · have : c.kp.contains q = true := by simpa using hrk
          rw [this] at h; cases h
        · simpa using h
      subst hp
      rw [hρ1 p hin, hρm p p hpq]
      exact sim.kp p hrk
    · rw [hρ2 r hin]; exact sim.kp r hrk

structure Fin (c : Cx) (outs : List (Nat × Val)) (res : Val) (v : Value) (ρ' : Nat → Loc) (w' : World) : Prop where
  kp : ∀ r ∈ c.kp, ρ' r = c.r0 r
  held : HeldR c.base ρ' (est outs) w'
  res : SRel (Own c.base (est outs) ρ') ρ' w' res v
  lv : ∀ b, Live (est outs) ρ' b → c.mt b ∨ c.w0.heap.size ≤ b
  frm : Frm c.mt c.w0 w'

def Good (P : Program) (f n : Nat) (kp : List Nat) (outs : List (Nat × Val)) (res : Val) (todo : List Item) (st : St) : Prop :=
  ∀ (c : Cx), c.P = P → c.n = n → c.kp = kp → ∀ (b : Frame) (a : Act) (w : World) (cs : List Frame), b.fn = f → b.kind = .normal → Sim c st a w →
    ∃ v w' fr ρ', Fin c outs res v ρ' w' ∧ Steps P (lone (b.at a todo) cs w) (lone fr cs w') ∧ fr.fn = f ∧ fr.leaving P w' (.returned v)

theorem Good.norm {P : Program} {f n : Nat} {kp : List Nat} {outs : List (Nat × Val)} {res : Val} {t : List Item} {st : St} (k : Nat) (h : Good P f n kp outs res (norm k t) st) : Good P f n kp outs res t st := by
  intro c hP hn hk b a w cs hb hbk sim
  obtain ⟨v, w', fr, ρ', h1, h2, h3, h4⟩ := h c hP hn hk b a w cs hb hbk sim
  exact ⟨v, w', fr, ρ', h1, Steps.trans (norm_steps k t) h2, h3, h4⟩

theorem Good.region {P : Program} {f n : Nat} {kp : List Nat} {outs : List (Nat × Val)} {res : Val} {k : List Item} {st st' : St} {id : Nat} {ops : Array Oper} {draw : Bool} {hs : Nat → Hint} {cs : List Prop}
    (hm : P.follows .mixedOrders = true) (hr : regionRun P (SpecOk P) n kp ops draw hs st = some (st', cs)) (hcs : ∀ p ∈ cs, p) (h : Good P f n kp outs res k st') : Good P f n kp outs res (.code (.region id ops draw) :: k) st := by
  intro c hP hn hk b a w css hb hbk sim
  subst hn hk
  have hwp : (Code.region id ops draw).wp P (fun e a' w' => e = .normal ∧ Sim c st' a' w') a w := by
    cases draw with
    | false => exact region_plain (opSound P) hP hr hcs sim (fun a' w' h => ⟨rfl, h⟩)
    | true => exact region_draw hm (opSound P) hP hr hcs sim (fun a' w' h => ⟨rfl, h⟩)
  obtain ⟨e, a', w', ⟨rfl, hsim⟩, harr⟩ := hwp b k css
  obtain ⟨v, w2, fr, ρ', h1, h2, h3, h4⟩ := h c hP rfl rfl b a' w' css hb hbk hsim
  exact ⟨v, w2, fr, ρ', h1, Steps.trans harr h2, h3, h4⟩

theorem Good.exec {P : Program} (hm : P.follows .mixedOrders = true) {f n : Nat} {kp : List Nat} {outs : List (Nat × Val)} {res : Val} : ∀ (ds : List Dir) {t t' : List Item} {st st' : St} {cs : List Prop},
    execD P (SpecOk P) n kp ds t st = some (t', st', cs) → (∀ p ∈ cs, p) → Good P f n kp outs res t' st' → Good P f n kp outs res t st
  | [], t, t', st, st', cs, h, hcs, g => by cases h; exact g
  | .reg hs :: ds, t, t', st, st', cs, h, hcs, g => by
    cases t with
    | nil => cases h
    | cons x k =>
      cases x <;> try (cases h; done)
      rename_i cd
      cases cd <;> try (cases h; done)
      rename_i id ops draw
      simp only [execD] at h
      cases hr : regionRun P (SpecOk P) n kp ops draw (look hs) st with
      | none => rw [hr] at h; cases h
      | some y =>
        obtain ⟨st1, cs1⟩ := y
        rw [hr] at h
        dsimp only at h
        cases he : execD P (SpecOk P) n kp ds (Abs.norm fuelN k) st1 with
        | none => rw [he] at h; cases h
        | some z =>
          obtain ⟨t2, s2, cs2⟩ := z
          rw [he] at h
          cases h
          exact Good.region hm hr (fun p hp => hcs p (by simp [hp])) (Good.norm fuelN (Good.exec hm ds he (fun p hp => hcs p (by simp [hp])) g))
  | .cond bb :: ds, t, t', st, st', cs, h, hcs, g => by
    cases t with
    | nil => cases h
    | cons x k =>
      cases x <;> try (cases h; done)
      rename_i cd
      cases cd <;> try (cases h; done)
      rename_i x y z
      simp only [execD] at h
      split at h
      · rename_i v hv
        split at h
        · rename_i t2 s2 cs2 he
          cases h
          have hvb : v = bb := hcs _ (by simp)
          have g2 := Good.norm fuelN (Good.exec hm ds he (fun p hp => hcs p (by simp [hp])) g)
          intro c hP hn hk b a w css hb hbk sim
          obtain ⟨v', w2, fr, ρ', h1, h2, h3, h4⟩ := g2 c hP hn hk b a w css hb hbk sim
          obtain ⟨ρ, simr⟩ := sim
          have hev := (opa_sound simr hv).p_bool
          refine ⟨v', w2, fr, ρ', h1, .head (step_cond hev) ?_, h3, h4⟩
          have : (if (v : Bool) = true then y else z) = pick2 bb y z := by
            rw [hvb]; cases bb <;> rfl
          rw [this]
          exact h2
        · cases h
      · cases h
  | .keep ks :: ds, t, t', st, st', cs, h, hcs, g => by
    have g2 := Good.exec hm ds (t := t) (st := keepSt ks st) (by cases t <;> exact h) hcs g
    intro c hP hn hk b a w css hb hbk sim
    obtain ⟨ρ, simr⟩ := sim
    exact g2 c hP hn hk b a w css hb hbk ⟨ρ, simr.forget (fun k x hx => get_keep hx)⟩
  | .co key i q :: ds, t, t', st, st', cs, h, hcs, g => by
    have h' : (match coRun kp key i q st with
      | some (st1, cs1) => match execD P (SpecOk P) n kp ds t st1 with
        | some (t2, s2, cs2) => some (t2, s2, cs1 ++ cs2)
        | none => none
      | none => none) = some (t', st', cs) := by cases t <;> exact h
    split at h'
    · rename_i st1 cs1 hco
      split at h'
      · rename_i t2 s2 cs2 he
        cases h'
        have g2 := Good.exec hm ds he (fun p hp => hcs p (by simp [hp])) g
        intro c hP hn hk b a w css hb hbk sim
        obtain ⟨ρ, simr⟩ := sim
        obtain ⟨ρ', simr'⟩ := simr.co (by rw [hk]; exact hco) (fun p hp => hcs p (by simp [hp]))
        exact g2 c hP hn hk b a w css hb hbk ⟨ρ', simr'⟩
      · cases h'
    · cases h'
  | .ren m :: ds, t, t', st, st', cs, h, hcs, g => by
    have h' : (match renOk kp m st, renSt m st with
      | true, some st1 => execD P (SpecOk P) n kp ds t st1
      | _, _ => none) = some (t', st', cs) := by cases t <;> exact h
    split at h'
    · rename_i st1 hok hst
      have g2 := Good.exec hm ds h' hcs g
      intro c hP hn hk b a w css hb hbk sim
      obtain ⟨ρ, simr⟩ := sim
      obtain ⟨ρ', simr'⟩ := simr.rename (by rw [hk]; exact hok) hst
      exact g2 c hP hn hk b a w css hb hbk ⟨ρ', simr'⟩
    · cases h'

theorem Good.nilsplit {P : Program} {f n : Nat} {kp : List Nat} {outs : List (Nat × Val)} {res : Val} {t : List Item} {st : St} {i : Nat} {e : Kd} {x : List e.T} (hx : St.get (sk i) st = some (.v (.p (.sl e) x)))
    (h1 : x = [] → Good P f n kp outs res t ((sk i, some (.v .nilsl)) :: st)) (h2 : Good P f n kp outs res t ((sk i, some (.v (.nn e x))) :: st)) : Good P f n kp outs res t st := by
  intro c hP hn hk b a w cs hb hbk sim
  obtain ⟨ρ, simr⟩ := sim
  have hv := simr.slots i _ hx
  rcases hv with ⟨h, _⟩ | ⟨h, _⟩ | ⟨_, hc⟩
  · cases h
  · cases h
  · cases hc with
    | p hc =>
      obtain ⟨A, cap, hv, hle, hA, had⟩ := hc
      simp only [List.cons.injEq, and_true] at hv
      cases A with
      | none =>
        obtain ⟨rfl, rfl⟩ := hA rfl
        refine h1 rfl c hP hn hk b a w cs hb hbk ⟨ρ, simr.reput hx (fun t ht _ => ?_) (fun r hr => absurd hr (sk_ne_ek _ _))⟩
        have := sk_inj ht
        subst this
        rw [hv]
        exact .inr (.inr ⟨rfl, .nilsl⟩)
      | some ad =>
        refine h2 c hP hn hk b a w cs hb hbk ⟨ρ, simr.reput hx (fun t ht _ => ?_) (fun r hr => absurd hr (sk_ne_ek _ _))⟩
        have := sk_inj ht
        subst this
        refine .inr (.inr ⟨rfl, ?_⟩)
        rw [hv]
        exact .nn ⟨some ad, cap, rfl, hle, hA, had⟩ rfl

def resAV (P : Program) : List ResultVar → RM (List AV)
  | [] => .ret []
  | .tmp t :: r => (opa (.tmp t)).bind fun A => (resAV P r).bind fun As => .ret (A :: As)
  | .cell x t :: r => (opa (.tmp x)).bind fun A => if okT P t then (evLoad P t A).bind fun (B, cs) => if cs.isEmpty then (resAV P r).bind fun As => .ret (B :: As) else .fail else .fail

def pack : List AV → Val
  | [A] => .v A
  | As => .t As

def retRun (P : Program) (fn : Func) (ids : List Nat) (st : St) : Option (Val × List Prop) :=
  ((resAV P fn.results.toList).bind fun As => (lendL ids As).bind fun (Bs, cs) => .ret (pack Bs, cs)).run st

def resOne (tmps : Array Value) : ResultVar → Sem Value
  | .tmp t => pure (tmps.getD t undef)
  | .cell x t => do loadVar t (← asAddr (tmps.getD x undef))

theorem results_eq (fn : Func) (tmps : Array Value) : results fn tmps = (fn.results.mapM (resOne tmps)) >>= fun vs => pure (if h : vs.size = 1 then vs[0] else .tuple vs) := by
  unfold results
  congr 2

theorem resAV_sound {P : Program} {c : Cx} {ρ : Nat → Loc} {st : St} {a : Act} {w : World} (sim : SimR c ρ st a w) : ∀ {rs : List ResultVar} {As : List AV}, (resAV P rs).run st = some As →
    ∃ vs, (rs.mapM (m := Sem) (resOne a.tmps)).run P w = .ok vs w ∧ All2 (VRel (Own c.base st ρ) ρ w) As vs
  | [], As, h => by cases h; exact ⟨[], rfl, trivial⟩
  | .tmp t :: r, As, h => by
    simp only [resAV] at h
    obtain ⟨A, h1, h2⟩ := RM.run_bind_some h
    obtain ⟨As', h3, h4⟩ := RM.run_bind_some h2
    cases h4
    obtain ⟨vs, k1, k2⟩ := resAV_sound sim h3
    have hA := opa_sound sim h1
    refine ⟨a.tmps.getD t undef :: vs, ?_, hA, k2⟩
    rw [List.mapM_cons]
    simp only [resOne, Sem.run_bind, Sem.run_pure, Result.andThen_ok]
    simp only [k1, Result.andThen_ok]
  | .cell x t :: r, As, h => by
    simp only [resAV] at h
    obtain ⟨A, h1, h2⟩ := RM.run_bind_some h
    split at h2
    · rename_i hok
      obtain ⟨⟨B, cs⟩, h3, h4⟩ := RM.run_bind_some h2
      dsimp only at h4
      split at h4
      · rename_i hcs
        have hcs : cs = [] := by simpa using hcs
        subst hcs
        obtain ⟨As', h5, h6⟩ := RM.run_bind_some h4
        cases h6
        obtain ⟨vs, k1, k2⟩ := resAV_sound sim h5
        have hA := opa_sound sim h1
        obtain ⟨u, u1, u2⟩ := load_sound (P := P) sim hok hA h3 (by simp)
        have hev : a.eval (.tmp x) = a.tmps.getD x undef := rfl
        rw [hev] at u1
        have : ((asAddr (a.tmps.getD x undef)).run P w).andThen (fun ad w => (loadVar t ad).run P w) = .ok u w := by
          unfold Instr.loadAt at u1
          rw [Sem.run_bind] at u1
          cases hv : a.tmps.getD x undef with
          | pointer ad =>
            cases ad with
            | none => rw [hv] at u1; cases u1
            | some ad => rw [hv] at u1; exact u1
          | _ => rw [hv] at u1; cases u1
        refine ⟨u :: vs, ?_, u2, k2⟩
        rw [List.mapM_cons]
        have h1' : (resOne a.tmps (.cell x t)).run P w = .ok u w := by
          unfold resOne
          rw [Sem.run_bind]
          exact this
        simp only [Sem.run_bind, h1', k1, Result.andThen_ok, Sem.run_pure]
      · cases h4
    · cases h2

theorem Good.ret {P : Program} {f n : Nat} {kp : List Nat} {fn : Func} {outs : List (Nat × Val)} {res : Val} {t : List Item} {st : St} {ids : List Nat} {cs : List Prop} (hfn : P.funcs[f]? = some fn)
    (ht : (match t with | [] => true | .code .ret :: _ => true | _ => false) = true) (hr : retRun P fn ids st = some (res, cs)) (hcs : ∀ p ∈ cs, p)
    (hout : outs.map (fun o => St.get (ek o.1) st) = outs.map fun o => some o.2) (hids : ids.all (fun r => !(outs.map (·.1)).contains r) = true) : Good P f n kp outs res t st := by
  intro c hP hn hk b a w css hb hbk sim
  obtain ⟨ρ, simr⟩ := sim
  unfold retRun at hr
  obtain ⟨As, h1, h2⟩ := RM.run_bind_some hr
  obtain ⟨⟨Bs, cs'⟩, h3, h4⟩ := RM.run_bind_some h2
  cases h4
  obtain ⟨vs, k1, k2⟩ := resAV_sound (P := P) simr h1
  have hom : ∀ k x, (k, x) ∈ outs → St.get (ek k) st = some x := by
    have key : ∀ (os : List (Nat × Val)), os.map (fun o => St.get (ek o.1) st) = os.map (fun o => some o.2) → ∀ k x, (k, x) ∈ os → St.get (ek k) st = some x := by
      intro os
      induction os with
      | nil => intro _ k x h; cases h
      | cons o os ih =>
        intro h k x hm
        simp only [List.map_cons, List.cons.injEq] at h
        rcases List.mem_cons.1 hm with hm | hm
        · cases hm; exact h.1
        · exact ih h.2 k x hm
    exact key outs hout
  have hlive : ∀ r, (St.get (ek r) (est outs)).isSome = true → (St.get (ek r) st).isSome = true ∧ r ∈ outs.map (·.1) := by
    intro r h
    obtain ⟨x, hx⟩ := Option.isSome_iff_exists.1 h
    have hm := est_get hx
    exact ⟨by rw [hom r x hm]; rfl, List.mem_map.2 ⟨_, hm, rfl⟩⟩
  have hown : ∀ b, Own c.base (est outs) ρ b → Own c.base st ρ b := by
    rintro b (hb | ⟨r, hr, hb⟩)
    · exact .inl hb
    · exact .inr ⟨r, (hlive r hr).1, hb⟩
  have hs : Stays (Own c.base st ρ) w (Own c.base (est outs) ρ) w := fun b _ hO => ⟨fun h => hO (hown b h), rfl⟩
  have hlend := lendV_sound simr (O2 := Own c.base (est outs) ρ) hown (fun r hr hl b hb hh => by
    rcases hh with hh | ⟨q, hq, hh⟩
    · exact (simr.mine r b hl hb).1 hh
    · have := simr.inj q r b (hlive q hq).1 hl hh hb
      subst this
      have := (List.all_eq_true.1 hids) q hr
      simp at this
      obtain ⟨⟨k, x⟩, hm, hk⟩ := List.mem_map.1 (hlive q hq).2
      dsimp only at hk
      subst hk
      exact this _ hm) k2 h3 hcs
  let v : Value := if h : vs.toArray.size = 1 then vs.toArray[0] else .tuple vs.toArray
  have hres : (results fn a.tmps).run P w = .ok v w := by
    rw [results_eq, Array.mapM_eq_mapM_toList]
    simp only [Sem.run_bind, Sem.run_map, k1, Result.andThen_ok, Sem.run_pure]
    rfl
  have hv : SRel (Own c.base (est outs) ρ) ρ w (Abs.pack Bs) v := by
    have hlen := hlend.length
    cases Bs with
    | nil =>
      cases vs with
      | nil => exact ⟨[], rfl, trivial⟩
      | cons => exact hlend.elim
    | cons B Bs =>
      cases vs with
      | nil => exact hlend.elim
      | cons x vs =>
        cases Bs with
        | nil =>
          cases vs with
          | nil => exact hlend.1
          | cons => exact hlend.2.elim
        | cons B2 Bs =>
          cases vs with
          | nil => exact hlend.2.elim
          | cons y vs =>
            have : v = .tuple (x :: y :: vs).toArray := by
              show (if h : (x :: y :: vs).toArray.size = 1 then _ else _) = _
              rw [dif_neg (by simp)]
            exact ⟨_, this, hlend⟩
  refine ⟨v, w, { b.at a t with mode := .returning }, ρ, ⟨simr.kp, ⟨fun r x hx => ?_, fun r r' b' g1 g2 => ?_, fun r b' g1 g2 => ?_⟩, hv, ?_, simr.frame⟩, ?_, hb, rfl, simr.dfr, hbk, fn, by
    show P.funcs[b.fn]? = some fn
    rw [hb]; exact hfn, hres⟩
  · exact (simr.ents r x (hom r x (est_get hx))).stays hs (fun _ _ => rfl) (fun _ _ => rfl)
  · exact simr.inj r r' b' (hlive r g1).1 (hlive r' g2).1
  · obtain ⟨q1, q2, q3⟩ := simr.mine r b' (hlive r g1).1 g2
    exact ⟨q1, q3⟩
  · rintro b' ⟨r, hr, hb'⟩
    exact (simr.mine r b' (hlive r hr).1 hb').2.1
  · cases t with
    | nil => exact Steps.one step_end
    | cons x k =>
      cases x <;> try (cases ht; done)
      rename_i cd
      cases cd <;> try (cases ht; done)
      exact Steps.one step_ret

def args0 (args : List AV) (i : Nat) : St := match args with
  | [] => []
  | A :: As => (sk i, some (.v A)) :: args0 As (i + 1)

theorem args0_get {O : Nat → Prop} {ρ : Nat → Loc} {w : World} : ∀ {args : List AV} {vs : List Value} {i : Nat}, All2 (VRel O ρ w) args vs → ∀ t x, St.get (sk t) (args0 args i) = some x → ∃ A v, x = .v A ∧ i ≤ t ∧ vs[t - i]? = some v ∧ VRel O ρ w A v
  | [], [], i, _, t, x, h => by cases h
  | A :: As, v :: vs, i, h, t, x, hx => by
    by_cases ht : t = i
    · subst ht
      have : St.get (sk t) (args0 (A :: As) t) = some (.v A) := get_cons_eq _ _ _
      rw [this] at hx; cases hx
      exact ⟨A, v, rfl, Nat.le_refl _, by simp, h.1⟩
    · have : St.get (sk t) (args0 (A :: As) i) = St.get (sk t) (args0 As (i + 1)) := get_cons_ne _ _ (fun hh => ht (sk_inj hh))
      rw [this] at hx
      obtain ⟨B, u, h1, h2, h3, h4⟩ := args0_get h.2 t x hx
      refine ⟨B, u, h1, by omega, ?_, h4⟩
      rw [show t - i = (t - (i + 1)) + 1 by omega]
      simpa using h3
  | [], _ :: _, _, h, _, _, _ => h.elim
  | _ :: _, [], _, h, _, _, _ => h.elim

theorem args0_has : ∀ (args : List AV) (i r : Nat), has (ek r) (args0 args i) = false
  | [], _, _ => rfl
  | A :: As, i, r => by
    have hb : Nat.beq (ek r) (sk i) = false := by
      cases hb : Nat.beq (ek r) (sk i) with
      | false => rfl
      | true => exact absurd (Nat.eq_of_beq_eq_true hb).symm (sk_ne_ek i r)
    have := args0_has As (i + 1) r
    simp only [has, args0, List.any_cons, hb, Bool.false_or] at this ⊢
    exact this

theorem spec_of_good {P : Program} {f : Nat} {fn : Func} {body : Code} {args : List AV} {ents outs : List (Nat × Val)} {res : Val} (hfn : P.funcs[f]? = some fn) (hbody : fn.body = some body)
    (hargs : args.length ≤ fn.ntmps) (hgood : Good P f fn.ntmps (ents.map (·.1)) outs res [.code body] (args0 args 0 ++ est ents)) : SpecOk P ⟨f, args, ents, res, outs⟩ := by
  intro w base ρ cargs hbase hheld hglob hrel
  intro cs
  have hlen : args.length = cargs.length := hrel.length
  let b : Frame := { (default : Frame) with fn := f, kind := .normal }
  have henter : Frame.enter P f cargs.toArray .normal = b.at { tmps := cargs.toArray ++ Array.replicate (fn.ntmps - cargs.toArray.size) undef, defers := [] } [.code body] := by
    simp [Frame.enter, Frame.at, hfn, hbody, b]
  have gete : ∀ r, St.get (ek r) (args0 args 0 ++ est ents) = St.get (ek r) (est ents) := by
    intro r
    rw [get_append, args0_has]
    rfl
  have gets : ∀ t x, St.get (sk t) (args0 args 0 ++ est ents) = some x → St.get (sk t) (args0 args 0) = some x := by
    intro t x h
    rw [get_append] at h
    split at h
    · exact h
    · rw [est_get_sk] at h; cases h
  have hown : Own base (args0 args 0 ++ est ents) ρ = Own base (est ents) ρ := by
    funext b; simp only [Own, gete]
  have sim : SimR ⟨P, w, base, Live (est ents) ρ, fn.ntmps, ents.map (·.1), ρ⟩ ρ (args0 args 0 ++ est ents) { tmps := cargs.toArray ++ Array.replicate (fn.ntmps - cargs.toArray.size) undef, defers := [] } w := by
    refine ⟨fun t x hx => ?_, fun r x hx => ?_, fun r r' b' g1 g2 => ?_, fun r b' g1 g2 => ?_, Frm.refl _ _, fun b' hb' => ⟨hbase b' hb', ?_⟩, rfl, ?_, fun _ _ => rfl, by rw [hown]; exact hglob⟩
    · obtain ⟨A, v, rfl, _, h3, h4⟩ := args0_get hrel t x (gets t x hx)
      rw [Nat.sub_zero] at h3
      have : (cargs.toArray ++ Array.replicate (fn.ntmps - cargs.toArray.size) undef).getD t undef = v := by
        rw [Array.getD_eq_getD_getElem?]
        have hlt : t < cargs.length := (List.getElem?_eq_some_iff.1 h3).1
        rw [Array.getElem?_append_left (by simpa using hlt)]
        simp [h3]
      rw [this, hown]
      exact h4
    · rw [gete] at hx
      rw [hown]
      exact hheld.ents r x hx
    · rw [gete] at g1 g2
      exact hheld.inj r r' b' g1 g2
    · rw [gete] at g1
      obtain ⟨q1, q2⟩ := hheld.mine r b' g1 g2
      exact ⟨q1, .inl ⟨r, g1, g2⟩, q2⟩
    · rintro ⟨r, g1, g2⟩
      exact (hheld.mine r b' g1 g2).1 hb'
    · simp
      omega
  obtain ⟨v, w', fr, ρ', h1, h2, h3, h4⟩ := hgood _ rfl rfl rfl b _ w cs rfl rfl ⟨ρ, sim⟩
  refine ⟨.returned v, w', fr, ⟨v, ρ', rfl, fun r g1 g2 => ?_, h1.held, h1.res, h1.lv, h1.frm⟩, ?_, h3, h4⟩
  · refine h1.kp r ?_
    obtain ⟨x, hx⟩ := Option.isSome_iff_exists.1 g1
    exact List.mem_map.2 ⟨_, est_get hx, rfl⟩
  · rw [henter]; exact h2
end Go.Abs
set_option linter.unusedVariables false
namespace Go.Abs
set_option linter.unusedSectionVars false
variable [Globs]

def All : List Prop → Prop
  | [] => True
  | p :: ps => p ∧ All ps

theorem All.mem : ∀ {cs : List Prop}, All cs → ∀ p ∈ cs, p
  | [], _, p, h => by cases h
  | q :: cs, h, p, hp => by
    rcases List.mem_cons.1 hp with hp | hp
    · rw [hp]; exact h.1
    · exact All.mem h.2 p hp

def retTop : List Item → Bool
  | [] => true
  | .code .ret :: _ => true
  | _ => false

def pathRet (P : Program) (n : Nat) (kp : List Nat) (fn : Func) (ids os : List Nat) (ds : List Dir) (t : List Item) (st : St) : Option (Val × List (Option Val) × List Prop) :=
  match execD P (SpecOk P) n kp ds t st with
  | some (t', st', cs) => match retTop t', retRun P fn ids st' with
    | true, some (res, cs') => some (res, os.map (fun o => St.get (ek o) st'), cs ++ cs')
    | _, _ => none
  | none => none

theorem Good.path_ret {P : Program} (hm : P.follows .mixedOrders = true) {f : Nat} {fn : Func} {kp : List Nat} {outs : List (Nat × Val)} {res : Val} {t : List Item} {st : St} {cs : List Prop} (ds : List Dir) (ids : List Nat)
    (hfn : P.funcs[f]? = some fn) (h : pathRet P fn.ntmps kp fn ids (outs.map (·.1)) ds t st = some (res, outs.map (fun o => some o.2), cs)) (hcs : All cs) (hids : ids.all (fun r => !(outs.map (·.1)).contains r) = true) :
    Good P f fn.ntmps kp outs res t st := by
  unfold pathRet at h
  cases he : execD P (SpecOk P) fn.ntmps kp ds t st with
  | none => rw [he] at h; cases h
  | some y =>
    obtain ⟨t', st', cs1⟩ := y
    rw [he] at h
    dsimp only at h
    cases hr : retRun P fn ids st' with
    | none => rw [hr] at h; cases hq : retTop t' <;> rw [hq] at h <;> cases h
    | some z =>
      obtain ⟨res', cs2⟩ := z
      rw [hr] at h
      cases hq : retTop t' with
      | false => rw [hq] at h; cases h
      | true =>
        rw [hq] at h
        simp only [Option.some.injEq, Prod.mk.injEq] at h
        obtain ⟨rfl, h2, rfl⟩ := h
        have hall := hcs.mem
        refine Good.exec hm ds he (fun p hp => hall p (by simp [hp])) (Good.ret (ids := ids) hfn ?_ hr (fun p hp => hall p (by simp [hp])) ?_ hids)
        · cases t' with
          | nil => rfl
          | cons x k =>
            cases x <;> try (cases hq; done)
            rename_i cd
            cases cd <;> first | rfl | (cases hq; done)
        · rw [← h2]; simp

theorem Good.path {P : Program} (hm : P.follows .mixedOrders = true) {f n : Nat} {kp : List Nat} {outs : List (Nat × Val)} {res : Val} {t t' : List Item} {st st' : St} {cs : List Prop} (ds : List Dir)
    (h : execD P (SpecOk P) n kp ds t st = some (t', st', cs)) (hcs : All cs) (g : Good P f n kp outs res t' st') : Good P f n kp outs res t st :=
  Good.exec hm ds h hcs.mem g

inductive Stp where
  | r
  | c (b : Bool)

def walk : List Stp → List Item → List Item
  | [], t => t
  | .r :: ds, .code (.region _ _ _) :: k => walk ds (norm fuelN k)
  | .c b :: ds, .code (.cond _ y z) :: k => walk ds (norm fuelN (.code (pick2 b y z) :: k))
  | _ :: _, t => t

def pos (fn : Func) (ds : List Stp) : List Item := match fn.body with
  | some c => walk ds (norm fuelN [.code c])
  | none => []

theorem spec_at {P : Program} {f : Nat} {fn : Func} {args : List AV} {ents outs : List (Nat × Val)} {res : Val} (hfn : P.funcs[f]? = some fn) (hb : fn.body.isSome = true)
    (hargs : args.length ≤ fn.ntmps) (hgood : Good P f fn.ntmps (ents.map (·.1)) outs res (pos fn []) (args0 args 0 ++ est ents)) : SpecOk P ⟨f, args, ents, res, outs⟩ := by
  obtain ⟨body, hbody⟩ := Option.isSome_iff_exists.1 hb
  refine spec_of_good hfn hbody hargs (Good.norm fuelN ?_)
  unfold pos at hgood
  rw [hbody] at hgood
  exact hgood
end Go.Abs
set_option linter.unusedVariables false
namespace Go.Abs
set_option linter.unusedSectionVars false
variable [Globs]

def eqScalar (P : Program) (t : TypeId) : Kd → Bool
  | .int k => match P.underlying t with | some (.int k') => k' == k | _ => false
  | .bool => match P.underlying t with | some .bool => true | _ => false
  | .str => match P.underlying t with | some .string => true | _ => false
  | _ => false

def eqOk (P : Program) : Kd → List Field → Nat → Bool
  | .unit, [], _ => true
  | .pair a b, f :: fs, off => !(f.name == "_") && f.offset == off && eqScalar P f.type a && eqOk P b fs (off + 1)
  | _, _, _ => false

def structOk (P : Program) (t : TypeId) (k : Kd) : Bool :=
  match P.underlying t with
  | some (.struct fs) => eqOk P k fs.toList 0 && !P.stoodInHeld t && !(P.eqGuardType P.depth t)
  | _ => false

section
variable {P : Program} {w : World} {O : Nat → Prop}

def eqFs (P : Program) (o : TypeId → Kd → Bool) : Kd → List Field → Nat → Bool
  | .unit, [], _ => true
  | .pair a b, f :: fs, off => !(f.name == "_") && f.offset == off && o f.type a && P.cellsOf f.type == a.size && aggT P f.type == a.agg && okT P f.type && eqFs P o b fs (off + a.size)
  | _, _, _ => false

def eqGood (P : Program) : Nat → TypeId → Kd → Bool
  | 0, _, _ => false
  | n + 1, t, k => match P.underlying t, k with
    | some (.struct fs), .pair a b => eqFs P (eqGood P n) (.pair a b) fs.toList 0 && !P.stoodInHeld t
    | some (.struct fs), .unit => eqFs P (eqGood P n) .unit fs.toList 0 && !P.stoodInHeld t
    | some (.array m e), .arr m' ke => m == m' && eqGood P n e ke && P.cellsOf e == ke.size && aggT P e == ke.agg && okT P e
    | some (.int k'), .int k => k' == k
    | some .bool, .bool => true
    | some .string, .str => true
    | _, _ => false

def ofCells (k : Kd) (c : List Value) : Value := if k.agg = true then .agg c.toArray else c.headD undef

theorem run_part_of {t : TypeId} {k : Kd} {cs : Array Value} {off : Nat} {c : List Value} (hok : okT P t = true) (hsz : P.cellsOf t = k.size) (hag : aggT P t = k.agg) (hc : (cs.toList.drop off).take k.size = c) (hl : c.length = k.size) :
    (part t cs off).run P w = .ok (ofCells k c) w := by
  obtain ⟨h1, h2⟩ := okT_iff hok
  unfold part
  rw [Sem.run_bind, run_isAgg' h2, Result.andThen_ok, hag]
  cases hg : k.agg with
  | true =>
    simp only [if_true, Sem.run_bind, run_sizeOf' h1, Result.andThen_ok, Sem.run_pure, hsz, ofCells, hg]
    congr 2
    apply Array.ext'
    simp only [Array.toList_extract, List.extract_eq_take_drop, ← hc]
    congr 1
    omega
  | false =>
    have hk1 : k.size = 1 := by cases k <;> simp [Kd.agg] at hg <;> rfl
    rw [hk1] at hc hl
    obtain ⟨v, rfl⟩ := List.length_eq_one_iff.1 hl
    have : cs[off]? = some v := by
      have := congrArg (fun l => l[0]?) hc
      simpa using this
    simp [this, ofCells, hg]

theorem eqGood_run : ∀ (m : Nat) (t : TypeId) (k : Kd), eqGood P m t k = true → ∀ {x y : k.T} {cx cy : List Value}, Cells O w k x cx → Cells O w k y cy → ∀ d, (Op.equalIn (d + m) t (ofCells k cx) (ofCells k cy)).run P w = .ok (k.eqb x y) w := by
  intro m
  induction m with
  | zero => intro t k h; cases h
  | succ m ih =>
    intro t k h x y cx cy hx hy d
    have fields : ∀ (k : Kd) (fs : List Field) (off : Nat) {x y : k.T} {cx cy : List Value} {xs ys : Array Value}, eqFs P (eqGood P m) k fs off = true → Cells O w k x cx → Cells O w k y cy →
        xs.toList.drop off = cx → ys.toList.drop off = cy → (Op.eqFields (d + m) xs ys fs).run P w = .ok (k.eqb x y) w := by
      intro k
      induction k with
      | pair a b _ ihb =>
        intro fs off x y cx cy xs ys h hx hy hxs hys
        cases fs with
        | nil => cases h
        | cons f fs =>
          simp only [eqFs, Bool.and_eq_true, Bool.not_eq_true', beq_iff_eq, beq_eq_false_iff_ne] at h
          obtain ⟨⟨⟨⟨⟨⟨hn, hoff⟩, hsc⟩, hsz⟩, hag⟩, hok⟩, hrest⟩ := h
          obtain ⟨c1, c2, rfl, hx1, hx2⟩ := hx
          obtain ⟨d1, d2, rfl, hy1, hy2⟩ := hy
          have l1 := hx1.length
          have l2 := hy1.length
          have gx : (xs.toList.drop off).take a.size = c1 := by rw [hxs, ← l1, List.take_left]
          have gy : (ys.toList.drop off).take a.size = d1 := by rw [hys, ← l2, List.take_left]
          have tx : xs.toList.drop (off + a.size) = c2 := by rw [← List.drop_drop, hxs, ← l1, List.drop_left]
          have ty : ys.toList.drop (off + a.size) = d2 := by rw [← List.drop_drop, hys, ← l2, List.drop_left]
          have hr := ihb fs (off + a.size) hrest hx2 hy2 tx ty
          have he := ih f.type a hsc hx1 hy1 d
          have hn' : f.name ≠ "_" := hn
          rw [Op.eqFields]
          rw [if_pos (show f.name ≠ "_" from hn')]
          simp only [Sem.run_bind, hoff, run_part_of hok hsz hag gx l1, run_part_of hok hsz hag gy l2, he, Result.andThen_ok]
          show _ = Result.ok (a.eqb x.1 y.1 && b.eqb x.2 y.2) w
          cases hq : a.eqb x.1 y.1
          · simp
          · simpa using hr
      | unit =>
        intro fs off x y cx cy xs ys h hx hy hxs hys
        cases fs with
        | nil => simp [Op.eqFields, Kd.eqb]
        | cons => cases h
      | _ => intro fs off x y cx cy xs ys h; cases fs <;> cases h
    have struct : ∀ (k : Kd) (fs : Array Field), P.underlying t = some (.struct fs) → k.agg = true → eqFs P (eqGood P m) k fs.toList 0 = true → P.stoodInHeld t = false → ∀ {x y : k.T} {cx cy : List Value}, Cells O w k x cx → Cells O w k y cy →
        (Op.equalIn (d + (m + 1)) t (ofCells k cx) (ofCells k cy)).run P w = .ok (k.eqb x y) w := by
      intro k fs hu hg h1 h2 x y cx cy hx hy
      have hf : P.fieldsOf t = fs := by simp [Program.fieldsOf, hu]
      unfold ofCells
      rw [if_pos hg, if_pos hg, ← Nat.add_assoc, run_equalIn_struct (P := P) w (d + m) t cx.toArray cy.toArray (by rw [hf]; exact hu) h2, hf]
      exact fields k fs.toList 0 h1 hx hy (by simp) (by simp)
    unfold eqGood at h
    split at h
    · rename_i fs a b hu
      simp only [Bool.and_eq_true, Bool.not_eq_true'] at h
      exact struct _ fs hu rfl h.1 h.2 hx hy
    · rename_i fs hu
      simp only [Bool.and_eq_true, Bool.not_eq_true'] at h
      exact struct _ fs hu rfl h.1 h.2 hx hy
    · rename_i n e n' ke hu
      simp only [Bool.and_eq_true, beq_iff_eq] at h
      obtain ⟨⟨⟨⟨rfl, h1⟩, hsz⟩, hag⟩, hok⟩ := h
      obtain ⟨hxl, css, rfl, hxa⟩ := hx
      obtain ⟨hyl, dss, rfl, hya⟩ := hy
      obtain ⟨i, hi⟩ := Option.isSome_iff_exists.1 (okT_iff hok).1
      unfold ofCells
      rw [if_pos (c := (Kd.arr n ke).agg = true) rfl, if_pos (c := (Kd.arr n ke).agg = true) rfl, ← Nat.add_assoc, run_equalIn_array (P := P) w (d + m) css.flatten.toArray dss.flatten.toArray hu hi, hsz]
      have items : ∀ (q p : Nat) (xs ys : List ke.T) (cs ds : List (List Value)), All2 (Cells O w ke) xs cs → All2 (Cells O w ke) ys ds → xs.length = q → ys.length = q → css.drop p = cs → dss.drop p = ds →
          (Op.eqItems (d + m) e ke.size css.flatten.toArray dss.flatten.toArray (List.range' p q)).run P w = .ok ((List.zipWith (fun a b => ke.eqb a b) xs ys).all id) w := by
        intro q
        induction q with
        | zero =>
          intro p xs ys cs ds _ _ hxs hys _ _
          have : xs = [] := List.eq_nil_of_length_eq_zero hxs
          subst this
          simp [Op.eqItems]
        | succ q ihq =>
          intro p xs ys cs ds hxs' hys' hxs hys hcs hds
          match xs, cs, ys, ds, hxs', hys' with
          | x0 :: xs, c0 :: cs, y0 :: ys, d0 :: ds, hxs', hys' =>
            have l1 := hxs'.1.length
            have l2 := hys'.1.length
            have g1 : (css.flatten.toArray.toList.drop (p * ke.size)).take ke.size = c0 := by
              show (css.flatten.drop (p * ke.size)).take ke.size = c0
              rw [← flatten_drop' hxa, hcs, List.flatten_cons, ← l1, List.take_left]
            have g2 : (dss.flatten.toArray.toList.drop (p * ke.size)).take ke.size = d0 := by
              show (dss.flatten.drop (p * ke.size)).take ke.size = d0
              rw [← flatten_drop' hya, hds, List.flatten_cons, ← l2, List.take_left]
            have he := ih e ke h1 hxs'.1 hys'.1 d
            have hr := ihq (p + 1) xs ys cs ds hxs'.2 hys'.2 (by simpa using hxs) (by simpa using hys) (by rw [← List.drop_drop, hcs]; rfl) (by rw [← List.drop_drop, hds]; rfl)
            rw [List.range'_succ, Op.eqItems]
            simp only [Sem.run_bind, run_part_of hok hsz hag g1 l1, run_part_of hok hsz hag g2 l2, he, Result.andThen_ok]
            simp only [List.zipWith_cons_cons, List.all_cons, id]
            cases hq : ke.eqb x0 y0
            · simp
            · simpa using hr
          | [], _, _, _, _, _ => cases hxs
          | _ :: _, _, [], _, _, _ => cases hys
          | _ :: _, [], _, _, h, _ => exact h.elim
          | _ :: _, _, _ :: _, [], _, h => exact h.elim
      rw [List.range_eq_range']
      exact items n 0 x y css dss hxa hya hxl hyl rfl rfl
    · rename_i k' k hu
      have hk : k' = k := by simpa using h
      subst hk
      simp only [Cells] at hx hy
      subst hx hy
      show (Op.equalIn (d + m + 1) t (.int k' x) (.int k' y)).run P w = _
      unfold Op.equalIn
      rw [Sem.run_bind, run_underlying hu, Result.andThen_ok]
      simp [Kd.eqb]
    · rename_i hu
      simp only [Cells] at hx hy
      subst hx hy
      show (Op.equalIn (d + m + 1) t (.bool x) (.bool y)).run P w = _
      unfold Op.equalIn
      rw [Sem.run_bind, run_underlying hu, Result.andThen_ok]
      rfl
    · rename_i hu
      simp only [Cells] at hx hy
      subst hx hy
      show (Op.equalIn (d + m + 1) t (.string x) (.string y)).run P w = _
      unfold Op.equalIn
      rw [Sem.run_bind, run_underlying hu, Result.andThen_ok]
      rfl
    · cases h

def structOk2 (P : Program) (t : TypeId) (k : Kd) : Bool := k.agg && eqGood P 12 t k && !(P.eqGuardType P.depth t)

theorem structEq_of {t : TypeId} {k : Kd} (h : structOk2 P t k = true) : StructEq P t k := by
  simp only [structOk2, Bool.and_eq_true, Bool.not_eq_true'] at h
  obtain ⟨⟨hg, hok⟩, hgt⟩ := h
  intro O w x y cx cy hx hy
  refine ⟨fun op p q => ?_, ?_⟩
  · unfold eqGuard
    cases op <;> simp [hgt]
  · have h2 := eqGood_run 12 t k hok hx hy 9988
    unfold ofCells at h2
    rw [if_pos hg, if_pos hg] at h2
    exact h2
end
end Go.Abs
namespace Go.Abs
set_option linter.unusedSectionVars false
variable [Globs]
theorem br_inv {α : Type} {c : Bool} {a b : Option α} {r : α} (h : (if c = true then a else b) = some r) : (c = true ∧ a = some r) ∨ (c = false ∧ b = some r) := by
  cases c with
  | true => exact .inl ⟨rfl, h⟩
  | false => exact .inr ⟨rfl, h⟩
theorem gd_inv {α : Type} {p : Prop} [Decidable p] {a : Option α} {r : α} (h : (if p then a else none) = some r) : p ∧ a = some r := by
  by_cases hp : p
  · rw [if_pos hp] at h; exact ⟨hp, h⟩
  · rw [if_neg hp] at h; cases h
theorem bind_inv {α β : Type} {x : Option α} {f : α → Option β} {r : β} (h : Option.bind x f = some r) : ∃ y, x = some y ∧ f y = some r := by
  cases x with
  | none => cases h
  | some y => exact ⟨y, rfl, h⟩
theorem appBound {P : Program} {et b n m : Nat} (hb : P.bytesOf et = b) (h0 : 0 < b) (h : n + m ≤ 140737488355328 / b) : AppBound P et n m := by
  have h1 : (n + m) * b ≤ 140737488355328 := Nat.le_trans (Nat.mul_le_mul_right _ h) (Nat.div_mul_le_self _ _)
  refine ⟨?_, by rw [hb]; exact h1⟩
  have : n + m ≤ (n + m) * b := Nat.le_mul_of_pos_right _ h0
  have hm : (140737488355328 : Nat) ≤ maxLen := by decide
  omega
end Go.Abs
