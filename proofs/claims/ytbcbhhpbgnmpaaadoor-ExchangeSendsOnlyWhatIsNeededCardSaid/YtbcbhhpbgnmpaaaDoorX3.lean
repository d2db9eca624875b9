/- The engine: an abstract machine that runs over the model's code, and its soundness. No condition. -/
import Derived.Test.YtbcbhhpbgnmpaaaDoorX2
import Derived.MapKept
import Derived.WideMake
set_option linter.unusedVariables false
set_option linter.unusedSimpArgs false
namespace Go.Abs
set_option linter.unusedSectionVars false
variable [Globs]

theorem SimR.ext {c : Cx} {ρ : Nat → Loc} {st : St} {a a' : Act} {w w' : World} (h : SimR c ρ st a w) (hh : ∀ b, b < w.heap.size → w'.heap[b]? = w.heap[b]?) (hsz : w.heap.size ≤ w'.heap.size) (hos : w'.os = w.os) (htape : w'.tape = w.tape)
    (hout : w'.output = w.output) (ha : ∀ t x, St.get (sk t) st = some x → a'.tmps.getD t undef = a.tmps.getD t undef) (hd : a'.defers = a.defers) (hz : a'.tmps.size = a.tmps.size) : SimR c ρ st a' w' := by
  refine h.step (fun _ _ _ _ _ => rfl) (fun b hb hO => ⟨hO, hh b hb⟩) (fun t x hx => .inr ⟨hx, ha t x hx⟩) (fun r x hx => .inr ⟨hx, rfl, fun b hb => hh b (h.mine r b (by rw [hx]; rfl) hb).2.2⟩) h.inj
    (fun r b h1 h2 => ?_) ?_ (hd.trans h.dfr) (hz.trans h.size) (fun _ _ => rfl)
  · obtain ⟨k1, k2, k3⟩ := h.mine r b h1 h2
    exact ⟨k1, k2, Nat.lt_of_lt_of_le k3 hsz⟩
  · obtain ⟨k1, k2, k3, k4, k5⟩ := h.frame
    exact ⟨hos.trans k1, htape.trans k2, hout.trans k3, Nat.le_trans k4 hsz, fun b hb hm => (hh b (Nat.lt_of_lt_of_le hb k4)).trans (k5 b hb hm)⟩

theorem Good.hand {P : Program} {f n : Nat} {kp : List Nat} {outs : List (Nat × Val)} {res : Val} {k : List Item} {st st' : St} {id : Nat} {ops : Array Oper}
    (hw : ∀ (c : Cx) ρ a w, c.P = P → c.n = n → c.kp = kp → SimR c ρ st a w → wpOps P ops (fun e a' w' => e = .normal ∧ Sim c st' a' w') (List.range ops.size) a w) (h : Good P f n kp outs res k st') : Good P f n kp outs res (.code (.region id ops false) :: k) st := by
  intro c hP hn hk b a w css hb hbk sim
  obtain ⟨ρ, sim⟩ := sim
  have hwp : (Code.region id ops false).wp P (fun e a' w' => e = .normal ∧ Sim c st' a' w') a w := wp_region (hw c ρ a w hP hn hk sim)
  obtain ⟨e, a', w', ⟨rfl, hsim⟩, harr⟩ := hwp b k css
  obtain ⟨v, w2, fr, ρ', h1, h2, h3, h4⟩ := h c hP hn hk b a' w' css hb hbk hsim
  exact ⟨v, w2, fr, ρ', h1, Steps.trans harr h2, h3, h4⟩

section
variable {P : Program} {ops : Array Oper} {Q : Exit → Act → World → Prop} {i : Nat} {rest : List Nat} {a : Act} {w w' : World} {x : Op}

theorem wp_val {d : Nat} {v : Value} (h : (ops[i]?).map (fun o => (o.op, o.dst, o.guard)) = some (x, some d, none)) (hr : ∀ o : Oper, o.op = x → (execOp a.eval o).run P w = .ok (.value v) w') (hk : wpOps P ops Q rest (a.put (some d) v) w') :
    wpOps P ops Q (i :: rest) a w := by
  cases ho : ops[i]? with
  | none => rw [ho] at h; cases h
  | some o =>
    rw [ho] at h
    simp only [Option.map_some, Option.some.injEq, Prod.mk.injEq] at h
    obtain ⟨h1, h2, h3⟩ := h
    simp only [wpOps, ho, Region.wanted, h3, if_true]
    refine .inl ?_
    unfold Oper.wp
    rw [hr o h1, Oper.upon_value, h2]
    exact hk

theorem wp_skip (h : (ops[i]?).map (fun o => (o.op, o.dst, o.guard)) = some (x, none, none)) (hr : ∀ o : Oper, o.op = x → (execOp a.eval o).run P w = .ok .skip w') (hk : wpOps P ops Q rest a w') :
    wpOps P ops Q (i :: rest) a w := by
  cases ho : ops[i]? with
  | none => rw [ho] at h; cases h
  | some o =>
    rw [ho] at h
    simp only [Option.map_some, Option.some.injEq, Prod.mk.injEq] at h
    obtain ⟨h1, h2, h3⟩ := h
    simp only [wpOps, ho, Region.wanted, h3, if_true]
    refine .inl ?_
    unfold Oper.wp
    rw [hr o h1, Oper.upon_skip, h2]
    exact hk

theorem run_insert_int (t kt et r clock : Nat) (n : Int) (val : Value) (es : Array MapEntry) (hm : P.underlying t = some (.map kt et)) (hk : P.underlying kt = some (.int .i64)) (hb : w.heap[r]? = some (.map es clock))
    (hf : Instr.findNow (.int .i64) (.int .i64 n) es.toList 0 = some none) :
    (Instr.mapUpdate t (.map (some r)) (.int .i64 n) val).run P w = .ok () { w with heap := w.heap.setIfInBounds r (.map (es.push { key := .int .i64 n, val := val, born := clock }) (clock + 1)) } := by
  have hc : (Instr.checkKey false 10000 kt (.int .i64 n)).run P w = .ok () w := MapKept.run_checkKey (k := .int .i64 n) hk (by simp [MapKept.IsKey]) false 9999
  simp [Instr.mapUpdate, run_underlying hm, MapKept.run_getObj_map hb, hc, MapKept.run_findKey hk hf, MapKept.run_setObj_map _ hb, Result.andThen]

theorem run_lookup_int (t kt et r clock : Nat) (n : Int) (es : Array MapEntry) (hm : P.underlying t = some (.map kt et)) (hk : P.underlying kt = some (.int .i64)) (hb : w.heap[r]? = some (.map es clock)) {j : Nat} {v : Value}
    (hf : Instr.findNow (.int .i64) (.int .i64 n) es.toList 0 = some (some (j, v))) :
    (Instr.lookup t (.map (some r)) (.int .i64 n) false).run P w = .ok v w := by
  have hc : ∀ b, (Instr.checkKey b 10000 kt (.int .i64 n)).run P w = .ok () w := fun b => MapKept.run_checkKey (k := .int .i64 n) hk (by simp [MapKept.IsKey]) b 9999
  simp [Instr.lookup, run_underlying hm, MapKept.run_getObj_map hb, hc, MapKept.run_findKey hk hf, Result.andThen]
end

structure HInv (a a' : Act) (w w' : World) (b : Nat) (es : Array MapEntry) (clock : Nat) : Prop where
  tm : ∀ t, (t < 18 ∨ 30 < t) → a'.tmps.getD t undef = a.tmps.getD t undef
  sz : a'.tmps.size = a.tmps.size
  df : a'.defers = a.defers
  mp : a'.tmps.getD 18 undef = .map (some b)
  heap : ∀ b', b' < w.heap.size → w'.heap[b']? = w.heap[b']?
  hsz : w.heap.size ≤ w'.heap.size
  os : w'.os = w.os
  tape : w'.tape = w.tape
  output : w'.output = w.output
  hb : w'.heap[b]? = some (.map es clock)
  hbn : b = w.heap.size

theorem HInv.put {a a' : Act} {w w' : World} {b : Nat} {es : Array MapEntry} {clock : Nat} (h : HInv a a' w w' b es clock) {d : Nat} (h1 : 18 < d) (h2 : d ≤ 30) (hd : d < a.tmps.size) (v : Value) : HInv a (a'.put (some d) v) w w' b es clock := by
  have hd' : d < a'.tmps.size := by rw [h.sz]; exact hd
  refine ⟨fun t ht => ?_, ?_, ?_, ?_, h.heap, h.hsz, h.os, h.tape, h.output, h.hb, h.hbn⟩
  · rw [put_getD _ _ _ _ hd', if_neg (by omega)]; exact h.tm t ht
  · rw [put_size]; exact h.sz
  · rw [put_dfr]; exact h.df
  · rw [put_getD _ _ _ _ hd', if_neg (by omega)]; exact h.mp

theorem HInv.insert {a a' : Act} {w w' : World} {b : Nat} {es : Array MapEntry} {clock : Nat} (h : HInv a a' w w' b es clock) (es' : Array MapEntry) (clock' : Nat) :
    HInv a a' w { w' with heap := w'.heap.setIfInBounds b (.map es' clock') } b es' clock' := by
  have hlt : b < w'.heap.size := (Array.getElem?_eq_some_iff.1 h.hb).1
  refine ⟨h.tm, h.sz, h.df, h.mp, fun b' hb' => ?_, by simpa using h.hsz, h.os, h.tape, h.output, ?_, h.hbn⟩
  · show (w'.heap.setIfInBounds b _)[b']? = _
    rw [Array.getElem?_setIfInBounds_ne (by have := h.hbn; omega)]
    exact h.heap b' hb'
  · show (w'.heap.setIfInBounds b _)[b]? = _
    simp [hlt]

theorem HInv.triple {P : Program} {ops : Array Oper} {Q : Exit → Act → World → Prop} {rest : List Nat} {a a' : Act} {w w' : World} {b : Nat} {es : Array MapEntry} {clock : Nat} (h : HInv a a' w w' b es clock) {i d1 d2 f : Nat} {n : Int} (hz : 30 < a.tmps.size)
    (h1 : 18 < d1 ∧ d1 ≤ 30) (h2 : 18 < d2 ∧ d2 ≤ 30) (hd : d1 ≠ d2)
    (o1 : (ops[i]?).map (fun o => (o.op, o.dst, o.guard)) = some (.move (.tmp 8), some d1, none)) (o2 : (ops[i + 1]?).map (fun o => (o.op, o.dst, o.guard)) = some (.makeFunc (.func f) #[.tmp d1] #[], some d2, none))
    (o3 : (ops[i + 2]?).map (fun o => (o.op, o.dst, o.guard)) = some (.insert 97 (.tmp 18) (.const (.int .i64 n)) (.tmp d2), none, none))
    (hm : P.underlying 97 = some (.map 3 96)) (hk : P.underlying 3 = some (.int .i64)) (hf : Instr.findNow (.int .i64) (.int .i64 n) es.toList 0 = some none)
    (K : ∀ a'' w'', HInv a a'' w w'' b (es.push { key := .int .i64 n, val := .func (.func f) #[a.tmps.getD 8 undef] #[], born := clock }) (clock + 1) → wpOps P ops Q rest a'' w'') :
    wpOps P ops Q (i :: (i + 1) :: (i + 2) :: rest) a' w' := by
  refine wp_val o1 (v := a.tmps.getD 8 undef) (w' := w') (fun o ho => ?_) ?_
  · simp only [execOp, ho]
    show (pure (Next.value (a'.tmps.getD 8 undef)) : Sem Next).run P w' = _
    rw [h.tm 8 (.inl (by omega))]; rfl
  have g1 := h.put h1.1 h1.2 (by omega) (a.tmps.getD 8 undef)
  have e1 : (a'.put (some d1) (a.tmps.getD 8 undef)).tmps.getD d1 undef = a.tmps.getD 8 undef := by rw [put_getD _ _ _ _ (by rw [h.sz]; omega), if_pos rfl]
  have hev : (a'.put (some d1) (a.tmps.getD 8 undef)).eval (.tmp d1) = a.tmps.getD 8 undef := e1
  refine wp_val o2 (v := .func (.func f) #[a.tmps.getD 8 undef] #[]) (w' := w') (fun o ho => ?_) ?_
  · simp only [execOp, ho, Instr.makeFunc, Sem.run_bind, Sem.run_pure, Result.andThen_ok]
    simp only [List.map_toArray, List.map_cons, List.map_nil, hev]
  have g2 := g1.put h2.1 h2.2 (by omega) (.func (.func f) #[a.tmps.getD 8 undef] #[])
  obtain ⟨a2, ha2⟩ : ∃ a2, a2 = (a'.put (some d1) (a.tmps.getD 8 undef)).put (some d2) (.func (.func f) #[a.tmps.getD 8 undef] #[]) := ⟨_, rfl⟩
  have e2 : a2.eval (.tmp d2) = .func (.func f) #[a.tmps.getD 8 undef] #[] := by
    rw [ha2]
    show ((a'.put (some d1) (a.tmps.getD 8 undef)).put (some d2) _).tmps.getD d2 undef = _
    rw [put_getD _ _ _ _ (by rw [g1.sz]; omega), if_pos rfl]
  rw [← ha2] at g2 ⊢
  have e3 : a2.eval (.tmp 18) = .map (some b) := g2.mp
  have e4 : a2.eval (.const (.int .i64 n)) = .int .i64 n := rfl
  refine wp_skip o3 (w' := { w' with heap := w'.heap.setIfInBounds b (.map (es.push { key := .int .i64 n, val := .func (.func f) #[a.tmps.getD 8 undef] #[], born := clock }) (clock + 1)) }) (fun o ho => ?_) (K _ _ (g2.insert _ _))
  simp only [execOp, ho, e2, e3, e4, Sem.run_bind, run_insert_int 97 3 96 b clock n _ es hm hk g2.hb hf, Result.andThen_ok, Sem.run_pure]

theorem wp_method {P : Program} {ops : Array Oper} {Q : Exit → Act → World → Prop} {i : Nat} {a : Act} {w : World} {c : Cx} {ρ : Nat → Loc} {st : St} {g m d f : Nat} {p : Value} {At : Array TypeId} {A M : AV} {h : CallHint} {e : Eff} (hP : c.P = P)
    (ho : (ops[i]?).map (fun o => (o.op, o.dst, o.guard)) = some (.call { callee := .value (.tmp g), args := #[.tmp m], argTypes := At }, some d, none)) (hg : a.tmps.getD g undef = .func (.func f) #[p] #[]) (sim : SimR c ρ st a w)
    (hA : VRel (Own c.base st ρ) ρ w A p) (hM : VRel (Own c.base st ρ) ρ w M (a.tmps.getD m undef)) (hck : callOk P f = true) (hd : d < c.n)
    (he : (evCall (SpecOk P) { (default : Oper) with dst := some d } f [A, M] h).run st = some e) (hcs : All e.c) (hfresh : ∀ r ∈ e.n, ∀ k x, St.get k st = some x → r ∉ x.refs) (hkp : ∀ r ∈ e.n, r ∉ c.kp)
    (hQ : ∀ ρ' a' w', SimR c ρ' (e.w ++ st) a' w' → Q .normal a' w') : wpOps P ops Q [i] a w := by
  cases ho' : ops[i]? with
  | none => rw [ho'] at ho; cases ho
  | some o =>
    rw [ho'] at ho
    simp only [Option.map_some, Option.some.injEq, Prod.mk.injEq] at ho
    obtain ⟨h1, h2, h3⟩ := ho
    simp only [wpOps, ho', Region.wanted, h3, if_true]
    refine .inl ?_
    unfold Oper.wp
    have hcall : (callFunc f #[p, a.tmps.getD m undef]).run P w = .ok (.enter f #[p, a.tmps.getD m undef]) w := by
      unfold callOk at hck
      unfold callFunc
      rw [Sem.run_bind, run_program, Result.andThen_ok]
      cases hfn : P.funcs[f]? with
      | none => rw [hfn] at hck; cases hck
      | some fn =>
        rw [hfn] at hck
        simp only [Bool.and_eq_true, Bool.not_eq_true'] at hck
        dsimp only
        rw [hck.2]
        have : fn.body.isNone = false := by
          cases hb : fn.body with
          | none => rw [hb] at hck; cases hck.1
          | some _ => rfl
        simp [this]
    have hg' : a.eval (.tmp g) = .func (.func f) #[p] #[] := hg
    have hm' : a.eval (.tmp m) = a.tmps.getD m undef := rfl
    have hrun : (execOp a.eval o).run P w = (callFunc f #[p, a.tmps.getD m undef]).run P w := by
      simp only [execOp, h1, resolve, hg', Deferred.ofValue, Sem.run_bind, Sem.run_pure, Result.andThen_ok, invoke, List.map_toArray, List.map_cons, List.map_nil, hm']
      rfl
    rw [hrun, hcall, Oper.upon_enter]
    have := call_sound (a := a) (Q := Q) (K := fun a' w' => Q .normal a' w') sim (o := { (default : Oper) with dst := some d }) (As := [A, M]) (vs := [p, a.tmps.getD m undef]) ⟨hA, hM, trivial⟩ he hcs.mem hfresh hkp (fun d' hd' => by cases hd'; exact hd) hQ
    rw [h2]
    subst hP
    exact this
end Go.Abs
