/- The walks: each function of the program that the law reaches computes the Lean function that is printed beside it. No condition but that the Lean function has a result. -/
import Derived.Test.YtbcbhhpbgnmpaaaDoorG1
import Derived.Lib.Bytealg
set_option linter.unusedVariables false
set_option linter.unusedSimpArgs false
namespace Go.Proofs.K1
open Go Go.RowKit Go.Lib Go.Proofs Go.Abs

theorem run_loadBytes {P : Program} (w : World) : ∀ (l : List Int) (ad : Addr) (acc : ByteArray), (∀ (j : Nat) (u : Value), (l.map (Value.int .u8))[j]? = some u → w.cell? (ad.add j) = some u) →
    (Extern.Bytes.loadBytes ad l.length acc).run P w = .ok (l.foldl (fun r n => r.push (UInt8.ofNat n.toNat)) acc) w
  | [], ad, acc, _ => rfl
  | n :: l, ad, acc, h => by
    have h0 := h 0 (.int .u8 n) rfl
    rw [Addr.add_zero'] at h0
    have ih := run_loadBytes (P := P) w l (ad.add 1) (acc.push n.toNat.toUInt8) (fun j u hj => by
      rw [Addr.add_add, Nat.add_comm]
      exact h (j + 1) u (by simpa using hj))
    simp only [List.length_cons, Extern.Bytes.loadBytes, Sem.run_bind, List.foldl_cons, run_load, h0, Result.andThen_ok]
    exact ih

theorem run_bytesOf {P : Program} (w : World) {A : Option Addr} {cp : Nat} {l : List Int}
    (hA : A = none → l = []) (hl : ∀ ad, A = some ad → ∀ j u, (l.map (Value.int .u8))[j]? = some u → w.cell? (ad.add j) = some u) :
    (Extern.Bytes.bytesOf (.slice A l.length cp)).run P w = .ok (strOf l) w := by
  cases A with
  | none =>
    have := hA rfl
    subst this
    rfl
  | some ad =>
    show (Extern.Bytes.loadBytes ad l.length ByteArray.empty).run P w = _
    rw [run_loadBytes w l ad _ (hl ad rfl), strOf_foldl]

theorem bytes_arg {O : Nat → Prop} {ρ : Nat → Go.Abs.Loc} {P : Program} {w : World} {l : List Int} {v : Value} (h : VRel O ρ w (.p (.sl (.int .u8)) l) v) : (Extern.Bytes.bytesOf v).run P w = .ok (strOf l) w := by
  have hc := h.one rfl (by simp)
  cases hc with
  | p hc =>
    obtain ⟨B, cap, hv, hle, hB, hr⟩ := hc
    cases hv
    refine run_bytesOf w (fun hh => (hB hh).1) (fun ad had j u hu => ?_)
    obtain ⟨css, k1, k2, k3⟩ := hr ad had
    rw [← cells_bytes k1] at hu
    have hne : css.flatten ≠ [] := by intro hh; rw [hh] at hu; simp at hu
    have hcell := k3 j u hu
    unfold Addr.add
    split
    · rename_i hj
      subst hj
      have := (k2 hne).1
      cases ad
      simp_all
    · exact hcell

theorem walk60 (va vb : Value) (w : World) (a b : List Int) (ha : (Extern.Bytes.bytesOf va).run Tryd.prog w = .ok (strOf a) w) (hb : (Extern.Bytes.bytesOf vb).run Tryd.prog w = .ok (strOf b) w) :
    Calls Tryd.prog 60 #[va, vb] w fun e w' => e = .returned (.int .i64 (cmpB a b)) ∧ w' = w := by
  have hx : (Extern.BytealgCompare.compare #[va, vb]).run Tryd.prog w = .ok (.int .i64 (cmpB a b)) w := by
    change Sem.run Tryd.prog (do pure (goInt (Extern.BytealgCompare.cmp (← Extern.Bytes.bytesOf va) (← Extern.Bytes.bytesOf vb)))) w = _
    simp only [Sem.run_bind, ha, hb, Sem.run_pure, Result.andThen]
    rw [cmp_eq]
    rfl
  have hcall : (callFunc 76 #[va, vb]).run Tryd.prog w = .ok (.value (.int .i64 (cmpB a b))) w := by
    rw [run_callFunc_extern Tryd.func76 (by kernel_rfl) (by kernel_rfl) (by kernel_rfl) (e := Extern.BytealgCompare.compare) (by kernel_rfl), hx]
    rfl
  go_enter Tryd.func60, Tryd.ntmps60
  go_wp2_with (simp only [hcall])
  go_ret
  exact ⟨rfl, rfl⟩

theorem cmp60_ok (a b : List Int) : SpecOk P ⟨60, [.p (.sl (.int .u8)) a, .p (.sl (.int .u8)) b], [], .v (.p (.int .i64) (cmpB a b)), []⟩ := by
  intro w base ρ cargs hbase hheld hglob hrel
  dsimp only at hheld hrel ⊢
  match cargs, hrel with
  | [x1, x2], hrel =>
    refine (walk60 x1 x2 w a b (bytes_arg hrel.1) (bytes_arg hrel.2.1)).mono ?_
    rintro e w' ⟨rfl, rfl⟩
    exact ⟨_, ρ, rfl, fun _ _ _ => rfl, hheld, .of_int, fun b hb => .inl hb, Frm.refl _ _⟩
end Go.Proofs.K1
set_option linter.unusedVariables false
set_option linter.unusedSimpArgs false
namespace Go.Proofs.K1
open Go Go.RowKit Go.Proofs Go.Abs
set_option maxRecDepth 10000

noncomputable def posH : List Item := pos Tryd.f33 [.r, .r, .r, .c false, .r]
noncomputable def opsH : Array Oper := match posH with | .code (.region _ ops _) :: _ => ops | _ => #[]
noncomputable def restH : List Item := posH.tail
theorem posH_eq : posH = .code (.region 5 opsH false) :: restH := by kernel_rfl
theorem opsH_size : opsH.size = 19 := by kernel_rfl

def esH (p : Value) : Array MapEntry := (((#[].push (⟨.int .i64 1, .func (.func 53) #[p] #[], 0⟩ : MapEntry)).push ⟨.int .i64 2, .func (.func 54) #[p] #[], 1⟩).push ⟨.int .i64 3, .func (.func 55) #[p] #[], 2⟩).push ⟨.int .i64 4, .func (.func 56) #[p] #[], 3⟩

theorem hear_region {c : Cx} {ρ : Nat → Go.Abs.Loc} {st : St} {a : Act} {w : World} {kind : Int} {f j : Nat} {M : AV} {h : CallHint} {e : Eff} {Q : Exit → Act → World → Prop} (hP : c.P = P) (hn : c.n = 45) (sim : SimR c ρ st a w)
    (h3 : (opa (.tmp 3)).run st = some (.ptr 3 0)) (h8 : (opa (.tmp 8)).run st = some (.ptr 17 0)) (hU : ∀ t x, St.get (sk t) st = some x → t < 18)
    (hl1 : (evLoad P 3 (.ptr 3 0)).run st = some (.p (.int .i64) kind, [])) (hl2 : (evLoad P 47 (.ptr 3 0)).run st = some (M, []))
    (hlook : ∀ p, Instr.findNow (.int .i64) (.int .i64 kind) (esH p).toList 0 = some (some (j, .func (.func f) #[p] #[]))) (hck : callOk P f = true)
    (he : (evCall (SpecOk P) { (default : Oper) with dst := some 32 } f [.ptr 17 0, M] h).run ((sk 31, some (.v M)) :: st) = some e) (hcs : All e.c)
    (hfresh : ∀ r ∈ e.n, ∀ k x, St.get k ((sk 31, some (.v M)) :: st) = some x → r ∉ x.refs) (hkp : ∀ r ∈ e.n, r ∉ c.kp)
    (hQ : ∀ ρ' a' w', SimR c ρ' (e.w ++ (sk 31, some (.v M)) :: st) a' w' → Q .normal a' w') : wpOps P opsH Q (List.range opsH.size) a w := by
  rw [opsH_size]
  have hz : a.tmps.size = 45 := by rw [sim.size, hn]
  have u97 : P.underlying 97 = some (.map 3 96) := by kernel_rfl
  have u3 : P.underlying 3 = some (.int .i64) := by kernel_rfl
  show wpOps P opsH Q [0, 1, 2, 3, 4, 5, 6, 7, 8, 9, 10, 11, 12, 13, 14, 15, 16, 17, 18] a w
  refine wp_val (d := 18) (x := .makeMap 97 none) (v := .map (some w.heap.size)) (w' := w.alloc (.map #[] 0)) (by kernel_rfl) (fun o ho => ?_) ?_
  · simp only [execOp, ho, Option.map_none, Sem.run_bind, run_makeMap_plain, Result.andThen_ok, Sem.run_pure]
  have hal := Go.MapKept.heap_alloc w (.map #[] 0)
  have g0 : HInv a (a.put (some 18) (.map (some w.heap.size))) w (w.alloc (.map #[] 0)) w.heap.size #[] 0 := by
    refine ⟨fun t ht => ?_, put_size .., put_dfr .., ?_, hal.2, ?_, rfl, rfl, rfl, hal.1, rfl⟩
    · rw [put_getD _ _ _ _ (by omega), if_neg (by omega)]
    · rw [put_getD _ _ _ _ (by omega), if_pos rfl]
    · show w.heap.size ≤ (w.heap.push _).size; rw [Array.size_push]; omega
  refine g0.triple (d1 := 19) (d2 := 20) (f := 53) (n := 1) (by omega) (by omega) (by omega) (by omega) (by kernel_rfl) (by kernel_rfl) (by kernel_rfl) u97 u3 rfl fun a1 w1 g1 => ?_
  refine g1.triple (d1 := 21) (d2 := 22) (f := 54) (n := 2) (by omega) (by omega) (by omega) (by omega) (by kernel_rfl) (by kernel_rfl) (by kernel_rfl) u97 u3 rfl fun a2 w2 g2 => ?_
  refine g2.triple (d1 := 23) (d2 := 24) (f := 55) (n := 3) (by omega) (by omega) (by omega) (by omega) (by kernel_rfl) (by kernel_rfl) (by kernel_rfl) u97 u3 rfl fun a3 w3 g3 => ?_
  refine g3.triple (d1 := 25) (d2 := 26) (f := 56) (n := 4) (by omega) (by omega) (by omega) (by omega) (by kernel_rfl) (by kernel_rfl) (by kernel_rfl) u97 u3 rfl fun a4 w4 g4 => ?_
  refine wp_val (d := 27) (x := .move (.tmp 18)) (v := .map (some w.heap.size)) (w' := w4) (by kernel_rfl) (fun o ho => ?_) ?_
  · have : a4.eval (.tmp 18) = .map (some w.heap.size) := g4.mp
    simp only [execOp, ho, this, Sem.run_pure]
  have g5 := g4.put (d := 27) (by omega) (by omega) (by omega) (.map (some w.heap.size))
  have m27 : (a4.put (some 27) (.map (some w.heap.size))).tmps.getD 27 undef = .map (some w.heap.size) := by rw [put_getD _ _ _ _ (by rw [g4.sz]; omega), if_pos rfl]
  obtain ⟨a5, ha5⟩ : ∃ a5, a5 = a4.put (some 27) (.map (some w.heap.size)) := ⟨_, rfl⟩
  rw [← ha5] at g5 m27 ⊢
  have hsim : ∀ {a' : Act}, HInv a a' w w4 w.heap.size (esH (a.tmps.getD 8 undef)) 4 → SimR c ρ st a' w4 := fun {a'} g => sim.ext g.heap g.hsz g.os g.tape g.output (fun t x hx => g.tm t (.inl (hU t x hx))) g.df g.sz
  have s5 := hsim g5
  have p3 := opa_sound s5 h3
  obtain ⟨u1, r1, v1⟩ := fieldAddr_sound (P := P) (w := w4) (t := 47) (f := 0) p3 (R := .ptr 3 0) (by kernel_rfl)
  refine wp_val (d := 28) (x := .fieldAddr 47 (.tmp 3) 0) (v := u1) (w' := w4) (by kernel_rfl) (fun o ho => ?_) ?_
  · simp only [execOp, ho, Sem.run_bind, r1, Result.andThen_ok, Sem.run_pure]
  have g6 := g5.put (d := 28) (by omega) (by omega) (by omega) u1
  have m28 : (a5.put (some 28) u1).tmps.getD 28 undef = u1 := by rw [put_getD _ _ _ _ (by rw [g5.sz]; omega), if_pos rfl]
  have m27' : (a5.put (some 28) u1).tmps.getD 27 undef = .map (some w.heap.size) := by rw [put_getD _ _ _ _ (by rw [g5.sz]; omega), if_neg (by omega)]; exact m27
  obtain ⟨a6, ha6⟩ : ∃ a6, a6 = a5.put (some 28) u1 := ⟨_, rfl⟩
  rw [← ha6] at g6 m28 m27' ⊢
  have s6 := hsim g6
  obtain ⟨u2, r2, v2⟩ := load_sound s6 (t := 3) (by kernel_rfl) v1 hl1 (by simp)
  have := v2.p_int
  subst this
  refine wp_val (d := 29) (x := .load 3 (.tmp 28)) (v := .int .i64 kind) (w' := w4) (by kernel_rfl) (fun o ho => ?_) ?_
  · have : a6.eval (.tmp 28) = u1 := m28
    simp only [execOp, ho, this, Sem.run_bind, r2, Result.andThen_ok, Sem.run_pure]
  have g7 := g6.put (d := 29) (by omega) (by omega) (by omega) (.int .i64 kind)
  have m29 : (a6.put (some 29) (.int .i64 kind)).tmps.getD 29 undef = .int .i64 kind := by rw [put_getD _ _ _ _ (by rw [g6.sz]; omega), if_pos rfl]
  have m27'' : (a6.put (some 29) (.int .i64 kind)).tmps.getD 27 undef = .map (some w.heap.size) := by rw [put_getD _ _ _ _ (by rw [g6.sz]; omega), if_neg (by omega)]; exact m27'
  obtain ⟨a7, ha7⟩ : ∃ a7, a7 = a6.put (some 29) (.int .i64 kind) := ⟨_, rfl⟩
  rw [← ha7] at g7 m29 m27'' ⊢
  refine wp_val (d := 30) (x := .lookup 97 (.tmp 27) (.tmp 29) false) (v := .func (.func f) #[a.tmps.getD 8 undef] #[]) (w' := w4) (by kernel_rfl) (fun o ho => ?_) ?_
  · have k1 : a7.eval (.tmp 27) = .map (some w.heap.size) := m27''
    have k2 : a7.eval (.tmp 29) = .int .i64 kind := m29
    simp only [execOp, ho, k1, k2, Sem.run_bind, run_lookup_int 97 3 96 _ _ kind _ u97 u3 g7.hb (hlook _), Result.andThen_ok, Sem.run_pure]
  have g8 := g7.put (d := 30) (by omega) (by omega) (by omega) (.func (.func f) #[a.tmps.getD 8 undef] #[])
  have m30 : (a7.put (some 30) (.func (.func f) #[a.tmps.getD 8 undef] #[])).tmps.getD 30 undef = .func (.func f) #[a.tmps.getD 8 undef] #[] := by rw [put_getD _ _ _ _ (by rw [g7.sz]; omega), if_pos rfl]
  obtain ⟨a8, ha8⟩ : ∃ a8, a8 = a7.put (some 30) (.func (.func f) #[a.tmps.getD 8 undef] #[]) := ⟨_, rfl⟩
  rw [← ha8] at g8 m30 ⊢
  have s8 := hsim g8
  have p3' := opa_sound s8 h3
  have p8' := opa_sound s8 h8
  obtain ⟨u3', r3, v3⟩ := load_sound s8 (t := 47) (by kernel_rfl) p3' hl2 (by simp)
  refine wp_val (d := 31) (x := .load 47 (.tmp 3)) (v := u3') (w' := w4) (by kernel_rfl) (fun o ho => ?_) ?_
  · simp only [execOp, ho, Sem.run_bind, r3, Result.andThen_ok, Sem.run_pure]
  have s9 := s8.putSlot (d := 31) (by omega) (x := .v M) v3
  have own : Own c.base ((sk 31, some (.v M)) :: st) ρ = Own c.base st ρ := own_cons_sk _ _ _ _ _
  have e8 : a8.eval (.tmp 8) = a.tmps.getD 8 undef := g8.tm 8 (.inl (by omega))
  refine wp_method (g := 30) (m := 31) (d := 32) (f := f) (p := a.tmps.getD 8 undef) (At := #[47]) (A := .ptr 17 0) (M := M) hP (by kernel_rfl) ?_ s9 ?_ ?_ hck (by omega) he hcs hfresh hkp hQ
  · rw [put_getD _ _ _ _ (by rw [g8.sz]; omega), if_neg (by omega)]; exact m30
  · rw [own, ← e8]; exact p8'
  · rw [own, put_getD _ _ _ _ (by rw [g8.sz]; omega), if_pos rfl]; exact v3

theorem slots_lt {st : St} (h : (st.all fun y => Nat.beq (y.1 % 2) 1 || Nat.blt y.1 36) = true) : ∀ t x, St.get (sk t) st = some x → t < 18 := by
  induction st with
  | nil => intro t x hx; cases hx
  | cons y st ih =>
    obtain ⟨q, v⟩ := y
    simp only [List.all_cons, Bool.and_eq_true] at h
    intro t x hx
    by_cases hk : sk t = q
    · have h1 := h.1
      rw [← hk] at h1
      rcases Bool.or_eq_true _ _ ▸ h1 with h2 | h2
      · have := Nat.eq_of_beq_eq_true h2
        unfold sk at this
        omega
      · have := Nat.le_of_ble_eq_true h2
        unfold sk at this
        omega
    · rw [get_cons_ne _ _ hk] at hx
      exact ih h.2 t x hx

theorem hear_nil {a1 : List It} {a2 a4 a6 : Int} {a3 a5 : List Int} {a8 : ByteArray} {res : Val}
    (h : SpecOk P ⟨33, [.agg [.p (Kd.sl KI) a1], .agg [.p (Kd.int .i64) a2, .p (Kd.arr 16 (Kd.int .u8)) a3, .p (Kd.int .i64) a4, .p (Kd.arr 16 (Kd.int .u8)) a5, .p (Kd.int .i64) a6, .p (Kd.sl (Kd.arr 16 (Kd.int .u8))) [], .p Kd.str a8]], [], res, []⟩) :
    SpecOk P ⟨33, [.agg [.p (Kd.sl KI) a1], .agg [.p (Kd.int .i64) a2, .p (Kd.arr 16 (Kd.int .u8)) a3, .p (Kd.int .i64) a4, .p (Kd.arr 16 (Kd.int .u8)) a5, .p (Kd.int .i64) a6, .nilsl, .p Kd.str a8]], [], res, []⟩ := by
  intro w base ρ cargs hbase hheld hglob hrel
  refine h w base ρ cargs hbase hheld hglob ?_
  dsimp only at hrel ⊢
  match cargs, hrel with
  | [x1, x2], hrel =>
    refine ⟨hrel.1, ?_, trivial⟩
    have h2 := hrel.2.1
    rcases h2 with ⟨h1, _⟩ | ⟨hg, c, hv, hc⟩ | ⟨h1, _⟩
    · cases h1
    · refine .inr (.inl ⟨rfl, c, hv, ?_⟩)
      cases hc with
      | agg hc =>
        refine .agg (setL_sound (f := fNsl (Kd.arr 16 (Kd.int .u8))) (i := 5) (fun a ha b cc hf hr => ?_) rfl hc)
        cases a <;> try (cases hf; done)
        cases hf
        cases hr
        exact .p ⟨none, 0, rfl, Nat.le_refl _, fun _ => ⟨rfl, rfl⟩, fun ad h => by cases h⟩
    · cases h1
end Go.Proofs.K1
