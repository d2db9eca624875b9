/- The plain laws: what those Lean functions compute. No program in sight. -/
import Derived.Test.YtbcbhhpbgnmpaaaDoorP0
set_option linter.unusedVariables false
set_option linter.unusedSimpArgs false
namespace Go.Proofs.P44
open Go Go.Abs Go.Proofs Go.Proofs.K1 Go.Proofs.G44
set_option maxRecDepth 10000

theorem sel_at (σ : St) {c : Nat} (hc : c < 2) : (List.getD σ.stocks (Int.toNat (c : Int)) (Kd.dflt (Kd.pair (Kd.sl KI) Kd.unit))).1 = sel σ.a σ.b (decide (c = 1)) := by
  rw [Int.toNat_natCast]; exact sel_stocks σ c hc

theorem bears_l4 (s2 : Int → List It → List It → (List (List It × Unit)) → Option Bool) {A B : List It} (hA : Stk A) (hB : Stk B) (hlA : A.length ≤ 200) (hlB : B.length ≤ 200) (σ : St) {c : Nat} (hc : c < 2) (hS : Stk (sel σ.a σ.b (decide (c = 1)))) (hlS : (sel σ.a σ.b (decide (c = 1))).length ≤ 200)
    (hsub : ∀ x ∈ sel σ.a σ.b (decide (c = 1)), x ∈ A ++ B) : ∀ (n k i : Nat), i + n = (sel σ.a σ.b (decide (c = 1))).length → n + 2000 < k →
    antiquarylaw44_ExchangeBearsLosses_l4 s2 k (c : Int) (i : Int) A B σ.stocks = s2 ((c + 1 : Nat) : Int) A B σ.stocks
  | 0, k, i, h1, h2 => by
    obtain ⟨k, rfl⟩ : ∃ k', k = k' + 1 := ⟨k - 1, by omega⟩
    have e : (c : Int) + 1 = ((c + 1 : Nat) : Int) := by omega
    unfold antiquarylaw44_ExchangeBearsLosses_l4
    rw [if_pos (by omega), sel_at σ hc, if_neg (by simp; omega), w64 _ (by omega), e]
  | n + 1, k, i, h1, h2 => by
    obtain ⟨k, rfl⟩ : ∃ k', k = k' + 1 := ⟨k - 1, by omega⟩
    have hi : i < (sel σ.a σ.b (decide (c = 1))).length := by omega
    have e : (i : Int) + 1 = ((i + 1 : Nat) : Int) := by omega
    have hmem := List.getElem_mem hi
    have hd := hS.nm hmem
    obtain ⟨xa, _, fa, _⟩ := find_has k (by omega) hA hlA hd
    obtain ⟨xb, _, fb, _⟩ := find_has k (by omega) hB hlB hd
    have ih := bears_l4 s2 hA hB hlA hlB σ hc hS hlS hsub n k (i + 1) (by omega) (by omega)
    have l5 : antiquarylaw44_ExchangeBearsLosses_l5 s2 (antiquarylaw44_ExchangeBearsLosses_l4 s2 k) k (c : Int) (i : Int) false A B σ.stocks = s2 ((c + 1 : Nat) : Int) A B σ.stocks := by
      unfold antiquarylaw44_ExchangeBearsLosses_l5
      rw [if_neg (by simp), w64 _ (by omega), e, ih]
    unfold antiquarylaw44_ExchangeBearsLosses_l4
    rw [if_pos (by omega), sel_at σ hc, if_pos (by simp; omega), if_pos (by omega), Int.toNat_natCast i, getD_get _ i hi, fa, Option.bind_some]
    cases ha : hasB A (sel σ.a σ.b (decide (c = 1)))[i].1 with
    | true => rw [if_pos rfl, if_neg (by simp)]; exact l5
    | false =>
      have hb : hasB B (sel σ.a σ.b (decide (c = 1)))[i].1 = true := by
        rcases List.mem_append.1 (hsub _ hmem) with g | g
        · rw [hasB_mem g] at ha; cases ha
        · exact hasB_mem g
      rw [if_pos (by simp), fb, Option.bind_some, hb, if_pos rfl, show decide ((xb : Int) < 0) = false by simp]
      exact l5

theorem bears_l3 (s2 : Int → List It → List It → (List (List It × Unit)) → Option Bool) {A B : List It} (hA : Stk A) (hB : Stk B) (hlA : A.length ≤ 200) (hlB : B.length ≤ 200) (σ : St) {c : Nat} (hc : c < 2) (hS : Stk (sel σ.a σ.b (decide (c = 1)))) (hlS : (sel σ.a σ.b (decide (c = 1))).length ≤ 200)
    (hsub : ∀ x ∈ sel σ.a σ.b (decide (c = 1)), x ∈ A ++ B) (W : List It) (hW : Stk W) (hlW : W.length ≤ 200) (hkept : ∀ x ∈ W, x ∈ sel σ.a σ.b (decide (c = 1))) : ∀ (n k i : Nat), i + n = W.length → n + 3000 < k →
    antiquarylaw44_ExchangeBearsLosses_l3 s2 k (c : Int) (i : Int) A B σ.stocks W = s2 ((c + 1 : Nat) : Int) A B σ.stocks
  | 0, k, i, h1, h2 => by
    obtain ⟨k, rfl⟩ : ∃ k', k = k' + 1 := ⟨k - 1, by omega⟩
    unfold antiquarylaw44_ExchangeBearsLosses_l3
    rw [if_neg (by simp; omega)]
    exact bears_l4 s2 hA hB hlA hlB σ hc hS hlS hsub (sel σ.a σ.b (decide (c = 1))).length k 0 (by omega) (by omega)
  | n + 1, k, i, h1, h2 => by
    obtain ⟨k, rfl⟩ : ∃ k', k = k' + 1 := ⟨k - 1, by omega⟩
    have hi : i < W.length := by omega
    have e : (i : Int) + 1 = ((i + 1 : Nat) : Int) := by omega
    have hmem := List.getElem_mem hi
    obtain ⟨x, _, f, _⟩ := find_has k (by omega) hS hlS (hW.nm hmem)
    have hb := hasB_mem (hkept _ hmem)
    have ih := bears_l3 s2 hA hB hlA hlB σ hc hS hlS hsub W hW hlW hkept n k (i + 1) (by omega) (by omega)
    unfold antiquarylaw44_ExchangeBearsLosses_l3
    rw [if_pos (by simp; omega), if_pos (by omega), if_pos (by omega), sel_at σ hc, Int.toNat_natCast i, getD_get W i hi, f, Option.bind_some, hb, if_pos rfl, if_neg (by simp), w64 _ (by omega), e]
    exact ih

theorem pureExchangeBearsLosses (y0 : List ByteArray) (y1 : List ByteArray) (y2 : List Int) (f0 : Kd.Fits (Kd.sl Kd.str) y0) (f1 : Kd.Fits (Kd.sl Kd.str) y1) (f2 : Kd.Fits (Kd.sl (Kd.int .u8)) y2) : ∃ k, antiquarylaw44_ExchangeBearsLosses k y0 y1 y2 = some true := by
  refine ⟨100002 + 1, ?_⟩
  have hord : ∀ x ∈ y2, 0 ≤ x ∧ x < 256 := fun x hx => by
    obtain ⟨h1, h2⟩ := f2.2 x hx
    have h1' : (0 : Int) ≤ x := h1
    have h2' : (x : Int) ≤ 255 := h2
    omega
  have sane := sanity_ge (k := 100002 + 1) (by omega)
  have l0t : antiquarylaw44_ExchangeBearsLosses_l0 (100002 + 1) y0 y1 y2 true = some true := by
    unfold antiquarylaw44_ExchangeBearsLosses_l0
    rw [if_pos rfl, sane]; rfl
  obtain ⟨b0, g0, w0⟩ := few_texts y0 (100002 + 1) (by omega)
  obtain ⟨b1, g1, w1⟩ := few_texts y1 (100002 + 1) (by omega)
  unfold antiquarylaw44_ExchangeBearsLosses
  rw [g0, Option.bind_some, g1, Option.bind_some]
  cases b0 with
  | false => rw [if_pos (by simp)]; exact l0t
  | true =>
    rw [if_neg (by simp)]
    cases b1 with
    | false => rw [if_pos (by simp)]; exact l0t
    | true =>
      rw [if_neg (by simp)]
      obtain ⟨n0, s0⟩ := w0 rfl
      obtain ⟨n1, s1⟩ := w1 rfl
      by_cases h300 : y2.length > 300
      · rw [show decide ((y2.length : Int) > 300) = true by simp; omega]; exact l0t
      · rw [show decide ((y2.length : Int) > 300) = false by simp; omega]
        obtain ⟨hA, lA⟩ := ofA_stk s0
        obtain ⟨hB, lB⟩ := ofA_stk s1
        obtain ⟨σ, hr, hkept, hok, _⟩ := run_start hA hB (by omega) y2 (by omega) hord true (100002 + 1) (by omega) (Kept (ofA y0) (ofA y1)) ⟨fun x hx => hx, fun x hx => hx⟩ (fun σ i t c m h1 h2 h3 h4 h5 _ _ => (h1.out i).hearN c m t)
        have la := ok_len hok.sa hok.ia
        have lb := ok_len hok.sb hok.ib
        unfold antiquarylaw44_ExchangeBearsLosses_l0
        rw [if_neg (by simp), code_of44 y0 (by omega) s0 _ (by omega), Option.bind_some, code_of44 y1 (by omega) s1 _ (by omega), Option.bind_some]
        dsimp only
        rw [if_neg (by simp)]
        unfold antiquarylaw44_ExchangeBearsLosses_l1
        rw [if_neg (by simp), hr, Option.bind_some]
        dsimp only
        by_cases hw : σ.w = []
        · rw [decide_eq_true hw, if_neg (by simp), if_neg (by simp)]
          -- the second exchange
          have last : ∀ k, 100000 ≤ k → antiquarylaw44_ExchangeBearsLosses_l2 (k + 1) ((2 : Nat) : Int) (ofA y0) (ofA y1) σ.stocks = some true := fun k hk => by
            obtain ⟨τ, hr2, hfull, hok2, _⟩ := run39_start hok.sa hok.sb (by omega) false k (by omega) (Full σ.a σ.b) (full_start hok.sa (by omega)) (fun σ i t c m h1 h2 h3 h4 h5 _ _ => full_step (by omega) h1 h2 h3 h4 (by
              rcases Nat.eq_zero_or_pos t with g | g
              · have := h5 g; cases this
              · exact g))
            have la2 := ok_len hok2.sa hok2.ia
            have lb2 := ok_len hok2.sb hok2.ib
            have sane2 := sanity_ge hk
            unfold antiquarylaw44_ExchangeBearsLosses_l2
            rw [if_neg (by simp), sel_stocks σ 0 (by omega), sel_stocks σ 1 (by omega)]
            rw [show sel σ.a σ.b (decide (0 = 1)) = σ.a from rfl, show sel σ.a σ.b (decide (1 = 1)) = σ.b from rfl, hr2, Option.bind_some, sane2, Option.bind_some, if_pos rfl]
            dsimp only
            rw [if_pos rfl]
            by_cases hw2 : τ.w = []
            · rw [decide_eq_true hw2, if_neg (by simp), sel_stocks τ 0 (by omega), sel_stocks τ 1 (by omega)]
              rw [show sel τ.a τ.b (decide (0 = 1)) = τ.a from rfl, show sel τ.a τ.b (decide (1 = 1)) = τ.b from rfl]
              obtain ⟨c1, k1, k2⟩ := coll hok.sa hok.sb (by omega) (by omega) k (by omega)
              obtain ⟨c2, k3, k4⟩ := coll hok.sb hok.sa (by omega) (by omega) k (by omega)
              by_cases hc : c1 = false ∧ c2 = false
              · have hend := full_end hfull hok.sa hok.sb hok2 hw2 (k2 hc.1) (k4 hc.2)
                have eab : τ.a = τ.b := stk_ext hok2.sa hok2.sb fun x => (hend false x).trans (hend true x).symm
                rw [eab, same_refl _ (by omega) _ (by omega), Option.bind_some, if_pos rfl]
              · obtain ⟨b, e1⟩ := same_total k (by omega) τ.a τ.b (by omega)
                rw [e1, Option.bind_some]
                cases b with
                | true => rw [if_pos rfl]
                | false =>
                  rw [if_neg (by simp), k1, Option.bind_some]
                  cases c1 with
                  | true => rw [if_pos rfl]
                  | false =>
                    rw [if_neg (by simp), k3, Option.bind_some]
                    cases c2 with
                    | true => rfl
                    | false => exact absurd ⟨rfl, rfl⟩ hc
            · rw [decide_eq_false hw2, if_pos (by simp)]
          have second : antiquarylaw44_ExchangeBearsLosses_l2 (100001 + 1) ((1 : Nat) : Int) (ofA y0) (ofA y1) σ.stocks = some true := by
            unfold antiquarylaw44_ExchangeBearsLosses_l2
            rw [if_pos (by simp), if_pos (by simp), if_pos (by simp)]
            refine Eq.trans (bears_l3 (antiquarylaw44_ExchangeBearsLosses_l2 100001) hA hB (by omega) (by omega) σ (c := 1) (by omega) hok.sb (by show σ.b.length ≤ 200; omega) hok.ib (ofA y1) hB (by omega) hkept.b (ofA y1).length 100001 0 (by omega) (by omega)) ?_
            exact last 100000 (by omega)
          unfold antiquarylaw44_ExchangeBearsLosses_l2
          rw [if_pos (by simp), if_pos (by simp), if_pos (by simp)]
          refine Eq.trans (bears_l3 (antiquarylaw44_ExchangeBearsLosses_l2 100002) hA hB (by omega) (by omega) σ (c := 0) (by omega) hok.sa (by show σ.a.length ≤ 200; omega) hok.ia (ofA y0) hA (by omega) hkept.a (ofA y0).length 100002 0 (by omega) (by omega)) ?_
          exact second
        · rw [decide_eq_false hw, if_pos (by simp), sane]; rfl

end Go.Proofs.P44
