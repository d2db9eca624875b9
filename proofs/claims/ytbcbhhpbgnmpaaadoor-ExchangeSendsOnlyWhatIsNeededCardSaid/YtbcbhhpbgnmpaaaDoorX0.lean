/- The engine: an abstract machine that runs over the model's code, and its soundness. No condition. -/
import Derived.Orders
import Derived.KernelRfl
import Derived.Below
import Derived.Deep.MidRow
import Derived.Laws.AppendOwn
import Derived.Deep.Upon
namespace Go.Abs

def All2 {α β : Type} (R : α → β → Prop) : List α → List β → Prop
  | [], [] => True
  | a :: as, b :: bs => R a b ∧ All2 R as bs
  | _, _ => False

theorem All2.length {α β : Type} {R : α → β → Prop} : ∀ {as : List α} {bs : List β}, All2 R as bs → as.length = bs.length
  | [], [], _ => rfl
  | _ :: _, _ :: _, h => by simp [All2.length h.2]
  | [], _ :: _, h => h.elim
  | _ :: _, [], h => h.elim

theorem All2.mono {α β : Type} {R R' : α → β → Prop} (hR : ∀ a b, R a b → R' a b) : ∀ {as : List α} {bs : List β}, All2 R as bs → All2 R' as bs
  | [], [], _ => trivial
  | _ :: _, _ :: _, h => ⟨hR _ _ h.1, All2.mono hR h.2⟩
  | [], _ :: _, h => h.elim
  | _ :: _, [], h => h.elim

theorem All2.append {α β : Type} {R : α → β → Prop} : ∀ {as as' : List α} {bs bs' : List β}, All2 R as bs → All2 R as' bs' → All2 R (as ++ as') (bs ++ bs')
  | [], _, [], _, _, h' => h'
  | _ :: _, _, _ :: _, _, h, h' => ⟨h.1, All2.append h.2 h'⟩
  | [], _, _ :: _, _, h, _ => h.elim
  | _ :: _, _, [], _, h, _ => h.elim

theorem All2.split {α β : Type} {R : α → β → Prop} : ∀ {as as' : List α} {cs : List β}, All2 R (as ++ as') cs → ∃ bs bs', cs = bs ++ bs' ∧ All2 R as bs ∧ All2 R as' bs'
  | [], _, cs, h => ⟨[], cs, rfl, trivial, h⟩
  | _ :: as, as', [], h => h.elim
  | a :: as, as', c :: cs, h => by
    obtain ⟨bs, bs', rfl, h1, h2⟩ := All2.split (as := as) h.2
    exact ⟨c :: bs, bs', rfl, ⟨h.1, h1⟩, h2⟩

theorem All2.get {α β : Type} {R : α → β → Prop} : ∀ {as : List α} {bs : List β}, All2 R as bs → ∀ (i : Nat) (a : α), as[i]? = some a → ∃ b, bs[i]? = some b ∧ R a b
  | [], [], _, i, a, h => by simp at h
  | x :: as, y :: bs, h, 0, a, ha => by
    simp at ha; subst ha; exact ⟨y, rfl, h.1⟩
  | x :: as, y :: bs, h, i + 1, a, ha => by
    have := All2.get h.2 i a (by simpa using ha)
    simpa using this
  | [], _ :: _, h, _, _, _ => h.elim
  | _ :: _, [], h, _, _, _ => h.elim

theorem All2.take {α β : Type} {R : α → β → Prop} : ∀ {as : List α} {bs : List β}, All2 R as bs → ∀ n, All2 R (as.take n) (bs.take n)
  | [], [], _, n => by simp [All2]
  | _ :: _, _ :: _, _, 0 => trivial
  | _ :: _, _ :: _, h, n + 1 => ⟨h.1, All2.take h.2 n⟩
  | [], _ :: _, h, _ => h.elim
  | _ :: _, [], h, _ => h.elim

theorem All2.drop {α β : Type} {R : α → β → Prop} : ∀ {as : List α} {bs : List β}, All2 R as bs → ∀ n, All2 R (as.drop n) (bs.drop n)
  | [], [], _, n => by simp [All2]
  | _ :: _, _ :: _, h, 0 => h
  | _ :: _, _ :: _, h, n + 1 => All2.drop h.2 n
  | [], _ :: _, h, _ => h.elim
  | _ :: _, [], h, _ => h.elim

theorem All2.set {α β : Type} {R : α → β → Prop} : ∀ {as : List α} {bs : List β}, All2 R as bs → ∀ (i : Nat) (a : α) (b : β), R a b → All2 R (as.set i a) (bs.set i b)
  | [], [], _, i, a, b, _ => by simp [All2]
  | _ :: _, _ :: _, h, 0, a, b, hr => ⟨hr, h.2⟩
  | _ :: _, _ :: _, h, i + 1, a, b, hr => ⟨h.1, All2.set h.2 i a b hr⟩
  | [], _ :: _, h, _, _, _, _ => h.elim
  | _ :: _, [], h, _, _, _, _ => h.elim

inductive Kd where
  | int (k : IntKind) | bool | str | sl (e : Kd) | unit | pair (a b : Kd) | arr (n : Nat) (e : Kd)
  deriving DecidableEq, Inhabited

@[reducible] def Kd.T : Kd → Type
  | .int _ => Int
  | .bool => Bool
  | .str => ByteArray
  | .sl e => List e.T
  | .unit => Unit
  | .pair a b => a.T × b.T
  | .arr _ e => List e.T

def Kd.size : Kd → Nat
  | .int _ | .bool | .str | .sl _ => 1
  | .unit => 0
  | .pair a b => a.size + b.size
  | .arr n e => n * e.size

def Kd.dflt : (k : Kd) → k.T
  | .int _ => (0 : Int)
  | .bool => false
  | .str => (⟨#[]⟩ : ByteArray)
  | .sl _ => []
  | .unit => ()
  | .pair a b => (a.dflt, b.dflt)
  | .arr n e => List.replicate n e.dflt

def Kd.agg : Kd → Bool
  | .unit | .pair .. | .arr .. => true
  | _ => false

def Kd.flat : Kd → Bool
  | .sl _ => false
  | .pair a b => a.flat && b.flat
  | .arr _ e => e.flat
  | _ => true

def Cells (O : Nat → Prop) (w : World) : (k : Kd) → k.T → List Value → Prop
  | .int k, n, c => c = [.int k n]
  | .bool, b, c => c = [.bool b]
  | .str, s, c => c = [.string s]
  | .sl e, l, c => ∃ A cap, c = [.slice A (List.length l) cap] ∧ List.length l ≤ cap ∧ (A = none → l = [] ∧ cap = 0) ∧
      ∀ ad, A = some ad → ∃ css, All2 (Cells O w e) l css ∧ (css.flatten ≠ [] → ad.spot = none ∧ ¬ O ad.block) ∧ w.rangeAt ad.block ad.off css.flatten
  | .unit, _, c => c = []
  | .pair a b, x, c => ∃ c1 c2, c = c1 ++ c2 ∧ Cells O w a x.1 c1 ∧ Cells O w b x.2 c2
  | .arr n e, l, c => List.length l = n ∧ ∃ css, c = css.flatten ∧ All2 (Cells O w e) l css

theorem Cells.length {O : Nat → Prop} {w : World} : ∀ {k : Kd} {x : k.T} {c : List Value}, Cells O w k x c → c.length = k.size
  | .int _, _, _, h => by simp [Cells] at h; subst h; rfl
  | .bool, _, _, h => by simp [Cells] at h; subst h; rfl
  | .str, _, _, h => by simp [Cells] at h; subst h; rfl
  | .sl _, _, _, h => by obtain ⟨_, _, rfl, _⟩ := h; rfl
  | .unit, _, _, h => by simp [Cells] at h; subst h; rfl
  | .pair a b, _, _, h => by
    obtain ⟨_, _, rfl, h1, h2⟩ := h
    simp [Kd.size, Cells.length h1, Cells.length h2]
  | .arr n e, l, _, h => by
    obtain ⟨hn, css, rfl, h⟩ := h
    have key : ∀ (l : List e.T) (css : List (List Value)), All2 (Cells O w e) l css → css.flatten.length = l.length * e.size := by
      intro l
      induction l with
      | nil => intro css h; cases css with
        | nil => simp
        | cons => exact h.elim
      | cons x l ih => intro css h; cases css with
        | nil => exact h.elim
        | cons c css =>
          simp only [List.flatten_cons, List.length_append, ih css h.2, Cells.length h.1, List.length_cons, Nat.add_mul, Nat.one_mul]
          omega
    rw [key l css h, hn]; rfl

theorem flatten_length {O : Nat → Prop} {w : World} {e : Kd} : ∀ {l : List e.T} {css : List (List Value)}, All2 (Cells O w e) l css → css.flatten.length = l.length * e.size
  | [], [], _ => by simp
  | x :: l, c :: css, h => by
    simp only [List.flatten_cons, List.length_append, flatten_length h.2, Cells.length h.1, List.length_cons, Nat.add_mul, Nat.one_mul]
    omega
  | [], _ :: _, h => h.elim
  | _ :: _, [], h => h.elim

theorem Cells.one {O : Nat → Prop} {w : World} : ∀ {k : Kd} {x : k.T} {c : List Value}, Cells O w k x c → ∀ v ∈ c, v.oneCell' = true
  | .int _, _, _, h => by simp [Cells] at h; subst h; simp [Value.oneCell']
  | .bool, _, _, h => by simp [Cells] at h; subst h; simp [Value.oneCell']
  | .str, _, _, h => by simp [Cells] at h; subst h; simp [Value.oneCell']
  | .sl _, _, _, h => by obtain ⟨_, _, rfl, _⟩ := h; simp [Value.oneCell']
  | .unit, _, _, h => by simp [Cells] at h; subst h; simp
  | .pair a b, _, _, h => by
    obtain ⟨_, _, rfl, h1, h2⟩ := h
    intro v hv
    rcases List.mem_append.1 hv with hv | hv
    · exact Cells.one h1 v hv
    · exact Cells.one h2 v hv
  | .arr n e, l, _, h => by
    obtain ⟨hn, css, rfl, h⟩ := h
    have key : ∀ (l : List e.T) (css : List (List Value)), All2 (Cells O w e) l css → ∀ v ∈ css.flatten, v.oneCell' = true := by
      intro l
      induction l with
      | nil => intro css h; cases css with
        | nil => simp
        | cons => exact h.elim
      | cons x l ih => intro css h; cases css with
        | nil => exact h.elim
        | cons c css =>
          intro v hv
          simp only [List.flatten_cons, List.mem_append] at hv
          rcases hv with hv | hv
          · exact Cells.one h.1 v hv
          · exact ih css h.2 v hv
    exact key l css h

theorem flatten_one {O : Nat → Prop} {w : World} {e : Kd} : ∀ {l : List e.T} {css : List (List Value)}, All2 (Cells O w e) l css → ∀ v ∈ css.flatten, v.oneCell' = true
  | [], [], _ => by simp
  | x :: l, c :: css, h => by
    intro v hv
    simp only [List.flatten_cons, List.mem_append] at hv
    rcases hv with hv | hv
    · exact Cells.one h.1 v hv
    · exact flatten_one h.2 v hv
  | [], _ :: _, h => h.elim
  | _ :: _, [], h => h.elim

def Stays (O : Nat → Prop) (w : World) (O' : Nat → Prop) (w' : World) : Prop :=
  ∀ b, b < w.heap.size → ¬ O b → ¬ O' b ∧ w'.heap[b]? = w.heap[b]?

theorem Stays.refl (O : Nat → Prop) (w : World) : Stays O w O w := fun _ _ h => ⟨h, rfl⟩
theorem rangeAt_stays {O O' : Nat → Prop} {w w' : World} (hs : Stays O w O' w') {b o : Nat} {cs : List Value} (hO : ¬ O b) (h : w.rangeAt b o cs) : w'.rangeAt b o cs := by
  intro j v hv
  have hc := h j v hv
  have hlt := World.block_lt_of_cell? w _ hc
  rw [World.cell?_of_block (w := w) (hs b hlt hO).2]
  exact hc

theorem Cells.stays {O O' : Nat → Prop} {w w' : World} (hs : Stays O w O' w') : ∀ {k : Kd} {x : k.T} {c : List Value}, Cells O w k x c → Cells O' w' k x c
  | .int _, _, _, h => by simpa [Cells] using h
  | .bool, _, _, h => by simpa [Cells] using h
  | .str, _, _, h => by simpa [Cells] using h
  | .sl e, l, _, h => by
    obtain ⟨A, cap, rfl, hc, hA, h⟩ := h
    refine ⟨A, cap, rfl, hc, hA, fun ad had => ?_⟩
    obtain ⟨css, h3, h1, h4⟩ := h ad had
    have h3' : All2 (Cells O' w' e) l css := All2.mono (fun a b hab => Cells.stays hs hab) h3
    cases hv : css.flatten with
    | nil => exact ⟨css, h3', fun hne => absurd hv hne, by rw [hv]; intro j v hv; simp at hv⟩
    | cons v r =>
      obtain ⟨h1, h2⟩ := h1 (by rw [hv]; simp)
      have hcell := h4 0 v (by rw [hv]; rfl)
      have hlt := World.block_lt_of_cell? w _ hcell
      exact ⟨css, h3', fun _ => ⟨h1, (hs _ hlt h2).1⟩, rangeAt_stays hs h2 h4⟩
  | .unit, _, _, h => by simpa [Cells] using h
  | .pair a b, _, _, h => by
    obtain ⟨c1, c2, rfl, h1, h2⟩ := h
    exact ⟨c1, c2, rfl, Cells.stays hs h1, Cells.stays hs h2⟩
  | .arr n e, l, _, h => by
    obtain ⟨hn, css, rfl, h⟩ := h
    exact ⟨hn, css, rfl, All2.mono (fun a b hab => Cells.stays hs hab) h⟩
end Go.Abs
namespace Go.Abs

inductive AV where
  | p (k : Kd) (x : k.T)
  | nilsl
  | und
  | agg (cs : List AV)
  /-- a pointer into a box: the box, the cell -/
  | ptr (r off : Nat)
  /-- a pointer into an element of a slice that is only read -/
  | eptr (e : Kd) (l : List e.T) (i off : Nat)
  /-- a pointer into an element of an owned row -/
  | rptr (e : Kd) (r i off : Nat)
  /-- the first n elements of an owned row -/
  | row (r n : Nat)
  /-- elements lo to lo + n of an owned row -/
  | rsuf (e : Kd) (r lo n : Nat)
  | fn (f : Nat) (caps : List AV)
  /-- a slice that is only read, and is not nil -/
  | nn (e : Kd) (l : List e.T)
  /-- a pointer into element i of the array of n elements that begins at cell off of a box -/
  | aptr (e : Kd) (r off n i o : Nat)
  /-- elements lo to lo + m of such an array, as a slice -/
  | bsl (e : Kd) (r off n lo m : Nat)
  deriving Inhabited

inductive Val where
  | v (a : AV)
  | t (as : List AV)
  | box (cs : List AV)
  | row (e : Kd) (et : Nat) (l : List e.T)
  deriving Inhabited

inductive Loc where
  | box (b : Nat)
  | row (v : Value)

def Loc.block : Loc → Option Nat
  | .box b => some b
  | .row v => v.ownBlock

def isNilSl : Value → Bool
  | .slice none _ _ => true
  | _ => false

def rowVal (v : Value) (n : Nat) : Value := match v with | .slice a _ c => .slice a n c | v => v

def AV.isAgg : AV → Bool
  | .p k _ => k.agg
  | .agg _ => true
  | _ => false

def AV.size : AV → Nat
  | .p k _ => k.size
  | .agg cs => sizes cs
  | .und => 0
  | _ => 1
where sizes : List AV → Nat
  | [] => 0
  | a :: as => a.size + sizes as

def AV.ones (cs : List AV) : Bool := cs.all fun a => a.size == 1 && !a.isAgg

section
variable (O : Nat → Prop) (ρ : Nat → Loc) (w : World)
mutual
inductive CRel : AV → List Value → Prop where
  | p {k : Kd} {x : k.T} {c : List Value} (h : Cells O w k x c) : CRel (.p k x) c
  | nilsl : CRel .nilsl [.slice none 0 0]
  | agg {cs : List AV} {c : List Value} (h : CsRel cs c) : CRel (.agg cs) c
  | ptr {r off b : Nat} (h : ρ r = .box b) : CRel (.ptr r off) [.pointer (some ⟨b, off, none⟩)]
  | eptr {e : Kd} {l : List e.T} {i off : Nat} {ad : Addr} {css : List (List Value)} (h : All2 (Cells O w e) l css) (hb : css.flatten ≠ [] → ¬ O ad.block)
      (hc : w.rangeAt ad.block ad.off css.flatten) (hi : i < l.length) : CRel (.eptr e l i off) [.pointer (some ⟨ad.block, ad.off + i * e.size + off, none⟩)]
  | rptr {e : Kd} {r i off b c n : Nat} (h : ρ r = .row (.slice (some ⟨b, 0, none⟩) n c)) : CRel (.rptr e r i off) [.pointer (some ⟨b, i * e.size + off, none⟩)]
  | row {r n m c : Nat} {a : Option Addr} (h : ρ r = .row (.slice a m c)) (hn : n ≤ m) : CRel (.row r n) [.slice a n c]
  | rsuf {e : Kd} {r lo n m c c' : Nat} {a a0 : Option Addr} (h : ρ r = .row (.slice a0 m c)) (ha : 0 < n → ∃ b, a0 = some ⟨b, 0, none⟩ ∧ a = some ⟨b, lo * e.size, none⟩) (hn : lo + n ≤ m) (hc : n ≤ c') : CRel (.rsuf e r lo n) [.slice a n c']
  | fn {f : Nat} {caps : List AV} {cs : List Value} (h : CsRel caps cs) (hl : AV.ones caps = true) : CRel (.fn f caps) [.func (.func f) #[] cs.toArray]
  | nn {e : Kd} {l : List e.T} {v : Value} (h : Cells O w (.sl e) l [v]) (hn : isNilSl v = false) : CRel (.nn e l) [v]
  | aptr {e : Kd} {r off n i o b : Nat} (h : ρ r = .box b) (hi : i < n) : CRel (.aptr e r off n i o) [.pointer (some ⟨b, off + i * e.size + o, none⟩)]
  | bsl {e : Kd} {r off n lo m b : Nat} {ad : Addr} (h : ρ r = .box b) (ha : lo < n → ad = ⟨b, off + lo * e.size, none⟩) (hm : lo + m ≤ n) : CRel (.bsl e r off n lo m) [.slice (some ad) m (n - lo)]
inductive CsRel : List AV → List Value → Prop where
  | nil : CsRel [] []
  | cons {a : AV} {as : List AV} {c1 c2 : List Value} (h1 : CRel a c1) (h2 : CsRel as c2) : CsRel (a :: as) (c1 ++ c2)
end
end

def VRel (O : Nat → Prop) (ρ : Nat → Loc) (w : World) (a : AV) (v : Value) : Prop :=
  (a = .und ∧ v = undef) ∨ (a.isAgg = true ∧ ∃ c : List Value, v = .agg c.toArray ∧ CRel O ρ w a c) ∨ (a.isAgg = false ∧ CRel O ρ w a [v])

def SRel (O : Nat → Prop) (ρ : Nat → Loc) (w : World) (x : Val) (v : Value) : Prop :=
  match x with
  | .v a => VRel O ρ w a v
  | .t as => ∃ vs : List Value, v = .tuple vs.toArray ∧ All2 (VRel O ρ w) as vs
  | _ => True

def ERel (O : Nat → Prop) (ρ : Nat → Loc) (w : World) (x : Val) (l : Loc) : Prop :=
  match x with
  | .box cs => ∃ b c t, l = .box b ∧ w.heap[b]? = some (.cells c t (0, 0)) ∧ CsRel O ρ w cs c.toList
  | .row e et xs => ∃ v css, l = .row v ∧ All2 (Cells O w e) xs css ∧ w.ownsRow 0 et e.size v xs.length css.flatten
  | _ => True

abbrev St := List (Nat × Option Val)

def St.get (k : Nat) : St → Option Val
  | [] => none
  | (k', v) :: r => match Nat.beq k k' with
    | true => v
    | false => St.get k r

def sk (t : Nat) : Nat := 2 * t
def ek (r : Nat) : Nat := 2 * r + 1


mutual
def AV.refs : AV → List Nat
  | .ptr r _ | .rptr _ r _ _ | .row r _ | .rsuf _ r _ _ | .aptr _ r _ _ _ _ | .bsl _ r _ _ _ _ => [r]
  | .agg cs | .fn _ cs => AV.refsL cs
  | _ => []
def AV.refsL : List AV → List Nat
  | [] => []
  | a :: as => a.refs ++ AV.refsL as
end

def Val.refs : Val → List Nat
  | .v a => a.refs
  | .t as | .box as => AV.refsL as
  | .row .. => []

mutual
theorem CRel.stays {O O' : Nat → Prop} {ρ ρ' : Nat → Loc} {w w' : World} (hs : Stays O w O' w') {a : AV} {c : List Value}
    (hρ : ∀ r ∈ a.refs, ρ' r = ρ r) (h : CRel O ρ w a c) : CRel O' ρ' w' a c := match a, c, hρ, h with
  | _, _, _, .p h => .p (h.stays hs)
  | _, _, _, .nilsl => .nilsl
  | _, _, hρ, .agg h => .agg (CsRel.stays hs (by simpa [AV.refs] using hρ) h)
  | _, _, hρ, .ptr h => .ptr (by rw [hρ _ (by simp [AV.refs])]; exact h)
  | .eptr e l i off, _, hρ, .eptr (ad := ad) (css := css) h hb hc hi => by
    have h' : All2 (Cells O' w' e) l css := All2.mono (fun _ _ hab => Cells.stays hs hab) h
    cases hv : css.flatten with
    | nil => exact .eptr (css := css) h' (fun hne => absurd hv hne) (by rw [hv]; intro j v hv; simp at hv) hi
    | cons v r =>
      have h2 := hb (by rw [hv]; simp)
      have hcell := hc 0 v (by rw [hv]; rfl)
      have hlt := World.block_lt_of_cell? w _ hcell
      exact .eptr (css := css) h' (fun _ => (hs _ hlt h2).1) (rangeAt_stays hs h2 hc) hi
  | _, _, hρ, .rptr h => .rptr (by rw [hρ _ (by simp [AV.refs])]; exact h)
  | _, _, hρ, .row h hn => .row (by rw [hρ _ (by simp [AV.refs])]; exact h) hn
  | _, _, hρ, .rsuf h ha hn hc => .rsuf (by rw [hρ _ (by simp [AV.refs])]; exact h) ha hn hc
  | _, _, hρ, .fn h hl => .fn (CsRel.stays hs (by simpa [AV.refs] using hρ) h) hl
  | _, _, _, .nn h hn => .nn (h.stays hs) hn
  | _, _, hρ, .aptr h hi => .aptr (by rw [hρ _ (by simp [AV.refs])]; exact h) hi
  | _, _, hρ, .bsl h ha hm => .bsl (by rw [hρ _ (by simp [AV.refs])]; exact h) ha hm
theorem CsRel.stays {O O' : Nat → Prop} {ρ ρ' : Nat → Loc} {w w' : World} (hs : Stays O w O' w') {cs : List AV} {c : List Value}
    (hρ : ∀ r ∈ AV.refsL cs, ρ' r = ρ r) (h : CsRel O ρ w cs c) : CsRel O' ρ' w' cs c := match cs, c, hρ, h with
  | _, _, _, .nil => .nil
  | _, _, hρ, .cons h1 h2 => .cons (CRel.stays hs (fun r hr => hρ r (by simp [AV.refsL, hr])) h1) (CsRel.stays hs (fun r hr => hρ r (by simp [AV.refsL, hr])) h2)
end

theorem VRel.stays {O O' : Nat → Prop} {ρ ρ' : Nat → Loc} {w w' : World} (hs : Stays O w O' w') {a : AV} {v : Value}
    (hρ : ∀ r ∈ a.refs, ρ' r = ρ r) (h : VRel O ρ w a v) : VRel O' ρ' w' a v := by
  rcases h with h | ⟨hg, c, hv, hc⟩ | ⟨hg, h⟩
  · exact .inl h
  · exact .inr (.inl ⟨hg, c, hv, hc.stays hs hρ⟩)
  · exact .inr (.inr ⟨hg, CRel.stays hs hρ h⟩)

theorem All2V.stays {O O' : Nat → Prop} {ρ ρ' : Nat → Loc} {w w' : World} (hs : Stays O w O' w') : ∀ {as : List AV} {vs : List Value}
    (_ : ∀ r ∈ AV.refsL as, ρ' r = ρ r) (_ : All2 (VRel O ρ w) as vs), All2 (VRel O' ρ' w') as vs
  | [], [], _, _ => trivial
  | a :: as, v :: vs, hρ, h => ⟨VRel.stays hs (fun r hr => hρ r (by simp [AV.refsL, hr])) h.1, All2V.stays hs (fun r hr => hρ r (by simp [AV.refsL, hr])) h.2⟩
  | [], _ :: _, _, h => h.elim
  | _ :: _, [], _, h => h.elim

theorem SRel.stays {O O' : Nat → Prop} {ρ ρ' : Nat → Loc} {w w' : World} (hs : Stays O w O' w') {x : Val} {v : Value}
    (hρ : ∀ r ∈ x.refs, ρ' r = ρ r) (h : SRel O ρ w x v) : SRel O' ρ' w' x v := by
  cases x with
  | v a => exact VRel.stays hs hρ h
  | t as => obtain ⟨vs, hv, h⟩ := h; exact ⟨vs, hv, All2V.stays hs hρ h⟩
  | box => trivial
  | row => trivial

theorem ERel.stays {O O' : Nat → Prop} {ρ ρ' : Nat → Loc} {w w' : World} (hs : Stays O w O' w') {x : Val} {l : Loc}
    (hρ : ∀ r ∈ x.refs, ρ' r = ρ r) (hb : ∀ b, l.block = some b → w'.heap[b]? = w.heap[b]?) (h : ERel O ρ w x l) : ERel O' ρ' w' x l := by
  cases x with
  | box cs =>
    obtain ⟨b, c, t, rfl, hh, hc⟩ := h
    exact ⟨b, c, t, rfl, by rw [hb b rfl]; exact hh, hc.stays hs hρ⟩
  | row e et xs =>
    obtain ⟨v, css, rfl, hc, ho⟩ := h
    refine ⟨v, css, rfl, All2.mono (fun _ _ h => h.stays hs) hc, ho.1, ?_⟩
    rcases ho.2 with h | ⟨g, cap, cur, hv, h0, hh, hr⟩
    · exact .inl h
    · exact .inr ⟨g, cap, cur, hv, h0, by rw [hb g (by rw [hv]; rfl)]; exact hh, hr⟩
  | v => trivial
  | t => trivial
end Go.Abs
namespace Go.Abs

inductive RM (α : Type) : Type where
  | ret (a : α)
  | get (k : Nat) (f : Val → RM α)
  | fail

def RM.bind {α β : Type} : RM α → (α → RM β) → RM β
  | .ret a, f => f a
  | .get k g, f => .get k fun v => (g v).bind f
  | .fail, _ => .fail

def RM.run {α : Type} (st : St) : RM α → Option α
  | .ret a => some a
  | .get k f => match st.get k with
    | some v => (f v).run st
    | none => none
  | .fail => none

def RM.log {α : Type} (st : St) : RM α → List Nat
  | .ret _ => []
  | .get k f => match st.get k with
    | some v => k :: (f v).log st
    | none => [k]
  | .fail => []

theorem RM.run_bind {α β : Type} (st : St) (f : α → RM β) : ∀ (m : RM α), (m.bind f).run st = (m.run st).bind fun a => (f a).run st
  | .ret _ => rfl
  | .get k g => by
    simp only [RM.bind, RM.run]
    cases st.get k with
    | none => rfl
    | some v => exact RM.run_bind st f (g v)
  | .fail => rfl

theorem RM.run_of_log {α : Type} {st st' : St} : ∀ {m : RM α}, (∀ k ∈ m.log st, st'.get k = st.get k) → m.run st' = m.run st ∧ m.log st' = m.log st
  | .ret _, _ => ⟨rfl, rfl⟩
  | .get k f, h => by
    simp only [RM.run, RM.log] at h ⊢
    cases hk : st.get k with
    | none =>
      simp only [hk] at h
      have := h k (by simp)
      rw [hk] at this
      simp [this]
    | some v =>
      simp only [hk] at h
      have h1 := h k (by simp)
      rw [hk] at h1
      have h2 := RM.run_of_log (m := f v) (fun q hq => h q (by simp [hq]))
      simp [h1, h2]
  | .fail, _ => ⟨rfl, rfl⟩

def Kd.sub : (k : Kd) → k.T → Nat → Nat → Bool → Option AV
  | .pair a b, x, off, n, ag =>
    if off = 0 ∧ n = a.size + b.size ∧ ag = true then some (.p (.pair a b) x)
    else if off + n ≤ a.size ∧ 0 < n then Kd.sub a x.1 off n ag
    else if a.size ≤ off then Kd.sub b x.2 (off - a.size) n ag
    else none
  | .arr m e, l, off, n, ag =>
    if off = 0 ∧ n = m * e.size ∧ ag = true then some (.p (.arr m e) l)
    else if off / e.size < m ∧ 0 < e.size ∧ off % e.size + n ≤ e.size then Kd.sub e (List.getD l (off / e.size) e.dflt) (off % e.size) n ag
    else if 0 < e.size ∧ off % e.size = 0 ∧ n % e.size = 0 ∧ off + n ≤ m * e.size ∧ ag = true then some (.p (.arr (n / e.size) e) (List.take (n / e.size) (List.drop (off / e.size) l)))
    else none
  | k, x, off, n, ag => if off = 0 ∧ n = k.size ∧ ag = k.agg then some (.p k x) else none

def Kd.split : (k : Kd) → k.T → List AV
  | .pair a b, x => Kd.split a x.1 ++ Kd.split b x.2
  | .unit, _ => []
  | k, x => [.p k x]

def AV.nf : AV → AV
  | .p (.pair a b) x => .agg (Kd.split (.pair a b) x)
  | .p .unit _ => .agg []
  | a => a

mutual
def AV.cellsOf : AV → List AV
  | .agg cs => AV.cellsOfL cs
  | .p k x => Kd.split k x
  | a => [a]
def AV.cellsOfL : List AV → List AV
  | [] => []
  | a :: as => a.cellsOf ++ AV.cellsOfL as
end

def AV.takes : List AV → Nat → Option (List AV)
  | _, 0 => some []
  | [], _ + 1 => none
  | a :: as, n => if a.size ≤ n then (AV.takes as (n - a.size)).map (a :: ·) else none

def AV.drops : List AV → Nat → Option (List AV)
  | cs, 0 => some cs
  | [], _ + 1 => none
  | a :: as, n => if a.size ≤ n then AV.drops as (n - a.size) else none

def AV.at1 : AV → Nat → Nat → Bool → Option AV
  | .p k x, off, n, ag => if off + n ≤ k.size then Kd.sub k x off n ag else none
  | .und, _, _, _ => none
  | a, off, n, ag => if off = 0 ∧ n = 1 ∧ ag = false ∧ a.isAgg = false then some a else none

def AV.subs : List AV → Nat → Nat → Bool → Option AV
  | [], off, n, ag => if off = 0 ∧ n = 0 ∧ ag = true then some (.agg []) else none
  | a :: as, off, n, ag =>
    if off = 0 ∧ ag = true ∧ a.isAgg = true ∧ a.size = n then some a
    else if off = 0 ∧ ag = true ∧ (a.size ≤ n ∨ n = 0) then (AV.takes (a :: as) n).map .agg
    else if a.size ≤ off then AV.subs as (off - a.size) n ag
    else AV.at1 a off n ag

def AV.upds : List AV → Nat → List AV → Nat → Option (List AV)
  | cs, 0, new, n => (AV.drops cs n).map (new ++ ·)
  | [], _ + 1, _, _ => none
  | a :: as, off, new, n => if a.size ≤ off then (AV.upds as (off - a.size) new n).map (a :: ·) else none

def AV.whole (k : Kd) : List AV → Option (k.T × List AV)
  | .p k' x :: r => if h : k' = k then some (h ▸ x, r) else none
  | _ => none

def AV.toP : (k : Kd) → List AV → Option (k.T × List AV)
  | .unit, cs => some ((), cs)
  | .pair a b, cs =>
    match AV.whole (.pair a b) cs with
    | some y => some y
    | none => match AV.toP a cs with
      | some (x, r) => match AV.toP b r with
        | some (y, r') => some ((x, y), r')
        | none => none
      | none => none
  | .sl e, .nilsl :: r => some (([] : List e.T), r)
  | k, .p k' x :: r => if h : k' = k then some (h ▸ x, r) else none
  | _, _ => none

def kdOf (P : Program) : Nat → TypeId → Option Kd
  | 0, _ => none
  | n + 1, t => match P.underlying t with
    | some (.int k) => some (.int k)
    | some .bool => some .bool
    | some .string => some .str
    | some (.slice e) => (kdOf P n e).map .sl
    | some (.array m e) => (kdOf P n e).map (.arr m)
    | some (.struct fs) => fs.toList.foldr (fun f acc => match kdOf P n f.type, acc with | some k, some a => some (.pair k a) | _, _ => none) (some .unit)
    | _ => none

def Kd.zeros : Kd → List AV
  | .pair a b => a.zeros ++ b.zeros
  | .unit => []
  | .sl _ => [.nilsl]
  | k => [.p k k.dflt]

def Kd.zmatch : Kd → List Value → Option (List Value)
  | .int k, .int k' n :: r => if k' = k ∧ n = 0 then some r else none
  | .bool, .bool false :: r => some r
  | .str, .string s :: r => if s.data.toList.length = 0 then some r else none
  | .sl _, .slice none 0 0 :: r => some r
  | .unit, r => some r
  | .pair a b, r => match a.zmatch r with
    | some r' => b.zmatch r'
    | none => none
  | .arr n e, r => Nat.rec (motive := fun _ => List Value → Option (List Value)) (fun r => some r) (fun _ f r => match e.zmatch r with | some r' => f r' | none => none) n r
  | _, _ => none

def sizeOfT (P : Program) (t : TypeId) : Nat := P.cellsOf t
def aggT (P : Program) (t : TypeId) : Bool := match P.underlying t with | some (.struct _) | some (.array _ _) => true | _ => false

def zeroOf (P : Program) (t : TypeId) : Option (Kd × List AV) :=
  match kdOf P 12 t, P.info? t with
  | some k, some i => match i.zero with
    | some z => match k.zmatch z.cells.toList with
      | some [] => if i.size = k.size ∧ (aggT P t = k.agg) then some (k, k.zeros) else none
      | _ => none
    | none => none
  | _, _ => none

end Go.Abs
set_option linter.unusedVariables false
namespace Go.Abs
section
variable {O : Nat → Prop} {ρ : Nat → Loc} {w : World}

theorem CsRel.inv {a : AV} {as : List AV} {c : List Value} (h : CsRel O ρ w (a :: as) c) : ∃ c1 c2, c = c1 ++ c2 ∧ CRel O ρ w a c1 ∧ CsRel O ρ w as c2 := by
  cases h with
  | cons h1 h2 => exact ⟨_, _, rfl, h1, h2⟩
theorem CsRel.inv_nil {c : List Value} (h : CsRel O ρ w [] c) : c = [] := by cases h; rfl

theorem CsRel.append : ∀ {as bs : List AV} {c d : List Value}, CsRel O ρ w as c → CsRel O ρ w bs d → CsRel O ρ w (as ++ bs) (c ++ d)
  | [], bs, c, d, h, h' => by rw [h.inv_nil]; exact h'
  | a :: as, bs, c, d, h, h' => by
    obtain ⟨c1, c2, rfl, h1, h2⟩ := h.inv
    rw [List.append_assoc]
    exact .cons h1 (CsRel.append h2 h')

theorem CsRel.single {a : AV} {c : List Value} (h : CRel O ρ w a c) : CsRel O ρ w [a] c := by
  have := CsRel.cons h CsRel.nil
  simpa using this

mutual
theorem CRel.length {a : AV} {c : List Value} (h : CRel O ρ w a c) : c.length = a.size := match a, c, h with
  | _, _, .p h => h.length
  | _, _, .nilsl => rfl
  | _, _, .agg h => CsRel.length h
  | _, _, .ptr _ => rfl
  | _, _, .eptr _ _ _ _ => rfl
  | _, _, .rptr _ => rfl
  | _, _, .row _ _ => rfl
  | _, _, .rsuf _ _ _ _ => rfl
  | _, _, .fn _ _ => rfl
  | _, _, .nn _ _ => rfl
  | _, _, .aptr _ _ => rfl
  | _, _, .bsl _ _ _ => rfl
theorem CsRel.length {cs : List AV} {c : List Value} (h : CsRel O ρ w cs c) : c.length = AV.size.sizes cs := match cs, c, h with
  | _, _, .nil => rfl
  | _, _, .cons h1 h2 => by
    simp only [List.length_append, AV.size.sizes, CRel.length h1, CsRel.length h2]
end

mutual
theorem CRel.one {a : AV} {c : List Value} (h : CRel O ρ w a c) : ∀ v ∈ c, v.oneCell' = true := match a, c, h with
  | _, _, .p h => h.one
  | _, _, .nilsl => by simp [Value.oneCell']
  | _, _, .agg h => CsRel.one h
  | _, _, .ptr _ => by simp [Value.oneCell']
  | _, _, .eptr _ _ _ _ => by simp [Value.oneCell']
  | _, _, .rptr _ => by simp [Value.oneCell']
  | _, _, .row _ _ => by simp [Value.oneCell']
  | _, _, .rsuf _ _ _ _ => by simp [Value.oneCell']
  | _, _, .fn _ _ => by simp [Value.oneCell']
  | _, _, .nn h _ => h.one
  | _, _, .aptr _ _ => by simp [Value.oneCell']
  | _, _, .bsl _ _ _ => by simp [Value.oneCell']
theorem CsRel.one {cs : List AV} {c : List Value} (h : CsRel O ρ w cs c) : ∀ v ∈ c, v.oneCell' = true := match cs, c, h with
  | _, _, .nil => by simp
  | _, _, .cons h1 h2 => by
    intro v hv
    rcases List.mem_append.1 hv with hv | hv
    · exact CRel.one h1 v hv
    · exact CsRel.one h2 v hv
end

theorem flatten_part {e : Kd} : ∀ {l : List e.T} {css : List (List Value)} (h : All2 (Cells O w e) l css) (i : Nat) (hi : i < l.length),
    ∃ c, Cells O w e (List.getD l i e.dflt) c ∧ (css.flatten.drop (i * e.size)).take e.size = c
  | [], [], _, i, hi => by simp at hi
  | x :: l, c :: css, h, 0, _ => by
    refine ⟨c, h.1, ?_⟩
    have := h.1.length
    simp [← this]
  | x :: l, c :: css, h, i + 1, hi => by
    obtain ⟨d, h1, h2⟩ := flatten_part h.2 i (by simpa using hi)
    refine ⟨d, by simpa using h1, ?_⟩
    have hl := h.1.length
    rw [← h2, List.flatten_cons, Nat.add_mul, Nat.one_mul, ← hl, Nat.add_comm (i * c.length), ← List.drop_drop]
    simp
  | [], _ :: _, h, _, _ => h.elim
  | _ :: _, [], h, _, _ => h.elim

theorem flatten_take' {e : Kd} : ∀ {l : List e.T} {css : List (List Value)} (h : All2 (Cells O w e) l css) (i : Nat), (css.take i).flatten = css.flatten.take (i * e.size)
  | [], [], _, i => by simp
  | x :: l, c :: css, h, 0 => by simp
  | x :: l, c :: css, h, i + 1 => by
    have hl := h.1.length
    rw [List.take_succ_cons, List.flatten_cons, List.flatten_cons, flatten_take' h.2 i, Nat.add_mul, Nat.one_mul, ← hl, Nat.add_comm (i * c.length), List.take_length_add_append]
  | [], _ :: _, h, _ => h.elim
  | _ :: _, [], h, _ => h.elim
theorem flatten_drop' {e : Kd} : ∀ {l : List e.T} {css : List (List Value)} (h : All2 (Cells O w e) l css) (i : Nat), (css.drop i).flatten = css.flatten.drop (i * e.size)
  | [], [], _, i => by simp
  | x :: l, c :: css, h, 0 => by simp
  | x :: l, c :: css, h, i + 1 => by
    have hl := h.1.length
    rw [List.drop_succ_cons, List.flatten_cons, flatten_drop' h.2 i, Nat.add_mul, Nat.one_mul, ← hl, Nat.add_comm (i * c.length), List.drop_length_add_append]
  | [], _ :: _, h, _ => h.elim
  | _ :: _, [], h, _ => h.elim

theorem take_drop_part {c : List Value} {o s p n : Nat} (h : p + n ≤ s) : (((c.drop o).take s).drop p).take n = (c.drop (o + p)).take n := by
  rw [List.drop_take, List.take_take, List.drop_drop, Nat.min_eq_left (by omega)]

theorem Kd.sub_sound : ∀ {k : Kd} {x : k.T} {c : List Value} {off n : Nat} {ag : Bool} {a : AV}, Cells O w k x c → Kd.sub k x off n ag = some a →
    CRel O ρ w a ((c.drop off).take n) ∧ a.isAgg = ag ∧ off + n ≤ k.size ∧ a.refs = [] ∧ a ≠ .und := by
  intro k
  have base : ∀ {k : Kd} {x : k.T} {c : List Value} {off n : Nat} {ag : Bool} {a : AV}, Cells O w k x c → (if off = 0 ∧ n = k.size ∧ ag = k.agg then some (AV.p k x) else none) = some a →
      CRel O ρ w a ((c.drop off).take n) ∧ a.isAgg = ag ∧ off + n ≤ k.size ∧ a.refs = [] ∧ a ≠ .und := by
    intro k x c off n ag a hc h
    split at h
    · rename_i hq
      obtain ⟨rfl, rfl, rfl⟩ := hq
      cases h
      refine ⟨?_, rfl, by omega, rfl, by simp⟩
      rw [List.drop_zero, ← hc.length, List.take_length]
      exact .p hc
    · cases h
  induction k with
  | int k => intro x c off n ag a hc h; exact base hc h
  | bool => intro x c off n ag a hc h; exact base hc h
  | str => intro x c off n ag a hc h; exact base hc h
  | sl e _ => intro x c off n ag a hc h; exact base hc h
  | unit => intro x c off n ag a hc h; exact base hc h
  | pair ka kb iha ihb =>
    intro x c off n ag a hc h
    unfold Kd.sub at h
    split at h
    · exact base hc (by rw [if_pos (by rename_i hq; exact ⟨hq.1, hq.2.1, hq.2.2⟩)]; exact h)
    · obtain ⟨c1, c2, rfl, h1, h2⟩ := hc
      have hl := h1.length
      split at h
      · rename_i hq
        obtain ⟨r1, r2, r3, r4, r5⟩ := iha h1 h
        refine ⟨?_, r2, by simp only [Kd.size]; omega, r4, r5⟩
        rw [List.drop_append_of_le_length (by omega), List.take_append_of_le_length (by rw [List.length_drop]; omega)]
        exact r1
      · split at h
        · rename_i hq
          obtain ⟨r1, r2, r3, r4, r5⟩ := ihb h2 h
          refine ⟨?_, r2, by simp only [Kd.size]; omega, r4, r5⟩
          rw [show off = c1.length + (off - ka.size) by omega, ← List.drop_drop, List.drop_left]
          exact r1
        · cases h
  | arr m e ih =>
    intro x c off n ag a hc h
    unfold Kd.sub at h
    split at h
    · exact base hc (by rw [if_pos (by rename_i hq; exact ⟨hq.1, hq.2.1, hq.2.2⟩)]; exact h)
    · split at h
      · rename_i hq
        obtain ⟨hm, css, rfl, hcs⟩ := hc
        obtain ⟨d, hd1, hd2⟩ := flatten_part hcs (off / e.size) (by omega)
        obtain ⟨r1, r2, r3, r4, r5⟩ := ih hd1 h
        have hdm := Nat.div_add_mod off e.size
        have hdm' : off / e.size * e.size + off % e.size = off := by rw [Nat.mul_comm]; exact hdm
        refine ⟨?_, r2, ?_, r4, r5⟩
        · rw [← hd2, take_drop_part hq.2.2, hdm'] at r1
          exact r1
        · have h1 : (off / e.size + 1) * e.size ≤ m * e.size := Nat.mul_le_mul_right _ hq.1
          rw [Nat.add_mul, Nat.one_mul] at h1
          simp only [Kd.size]
          omega
      · split at h
        · rename_i hq
          obtain ⟨q1, q2, q3, q4, rfl⟩ := hq
          cases h
          obtain ⟨hm, css, rfl, hcs⟩ := hc
          have ho : off / e.size * e.size = off := by have := Nat.div_add_mod off e.size; rw [Nat.mul_comm]; omega
          have hn : n / e.size * e.size = n := by have := Nat.div_add_mod n e.size; rw [Nat.mul_comm]; omega
          have hle : (off / e.size + n / e.size) ≤ m := Nat.le_of_mul_le_mul_right (by rw [Nat.add_mul, ho, hn]; exact q4) q1
          refine ⟨?_, rfl, q4, rfl, by simp⟩
          refine .p ⟨by rw [List.length_take, List.length_drop, hm]; omega, (css.drop (off / e.size)).take (n / e.size), ?_, (hcs.drop _).take _⟩
          rw [flatten_take' (hcs.drop _), flatten_drop' hcs, ho, hn]
        · cases h

theorem Kd.split_sound : ∀ {k : Kd} {x : k.T} {c : List Value}, Cells O w k x c → CsRel O ρ w (Kd.split k x) c
  | .pair a b, x, _, h => by
    obtain ⟨c1, c2, rfl, h1, h2⟩ := h
    exact (Kd.split_sound h1).append (Kd.split_sound h2)
  | .unit, _, _, h => by
    simp [Cells] at h; subst h; exact .nil
  | .int _, _, _, h => CsRel.single (.p h)
  | .bool, _, _, h => CsRel.single (.p h)
  | .str, _, _, h => CsRel.single (.p h)
  | .sl _, _, _, h => CsRel.single (.p h)
  | .arr _ _, _, _, h => CsRel.single (.p h)

theorem AV.nf_sound {a : AV} {c : List Value} (h : CRel O ρ w a c) : CRel O ρ w a.nf c ∧ a.nf.isAgg = a.isAgg := by
  cases a with
  | p k x =>
    cases h with
    | p h =>
      cases k with
      | pair a b => exact ⟨.agg (Kd.split_sound h), rfl⟩
      | unit => exact ⟨.agg (Kd.split_sound h), rfl⟩
      | _ => exact ⟨.p h, rfl⟩
  | _ => exact ⟨h, rfl⟩

theorem VRel.nf {a : AV} {v : Value} (h : VRel O ρ w a v) : VRel O ρ w a.nf v := by
  rcases h with ⟨rfl, h⟩ | ⟨hg, c, hv, h⟩ | ⟨hg, h⟩
  · exact .inl ⟨rfl, h⟩
  · exact .inr (.inl ⟨by rw [(AV.nf_sound h).2]; exact hg, c, hv, (AV.nf_sound h).1⟩)
  · exact .inr (.inr ⟨by rw [(AV.nf_sound h).2]; exact hg, (AV.nf_sound h).1⟩)

mutual
theorem AV.cellsOf_sound {a : AV} {c : List Value} (h : CRel O ρ w a c) : CsRel O ρ w a.cellsOf c := match a, c, h with
  | _, _, .p h => by simp only [AV.cellsOf]; exact Kd.split_sound h
  | _, _, .nilsl => CsRel.single .nilsl
  | _, _, .agg h => by simp only [AV.cellsOf]; exact AV.cellsOfL_sound h
  | _, _, .ptr h => CsRel.single (.ptr h)
  | _, _, .eptr h hb hc hi => CsRel.single (.eptr h hb hc hi)
  | _, _, .rptr h => CsRel.single (.rptr h)
  | _, _, .row h hn => CsRel.single (.row h hn)
  | _, _, .rsuf h h1 h2 h3 => CsRel.single (.rsuf h h1 h2 h3)
  | _, _, .fn h hl => CsRel.single (.fn h hl)
  | _, _, .nn h hn => CsRel.single (.nn h hn)
  | _, _, .aptr h hi => CsRel.single (.aptr h hi)
  | _, _, .bsl h ha hm => CsRel.single (.bsl h ha hm)
theorem AV.cellsOfL_sound {cs : List AV} {c : List Value} (h : CsRel O ρ w cs c) : CsRel O ρ w (AV.cellsOfL cs) c := match cs, c, h with
  | _, _, .nil => .nil
  | _, _, .cons h1 h2 => by simp only [AV.cellsOfL]; exact (AV.cellsOf_sound h1).append (AV.cellsOfL_sound h2)
end

theorem AV.takes_sound : ∀ {cs : List AV} {c : List Value} {n : Nat} {as : List AV}, CsRel O ρ w cs c → AV.takes cs n = some as → CsRel O ρ w as (c.take n) ∧ n ≤ c.length
  | [], c, 0, as, h, ht => by
    rw [AV.takes] at ht; cases ht; simp; exact .nil
  | a :: cs, c, 0, as, h, ht => by
    rw [AV.takes] at ht; cases ht; simp; exact .nil
  | [], c, n + 1, as, h, ht => by rw [AV.takes] at ht; cases ht
  | a :: cs, c, n + 1, as, h, ht => by
    rw [AV.takes] at ht
    split at ht
    · rename_i hq
      cases hr : AV.takes cs (n + 1 - a.size) with
      | none => rw [hr] at ht; cases ht
      | some r =>
        rw [hr] at ht; cases ht
        obtain ⟨c1, c2, rfl, h1, h2⟩ := h.inv
        have hl := h1.length
        obtain ⟨h3, h4⟩ := AV.takes_sound h2 hr
        rw [List.take_append, hl, List.take_of_length_le (by omega)]
        exact ⟨.cons h1 h3, by rw [List.length_append]; omega⟩
    · cases ht
    · intro h; cases h

theorem AV.drops_sound : ∀ {cs : List AV} {c : List Value} {n : Nat} {as : List AV}, CsRel O ρ w cs c → AV.drops cs n = some as → CsRel O ρ w as (c.drop n) ∧ n ≤ c.length
  | [], c, 0, as, h, ht => by rw [AV.drops] at ht; cases ht; simpa using h
  | a :: cs, c, 0, as, h, ht => by rw [AV.drops] at ht; cases ht; simpa using h
  | [], c, n + 1, as, h, ht => by rw [AV.drops] at ht; cases ht
  | a :: cs, c, n + 1, as, h, ht => by
    rw [AV.drops] at ht
    split at ht
    · rename_i hq
      obtain ⟨c1, c2, rfl, h1, h2⟩ := h.inv
      have hl := h1.length
      obtain ⟨h3, h4⟩ := AV.drops_sound h2 ht
      rw [List.drop_append, hl, List.drop_of_length_le (by omega), List.nil_append]
      exact ⟨h3, by rw [List.length_append]; omega⟩
    · cases ht
    · intro h; cases h

theorem AV.at1_sound {b : AV} {c : List Value} {off n : Nat} {ag : Bool} {a : AV} (h : CRel O ρ w b c) (ht : AV.at1 b off n ag = some a) :
    CRel O ρ w a ((c.drop off).take n) ∧ a.isAgg = ag ∧ off + n ≤ c.length ∧ (∀ r ∈ a.refs, r ∈ b.refs) := by
  have key : ∀ {b : AV} {off n : Nat} {ag : Bool} {a : AV}, CRel O ρ w b c → b.size = 1 → (if off = 0 ∧ n = 1 ∧ ag = false ∧ b.isAgg = false then some b else none) = some a →
      CRel O ρ w a ((c.drop off).take n) ∧ a.isAgg = ag ∧ off + n ≤ c.length ∧ (∀ r ∈ a.refs, r ∈ b.refs) := by
    intro b off n ag a h h1 ht
    have hl := h.length
    split at ht
    · rename_i hq
      obtain ⟨rfl, rfl, rfl, hg⟩ := hq
      cases ht
      refine ⟨?_, hg, by omega, fun r hr => hr⟩
      rw [List.drop_zero, List.take_of_length_le (by omega)]
      exact h
    · cases ht
  cases b with
  | p k x =>
    simp only [AV.at1] at ht
    split at ht
    · cases h with
      | p h1 =>
        obtain ⟨r1, r2, r3, r4, r5⟩ := Kd.sub_sound (ρ := ρ) h1 ht
        exact ⟨r1, r2, by rw [h1.length]; exact r3, by simp [r4]⟩
    · cases ht
  | und => cases ht
  | agg cs =>
    simp only [AV.at1] at ht
    split at ht
    · rename_i hq; simp [AV.isAgg] at hq
    · cases ht
  | _ => exact key h rfl ht

theorem AV.subs_sound : ∀ {cs : List AV} {c : List Value} {off n : Nat} {ag : Bool} {a : AV}, CsRel O ρ w cs c → AV.subs cs off n ag = some a →
    CRel O ρ w a ((c.drop off).take n) ∧ a.isAgg = ag ∧ off + n ≤ c.length ∧ (∀ r ∈ a.refs, r ∈ AV.refsL cs)
  | [], c, off, n, ag, a, h, ht => by
    rw [AV.subs] at ht
    split at ht
    · rename_i hq
      obtain ⟨rfl, rfl, rfl⟩ := hq
      cases ht
      refine ⟨?_, rfl, by omega, by simp [AV.refs, AV.refsL]⟩
      simp; exact .agg .nil
    · cases ht
  | b :: cs, c, off, n, ag, a, h, ht => by
    rw [AV.subs] at ht
    split at ht
    · rename_i hq
      obtain ⟨rfl, rfl, hg, rfl⟩ := hq
      cases ht
      obtain ⟨c1, c2, rfl, h1, h2⟩ := h.inv
      have hl := h1.length
      rw [List.drop_zero, ← hl, List.take_left]
      exact ⟨h1, hg, by rw [List.length_append]; omega, fun r hr => by simp [AV.refsL, hr]⟩
    · split at ht
      · rename_i hq
        obtain ⟨rfl, rfl, _⟩ := hq
        cases hr : AV.takes (b :: cs) n with
        | none => rw [hr] at ht; cases ht
        | some r =>
          rw [hr] at ht; cases ht
          obtain ⟨h3, h4⟩ := AV.takes_sound h hr
          refine ⟨?_, rfl, by omega, fun r' hr' => ?_⟩
          · rw [List.drop_zero]; exact .agg h3
          · have key : ∀ (cs : List AV) (n : Nat) (r : List AV), AV.takes cs n = some r → ∀ q ∈ AV.refsL r, q ∈ AV.refsL cs := by
              intro cs
              induction cs with
              | nil =>
                intro n r hr q hq
                cases n with
                | zero => rw [AV.takes] at hr; cases hr; exact hq
                | succ n => rw [AV.takes] at hr; cases hr
              | cons a cs ih =>
                intro n r hr q hq
                cases n with
                | zero => rw [AV.takes] at hr; cases hr; simp [AV.refsL] at hq
                | succ n =>
                  rw [AV.takes] at hr
                  split at hr
                  · cases hx : AV.takes cs (n + 1 - a.size) with
                    | none => rw [hx] at hr; cases hr
                    | some r' =>
                      rw [hx] at hr; cases hr
                      simp only [AV.refsL, List.mem_append] at hq ⊢
                      rcases hq with hq | hq
                      · exact .inl hq
                      · exact .inr (ih _ _ hx q hq)
                  · cases hr
                  · intro h; cases h
            exact key _ _ _ hr r' (by simpa [AV.refs] using hr')
      · split at ht
        · rename_i hq
          obtain ⟨c1, c2, rfl, h1, h2⟩ := h.inv
          have hl := h1.length
          obtain ⟨r1, r2, r3, r4⟩ := AV.subs_sound h2 ht
          refine ⟨?_, r2, by rw [List.length_append]; omega, fun r hr => by simp [AV.refsL, r4 r hr]⟩
          rw [show off = c1.length + (off - b.size) by omega, ← List.drop_drop, List.drop_left]
          exact r1
        · obtain ⟨c1, c2, rfl, h1, h2⟩ := h.inv
          have hl := h1.length
          obtain ⟨r1, r2, r3, r4⟩ := AV.at1_sound h1 ht
          refine ⟨?_, r2, by rw [List.length_append]; omega, fun r hr => by simp [AV.refsL, r4 r hr]⟩
          rw [List.drop_append_of_le_length (by omega), List.take_append_of_le_length (by rw [List.length_drop]; omega)]
          exact r1

theorem AV.upds_sound : ∀ {cs : List AV} {c : List Value} {off n : Nat} {new as : List AV} {d : List Value}, CsRel O ρ w cs c → CsRel O ρ w new d → d.length = n → AV.upds cs off new n = some as →
    CsRel O ρ w as (c.take off ++ d ++ c.drop (off + n)) ∧ off + n ≤ c.length := by
  intro cs
  induction cs with
  | nil =>
    intro c off n new as d h hd hl ht
    cases off with
    | succ off => rw [AV.upds] at ht; cases ht
    | zero =>
      rw [AV.upds] at ht
      cases hr : AV.drops [] n with
      | none => rw [hr] at ht; cases ht
      | some r =>
        rw [hr] at ht; cases ht
        obtain ⟨h3, h4⟩ := AV.drops_sound h hr
        simp only [List.take_zero, List.nil_append, Nat.zero_add]
        exact ⟨hd.append h3, h4⟩
  | cons a cs ih =>
    intro c off n new as d h hd hl ht
    cases off with
    | zero =>
      rw [AV.upds] at ht
      cases hr : AV.drops (a :: cs) n with
      | none => rw [hr] at ht; cases ht
      | some r =>
        rw [hr] at ht; cases ht
        obtain ⟨h3, h4⟩ := AV.drops_sound h hr
        simp only [List.take_zero, List.nil_append, Nat.zero_add]
        exact ⟨hd.append h3, h4⟩
    | succ off =>
      rw [AV.upds] at ht
      split at ht
      · rename_i hq
        cases hr : AV.upds cs (off + 1 - a.size) new n with
        | none => rw [hr] at ht; cases ht
        | some r =>
          rw [hr] at ht; cases ht
          obtain ⟨c1, c2, rfl, h1, h2⟩ := h.inv
          have hl1 := h1.length
          obtain ⟨h3, h4⟩ := ih h2 hd hl hr
          refine ⟨?_, by rw [List.length_append]; omega⟩
          rw [List.take_append, hl1, List.take_of_length_le (by omega), List.drop_append, hl1, List.drop_of_length_le (by omega), List.nil_append, List.append_assoc, List.append_assoc]
          have := CsRel.cons h1 h3
          rw [List.append_assoc, show off + 1 - a.size + n = off + 1 + n - a.size by omega] at this
          exact this
      · cases ht
      · intro h; cases h

theorem AV.toP_sound : ∀ {k : Kd} {cs : List AV} {c : List Value} {x : k.T} {r : List AV}, CsRel O ρ w cs c → AV.toP k cs = some (x, r) →
    ∃ c1 c2, c = c1 ++ c2 ∧ Cells O w k x c1 ∧ CsRel O ρ w r c2 := by
  intro k
  have base : ∀ {k k' : Kd} {x' : k'.T} {cs : List AV} {c : List Value} {x : k.T} {r : List AV}, CsRel O ρ w (.p k' x' :: cs) c → (if h : k' = k then some ((h ▸ x' : k.T), cs) else none) = some (x, r) →
      ∃ c1 c2, c = c1 ++ c2 ∧ Cells O w k x c1 ∧ CsRel O ρ w r c2 := by
    intro k k' x' cs c x r h ht
    split at ht
    · rename_i hk
      subst hk
      cases ht
      obtain ⟨c1, c2, rfl, h1, h2⟩ := h.inv
      cases h1 with
      | p h1 => exact ⟨c1, c2, rfl, h1, h2⟩
    · cases ht
  induction k with
  | int k =>
    intro cs c x r h ht
    cases cs with
    | nil => cases ht
    | cons a cs => cases a <;> first | exact base h ht | cases ht
  | bool =>
    intro cs c x r h ht
    cases cs with
    | nil => cases ht
    | cons a cs => cases a <;> first | exact base h ht | cases ht
  | str =>
    intro cs c x r h ht
    cases cs with
    | nil => cases ht
    | cons a cs => cases a <;> first | exact base h ht | cases ht
  | arr n e _ =>
    intro cs c x r h ht
    cases cs with
    | nil => cases ht
    | cons a cs => cases a <;> first | exact base h ht | cases ht
  | sl e _ =>
    intro cs c x r h ht
    cases cs with
    | nil => cases ht
    | cons a cs =>
      cases a with
      | p k' x' => exact base h ht
      | nilsl =>
        rw [AV.toP] at ht
        cases ht
        obtain ⟨c1, c2, rfl, h1, h2⟩ := h.inv
        cases h1
        exact ⟨_, c2, rfl, ⟨none, 0, rfl, Nat.le_refl _, fun _ => ⟨rfl, rfl⟩, fun ad h => by cases h⟩, h2⟩
      | _ => cases ht
  | unit =>
    intro cs c x r h ht
    rw [AV.toP] at ht
    cases ht
    exact ⟨[], c, rfl, rfl, h⟩
  | pair ka kb iha ihb =>
    intro cs c x r h ht
    rw [AV.toP] at ht
    cases hy : AV.whole (.pair ka kb) cs with
    | some y =>
      rw [hy] at ht
      cases ht
      cases cs with
      | nil => cases hy
      | cons a cs => cases a <;> first | exact base h hy | cases hy
    | none =>
      rw [hy] at ht
      dsimp only at ht
      cases hx : AV.toP ka cs with
      | none => rw [hx] at ht; cases ht
      | some y1 =>
        obtain ⟨x1, r1⟩ := y1
        rw [hx] at ht
        dsimp only at ht
        cases hz : AV.toP kb r1 with
        | none => rw [hz] at ht; cases ht
        | some y2 =>
          obtain ⟨x2, r2⟩ := y2
          rw [hz] at ht
          cases ht
          obtain ⟨c1, c2, rfl, h1, h2⟩ := iha h hx
          obtain ⟨c3, c4, rfl, h3, h4⟩ := ihb h2 hz
          exact ⟨c1 ++ c3, c4, by rw [List.append_assoc], ⟨c1, c3, rfl, h1, h3⟩, h4⟩

theorem Kd.zmatch_sound : ∀ {k : Kd} {c r : List Value}, k.zmatch c = some r → ∃ c1, c = c1 ++ r ∧ Cells O w k k.dflt c1 ∧ CsRel O ρ w k.zeros c1 := by
  intro k
  induction k with
  | int k =>
    intro c r h
    cases c with
    | nil => cases h
    | cons v c =>
      cases v <;> try (cases h; done)
      rename_i k' n
      simp only [Kd.zmatch] at h
      split at h
      · rename_i hq
        obtain ⟨rfl, rfl⟩ := hq
        cases h
        exact ⟨_, rfl, rfl, CsRel.single (.p rfl)⟩
      · cases h
  | bool =>
    intro c r h
    cases c with
    | nil => cases h
    | cons v c =>
      cases v <;> try (cases h; done)
      rename_i b
      cases b
      · cases h; exact ⟨_, rfl, rfl, CsRel.single (.p rfl)⟩
      · cases h
  | str =>
    intro c r h
    cases c with
    | nil => cases h
    | cons v c =>
      cases v <;> try (cases h; done)
      rename_i s
      simp only [Kd.zmatch] at h
      split at h
      · rename_i hq
        cases h
        have : s = (⟨#[]⟩ : ByteArray) := by
          cases s with
          | mk d => cases d with
            | mk l => simp at hq; simp [hq]
        subst this
        exact ⟨_, rfl, rfl, CsRel.single (.p rfl)⟩
      · cases h
  | sl e _ =>
    intro c r h
    cases c with
    | nil => cases h
    | cons v c =>
      cases v <;> try (cases h; done)
      rename_i a l cap
      cases a with
      | some _ => cases h
      | none =>
        cases l with
        | succ _ => cases h
        | zero => cases cap with
          | succ _ => cases h
          | zero =>
            cases h
            exact ⟨_, rfl, ⟨none, 0, rfl, Nat.le_refl _, fun _ => ⟨rfl, rfl⟩, fun ad h => by cases h⟩, CsRel.single .nilsl⟩
  | unit =>
    intro c r h
    cases h
    exact ⟨[], rfl, rfl, .nil⟩
  | pair a b iha ihb =>
    intro c r h
    simp only [Kd.zmatch] at h
    split at h
    · rename_i r' hr
      obtain ⟨c1, rfl, h1, h2⟩ := iha hr
      obtain ⟨c2, rfl, h3, h4⟩ := ihb h
      exact ⟨c1 ++ c2, by rw [List.append_assoc], ⟨c1, c2, rfl, h1, h3⟩, h2.append h4⟩
    · cases h
  | arr n e ih =>
    intro c r h
    have key : ∀ (n : Nat) (c r : List Value), Nat.rec (motive := fun _ => List Value → Option (List Value)) (fun r => some r) (fun _ f r => match e.zmatch r with | some r' => f r' | none => none) n c = some r →
        ∃ css, c = css.flatten ++ r ∧ All2 (Cells O w e) (List.replicate n e.dflt) css := by
      intro n
      induction n with
      | zero => intro c r h; cases h; exact ⟨[], rfl, trivial⟩
      | succ n ihn =>
        intro c r h
        simp only at h
        split at h
        · rename_i r' hr
          obtain ⟨c1, rfl, h1, h2⟩ := ih hr
          obtain ⟨css, rfl, h3⟩ := ihn _ _ h
          exact ⟨c1 :: css, by simp, h1, h3⟩
        · cases h
    obtain ⟨css, rfl, h1⟩ := key n c r h
    have hc : Cells O w (.arr n e) (Kd.dflt (.arr n e)) css.flatten := ⟨by simp [Kd.dflt], css, rfl, h1⟩
    exact ⟨css.flatten, rfl, hc, CsRel.single (.p hc)⟩
end
end Go.Abs
namespace Go.Abs

structure Eff where
  w : List (Nat × Option Val)
  c : List Prop
  /-- names that are given anew -/
  n : List Nat

structure CallHint where
  /-- rows that are handed on as data; whether they are given away -/
  lend : List (Nat × Bool)
  /-- owned things that are handed on: our name, the callee's name -/
  pass : List (Nat × Nat)
  /-- what comes back, in the callee's names -/
  res : Val
  outs : List (Nat × Val)
  /-- what comes back: the callee's name, our name -/
  back : List (Nat × Nat)
  /-- our names of what comes back as it was -/
  same : List Nat := []
  deriving Inhabited

structure Hint where
  dec : Option Bool := none
  pick : Option Bool := none
  call : Option CallHint := none
  deriving Inhabited

def rename (m : List (Nat × Nat)) (r : Nat) : Option Nat := match m with
  | [] => none
  | (a, b) :: m => if r = a then some b else rename m r

mutual
def AV.ren (m : List (Nat × Nat)) : AV → Option AV
  | .ptr r o => (rename m r).map (.ptr · o)
  | .rptr e r i o => (rename m r).map (.rptr e · i o)
  | .row r n => (rename m r).map (.row · n)
  | .rsuf e r lo n => (rename m r).map (.rsuf e · lo n)
  | .aptr e r off n i o => (rename m r).map (.aptr e · off n i o)
  | .bsl e r off n lo m' => (rename m r).map (.bsl e · off n lo m')
  | .agg cs => (AV.renL m cs).map .agg
  | .fn f cs => (AV.renL m cs).map (.fn f)
  | a => some a
def AV.renL (m : List (Nat × Nat)) : List AV → Option (List AV)
  | [] => some []
  | a :: as => match a.ren m, AV.renL m as with
    | some b, some bs => some (b :: bs)
    | _, _ => none
end

def Val.ren (m : List (Nat × Nat)) : Val → Option Val
  | .v a => (a.ren m).map .v
  | .t as => (AV.renL m as).map .t
  | .box cs => (AV.renL m cs).map .box
  | .row e u l => some (.row e u l)

mutual
def AV.flat : AV → Bool
  | .p k _ => k.flat
  | .agg cs | .fn _ cs => AV.flatL cs
  | .eptr .. | .nn .. => false
  | _ => true
def AV.flatL : List AV → Bool
  | [] => true
  | a :: as => a.flat && AV.flatL as
end
def Val.flat : Val → Bool
  | .v a => a.flat
  | .t as | .box as => AV.flatL as
  | .row e _ _ => e.flat

def constAV : Value → Option AV
  | .int k n => some (.p (.int k) n)
  | .bool b => some (.p .bool b)
  | .string s => some (.p .str s)
  | .slice none 0 0 => some .nilsl
  | _ => none

class Globs where
  tbl : Nat → Option ((k : Kd) × k.T)
def gAV (y : (k : Kd) × k.T) : AV := .eptr y.1 [y.2] 0 0

section
variable [Globs]
def opv : Operand → RM Val
  | .tmp t => .get (sk t) .ret
  | .const v => match constAV v with
    | some a => .ret (.v a)
    | none => .fail
  | .func f => .ret (.v (.fn f []))
  | .global g => match Globs.tbl g with
    | some y => .ret (.v (gAV y))
    | none => .fail

def opa (x : Operand) : RM AV := (opv x).bind fun | .v a => .ret a | _ => .fail

def opas : List Operand → RM (List AV)
  | [] => .ret []
  | x :: xs => (opa x).bind fun a => (opas xs).bind fun as => .ret (a :: as)

def optI : Option Operand → RM (Option Int)
  | none => .ret none
  | some x => (opa x).bind fun | .p (.int _) n => .ret (some n) | _ => .fail

end

def Kd.eqb : (k : Kd) → k.T → k.T → Bool
  | .int _, x, y => (x : Int) == y
  | .bool, x, y => (x : Bool) == y
  | .str, x, y => (x : ByteArray) == y
  | .pair a b, x, y => a.eqb x.1 y.1 && b.eqb x.2 y.2
  | .unit, _, _ => true
  | .arr _ e, x, y => (List.zipWith (fun a b => e.eqb a b) x y).all id
  | .sl _, _, _ => false

def StructEq (P : Program) (t : TypeId) (k : Kd) : Prop :=
  ∀ (O : Nat → Prop) (w : World) (x y : k.T) (cx cy : List Value), Cells O w k x cx → Cells O w k y cy →
    (∀ (op : BinOp) (p q : Operand), (eqGuard op t p q (.agg cx.toArray) (.agg cy.toArray)).run P w = .ok () w) ∧
    (Op.equal t (.agg cx.toArray) (.agg cy.toArray)).run P w = .ok (k.eqb x y) w

def boolT (P : Program) (t : TypeId) : Bool := match P.underlying t with | some .bool => true | _ => false

def evInt (op : BinOp) (k : IntKind) (a b : Int) : Option (AV × List Prop) :=
  match op with
  | .add => some (.p (.int k) (k.wrap (a + b)), [])
  | .sub => some (.p (.int k) (k.wrap (a - b)), [])
  | .mul => some (.p (.int k) (k.wrap (a * b)), [])
  | .quo => some (.p (.int k) (k.wrap (a.tdiv b)), [b ≠ 0])
  | .rem => some (.p (.int k) (a.tmod b), [b ≠ 0])
  | .and => some (.p (.int k) (k.wrap ((BitVec.ofInt k.bits a &&& BitVec.ofInt k.bits b).toNat : Int)), [])
  | .or => some (.p (.int k) (k.wrap ((BitVec.ofInt k.bits a ||| BitVec.ofInt k.bits b).toNat : Int)), [])
  | .xor => some (.p (.int k) (k.wrap ((BitVec.ofInt k.bits a ^^^ BitVec.ofInt k.bits b).toNat : Int)), [])
  | .andNot => some (.p (.int k) (k.wrap ((BitVec.ofInt k.bits a &&& ~~~(BitVec.ofInt k.bits b)).toNat : Int)), [])
  | .eql => some (.p .bool (a == b), [])
  | .neq => some (.p .bool (a != b), [])
  | .lss => some (.p .bool (decide (a < b)), [])
  | .leq => some (.p .bool (decide (a ≤ b)), [])
  | .gtr => some (.p .bool (decide (a > b)), [])
  | .geq => some (.p .bool (decide (a ≥ b)), [])
  | _ => none

def evAggEq (P : Program) (op : BinOp) (xt : TypeId) (a b : AV) : Option (AV × List Prop) :=
  match a.isAgg, b.isAgg, kdOf P 12 xt with
    | true, true, some k => match AV.toP k a.cellsOf, AV.toP k b.cellsOf with
      | some (x, []), some (y, []) =>
        match op with
        | .eql => some (.p .bool (k.eqb x y), [StructEq P xt k])
        | .neq => some (.p .bool (!(k.eqb x y)), [StructEq P xt k])
        | _ => none
      | _, _ => none
    | _, _, _ => none

def isSlice : TypeDesc → Bool
  | .slice _ => true
  | _ => false

def evNil (op : BinOp) (b : Bool) : Option (AV × List Prop) := match op with
  | .eql => some (.p .bool b, [])
  | .neq => some (.p .bool (!b), [])
  | _ => none

def evBin (P : Program) (op : BinOp) (xt : TypeId) : AV → AV → Option (AV × List Prop)
  | .p (.int k) a, .p (.int k') b =>
    match op with
    | .shl => some (.p (.int k) (k.wrap (a * 2 ^ (min b.toNat k.bits))), [0 ≤ b])
    | .shr => some (.p (.int k) (a.fdiv (2 ^ (min b.toNat k.bits))), [0 ≤ b])
    | op => if k = k' then evInt op k a b else none
  | .p .bool a, .p .bool b => if boolT P xt then
      match op with
      | .eql => some (.p .bool (a == b), [])
      | .neq => some (.p .bool (!(a == b)), [])
      | _ => none
    else none
  | .p .str a, .p .str b =>
    match op with
    | .add => some (.p .str (a ++ b), [((a.size + b.size : Nat) : Int) ≤ IntKind.i64.max])
    | .eql => some (.p .bool (a.toList == b.toList), [])
    | .neq => some (.p .bool (!(a.toList == b.toList)), [])
    | .lss => some (.p .bool (Op.bytesLess a.toList b.toList), [])
    | .leq => some (.p .bool (Op.bytesLess a.toList b.toList || a.toList == b.toList), [])
    | .gtr => some (.p .bool (!(Op.bytesLess a.toList b.toList || a.toList == b.toList)), [])
    | .geq => some (.p .bool (!(Op.bytesLess a.toList b.toList)), [])
    | _ => none
  | .nilsl, .nilsl => if (P.underlying xt).any isSlice then evNil op true else none
  | .nn _ _, .nilsl => if (P.underlying xt).any isSlice then evNil op false else none
  | a, b => evAggEq P op xt a b

def evUn (op : UnOp) : AV → Option AV
  | .p .bool b => match op with
    | .not => some (.p .bool (!b))
    | _ => none
  | .p (.int k) n => match op with
    | .neg => some (.p (.int k) (k.wrap (0 - n)))
    | .xor => some (.p (.int k) (k.wrap ((BitVec.ofInt k.bits (if k.signed then -1 else k.max) ^^^ BitVec.ofInt k.bits n).toNat : Int)))
    | _ => none
  | _ => none

def strOf (l : List Int) : ByteArray := ⟨(l.map fun n => UInt8.ofNat n.toNat).toArray⟩
def bt (s : ByteArray) (i : Int) : Int := ((s.data.toList.getD i.toNat 0).toNat : Int)

def evConv (P : Program) (src dst : TypeId) : AV → RM AV
  | .p (.int _) n => match P.underlying src, P.underlying dst with
    | some (.int _), some (.int k) => .ret (.p (.int k) (k.wrap n))
    | _, _ => .fail
  | .p .str s => match P.underlying src, P.underlying dst with
    | some .string, some .string => .ret (.p .str s)
    | _, _ => .fail
  | .p (.sl (.int .u8)) l => match P.underlying src, P.underlying dst with
    | some (.slice e), some .string => match P.underlying e with
      | some (.int .u8) => .ret (.p .str (strOf l))
      | _ => .fail
    | _, _ => .fail
  | .row r n => match P.underlying src, P.underlying dst with
    | some (.slice e), some .string => match P.underlying e with
      | some (.int .u8) => .get (ek r) fun
        | .row (.int .u8) _ l => .ret (.p .str (strOf (List.take n l)))
        | _ => .fail
      | _ => .fail
    | _, _ => .fail
  | .bsl e r off n lo m => match P.underlying src, P.underlying dst with
    | some (.slice et), some .string => match P.underlying et with
      | some (.int .u8) => .get (ek r) fun
        | .box cs => match AV.subs cs off (n * 1) true with
          | some (.p (.arr n' (.int .u8)) x) => if e = .int .u8 ∧ n' = n then .ret (.p .str (strOf (List.take m (List.drop lo x)))) else .fail
          | _ => .fail
        | _ => .fail
      | _ => .fail
    | _, _ => .fail
  | _ => .fail

def sliceT (P : Program) (t : TypeId) : Option TypeId := match P.underlying t with | some (.slice e) => some e | _ => none
def stringT (P : Program) (t : TypeId) : Bool := match P.underlying t with | some .string => true | _ => false

def fits (P : Program) (et : TypeId) (e : Kd) : Bool := P.cellsOf et == e.size && (P.info? et).isSome && decide (0 < e.size)

def okT (P : Program) (t : TypeId) : Bool := (P.info? t).isSome && (P.underlying t).isSome
def arrayT (P : Program) (t : TypeId) : Option (Nat × TypeId) := match P.underlying t with | some (.array n e) => some (n, e) | _ => none
def elemKd (P : Program) (et : TypeId) : Option Kd := match kdOf P 12 et with | some e => if fits P et e then some e else none | none => none

def bnds (n : Nat) : Option Int → Option Int → Nat × Nat × List Prop
  | none, none => (0, n, [])
  | some l, none => (l.toNat, n, [0 ≤ l, l ≤ (n : Int)])
  | none, some h => (0, h.toNat, [0 ≤ h, h ≤ (n : Int)])
  | some l, some h => (l.toNat, h.toNat, [0 ≤ h, h ≤ (n : Int), 0 ≤ l, l ≤ h])

def evSlice (P : Program) (t : TypeId) (lo hi : Option Int) : AV → RM (AV × List Prop)
  | .p .str s => if stringT P t then
      match lo, hi with
      | none, none => .ret (.p .str (s.extract 0 s.size), [])
      | some l, none => .ret (.p .str (s.extract l.toNat s.size), [0 ≤ l, l ≤ (s.size : Int)])
      | none, some h => .ret (.p .str (s.extract 0 h.toNat), [0 ≤ h, h ≤ (s.size : Int)])
      | some l, some h => .ret (.p .str (s.extract l.toNat h.toNat), [0 ≤ h, h ≤ (s.size : Int), 0 ≤ l, l ≤ h])
    else .fail
  | .p (.sl e) x => match sliceT P t with
    | some et => if fits P et e then
      match lo, hi with
      | none, none => .ret (.p (.sl e) x, [])
      | some l, none => .ret (.p (.sl e) (List.drop l.toNat x), [0 ≤ l, l ≤ (List.length x : Int)])
      | none, some h => .ret (.p (.sl e) (List.take h.toNat x), [0 ≤ h, h ≤ (List.length x : Int)])
      | some l, some h => .ret (.p (.sl e) (List.drop l.toNat (List.take h.toNat x)), [0 ≤ h, h ≤ (List.length x : Int), 0 ≤ l, l ≤ h])
      else .fail
    | none => .fail
  | .row r n => match sliceT P t with
    | some et => .get (ek r) fun
      | .row e _ _ => if fits P et e then
        match lo, hi with
        | none, none => .ret (.row r n, [])
        | none, some h => .ret (.row r h.toNat, [0 ≤ h, h ≤ (n : Int)])
        | some l, none => .ret (.rsuf e r l.toNat (n - l.toNat), [0 ≤ l, l ≤ (n : Int)])
        | _, _ => .fail
        else .fail
      | _ => .fail
    | none => .fail
  | .ptr r off => match arrayT P t with
    | some (n, et) => match elemKd P et with
      | some e => .ret (.bsl e r off n (bnds n lo hi).1 ((bnds n lo hi).2.1 - (bnds n lo hi).1), (bnds n lo hi).2.2)
      | none => .fail
    | none => .fail
  | .bsl e r off n lo' m => match sliceT P t with
    | some et => if fits P et e then .ret (.bsl e r off n (lo' + (bnds m lo hi).1) ((bnds m lo hi).2.1 - (bnds m lo hi).1), (bnds m lo hi).2.2) else .fail
    | none => .fail
  | _ => .fail

def evIndexAddr (P : Program) (t : TypeId) (i : Int) : AV → RM (AV × List Prop)
  | .ptr r off => match arrayT P t with
    | some (n, et) => match elemKd P et with
      | some e => .ret (.aptr e r off n i.toNat 0, [0 ≤ i, i < (n : Int)])
      | none => .fail
    | none => .fail
  | .eptr k l j off => match arrayT P t with
    | some (n, et) => match elemKd P et with
      | some e => match Kd.sub k (List.getD l j k.dflt) off (n * e.size) true with
        | some (.p (.arr n' e') x) => if e' = e ∧ n' = n then .ret (.eptr e' x i.toNat 0, [0 ≤ i, i < (n : Int)]) else .fail
        | _ => .fail
      | none => .fail
    | none => .fail
  | .bsl e r off n lo m => match sliceT P t with
    | some et => if fits P et e then .ret (.aptr e r off n (lo + i.toNat) 0, [0 ≤ i, i < (m : Int)]) else .fail
    | none => .fail
  | .p (.sl e) x => match sliceT P t with
    | some et => if fits P et e then .ret (.eptr e x i.toNat 0, [0 ≤ i, i < (List.length x : Int)]) else .fail
    | none => .fail
  | .row r n => match sliceT P t with
    | some et => .get (ek r) fun
      | .row e _ l => if fits P et e then .ret (.rptr e r i.toNat 0, [0 ≤ i, i < (n : Int), n ≤ l.length]) else .fail
      | _ => .fail
    | none => .fail
  | _ => .fail

def evIndex (P : Program) (t : TypeId) (i : Int) : AV → RM (AV × List Prop)
  | .p (.arr n e) x => match arrayT P t with
    | some (n', et) => if n' = n ∧ fits P et e ∧ okT P et ∧ aggT P et = e.agg then .ret (AV.nf (.p e (List.getD x i.toNat e.dflt)), [0 ≤ i, i < (n : Int)]) else .fail
    | none => .fail
  | .p .str s => if stringT P t then .ret (.p (.int .u8) (bt s i), [0 ≤ i, i < (s.size : Int)]) else .fail
  | _ => .fail

def fieldOff (P : Program) (t : TypeId) (f : Nat) : Option (Nat × TypeId) := match P.underlying t with
  | some (.struct fs) => (fs[f]?).map fun x => (x.offset, x.type)
  | _ => none

def evFieldAddr (P : Program) (t : TypeId) (f : Nat) (a : AV) : Option AV := match fieldOff P t f with
  | some (o, ft) => if P.cellsOf ft = 0 ∨ (P.info? ft).isNone then none else match a with
    | .ptr r off => some (.ptr r (off + o))
    | .eptr e l i off => some (.eptr e l i (off + o))
    | .rptr e r i off => some (.rptr e r i (off + o))
    | .aptr e r off n i p => some (.aptr e r off n i (p + o))
    | _ => none
  | none => none

def evLoadA (P : Program) (t : TypeId) (e : Kd) (r off n i o : Nat) : RM (AV × List Prop) := .get (ek r) fun
    | .box cs => match AV.subs cs off (n * e.size) true with
      | some (.p (.arr n' e') x) => if e' = e ∧ n' = n then match Kd.sub e' (List.getD x i e'.dflt) o (P.cellsOf t) (aggT P t) with
        | some a => .ret (a, [])
        | none => .fail
        else .fail
      | _ => .fail
    | _ => .fail

def evLoad (P : Program) (t : TypeId) : AV → RM (AV × List Prop)
  | .ptr r off => .get (ek r) fun
    | .box cs => match AV.subs cs off (P.cellsOf t) (aggT P t) with
      | some a => .ret (a, [])
      | none => .fail
    | _ => .fail
  | .eptr e l i off => match Kd.sub e (List.getD l i e.dflt) off (P.cellsOf t) (aggT P t) with
    | some a => .ret (a, [])
    | none => .fail
  | .rptr e r i off => .get (ek r) fun
    | .row e' _ l => if h : e' = e then match Kd.sub e (List.getD (h ▸ l : List e.T) i e.dflt) off (P.cellsOf t) (aggT P t) with
      | some a => .ret (a, [i < l.length])
      | none => .fail
      else .fail
    | _ => .fail
  | .aptr e r off n i o => evLoadA P t e r off n i o
  | _ => .fail


def stores (P : Program) (t : TypeId) (x : AV) : Bool := x.size == P.cellsOf t && okT P t && (match x with | .und => false | _ => true)

def evStoreA (P : Program) (t : TypeId) (X : AV) (e : Kd) (r off n i o : Nat) : RM Eff := .get (ek r) fun
    | .box cs => if stores P t X ∧ o = 0 then match AV.subs cs off (n * e.size) true with
      | some (.p (.arr n' e') y) => if e' = e ∧ n' = n then match AV.toP e' X.cellsOf with
        | some (z, []) => match AV.upds cs off [.p (.arr n' e') (List.set y i z)] (n' * e'.size) with
          | some cs' => .ret ⟨[(ek r, some (.box cs'))], [], []⟩
          | none => .fail
        | _ => .fail
        else .fail
      | _ => .fail
      else .fail
    | _ => .fail

def evStore (P : Program) (t : TypeId) (x : AV) : AV → RM Eff
  | .ptr r off => .get (ek r) fun
    | .box cs => if stores P t x then match AV.upds cs off x.cellsOf x.size with
      | some cs' => .ret ⟨[(ek r, some (.box cs'))], [], []⟩
      | none => .fail
      else .fail
    | _ => .fail
  | .rptr e r i off => .get (ek r) fun
    | .row e' et l => if stores P t x ∧ off = 0 then if h : e' = e then match AV.toP e x.cellsOf with
        | some (y, []) => .ret ⟨[(ek r, some (.row e et (List.set (h ▸ l : List e.T) i y)))], [i < l.length], []⟩
        | _ => .fail
        else .fail
      else .fail
    | _ => .fail
  | .aptr e r off n i o => evStoreA P t x e r off n i o
  | _ => .fail

def fillAV (place : Nat → Option (Nat × Nat)) : List (Nat × AV) → List AV → Option (List AV)
  | [], cs => some cs
  | (i, x) :: r, cs => match place i with
    | some (off, n) => if x.size = n then (match AV.upds cs off x.cellsOf n with
        | some cs' => fillAV place r cs'
        | none => none) else none
    | none => none

def placeOf (P : Program) (t : TypeId) (i : Nat) : Option (Nat × Nat) := match P.underlying t with
  | some (.struct fs) => match fs[i]? with
    | some f => if (P.info? f.type).isSome then some (f.offset, P.cellsOf f.type) else none
    | none => none
  | _ => none

def partsOf [Globs] : List (Nat × Operand) → RM (List (Nat × AV))
  | [] => .ret []
  | (i, x) :: r => (opa x).bind fun a => match a with
    | .und => .fail
    | a => (partsOf r).bind fun as => .ret ((i, a) :: as)

def allTyped (P : Program) (t : TypeId) : Bool := match P.underlying t with
  | some (.struct fs) => fs.all fun f => (P.info? f.type).isSome
  | _ => false

def fillRow (k : Kd) : List (Nat × AV) → List k.T → Option (List k.T)
  | [], l => some l
  | (i, x) :: r, l => if i < l.length ∧ x.size = k.size then match AV.toP k x.cellsOf with
      | some (y, []) => fillRow k r (l.set i y)
      | _ => none
    else none

def evBuild (P : Program) (t : TypeId) (parts : List (Nat × AV)) : Option AV :=
  match zeroOf P t with
  | some (.arr n e, _) => match arrayT P t with
    | some (_, et) => if fits P et e then (fillRow e parts (List.replicate n e.dflt)).map (fun l => .p (.arr n e) l) else none
    | none => none
  | some (_, zs) => if allTyped P t then (fillAV (placeOf P t) parts zs).map .agg else none
  | none => none

def evBuildSlice (P : Program) (t : TypeId) (n : Nat) (parts : List (Nat × AV)) (d : Nat) : Option Eff :=
  match sliceT P t with
  | some et => match zeroOf P et with
    | some (k, _) => if n * k.size ≤ 2 ^ 24 ∧ 0 < k.size then match fillRow k parts (List.replicate n k.dflt) with
      | some l => some ⟨[(ek d, some (.row k et l)), (sk d, some (.v (.row d n)))], [], [d]⟩
      | none => none
      else none
    | none => none
  | none => none

def evElems (part : Bool) (e : Kd) : AV → RM (List e.T × List Prop)
  | .p (.sl e') l => if h : e' = e then .ret (h ▸ l, []) else .fail
  | .nilsl => .ret ([], [])
  | .row r n => .get (ek r) fun
    | .row e' _ l => if h : e' = e then match part with
        | false => .ret (h ▸ l, [n = l.length])
        | true => .ret (h ▸ List.take n l, [n ≤ l.length])
      else .fail
    | _ => .fail
  | .rsuf e2 r lo n => .get (ek r) fun
    | .row e' _ l => if h : e' = e then if e2 = e then .ret (h ▸ List.take n (List.drop lo l), [lo + n ≤ l.length]) else .fail else .fail
    | _ => .fail
  | _ => .fail

def lenAV : AV → Option Int
  | .p (.sl _) l => some (List.length l : Int)
  | .p .str s => some (s.size : Int)
  | .nilsl => some 0
  | .row _ n => some (n : Int)
  | .rsuf _ _ _ n => some (n : Int)
  | .bsl _ _ _ _ _ m => some (m : Int)
  | _ => none

def lenT (P : Program) (t : TypeId) : AV → Bool
  | .p .str _ => stringT P t
  | _ => (sliceT P t).isSome

def AppBound (P : Program) (et : TypeId) (n m : Nat) : Prop := n + m ≤ maxLen ∧ (n + m) * P.bytesOf et ≤ 140737488355328

def bytesOf (s : ByteArray) : List Int := s.data.toList.map fun b => (b.toNat : Int)

def zeroU8 (P : Program) (et : TypeId) : Bool := match P.info? et with
  | some i => match i.zero with
    | some (.int .u8 n) => n == 0
    | _ => false
  | none => false

def evAppendS (P : Program) (t t2 : TypeId) (s x : AV) (d : Nat) : RM Eff :=
  match sliceT P t, x with
  | some et, .p .str str => match zeroOf P et with
    | some (.int .u8, _) => if stringT P t2 ∧ P.bytesOf et = 1 ∧ zeroU8 P et then match s with
      | .nilsl => .ret ⟨[(ek d, some (.row (.int .u8) et (bytesOf str))), (sk d, some (.v (.row d (List.length (bytesOf str)))))], [AppBound P et 0 (List.length (bytesOf str))], [d]⟩
      | .row r n => .get (ek r) fun
        | .row e et' l => if h : e = .int .u8 then if et' = et ∧ d ≠ r then
            .ret ⟨[(ek d, some (.row (.int .u8) et ((h ▸ l : List (Kd.int .u8).T) ++ bytesOf str))), (ek r, none), (sk d, some (.v (.row d (List.length ((h ▸ l : List (Kd.int .u8).T) ++ bytesOf str)))))], [n = l.length, AppBound P et (List.length l) (List.length (bytesOf str))], [d]⟩
          else .fail else .fail
        | _ => .fail
      | _ => .fail
      else .fail
    | _ => .fail
  | _, _ => .fail

def evCopy (P : Program) (t t2 : TypeId) (d : Nat) (dst src : AV) : RM Eff :=
  match dst, src, sliceT P t with
  | .bsl e r off n lo m, .p .str s, some et => if e = .int .u8 ∧ fits P et e ∧ stringT P t2 then .get (ek r) fun
    | .box cs => match AV.subs cs off (n * 1) true with
      | some (.p (.arr n' (.int .u8)) x) => if n' = n then match AV.upds cs off [.p (.arr n' (.int .u8)) (List.take lo x ++ List.take m (bytesOf s) ++ List.drop (lo + min s.size m) x)] (n' * 1) with
        | some cs' => .ret ⟨[(sk d, some (.v (.p (.int .i64) ((min s.size m : Nat) : Int)))), (ek r, some (.box cs'))], [], []⟩
        | none => .fail
        else .fail
      | _ => .fail
    | _ => .fail
    else .fail
  | _, _, _ => .fail

def evArrayAt (P : Program) (t : TypeId) : AV → Option (AV × List Prop)
  | .bsl e r off _ lo m => match arrayT P t with
    | some (n', et) => if 0 < n' ∧ fits P et e then some (.ptr r (off + lo * e.size), [n' ≤ m]) else none
    | none => none
  | _ => none

def evField (P : Program) (t : TypeId) (f : Nat) : AV → Option AV
  | .agg cs => match fieldOff P t f with
    | some (off, ft) => if okT P ft then (AV.subs cs off (P.cellsOf ft) (aggT P ft)).map AV.nf else none
    | none => none
  | _ => none

def evAppend (P : Program) (t t2 : TypeId) (s x : AV) (d : Nat) (part : Bool) : RM Eff :=
  if t ≠ t2 then evAppendS P t t2 s x d else
  match sliceT P t with
  | some et => match zeroOf P et with
    | some (k, _) => if k.size = 0 then .fail else match s with
      | .nilsl => (evElems part k x).bind fun (l2, c) => .ret ⟨[(ek d, some (.row k et l2)), (sk d, some (.v (.row d (List.length l2))))], AppBound P et 0 (List.length l2) :: c, [d]⟩
      | .row r n => .get (ek r) fun
        | .row e et' l => if h : e = k then if et' = et ∧ d ≠ r then (evElems part k x).bind fun (l2, c) =>
            .ret ⟨[(ek d, some (.row k et ((h ▸ l : List k.T) ++ l2))), (ek r, none), (sk d, some (.v (.row d (List.length ((h ▸ l : List k.T) ++ l2)))))], (n = l.length) :: AppBound P et (List.length l) (List.length l2) :: c, [d]⟩
          else .fail else .fail
        | _ => .fail
      | _ => .fail
    | none => .fail
  | none => .fail

def mm (mx : Bool) (x y : Int) : Int := if mx then (if y > x then y else x) else (if y < x then y else x)
def evMM (mx : Bool) (k : IntKind) (x : Int) : List AV → Option Int
  | [] => some x
  | .p (.int k') y :: r => if k' = k then evMM mx k (mm mx x y) r else none
  | _ => none

def slotT (d : Option Nat) : St := match d with
  | some d => [(sk d, some (.t []))]
  | none => []

def evClear (P : Program) (t : TypeId) (d : Option Nat) : AV → RM Eff
  | .rsuf e r lo n => match sliceT P t with
    | some et => .get (ek r) fun
      | .row e' et' l => if h : e' = e then if et' = et ∧ fits P et e then match zeroOf P et with
          | some (k, _) => if k = e then .ret ⟨(ek r, some (.row e et' (List.take lo (h ▸ l : List e.T) ++ List.replicate n e.dflt ++ List.drop (lo + n) (h ▸ l : List e.T)))) :: slotT d, [lo + n ≤ l.length], []⟩ else .fail
          | none => .fail
        else .fail else .fail
      | _ => .fail
    | none => .fail
  | _ => .fail

end Go.Abs
set_option linter.unusedVariables false
namespace Go.Abs

def noDst (o : Oper) : Bool := o.dst.isNone
def put1 (o : Oper) (x : Val) (c : List Prop) : RM Eff := match o.dst with
  | some d => .ret ⟨[(sk d, some x)], c, []⟩
  | none => .fail
def putR (o : Oper) (m : RM (AV × List Prop)) : RM Eff := m.bind fun (a, c) => put1 o (.v a) c
def putO (o : Oper) (m : Option (AV × List Prop)) : RM Eff := match m with
  | some (a, c) => put1 o (.v a) c
  | none => .fail

structure Spc where
  f : Nat
  args : List AV
  ents : List (Nat × Val)
  res : Val
  outs : List (Nat × Val)

mutual
def lendAV (ids : List Nat) : AV → RM (AV × List Prop)
  | .row r n => if ids.contains r then .get (ek r) fun
      | .row e _ l => .ret (.p (.sl e) l, [n = l.length])
      | _ => .fail
    else .ret (.row r n, [])
  | .bsl e r off n lo m => if ids.contains r then .get (ek r) fun
      | .box cs => match AV.subs cs off (n * e.size) true with
        | some (.p (.arr n' e') x) => if e' = e ∧ n' = n then .ret (.p (.sl e') (List.take m (List.drop lo x)), []) else .fail
        | _ => .fail
      | _ => .fail
    else .ret (.bsl e r off n lo m, [])
  | .agg cs => (lendL ids cs).bind fun (cs, c) => .ret (.agg cs, c)
  | .und => .fail
  | a => .ret (a, [])
def lendL (ids : List Nat) : List AV → RM (List AV × List Prop)
  | [] => .ret ([], [])
  | a :: as => (lendAV ids a).bind fun (b, c) => (lendL ids as).bind fun (bs, c') => .ret (b :: bs, c ++ c')
end

def getEnts : List (Nat × Nat) → RM (List (Nat × Val))
  | [] => .ret []
  | (a, b) :: m => .get (ek a) fun x => (getEnts m).bind fun r => .ret ((b, x) :: r)

def renEnts (m : List (Nat × Nat)) : List (Nat × Val) → Option (List (Nat × Val))
  | [] => some []
  | (k, x) :: r => match x.ren m, renEnts m r with
    | some y, some ys => some ((k, y) :: ys)
    | _, _ => none

def renKeys (m : List (Nat × Nat)) : List (Nat × Val) → Option (List (Nat × Val))
  | [] => some []
  | (k, x) :: r => match rename m k, x.ren m, renKeys m r with
    | some k', some y, some ys => some ((k', y) :: ys)
    | _, _, _ => none

def nodupN : List Nat → Bool
  | [] => true
  | a :: as => !as.contains a && nodupN as

def evCall (S : Spc → Prop) (o : Oper) (f : Nat) (args : List AV) (h : CallHint) : RM Eff :=
  (lendL (h.lend.map (·.1)) args).bind fun (args1, c1) =>
  match AV.renL h.pass args1 with
  | none => .fail
  | some args2 => (getEnts h.pass).bind fun es => match renEnts h.pass es with
    | none => .fail
    | some es2 => match renKeys h.back h.outs, h.res.ren h.back with
      | some outs2, some res2 =>
        if nodupN (h.pass.map (·.1)) ∧ nodupN (h.pass.map (·.2)) ∧ nodupN (h.back.map (·.1)) ∧ nodupN (h.back.map (·.2)) ∧ nodupN (h.outs.map (·.1))
          ∧ (h.back.all fun (a, b) => (h.pass.all fun (x, y) => (x == b) == (y == a)) && h.outs.any fun o => o.1 == a)
          ∧ (h.lend.all fun (r, g) => !(h.pass.map (·.1)).contains r && !(h.back.map (·.2)).contains r)
          ∧ ((h.lend.all (·.2)) || (h.res.flat && h.outs.all (·.2.flat))) then
          match o.dst with
          | some d => .ret ⟨outs2.map (fun (k, x) => (ek k, some x)) ++ h.pass.map (fun (k, _) => (ek k, none)) ++ (h.lend.filter (·.2)).map (fun (k, _) => (ek k, none)) ++ [(sk d, some res2)],
              S ⟨f, args2, es2, h.res, h.outs⟩ :: c1, (h.back.map (·.2)).filter fun k => !(h.pass.map (·.1)).contains k⟩
          | none => .fail
        else .fail
      | _, _ => .fail

def sameKeys : List Nat → Eff → RM Eff
  | [], e => .ret e
  | r :: rs, e => .get (ek r) fun x => match St.get (ek r) e.w with
    | some y => sameKeys rs ⟨e.w.filter fun z => !Nat.beq (ek r) z.1, (x = y) :: e.c, e.n⟩
    | none => .fail

def callOk (P : Program) (f : Nat) : Bool := match P.funcs[f]? with
  | some fn => fn.body.isSome && !(fn.name == "runtime.NumGoroutine")
  | none => false

variable [Globs]

def opEff (P : Program) (S : Spc → Prop) (h : Hint) (o : Oper) : RM Eff :=
  match o.op with
  | .move x | .assign x => (opv x).bind fun v => put1 o v []
  | .pick c a b => (opa c).bind fun
    | .p .bool x => match h.pick with
      | some true => (opv a).bind fun v => put1 o v [x = true]
      | some false => (opv b).bind fun v => put1 o v [x = false]
      | none => .fail
    | _ => .fail
  | .alloc t => match zeroOf P t, o.dst with
    | some (_, zs), some d => .ret ⟨[(ek d, some (.box zs)), (sk d, some (.v (.ptr d 0)))], [], [d]⟩
    | _, _ => .fail
  | .box _ x => (opa x).bind fun a => match a, o.dst with
    | .und, _ => .fail
    | a, some d => .ret ⟨[(ek d, some (.box a.cellsOf)), (sk d, some (.v (.ptr d 0)))], [], [d]⟩
    | _, none => .fail
  | .load t x => (opa x).bind fun a => if okT P t then putR o ((evLoad P t a).bind fun (b, c) => .ret (b.nf, c)) else .fail
  | .store t x y => (opa x).bind fun a => (opa y).bind fun v => if noDst o then evStore P t v a else .fail
  | .binOp op xt x y _ => (opa x).bind fun a => (opa y).bind fun b => putO o (evBin P op xt a b)
  | .unOp op _ x => (opa x).bind fun a => putO o ((evUn op a).map fun a => (a, []))
  | .convert s d x => (opa x).bind fun a => putR o ((evConv P s d a).bind fun a => .ret (a, []))
  | .makeFunc (.func f) first caps => if first.isEmpty then (opas caps.toList).bind fun as => if AV.ones as then put1 o (.v (.fn f as)) [] else .fail else .fail
  | .slice t x lo hi none => (opa x).bind fun a => (optI lo).bind fun l => (optI hi).bind fun u => putR o (evSlice P t l u a)
  | .fieldAddr t x f => (opa x).bind fun a => putO o ((evFieldAddr P t f a).map fun a => (a, []))
  | .indexAddr t x i => (opa x).bind fun a => (opa i).bind fun | .p (.int _) n => putR o (evIndexAddr P t n a) | _ => .fail
  | .index t x i => (opa x).bind fun a => (opa i).bind fun | .p (.int _) n => putR o (evIndex P t n a) | _ => .fail
  | .build t parts => (partsOf parts.toList).bind fun ps => putO o ((evBuild P t ps).map fun a => (a, []))
  | .buildSlice t n parts => (partsOf parts.toList).bind fun ps => match o.dst with
    | some d => match evBuildSlice P t n ps d with
      | some e => .ret e
      | none => .fail
    | none => .fail
  | .extract x i => (opv x).bind fun | .t as => (match as[i]? with | some a => put1 o (.v a) [] | none => .fail) | _ => .fail
  | .sliceToArrayPointer t x => (opa x).bind fun a => putO o (evArrayAt P t a)
  | .field t x f => (opa x).bind fun a => putO o ((evField P t f a).map fun a => (a, []))
  | .nilCheck x => (opa x).bind fun | .ptr r off => put1 o (.v (.ptr r off)) [] | _ => .fail
  | .call c => match c.callee with
    | .builtin b => (opas c.args.toList).bind fun as => match b, as with
      | .len, [a] => match c.argTypes[0]?, lenAV a with
        | some t, some n => if lenT P t a then put1 o (.v (.p (.int .i64) n)) [] else .fail
        | _, _ => .fail
      | .append, [s, x] => match c.argTypes[0]?, c.argTypes[1]?, o.dst with
        | some t, some t2, some d => evAppend P t t2 s x d h.pick.isSome
        | _, _, _ => .fail
      | .copy, [x, y] => match c.argTypes[0]?, c.argTypes[1]?, o.dst with
        | some t, some t2, some d => evCopy P t t2 d x y
        | _, _, _ => .fail
      | .max, .p (.int k) x :: r => match evMM true k x r with
        | some z => put1 o (.v (.p (.int k) z)) []
        | none => .fail
      | .min, .p (.int k) x :: r => match evMM false k x r with
        | some z => put1 o (.v (.p (.int k) z)) []
        | none => .fail
      | .clear, [a] => match c.argTypes[0]? with
        | some t => evClear P t o.dst a
        | none => .fail
      | _, _ => .fail
    | .value f => (opa f).bind fun g => (opas c.args.toList).bind fun as => match g, h.call with
      | .fn f caps, some ch => if callOk P f then (evCall S o f (as ++ caps) ch).bind (sameKeys ch.same) else .fail
      | _, _ => .fail
    | .invoke _ _ => .fail
  | _ => .fail

def operEff (P : Program) (S : Spc → Prop) (ops : Array Oper) (h : Hint) (o : Oper) : RM Eff :=
  match o.guard with
  | none => opEff P S h o
  | some (j, want) => match (ops[j]?).bind (·.dst) with
    | none => .fail
    | some t => .get (sk t) fun
      | .v (.p .bool b) => match h.dec with
        | some x => if x = want then (opEff P S h o).bind fun e => .ret ⟨e.w, (b = x) :: e.c, e.n⟩
          else match o.dst with
            | some d => .ret ⟨[(sk d, some (.v .und))], [b = x], []⟩
            | none => .ret ⟨[], [b = x], []⟩
        | none => .fail
      | .v .und => match o.dst with
            | some d => .ret ⟨[(sk d, some (.v .und))], [], []⟩
            | none => .ret ⟨[], [], []⟩
      | _ => .fail

end Go.Abs
set_option linter.unusedVariables false
namespace Go.Abs

def has (k : Nat) (ws : St) : Bool := ws.any fun x => Nat.beq k x.1

theorem get_cons_eq (k : Nat) (v : Option Val) (st : St) : St.get k ((k, v) :: st) = v := by simp [St.get]
theorem get_cons_ne {k k' : Nat} (v : Option Val) (st : St) (h : k ≠ k') : St.get k ((k', v) :: st) = St.get k st := by
  have : Nat.beq k k' = false := by
    cases hb : Nat.beq k k' with
    | false => rfl
    | true => exact absurd (Nat.eq_of_beq_eq_true hb) h
  simp [St.get, this]

theorem get_append (k : Nat) : ∀ (ws st : St), St.get k (ws ++ st) = if has k ws then St.get k ws else St.get k st
  | [], st => by simp [has]
  | (k', v) :: ws, st => by
    have ih := get_append k ws st
    by_cases hb : k = k'
    · subst hb
      simp [St.get, has]
    · rw [List.cons_append, get_cons_ne _ _ hb, get_cons_ne _ _ hb, ih]
      have : Nat.beq k k' = false := by
        cases hb' : Nat.beq k k' with
        | false => rfl
        | true => exact absurd (Nat.eq_of_beq_eq_true hb') hb
      simp only [has, List.any_cons, this, Bool.false_or]
      rfl

theorem sk_ne_ek (t r : Nat) : sk t ≠ ek r := by unfold sk ek; omega
theorem sk_inj {t u : Nat} (h : sk t = sk u) : t = u := by unfold sk at h; omega
theorem ek_inj {t u : Nat} (h : ek t = ek u) : t = u := by unfold ek at h; omega

structure Cx where
  P : Program
  w0 : World
  base : Nat → Prop
  mt : Nat → Prop
  n : Nat
  /-- names that are the caller's, and where they lie -/
  kp : List Nat
  r0 : Nat → Loc

def Own (base : Nat → Prop) (st : St) (ρ : Nat → Loc) (b : Nat) : Prop := base b ∨ ∃ r, (st.get (ek r)).isSome = true ∧ (ρ r).block = some b

structure Frm (mt : Nat → Prop) (w0 w : World) : Prop where
  os : w.os = w0.os
  tape : w.tape = w0.tape
  output : w.output = w0.output
  size : w0.heap.size ≤ w.heap.size
  block : ∀ b, b < w0.heap.size → ¬ mt b → w.heap[b]? = w0.heap[b]?

theorem Frm.refl (mt : Nat → Prop) (w : World) : Frm mt w w := ⟨rfl, rfl, rfl, Nat.le_refl _, fun _ _ _ => rfl⟩

def GlobOk [Globs] (O : Nat → Prop) (w : World) : Prop :=
  ∀ g y, Globs.tbl g = some y → ∃ css : List (List Value), All2 (Cells O w y.1) [y.2] css ∧ (css.flatten ≠ [] → ¬ O g) ∧ w.rangeAt g 0 css.flatten

theorem GlobOk.stays [Globs] {O O' : Nat → Prop} {w w' : World} (hs : Stays O w O' w') (h : GlobOk O w) : GlobOk O' w' := by
  intro g y hy
  obtain ⟨css, h1, h2, h3⟩ := h g y hy
  have h1' : All2 (Cells O' w' y.1) [y.2] css := All2.mono (fun _ _ hab => Cells.stays hs hab) h1
  cases hv : css.flatten with
  | nil => exact ⟨css, h1', fun hne => absurd hv hne, by rw [hv]; intro j v hv; simp at hv⟩
  | cons v r =>
    have hO := h2 (by rw [hv]; simp)
    have hcell := h3 0 v (by rw [hv]; rfl)
    have hlt := World.block_lt_of_cell? w _ hcell
    exact ⟨css, h1', fun _ => (hs _ hlt hO).1, rangeAt_stays hs hO h3⟩

set_option linter.unusedSectionVars false
variable [Globs]

structure SimR (c : Cx) (ρ : Nat → Loc) (st : St) (a : Act) (w : World) : Prop where
  slots : ∀ t x, St.get (sk t) st = some x → SRel (Own c.base st ρ) ρ w x (a.tmps.getD t undef)
  ents : ∀ r x, St.get (ek r) st = some x → ERel (Own c.base st ρ) ρ w x (ρ r)
  inj : ∀ r r' b, (St.get (ek r) st).isSome = true → (St.get (ek r') st).isSome = true → (ρ r).block = some b → (ρ r').block = some b → r = r'
  mine : ∀ r b, (St.get (ek r) st).isSome = true → (ρ r).block = some b → ¬ c.base b ∧ (c.mt b ∨ c.w0.heap.size ≤ b) ∧ b < w.heap.size
  frame : Frm c.mt c.w0 w
  base : ∀ b, c.base b → b < c.w0.heap.size ∧ ¬ c.mt b
  dfr : a.defers = []
  size : a.tmps.size = c.n
  kp : ∀ r ∈ c.kp, ρ r = c.r0 r
  gl : GlobOk (Own c.base st ρ) w

theorem Own.congr {base : Nat → Prop} {st st' : St} {ρ : Nat → Loc} (h : ∀ k, St.get k st' = St.get k st) : Own base st' ρ = Own base st ρ := by
  funext b; simp only [Own, h]

theorem SimR.congr {c : Cx} {ρ : Nat → Loc} {st st' : St} {a : Act} {w : World} (h : ∀ k, St.get k st' = St.get k st) (hs : SimR c ρ st a w) : SimR c ρ st' a w := by
  have ho := Own.congr (base := c.base) (ρ := ρ) h
  exact ⟨fun t x hx => by rw [ho]; exact hs.slots t x (by rw [← h]; exact hx), fun r x hx => by rw [ho]; exact hs.ents r x (by rw [← h]; exact hx),
    fun r r' b h1 h2 => hs.inj r r' b (by rw [← h]; exact h1) (by rw [← h]; exact h2), fun r b h1 => hs.mine r b (by rw [← h]; exact h1), hs.frame, hs.base, hs.dfr, hs.size, hs.kp, by rw [ho]; exact hs.gl⟩

theorem SimR.step {c : Cx} {ρ ρ' : Nat → Loc} {st st' : St} {a a' : Act} {w w' : World} (h : SimR c ρ st a w)
    (hm : ∀ k x, St.get k st = some x → ∀ r ∈ x.refs, ρ' r = ρ r)
    (hs : Stays (Own c.base st ρ) w (Own c.base st' ρ') w')
    (hslot : ∀ t x, St.get (sk t) st' = some x → SRel (Own c.base st' ρ') ρ' w' x (a'.tmps.getD t undef) ∨ (St.get (sk t) st = some x ∧ a'.tmps.getD t undef = a.tmps.getD t undef))
    (hent : ∀ r x, St.get (ek r) st' = some x → ERel (Own c.base st' ρ') ρ' w' x (ρ' r) ∨ (St.get (ek r) st = some x ∧ ρ' r = ρ r ∧ ∀ b, (ρ r).block = some b → w'.heap[b]? = w.heap[b]?))
    (hinj : ∀ r r' b, (St.get (ek r) st').isSome = true → (St.get (ek r') st').isSome = true → (ρ' r).block = some b → (ρ' r').block = some b → r = r')
    (hmine : ∀ r b, (St.get (ek r) st').isSome = true → (ρ' r).block = some b → ¬ c.base b ∧ (c.mt b ∨ c.w0.heap.size ≤ b) ∧ b < w'.heap.size)
    (hframe : Frm c.mt c.w0 w') (hd : a'.defers = []) (hz : a'.tmps.size = c.n) (hkp : ∀ r ∈ c.kp, ρ' r = ρ r) : SimR c ρ' st' a' w' where
  slots t x hx := by
    rcases hslot t x hx with h1 | ⟨h1, h2⟩
    · exact h1
    · rw [h2]; exact (h.slots t x h1).stays hs (hm _ x h1)
  ents r x hx := by
    rcases hent r x hx with h1 | ⟨h1, h2, h3⟩
    · exact h1
    · rw [h2]; exact (h.ents r x h1).stays hs (hm _ x h1) h3
  inj := hinj
  mine := hmine
  frame := hframe
  base := h.base
  dfr := hd
  size := hz
  kp r hr := (hkp r hr).trans (h.kp r hr)
  gl := h.gl.stays hs

theorem put_getD (a : Act) (d t : Nat) (v : Value) (hd : d < a.tmps.size) : (a.put (some d) v).tmps.getD t undef = if t = d then v else a.tmps.getD t undef := by
  simp only [Act.put, Array.getD_eq_getD_getElem?, Array.getElem?_setIfInBounds]
  by_cases h : d = t
  · subst h; simp [hd]
  · simp [h, Ne.symm h]

theorem put_size (a : Act) (d : Option Nat) (v : Value) : (a.put d v).tmps.size = a.tmps.size := by
  cases d <;> simp [Act.put]
theorem put_dfr (a : Act) (d : Option Nat) (v : Value) : (a.put d v).defers = a.defers := by
  cases d <;> rfl

theorem isSome_cons_sk {d : Nat} {x : Option Val} {st : St} (r : Nat) : St.get (ek r) ((sk d, x) :: st) = St.get (ek r) st :=
  get_cons_ne _ _ (fun h => sk_ne_ek d r h.symm)

theorem own_cons_sk (base : Nat → Prop) (d : Nat) (x : Option Val) (st : St) (ρ : Nat → Loc) : Own base ((sk d, x) :: st) ρ = Own base st ρ := by
  funext b; simp only [Own, isSome_cons_sk]

theorem SimR.putSlot {c : Cx} {ρ : Nat → Loc} {st : St} {a : Act} {w : World} (h : SimR c ρ st a w) {d : Nat} (hd : d < c.n) {x : Val} {v : Value}
    (hx : SRel (Own c.base st ρ) ρ w x v) : SimR c ρ ((sk d, some x) :: st) (a.put (some d) v) w := by
  refine h.step (fun _ _ _ _ _ => rfl) (by rw [own_cons_sk]; exact Stays.refl _ _) ?_ ?_ ?_ ?_ h.frame (by rw [put_dfr]; exact h.dfr) (by rw [put_size]; exact h.size) (fun _ _ => rfl)
  · intro t y hy
    rw [put_getD _ _ _ _ (by rw [h.size]; exact hd), own_cons_sk]
    by_cases ht : t = d
    · subst ht
      rw [get_cons_eq] at hy
      cases hy
      rw [if_pos rfl]
      exact .inl hx
    · rw [get_cons_ne _ _ (fun hh => ht (sk_inj hh))] at hy
      rw [if_neg ht]
      exact .inr ⟨hy, rfl⟩
  · intro r y hy
    rw [isSome_cons_sk] at hy
    exact .inr ⟨hy, rfl, fun _ _ => rfl⟩
  · intro r r' b h1 h2
    rw [isSome_cons_sk] at h1 h2
    exact h.inj r r' b h1 h2
  · intro r b h1
    rw [isSome_cons_sk] at h1
    exact h.mine r b h1

theorem SimR.forget {c : Cx} {ρ : Nat → Loc} {st st' : St} {a : Act} {w : World} (h : SimR c ρ st a w)
    (hs : ∀ k x, St.get k st' = some x → St.get k st = some x) : SimR c ρ st' a w := by
  have sub : ∀ b, Own c.base st' ρ b → Own c.base st ρ b := by
    rintro b (hb | ⟨r, hr, hb⟩)
    · exact .inl hb
    · obtain ⟨x, hx⟩ := Option.isSome_iff_exists.1 hr
      exact .inr ⟨r, by rw [hs _ x hx]; rfl, hb⟩
  have some' : ∀ r, (St.get (ek r) st').isSome = true → (St.get (ek r) st).isSome = true := by
    intro r hr
    obtain ⟨x, hx⟩ := Option.isSome_iff_exists.1 hr
    rw [hs _ x hx]; rfl
  exact h.step (fun _ _ _ _ _ => rfl) (fun b hb ho => ⟨fun h' => ho (sub b h'), rfl⟩) (fun t x hx => .inr ⟨hs _ x hx, rfl⟩) (fun r x hx => .inr ⟨hs _ x hx, rfl, fun _ _ => rfl⟩)
    (fun r r' b h1 h2 => h.inj r r' b (some' r h1) (some' r' h2)) (fun r b h1 => h.mine r b (some' r h1)) h.frame h.dfr h.size (fun _ _ => rfl)

theorem SimR.drew {c : Cx} {ρ : Nat → Loc} {st : St} {a : Act} {w : World} (h : SimR c ρ st a w) (n : Nat) : SimR c ρ st a { w with drawn := n } := by
  refine h.step (fun _ _ _ _ _ => rfl) (fun b hb ho => ⟨ho, rfl⟩) (fun t x hx => .inr ⟨hx, rfl⟩) (fun r x hx => .inr ⟨hx, rfl, fun _ _ => rfl⟩)
    h.inj h.mine ⟨h.frame.os, h.frame.tape, h.frame.output, h.frame.size, h.frame.block⟩ h.dfr h.size (fun _ _ => rfl)

def Sim (c : Cx) (st : St) (a : Act) (w : World) : Prop := ∃ ρ, SimR c ρ st a w

end Go.Abs
set_option linter.unusedVariables false
namespace Go.Abs
set_option linter.unusedSectionVars false
variable [Globs]


def OpSound (P : Program) (S : Spc → Prop) : Prop :=
  ∀ (c : Cx) (ops : Array Oper) (h : Hint) (o : Oper) (st : St) (e : Eff) (ρ : Nat → Loc) (a : Act) (w : World) (K : Act → World → Prop) (Q : Exit → Act → World → Prop),
    c.P = P → (operEff P S ops h o).run st = some e → (∀ p ∈ e.c, p) → (∀ r ∈ e.n, ∀ k x, St.get k st = some x → r ∉ x.refs) → (∀ r ∈ e.n, r ∉ c.kp) → (∀ d, o.dst = some d → d < c.n) → SimR c ρ st a w →
    (∀ ρ' a' w', SimR c ρ' (e.w ++ st) a' w' → K a' w') →
    (if Region.wanted o (yielded ops a.tmps) = true then o.wp P a w K Q else K (a.put o.dst undef) w)

def runOps (P : Program) (S : Spc → Prop) (ops : Array Oper) (hs : Nat → Hint) : List Oper → Nat → St → Option (List (Eff × List Nat))
  | [], _, _ => some []
  | o :: os, i, st => match (operEff P S ops (hs i) o).run st with
    | none => none
    | some e => match runOps P S ops hs os (i + 1) (e.w ++ st) with
      | none => none
      | some r => some ((e, (operEff P S ops (hs i) o).log st) :: r)

def applyS : List (Eff × List Nat) → (Nat → Bool) → Nat → St → St
  | [], _, _, st => st
  | (e, _) :: es, S, i, st => applyS es S (i + 1) (if S i then e.w ++ st else st)

def applyAll : List (Eff × List Nat) → St → St
  | [], st => st
  | (e, _) :: es, st => applyAll es (e.w ++ st)

def masks : List Oper → List Nat → List Nat
  | [], acc => acc
  | o :: os, acc => masks os (acc ++ [o.after.toList.foldl (fun s e => if Region.binds .any e then s ||| 2 ^ e.on ||| acc.getD e.on 0 else s) 0])

def touches (ks : List Nat) (ws : St) : Bool := ks.any fun k => has k ws
def meets (a b : St) : Bool := a.any fun x => has x.1 b

def apartAt (m : List Nat) (es : List (Eff × List Nat)) (i : Nat) (x : Eff × List Nat) : List (Eff × List Nat) → Nat → Bool
  | [], _ => true
  | y :: ys, j => (if j < i then (m.getD i 0).testBit j || (!touches x.2 y.1.w && !touches y.2 x.1.w && !meets x.1.w y.1.w && !meets y.1.w x.1.w) else true) && apartAt m es i x ys (j + 1)

def apartAll (m : List Nat) (all : List (Eff × List Nat)) : List (Eff × List Nat) → Nat → Bool
  | [], _ => true
  | x :: xs, i => apartAt m all i x all 0 && apartAll m all xs (i + 1)


theorem touches_false {ks : List Nat} {ws : St} (h : touches ks ws = false) : ∀ k ∈ ks, has k ws = false := by
  intro k hk
  unfold touches at h
  rw [List.any_eq_false] at h
  simpa using h k hk

theorem has_mem {k : Nat} {ws : St} (h : has k ws = true) : ∃ x ∈ ws, x.1 = k := by
  unfold has at h
  obtain ⟨x, hx, hb⟩ := List.any_eq_true.1 h
  exact ⟨x, hx, (Nat.eq_of_beq_eq_true hb).symm⟩

theorem meets_false {a b : St} (h : meets a b = false) : ∀ k, has k a = true → has k b = false := by
  intro k hk
  obtain ⟨x, hx, rfl⟩ := has_mem hk
  unfold meets at h
  rw [List.any_eq_false] at h
  simpa using h x hx

section
variable {P : Program} {Sp : Spc → Prop}

theorem applyS_congr (k : Nat) : ∀ (es : List (Eff × List Nat)) (S S' : Nat → Bool) (i : Nat) (st st' : St),
    (∀ j x, es[j]? = some x → has k x.1.w = true → S (i + j) = S' (i + j)) → St.get k st = St.get k st' → St.get k (applyS es S i st) = St.get k (applyS es S' i st')
  | [], _, _, _, _, _, _, h => h
  | (e, l) :: es, S, S', i, st, st', h, h0 => by
    refine applyS_congr k es S S' (i + 1) _ _ (fun j x hx hk => by have := h (j + 1) x (by simpa using hx) hk; rw [show i + 1 + j = i + (j + 1) by omega]; exact this) ?_
    by_cases hk : has k e.w = true
    · have := h 0 (e, l) rfl hk
      simp only [Nat.add_zero] at this
      rw [this]
      cases S' i
      · simpa using h0
      · simp [get_append, hk]
    · have hk' : has k e.w = false := by simpa using hk
      cases S i <;> cases S' i <;> simp [get_append, hk', h0]

theorem applyS_skip (k : Nat) : ∀ (es : List (Eff × List Nat)) (S : Nat → Bool) (i : Nat) (st : St),
    (∀ j x, es[j]? = some x → S (i + j) = true → has k x.1.w = false) → St.get k (applyS es S i st) = St.get k st
  | [], _, _, _, _ => rfl
  | (e, l) :: es, S, i, st, h => by
    show St.get k (applyS es S (i + 1) _) = _
    rw [applyS_skip k es S (i + 1) _ (fun j x hx hs => h (j + 1) x (by simpa using hx) (by rw [show i + (j + 1) = i + 1 + j by omega]; exact hs))]
    cases hs : S i
    · rfl
    · have := h 0 (e, l) rfl (by simpa using hs)
      simp [get_append, this]

theorem applyS_append : ∀ (es es' : List (Eff × List Nat)) (S : Nat → Bool) (i : Nat) (st : St), applyS (es ++ es') S i st = applyS es' S (i + es.length) (applyS es S i st)
  | [], _, _, _, _ => rfl
  | (e, l) :: es, es', S, i, st => by
    simp only [List.cons_append, applyS, List.length_cons]
    rw [applyS_append es es' S (i + 1), show i + 1 + es.length = i + (es.length + 1) by omega]

theorem applyS_all : ∀ (es : List (Eff × List Nat)) (S : Nat → Bool) (i : Nat) (st : St), (∀ j, j < es.length → S (i + j) = true) → applyS es S i st = applyAll es st
  | [], _, _, _, _ => rfl
  | (e, l) :: es, S, i, st, h => by
    have h0 := h 0 (by simp)
    simp only [Nat.add_zero] at h0
    simp only [applyS, applyAll, h0, if_true]
    exact applyS_all es S (i + 1) _ (fun j hj => by rw [show i + 1 + j = i + (j + 1) by omega]; exact h (j + 1) (by simpa using hj))

theorem applyS_none : ∀ (es : List (Eff × List Nat)) (S : Nat → Bool) (i : Nat) (st : St), (∀ j, j < es.length → S (i + j) = false) → applyS es S i st = st
  | [], _, _, _, _ => rfl
  | (e, l) :: es, S, i, st, h => by
    have h0 := h 0 (by simp)
    simp only [Nat.add_zero] at h0
    simp only [applyS, h0]
    exact applyS_none es S (i + 1) _ (fun j hj => by rw [show i + 1 + j = i + (j + 1) by omega]; exact h (j + 1) (by simpa using hj))

theorem applyS_add (es : List (Eff × List Nat)) (S : Nat → Bool) (i : Nat) (e : Eff) (l : List Nat) (st : St) (hi : es[i]? = some (e, l)) (hS : S i = false)
    (hap : ∀ j x, es[j]? = some x → i < j → S j = true → ∀ k, has k e.w = true → has k x.1.w = false) (k : Nat) :
    St.get k (applyS es (fun j => S j || (j == i)) 0 st) = St.get k (e.w ++ applyS es S 0 st) := by
  obtain ⟨hlt, hget⟩ := List.getElem?_eq_some_iff.1 hi
  have hsplit : es = es.take i ++ (e, l) :: es.drop (i + 1) := by
    rw [← hget, List.getElem_cons_drop, List.take_append_drop]
  have hlen : (es.take i).length = i := by rw [List.length_take]; omega
  have hdrop : ∀ j x, (es.drop (i + 1))[j]? = some x → es[i + 1 + j]? = some x := by
    intro j x hx; rw [List.getElem?_drop] at hx; exact hx
  have h1 : ∀ (T : Nat → Bool), applyS es T 0 st = applyS (es.drop (i + 1)) T (i + 1) (if T i then e.w ++ applyS (es.take i) T 0 st else applyS (es.take i) T 0 st) := by
    intro T
    conv => lhs; rw [hsplit]
    rw [applyS_append, hlen, Nat.zero_add]
    rfl
  rw [h1, h1 S]
  simp only [hS, Bool.false_or, beq_self_eq_true, if_true, Bool.false_eq_true, if_false]
  have h2 : ∀ q, St.get q (applyS (es.take i) (fun j => S j || (j == i)) 0 st) = St.get q (applyS (es.take i) S 0 st) := by
    intro q
    refine applyS_congr q _ _ _ 0 _ _ (fun j x hx _ => ?_) rfl
    have hj : j < i := by
      have := (List.getElem?_eq_some_iff.1 hx).1
      omega
    have : (0 + j == i) = false := by simp; omega
    rw [this, Bool.or_false]
  by_cases hk : has k e.w = true
  · rw [applyS_skip k (es.drop (i + 1)) _ (i + 1) _ (fun j x hx hs => hap (i + 1 + j) x (hdrop j x hx) (by omega) ?_ k hk), get_append, if_pos hk, get_append, if_pos hk]
    have hne : (i + 1 + j == i) = false := by simp; omega
    simpa [hne] using hs
  · have hk' : has k e.w = false := by simpa using hk
    rw [get_append, hk']
    simp only [Bool.false_eq_true, if_false]
    refine applyS_congr k _ _ _ _ _ _ (fun j x hx _ => ?_) ?_
    · have hne : (i + 1 + j == i) = false := by simp; omega
      simp [hne]
    · rw [get_append, hk']
      simp only [Bool.false_eq_true, if_false]
      exact h2 k

theorem runOps_get {ops : Array Oper} {hs : Nat → Hint} : ∀ {os : List Oper} {i : Nat} {st : St} {es : List (Eff × List Nat)}, runOps P Sp ops hs os i st = some es →
    es.length = os.length ∧ ∀ j o, os[j]? = some o → ∃ e l, es[j]? = some (e, l) ∧ (operEff P Sp ops (hs (i + j)) o).run (applyAll (es.take j) st) = some e ∧ l = (operEff P Sp ops (hs (i + j)) o).log (applyAll (es.take j) st) := by
  intro os
  induction os with
  | nil =>
    intro i st es h
    simp only [runOps] at h
    cases h
    exact ⟨rfl, fun j o hj => by simp at hj⟩
  | cons o os ih =>
    intro i st es h
    simp only [runOps] at h
    cases he : (operEff P Sp ops (hs i) o).run st with
    | none => rw [he] at h; cases h
    | some e =>
      rw [he] at h
      dsimp only at h
      cases hr : runOps P Sp ops hs os (i + 1) (e.w ++ st) with
      | none => rw [hr] at h; cases h
      | some r =>
        rw [hr] at h
        cases h
        obtain ⟨hl, hg⟩ := ih hr
        refine ⟨by simp [hl], fun j o' hj => ?_⟩
        cases j with
        | zero =>
          simp at hj
          subst hj
          exact ⟨e, _, rfl, he, rfl⟩
        | succ j =>
          obtain ⟨e', l', h1, h2, h3⟩ := hg j o' (by simpa using hj)
          rw [show i + 1 + j = i + (j + 1) by omega] at h2 h3
          exact ⟨e', l', by simpa using h1, by simpa [applyAll] using h2, by simpa [applyAll] using h3⟩

theorem applyAll_take (es : List (Eff × List Nat)) (i : Nat) (st : St) : applyAll (es.take i) st = applyS es (fun j => decide (j < i)) 0 st := by
  have h1 : es = es.take i ++ es.drop i := (List.take_append_drop i es).symm
  have h2 : applyS es (fun j => decide (j < i)) 0 st = applyS (es.drop i) (fun j => decide (j < i)) (0 + (es.take i).length) (applyS (es.take i) (fun j => decide (j < i)) 0 st) := by
    conv => lhs; rw [h1]
    rw [applyS_append]
  rw [h2, applyS_all (es.take i) _ 0 st (fun j hj => by rw [List.length_take] at hj; simp; omega)]
  rw [applyS_none]
  intro j hj
  rw [List.length_drop] at hj
  have : (es.take i).length = i := by rw [List.length_take]; omega
  simp [this]

def maskOf (acc : List Nat) (o : Oper) : Nat := o.after.toList.foldl (fun s e => if Region.binds .any e then s ||| 2 ^ e.on ||| acc.getD e.on 0 else s) 0

theorem masks_get : ∀ (os : List Oper) (acc : List Nat), (masks os acc).length = acc.length + os.length ∧ (∀ j, j < acc.length → (masks os acc).getD j 0 = acc.getD j 0) ∧
    ∀ j o, os[j]? = some o → (masks os acc).getD (acc.length + j) 0 = maskOf ((masks os acc).take (acc.length + j)) o := by
  intro os
  induction os with
  | nil => intro acc; exact ⟨rfl, fun j hj => rfl, fun j o h => by simp at h⟩
  | cons o os ih =>
    intro acc
    obtain ⟨h1, h2, h3⟩ := ih (acc ++ [maskOf acc o])
    have hdef : masks (o :: os) acc = masks os (acc ++ [maskOf acc o]) := rfl
    have htake : (masks os (acc ++ [maskOf acc o])).take acc.length = acc := by
      apply List.ext_getElem?
      intro j
      rw [List.getElem?_take]
      split
      · rename_i hj
        have := h2 j (by simp; omega)
        have hl : j < (masks os (acc ++ [maskOf acc o])).length := by rw [h1]; simp; omega
        rw [List.getD_eq_getElem?_getD, List.getD_eq_getElem?_getD, List.getElem?_append_left hj, List.getElem?_eq_getElem hl, List.getElem?_eq_getElem hj] at this
        rw [List.getElem?_eq_getElem hl, List.getElem?_eq_getElem hj]
        simpa using this
      · rename_i hj
        rw [List.getElem?_eq_none (by omega)]
    refine ⟨by rw [hdef, h1]; simp; omega, fun j hj => ?_, fun j o' hj => ?_⟩
    · rw [hdef, h2 j (by simp; omega), List.getD_eq_getElem?_getD, List.getD_eq_getElem?_getD, List.getElem?_append_left hj]
    · cases j with
      | zero =>
        simp at hj
        subst hj
        rw [hdef, Nat.add_zero, htake, h2 acc.length (by simp)]
        simp
      | succ j =>
        have := h3 j o' (by simpa using hj)
        simp only [List.length_append, List.length_cons, List.length_nil] at this
        rw [hdef, show acc.length + (j + 1) = acc.length + (0 + 1) + j by omega]
        exact this

theorem maskOf_bit (acc : List Nat) (o : Oper) (i : Nat) (h : (maskOf acc o).testBit i = true) : ∃ e ∈ o.after.toList, Region.binds .any e = true ∧ (e.on = i ∨ (acc.getD e.on 0).testBit i = true) := by
  have key : ∀ (l : List Edge) (s : Nat), (l.foldl (fun s e => if Region.binds .any e then s ||| 2 ^ e.on ||| acc.getD e.on 0 else s) s).testBit i = true →
      s.testBit i = true ∨ ∃ e ∈ l, Region.binds .any e = true ∧ (e.on = i ∨ (acc.getD e.on 0).testBit i = true) := by
    intro l
    induction l with
    | nil => intro s h; exact .inl h
    | cons e l ih =>
      intro s h
      rw [List.foldl_cons] at h
      rcases ih _ h with h | ⟨e', he', hr⟩
      · split at h
        · rename_i hb
          rw [Nat.testBit_or, Nat.testBit_or, Nat.testBit_two_pow] at h
          simp only [Bool.or_eq_true, decide_eq_true_eq] at h
          rcases h with (h | h) | h
          · exact .inl h
          · exact .inr ⟨e, by simp, hb, .inl h⟩
          · exact .inr ⟨e, by simp, hb, .inr h⟩
        · exact .inl h
      · exact .inr ⟨e', by simp [he'], hr⟩
  rcases key o.after.toList 0 h with h | h
  · simp at h
  · exact h

theorem masks_closed (os : List Oper) (S : Nat → Bool) (hS : ∀ i o, os[i]? = some o → S i = true → ∀ e ∈ o.after.toList, Region.binds .any e = true → S e.on = true) :
    ∀ j i, ((masks os []).getD j 0).testBit i = true → S j = true → S i = true := by
  obtain ⟨h1, _, h3⟩ := masks_get os []
  simp only [List.length_nil, Nat.zero_add] at h1 h3
  intro j
  induction j using Nat.strongRecOn with
  | _ j ih =>
    intro i hb hj
    cases ho : os[j]? with
    | none =>
      have : (masks os []).getD j 0 = 0 := by
        rw [List.getD_eq_getElem?_getD, List.getElem?_eq_none (by rw [h1]; simpa using ho)]; rfl
      rw [this] at hb
      simp at hb
    | some o =>
      rw [h3 j o ho] at hb
      obtain ⟨e, he, hbd, hr⟩ := maskOf_bit _ _ _ hb
      have hs := hS j o ho hj e he hbd
      rcases hr with rfl | hr
      · exact hs
      · by_cases hlt : e.on < j
        · refine ih e.on hlt i ?_ hs
          rw [List.getD_eq_getElem?_getD, List.getElem?_take, if_pos hlt, ← List.getD_eq_getElem?_getD] at hr
          exact hr
        · rw [List.getD_eq_getElem?_getD, List.getElem?_take, if_neg hlt] at hr
          simp at hr

theorem apartAt_get {m : List Nat} {es : List (Eff × List Nat)} {i : Nat} {x : Eff × List Nat} : ∀ {ys : List (Eff × List Nat)} {j0 : Nat}, apartAt m es i x ys j0 = true →
    ∀ j y, ys[j]? = some y → j0 + j < i → (m.getD i 0).testBit (j0 + j) = false → touches x.2 y.1.w = false ∧ touches y.2 x.1.w = false ∧ meets x.1.w y.1.w = false ∧ meets y.1.w x.1.w = false := by
  intro ys
  induction ys with
  | nil => intro j0 h j y hy; simp at hy
  | cons z ys ih =>
    intro j0 h j y hy hlt hb
    simp only [apartAt, Bool.and_eq_true] at h
    cases j with
    | zero =>
      simp at hy
      subst hy
      have h1 := h.1
      rw [if_pos (by simpa using hlt)] at h1
      simp only [Nat.add_zero] at hb
      rw [hb] at h1
      simpa [and_assoc] using h1
    | succ j =>
      exact ih h.2 j y (by simpa using hy) (by omega) (by rw [show j0 + 1 + j = j0 + (j + 1) by omega]; exact hb)

theorem apartAll_get {m : List Nat} {all : List (Eff × List Nat)} : ∀ {xs : List (Eff × List Nat)} {i0 : Nat}, apartAll m all xs i0 = true →
    ∀ i x j y, xs[i]? = some x → all[j]? = some y → j < i0 + i → (m.getD (i0 + i) 0).testBit j = false → touches x.2 y.1.w = false ∧ touches y.2 x.1.w = false ∧ meets x.1.w y.1.w = false ∧ meets y.1.w x.1.w = false := by
  intro xs
  induction xs with
  | nil => intro i0 h i x j y hx; simp at hx
  | cons z xs ih =>
    intro i0 h i x j y hx hy hlt hb
    simp only [apartAll, Bool.and_eq_true] at h
    cases i with
    | zero =>
      simp at hx
      subst hx
      have := apartAt_get h.1 j y hy (by simpa using hlt) (by simpa using hb)
      exact this
    | succ i =>
      exact ih h.2 i x j y (by simpa using hx) hy (by omega) (by rw [show i0 + 1 + i = i0 + (i + 1) by omega]; exact hb)
end
end Go.Abs
set_option linter.unusedVariables false
namespace Go.Abs
set_option linter.unusedSectionVars false
variable [Globs]

def mentions (r : Nat) (ws : St) : Bool := ws.any fun x => match x.2 with
  | some v => v.refs.contains r
  | none => false

theorem mentions_get {r k : Nat} {x : Val} : ∀ {ws : St}, St.get k ws = some x → r ∈ x.refs → mentions r ws = true
  | [], h, _ => by simp [St.get] at h
  | (k', v) :: ws, h, hr => by
    by_cases hk : k = k'
    · subst hk
      rw [get_cons_eq] at h
      subst h
      simp [mentions, hr]
    · rw [get_cons_ne _ _ hk] at h
      have := mentions_get h hr
      simp only [mentions, List.any_cons, Bool.or_eq_true] at this ⊢
      exact .inr this

theorem mentions_applyS {r k : Nat} {x : Val} : ∀ {es : List (Eff × List Nat)} {S : Nat → Bool} {i : Nat} {st : St}, St.get k (applyS es S i st) = some x → r ∈ x.refs →
    mentions r st = true ∨ ∃ j y, es[j]? = some y ∧ S (i + j) = true ∧ mentions r y.1.w = true
  | [], _, _, st, h, hr => .inl (mentions_get h hr)
  | (e, l) :: es, S, i, st, h, hr => by
    rcases mentions_applyS (es := es) h hr with h | ⟨j, y, h1, h2, h3⟩
    · cases hs : S i with
      | false => rw [hs] at h; exact .inl (by simpa using h)
      | true =>
        rw [hs] at h
        simp only [if_true, mentions, List.any_append, Bool.or_eq_true] at h
        rcases h with h | h
        · exact .inr ⟨0, (e, l), rfl, by simpa using hs, h⟩
        · exact .inl h
    · exact .inr ⟨j + 1, y, by simpa using h1, by rw [show i + (j + 1) = i + 1 + j by omega]; exact h2, h3⟩

def freshAt (draw : Bool) (m : List Nat) (i r : Nat) : List (Eff × List Nat) → Nat → Bool
  | [], _ => true
  | y :: ys, j => (!mentions r y.1.w || Nat.beq j i || (if draw then (m.getD j 0).testBit i else decide (i < j))) && freshAt draw m i r ys (j + 1)

def freshAll (draw : Bool) (m : List Nat) (st : St) (all : List (Eff × List Nat)) : List (Eff × List Nat) → Nat → Bool
  | [], _ => true
  | x :: xs, i => x.1.n.all (fun r => !mentions r st && freshAt draw m i r all 0) && freshAll draw m st all xs (i + 1)

theorem freshAt_get {draw : Bool} {m : List Nat} {i r : Nat} : ∀ {ys : List (Eff × List Nat)} {j0 : Nat}, freshAt draw m i r ys j0 = true →
    ∀ j y, ys[j]? = some y → mentions r y.1.w = true → j0 + j = i ∨ (if draw = true then (m.getD (j0 + j) 0).testBit i = true else i < j0 + j) := by
  intro ys
  induction ys with
  | nil => intro j0 h j y hy; simp at hy
  | cons z ys ih =>
    intro j0 h j y hy hm
    simp only [freshAt, Bool.and_eq_true] at h
    cases j with
    | zero =>
      simp at hy
      subst hy
      have h1 := h.1
      simp only [hm, Bool.not_true, Bool.false_or, Bool.or_eq_true] at h1
      rcases h1 with h1 | h1
      · exact .inl (by simpa using Nat.eq_of_beq_eq_true h1)
      · refine .inr ?_
        cases draw <;> simpa using h1
    | succ j =>
      have := ih h.2 j y (by simpa using hy) hm
      rw [show j0 + 1 + j = j0 + (j + 1) by omega] at this
      exact this

theorem freshAll_get {draw : Bool} {m : List Nat} {st : St} {all : List (Eff × List Nat)} : ∀ {xs : List (Eff × List Nat)} {i0 : Nat}, freshAll draw m st all xs i0 = true →
    ∀ i x, xs[i]? = some x → ∀ r ∈ x.1.n, mentions r st = false ∧ ∀ j y, all[j]? = some y → mentions r y.1.w = true → j = i0 + i ∨ (if draw = true then (m.getD j 0).testBit (i0 + i) = true else i0 + i < j) := by
  intro xs
  induction xs with
  | nil => intro i0 h i x hx; simp at hx
  | cons z xs ih =>
    intro i0 h i x hx r hr
    simp only [freshAll, Bool.and_eq_true] at h
    cases i with
    | zero =>
      simp at hx
      subst hx
      have := (List.all_eq_true.1 h.1) r hr
      simp only [Bool.and_eq_true, Bool.not_eq_true'] at this
      refine ⟨this.1, fun j y hy hm => ?_⟩
      have := freshAt_get this.2 j y hy hm
      simpa using this
    | succ i =>
      have := ih h.2 i x (by simpa using hx) r hr
      rw [show i0 + 1 + i = i0 + (i + 1) by omega] at this
      exact this

def edgesOk : List Oper → Nat → Bool
  | [], _ => true
  | o :: os, i => o.after.toList.all (fun e => !Region.binds .any e || decide (e.on < i)) && edgesOk os (i + 1)

theorem edgesOk_get : ∀ {os : List Oper} {i0 : Nat}, edgesOk os i0 = true → ∀ i o, os[i]? = some o → ∀ e ∈ o.after.toList, Region.binds .any e = true → e.on < i0 + i := by
  intro os
  induction os with
  | nil => intro i0 h i o ho; simp at ho
  | cons z os ih =>
    intro i0 h i o ho e he hb
    simp only [edgesOk, Bool.and_eq_true] at h
    cases i with
    | zero =>
      simp at ho
      subst ho
      have := (List.all_eq_true.1 h.1) e he
      simpa [hb] using this
    | succ i =>
      have := ih h.2 i o (by simpa using ho) e he hb
      omega

def dstsOk (n : Nat) (os : List Oper) : Bool := os.all fun o => match o.dst with
  | some d => decide (d < n)
  | none => true

def regionRun (P : Program) (S : Spc → Prop) (n : Nat) (kp : List Nat) (ops : Array Oper) (draw : Bool) (hs : Nat → Hint) (st : St) : Option (St × List Prop) :=
  match runOps P S ops hs ops.toList 0 st with
  | none => none
  | some es =>
    match dstsOk n ops.toList && (es.all fun x => x.1.n.all fun r => !kp.contains r) && freshAll draw (masks ops.toList []) st es es 0 && (!draw || (edgesOk ops.toList 0 && apartAll (masks ops.toList []) es es 0)) with
    | true => some (applyAll es st, es.flatMap (·.1.c))
    | false => none

section
variable {P : Program} {Sp : Spc → Prop}

theorem step_at (hP : OpSound P Sp) {c : Cx} (hc : c.P = P) {ops : Array Oper} {hs : Nat → Hint} {st0 : St} {es : List (Eff × List Nat)} (hes : runOps P Sp ops hs ops.toList 0 st0 = some es)
    (hcond : ∀ x ∈ es, ∀ p ∈ x.1.c, p) (hdst : dstsOk c.n ops.toList = true) (hkp : (es.all fun x => x.1.n.all fun r => !c.kp.contains r) = true) {i : Nat} {o : Oper} (hi : ops[i]? = some o) {e : Eff} {l : List Nat} (he : es[i]? = some (e, l)) {S : Nat → Bool} (hSi : S i = false)
    (k1 : ∀ j y, es[j]? = some y → (∃ k ∈ l, has k y.1.w = true) → S j = decide (j < i))
    (k2 : ∀ j y, es[j]? = some y → i < j → S j = true → ∀ k, has k e.w = true → has k y.1.w = false)
    (fr : ∀ r ∈ e.n, mentions r st0 = false ∧ ∀ j y, es[j]? = some y → S j = true → mentions r y.1.w = false)
    {ρ : Nat → Loc} {a : Act} {w : World} (sim : SimR c ρ (applyS es S 0 st0) a w) {K : Act → World → Prop} {Q : Exit → Act → World → Prop}
    (hK : ∀ ρ' a' w', SimR c ρ' (applyS es (fun j => S j || (j == i)) 0 st0) a' w' → K a' w') : wpOp P ops Q i K a w := by
  obtain ⟨hlen, hg⟩ := runOps_get hes
  have hi' : ops.toList[i]? = some o := by simpa using hi
  obtain ⟨e', l', h1, h2, h3⟩ := hg i o hi'
  rw [he] at h1
  cases h1
  rw [applyAll_take, Nat.zero_add] at h2 h3
  have hlog : ∀ k ∈ (operEff P Sp ops (hs i) o).log (applyS es (fun j => decide (j < i)) 0 st0), St.get k (applyS es S 0 st0) = St.get k (applyS es (fun j => decide (j < i)) 0 st0) := by
    intro k hk
    rw [← h3] at hk
    refine applyS_congr k es _ _ 0 _ _ (fun j y hy hh => ?_) rfl
    rw [Nat.zero_add]
    exact k1 j y hy ⟨k, hk, hh⟩
  have hrun := (RM.run_of_log hlog).1
  rw [h2] at hrun
  have hsound := hP c ops (hs i) o (applyS es S 0 st0) e ρ a w K Q hc hrun (fun p hp => hcond (e, l) (List.mem_of_getElem? he) p hp) (fun r hr k x hx hrx => by
      obtain ⟨f1, f2⟩ := fr r hr
      rcases mentions_applyS hx hrx with hm | ⟨j, y, hy, hs', hm⟩
      · rw [f1] at hm; cases hm
      · rw [Nat.zero_add] at hs'
        rw [f2 j y hy hs'] at hm; cases hm)
    (fun r hr => by
      have := (List.all_eq_true.1 ((List.all_eq_true.1 hkp) _ (List.mem_of_getElem? he))) r hr
      simpa using this)
    (fun d hd => by
      unfold dstsOk at hdst
      have := (List.all_eq_true.1 hdst) o (List.mem_of_getElem? hi')
      rw [hd] at this
      simpa using this) sim
    (fun ρ' a' w' h => hK ρ' a' w' (SimR.congr (fun k => applyS_add es S i e l st0 he hSi (fun j y hy hij hs' k hk => k2 j y hy hij hs' k hk) k) h))
  unfold wpOp
  rw [hi]
  dsimp only
  split
  · rename_i hw
    rw [if_pos hw] at hsound
    exact .inl hsound
  · rename_i hw
    rw [if_neg hw] at hsound
    exact hsound

theorem region_plain (hP : OpSound P Sp) {c : Cx} (hc : c.P = P) {ops : Array Oper} {hs : Nat → Hint} {st0 st' : St} {cs : List Prop} (hr : regionRun P Sp c.n c.kp ops false hs st0 = some (st', cs)) (hcs : ∀ p ∈ cs, p)
    {a : Act} {w : World} (sim : Sim c st0 a w) {Q : Exit → Act → World → Prop} (hQ : ∀ a' w', Sim c st' a' w' → Q .normal a' w') {id : Nat} : (Code.region id ops false).wp P Q a w := by
  unfold regionRun at hr
  cases hes : runOps P Sp ops hs ops.toList 0 st0 with
  | none => rw [hes] at hr; cases hr
  | some es =>
    rw [hes] at hr
    dsimp only at hr
    split at hr
    case h_2 => cases hr
    rename_i hck
    simp only [Bool.and_eq_true] at hck
    obtain ⟨⟨⟨hdst, hkp⟩, hfr⟩, _⟩ := hck
    simp only [Option.some.injEq, Prod.mk.injEq] at hr
    obtain ⟨rfl, rfl⟩ := hr
    have hcond : ∀ x ∈ es, ∀ p ∈ x.1.c, p := fun x hx p hp => hcs p (List.mem_flatMap.2 ⟨x, hx, hp⟩)
    obtain ⟨hlen, hg⟩ := runOps_get hes
    refine wp_region ?_
    have key : ∀ (m i : Nat), i + m = ops.size → ∀ ρ a w, SimR c ρ (applyS es (fun j => decide (j < i)) 0 st0) a w → wpOps P ops Q (List.range' i m) a w := by
      intro m
      induction m with
      | zero =>
        intro i him ρ a w sim
        simp only [List.range'_zero, wpOps]
        refine hQ a w ⟨ρ, ?_⟩
        rw [applyS_all es _ 0 st0 (fun j hj => by rw [hlen] at hj; simp at hj; simp; omega)] at sim
        exact sim
      | succ m ih =>
        intro i him ρ a w sim
        rw [List.range'_succ, wpOps_cons]
        have hi : i < ops.size := by omega
        have hio : ops[i]? = some ops[i] := by simp [hi]
        obtain ⟨e, l, h1, h2, h3⟩ := hg i ops[i] (by simp [hi])
        refine step_at hP hc hes hcond hdst hkp hio h1 (S := fun j => decide (j < i)) (by simp) (fun j y hy _ => rfl) (fun j y hy hij hs' => by simp at hs'; omega) (fun r hr => ?_) sim (fun ρ' a' w' h => ?_)
        · obtain ⟨f1, f2⟩ := freshAll_get hfr i _ h1 r hr
          refine ⟨f1, fun j y hy hs' => ?_⟩
          cases hm : mentions r y.1.w with
          | false => rfl
          | true =>
            simp at hs'
            rcases f2 j y hy hm with h | h
            · omega
            · simp at h; omega
        · refine ih (i + 1) (by omega) ρ' a' w' ?_
          have : (fun j => decide (j < i) || (j == i)) = fun j => decide (j < i + 1) := by
            funext j
            rw [Bool.eq_iff_iff]
            simp
            omega
          rw [this] at h
          exact h
    obtain ⟨ρ, sim⟩ := sim
    rw [List.range_eq_range']
    refine key ops.size 0 (by omega) ρ a w ?_
    rw [applyS_none es _ 0 st0 (fun j hj => by simp)]
    exact sim

theorem region_draw (hm : P.follows .mixedOrders = true) (hP : OpSound P Sp) {c : Cx} (hc : c.P = P) {ops : Array Oper} {hs : Nat → Hint} {st0 st' : St} {cs : List Prop} (hr : regionRun P Sp c.n c.kp ops true hs st0 = some (st', cs)) (hcs : ∀ p ∈ cs, p)
    {a : Act} {w : World} (sim : Sim c st0 a w) {Q : Exit → Act → World → Prop} (hQ : ∀ a' w', Sim c st' a' w' → Q .normal a' w') {id : Nat} : (Code.region id ops true).wp P Q a w := by
  unfold regionRun at hr
  cases hes : runOps P Sp ops hs ops.toList 0 st0 with
  | none => rw [hes] at hr; cases hr
  | some es =>
    rw [hes] at hr
    dsimp only at hr
    split at hr
    case h_2 => cases hr
    rename_i hck
    simp only [Bool.and_eq_true, Bool.not_true, Bool.false_or] at hck
    obtain ⟨⟨⟨hdst, hkp⟩, hfr⟩, hed, hap⟩ := hck
    simp only [Option.some.injEq, Prod.mk.injEq] at hr
    obtain ⟨rfl, rfl⟩ := hr
    have hcond : ∀ x ∈ es, ∀ p ∈ x.1.c, p := fun x hx p hp => hcs p (List.mem_flatMap.2 ⟨x, hx, hp⟩)
    obtain ⟨hlen, hg⟩ := runOps_get hes
    refine wp_region_any hm ?_
    have hrep : ∀ (n j : Nat), (Array.replicate n false).getD j false = false := by
      intro n j
      rw [Array.getD_eq_getD_getElem?, Array.getElem?_replicate]
      split <;> rfl
    have closedB : ∀ (listed : Array Bool), (∀ i o, ops[i]? = some o → listed.getD i false = true → ∀ e ∈ o.after.toList, Region.binds .any e = true → listed.getD e.on false = true) →
        ∀ j i, ((masks ops.toList []).getD j 0).testBit i = true → listed.getD j false = true → listed.getD i false = true := by
      intro listed hS
      exact masks_closed ops.toList (fun i => listed.getD i false) (fun i o ho => hS i o (by simpa using ho))
    have key : ∀ (fuel : Nat) (listed : Array Bool), listed.size = ops.size → (listed.toList.countP (fun b => !b)) ≤ fuel →
        (∀ i o, ops[i]? = some o → listed.getD i false = true → ∀ e ∈ o.after.toList, Region.binds .any e = true → listed.getD e.on false = true) →
        ∀ ρ a w, SimR c ρ (applyS es (fun j => listed.getD j false) 0 st0) a w → wpAny P .any ops Q fuel listed a w := by
      intro fuel
      -- nothing is ready: all has been done
      have done : ∀ (listed : Array Bool), listed.size = ops.size → Region.ready .any ops listed = [] → ∀ ρ a w, SimR c ρ (applyS es (fun j => listed.getD j false) 0 st0) a w → Q .normal a w := by
        intro listed hsz hnil ρ a w sim
        have hall : ∀ i, i < ops.size → listed.getD i false = true := by
          intro i
          induction i using Nat.strongRecOn with
          | _ i ih =>
            intro hi
            cases hl : listed.getD i false with
            | true => rfl
            | false =>
              exfalso
              have hmem : i ∈ Region.ready .any ops listed := by
                unfold Region.ready
                rw [List.mem_filter]
                refine ⟨List.mem_range.2 hi, ?_⟩
                have h1 : listed.getD i true = false := by
                  rw [Array.getD_eq_getD_getElem?] at hl ⊢
                  have : i < listed.size := by omega
                  simp [this] at hl ⊢
                  exact hl
                have ho : ops[i]? = some ops[i] := by simp [hi]
                rw [h1, ho]
                simp only [Bool.not_false, Bool.true_and, Option.map_some, Option.getD_some]
                rw [Array.all_eq_true_iff_forall_mem]
                intro e he
                cases hb : Region.binds .any e with
                | false => rfl
                | true =>
                  have hlt := edgesOk_get hed i ops[i] (by simp [hi]) e (by simpa using he) hb
                  rw [Nat.zero_add] at hlt
                  simp [ih e.on hlt (by omega)]
              rw [hnil] at hmem
              cases hmem
        refine hQ a w ⟨ρ, ?_⟩
        rw [applyS_all es _ 0 st0 (fun j hj => by rw [hlen] at hj; rw [Nat.zero_add]; exact hall j (by simpa using hj))] at sim
        exact sim
      induction fuel with
      | zero =>
        intro listed hsz hcnt hS ρ a w sim
        simp only [wpAny]
        have hnil : Region.ready .any ops listed = [] := by
          unfold Region.ready
          rw [List.filter_eq_nil_iff]
          intro i hi
          have hi' : i < listed.size := by rw [hsz]; simpa using hi
          have : listed[i] = true := by
            have h0 : listed.toList.countP (fun b => !b) = 0 := by omega
            rw [List.countP_eq_zero] at h0
            have := h0 listed[i] (by simp)
            simpa using this
          simp [Array.getD_eq_getD_getElem?, hi', this]
        exact ⟨hnil, done listed hsz hnil ρ a w sim⟩
      | succ fuel ih =>
        intro listed hsz hcnt hS ρ a w sim
        simp only [wpAny]
        refine ⟨fun hnil => done listed hsz hnil ρ a w sim, fun i hi => ?_⟩
        unfold Region.ready at hi
        rw [List.mem_filter] at hi
        obtain ⟨hi0, hi1⟩ := hi
        have hi : i < ops.size := List.mem_range.1 hi0
        have hio : ops[i]? = some ops[i] := by simp [hi]
        rw [hio] at hi1
        simp only [Option.map_some, Option.getD_some, Bool.and_eq_true, Bool.not_eq_true'] at hi1
        obtain ⟨hnl, hpre⟩ := hi1
        have hil : i < listed.size := by omega
        have hli : listed[i] = false := by
          rw [Array.getD_eq_getD_getElem?] at hnl
          simpa [hil] using hnl
        have hSi : listed.getD i false = false := by
          rw [Array.getD_eq_getD_getElem?]
          simp [hil, hli]
        have hpre' : ∀ e ∈ ops[i].after.toList, Region.binds .any e = true → listed.getD e.on false = true := by
          intro e he hb
          rw [Array.all_eq_true_iff_forall_mem] at hpre
          have := hpre e (by simpa using he)
          simpa [hb] using this
        have hclosed := closedB listed hS
        -- what must come before i has been done
        have hpreB : ∀ j, ((masks ops.toList []).getD i 0).testBit j = true → listed.getD j false = true := by
          intro j hj
          have := closedB (listed.setIfInBounds i true) (fun q o ho hq e he hb => by
            by_cases hqi : i = q
            · subst hqi
              rw [hio] at ho
              cases ho
              have hon := hpre' e he hb
              exact getD_set_true hon
            · rw [getD_set_ne false hqi] at hq
              exact getD_set_true (hS q o ho hq e he hb)) i j hj (by rw [Array.getD_eq_getD_getElem?]; simp [hil])
          by_cases hji : i = j
          · subst hji
            -- i before itself: then i has an edge to what i must precede: done already
            exfalso
            obtain ⟨_, _, h3⟩ := masks_get ops.toList []
            have h3' := h3 i ops[i] (by simp [hi])
            simp only [List.length_nil, Nat.zero_add] at h3'
            rw [h3'] at hj
            obtain ⟨e, he, hbd, hr⟩ := maskOf_bit _ _ _ hj
            have hlt := edgesOk_get hed i ops[i] (by simp [hi]) e he hbd
            rw [Nat.zero_add] at hlt
            rcases hr with hr | hr
            · omega
            · rw [List.getD_eq_getElem?_getD, List.getElem?_take, if_pos hlt, ← List.getD_eq_getElem?_getD] at hr
              have := hclosed e.on i hr (hpre' e he hbd)
              rw [hSi] at this
              cases this
          · rw [getD_set_ne false hji] at this
            exact this
        obtain ⟨e, l, h1, h2, h3⟩ := hg i ops[i] (by simp [hi])
        refine step_at hP hc hes hcond hdst hkp hio h1 (S := fun j => listed.getD j false) hSi ?_ ?_ ?_ sim (fun ρ' a' w' h => ?_)
        · rintro j y hy ⟨k, hk, hh⟩
          by_cases hji : j < i
          · simp only [hji, decide_true]
            cases hb : ((masks ops.toList []).getD i 0).testBit j with
            | true => exact hpreB j hb
            | false =>
              have := apartAll_get hap i _ j y h1 hy (by omega) (by simpa using hb)
              rw [touches_false this.1 k hk] at hh
              cases hh
          · simp only [hji, decide_false]
            by_cases hje : j = i
            · subst hje; exact hSi
            · cases hl : listed.getD j false with
              | false => rfl
              | true =>
                cases hb : ((masks ops.toList []).getD j 0).testBit i with
                | true =>
                  have := hclosed j i hb hl
                  rw [hSi] at this; cases this
                | false =>
                  have := apartAll_get hap j y i (e, l) hy h1 (by omega) (by simpa using hb)
                  rw [touches_false this.2.1 k hk] at hh
                  cases hh
        · intro j y hy hij hl k hk
          cases hb : ((masks ops.toList []).getD j 0).testBit i with
          | true =>
            have := hclosed j i hb hl
            rw [hSi] at this; cases this
          | false =>
            have := apartAll_get hap j y i (e, l) hy h1 (by omega) (by simpa using hb)
            exact meets_false this.2.2.2 k hk
        · intro r hr
          obtain ⟨f1, f2⟩ := freshAll_get hfr i _ h1 r hr
          refine ⟨f1, fun j y hy hl => ?_⟩
          cases hm' : mentions r y.1.w with
          | false => rfl
          | true =>
            rcases f2 j y hy hm' with h | h
            · rw [Nat.zero_add] at h; subst h
              rw [hSi] at hl; cases hl
            · simp only [if_true, Nat.zero_add] at h
              have := hclosed j i h hl
              rw [hSi] at this; cases this
        · refine ih (listed.setIfInBounds i true) (by simp [hsz]) ?_ ?_ ρ' a' w' ?_
          · have hset : (listed.setIfInBounds i true).toList = listed.toList.set i true := by simp
            rw [hset]
            have hcount : ∀ (l : List Bool) (i : Nat), l[i]? = some false → (l.set i true).countP (fun b => !b) + 1 = l.countP (fun b => !b) := by
              intro l
              induction l with
              | nil => intro i h; simp at h
              | cons b l ihl =>
                intro i h
                cases i with
                | zero => simp at h; subst h; simp
                | succ i =>
                  have := ihl i (by simpa using h)
                  simp only [List.set_cons_succ, List.countP_cons]
                  omega
            have := hcount listed.toList i (by simp [hil, hli])
            omega
          · intro q o ho hq e' he' hb
            by_cases hqi : i = q
            · subst hqi
              rw [hio] at ho
              cases ho
              exact getD_set_true (hpre' e' he' hb)
            · rw [getD_set_ne false hqi] at hq
              exact getD_set_true (hS q o ho hq e' he' hb)
          · have : (fun j => listed.getD j false || (j == i)) = fun j => (listed.setIfInBounds i true).getD j false := by
              funext j
              by_cases hji : i = j
              · subst hji
                rw [Array.getD_eq_getD_getElem? (xs := listed.setIfInBounds i true)]
                simp [hil]
              · rw [getD_set_ne false hji]
                simp [Ne.symm hji]
            rw [this] at h
            exact h
    obtain ⟨ρ, sim⟩ := sim
    refine key ops.size _ (by simp) ?_ ?_ ρ a _ ?_
    · have := List.countP_le_length (p := fun b => !b) (l := (Array.replicate ops.size false).toList)
      simpa using this
    · intro i o ho hl
      rw [hrep] at hl
      cases hl
    · rw [applyS_none es _ 0 st0 (fun j hj => hrep _ _)]
      exact sim.drew _
end
end Go.Abs
set_option linter.unusedVariables false
set_option linter.unusedSimpArgs false
namespace Go.Abs
set_option linter.unusedSectionVars false
variable [Globs]
section
variable {P : Program} {w : World}

theorem run_sizeOf' {t : TypeId} (h : (P.info? t).isSome = true) (w : World) : (sizeOf t).run P w = .ok (P.cellsOf t) w := by
  obtain ⟨i, hi⟩ := Option.isSome_iff_exists.1 h
  simp [sizeOf, typeInfo, hi, Program.cellsOf]

theorem run_isAgg' {t : TypeId} (h : (P.underlying t).isSome = true) (w : World) : (isAgg t).run P w = .ok (aggT P t) w := by
  obtain ⟨d, hd⟩ := Option.isSome_iff_exists.1 h
  unfold isAgg aggT
  rw [Sem.run_bind, run_underlying hd w, hd]
  cases d <;> rfl

theorem okT_iff {t : TypeId} (h : okT P t = true) : (P.info? t).isSome = true ∧ (P.underlying t).isSome = true := by
  simpa [okT] using h

theorem run_loadVar_agg {t : TypeId} {b o : Nat} {cs : List Value} (hok : okT P t = true) (hg : aggT P t = true) (hl : cs.length = P.cellsOf t) (hr : w.rangeAt b o cs) :
    (loadVar t ⟨b, o, none⟩).run P w = .ok (.agg cs.toArray) w := by
  obtain ⟨h1, h2⟩ := okT_iff hok
  have hld : (loadCells ⟨b, o, none⟩ cs.length).run P w = .ok cs.toArray w :=
    run_loadCells_list (P := P) w ⟨b, o, none⟩ cs (fun j v hv => by rw [Addr.add_mid]; exact hr j v hv)
  rw [hl] at hld
  simp [loadVar, run_isAgg' h2, hg, run_sizeOf' h1, hld]

theorem run_loadVar_one {t : TypeId} {b o : Nat} {v : Value} (hok : okT P t = true) (hg : aggT P t = false) (hr : w.rangeAt b o [v]) :
    (loadVar t ⟨b, o, none⟩).run P w = .ok v w := by
  obtain ⟨h1, h2⟩ := okT_iff hok
  have hc : w.cell? ⟨b, o, none⟩ = some v := by simpa using hr 0 v rfl
  simp [loadVar, run_isAgg' h2, hg, hc]

theorem CRel.single {O : Nat → Prop} {ρ : Nat → Loc} {a : AV} {c : List Value} (h : CRel O ρ w a c) (hg : a.isAgg = false) : ∃ v, c = [v] := by
  have hl := h.length
  cases a with
  | p k x =>
    cases k <;> simp [AV.isAgg, Kd.agg] at hg <;> exact List.length_eq_one_iff.1 hl
  | agg cs => simp [AV.isAgg] at hg
  | und => cases h
  | _ => exact List.length_eq_one_iff.1 hl

theorem run_load_abs {O : Nat → Prop} {ρ : Nat → Loc} {t : TypeId} {b o : Nat} {cs : List Value} {a : AV} (hok : okT P t = true) (hg : a.isAgg = aggT P t) (hl : cs.length = P.cellsOf t) (hr : w.rangeAt b o cs)
    (ha : CRel O ρ w a cs) : ∃ v, (loadVar t ⟨b, o, none⟩).run P w = .ok v w ∧ VRel O ρ w a v := by
  cases hga : aggT P t with
  | true =>
    rw [hga] at hg
    exact ⟨_, run_loadVar_agg hok hga hl hr, .inr (.inl ⟨hg, cs, rfl, ha⟩)⟩
  | false =>
    rw [hga] at hg
    obtain ⟨v, rfl⟩ := ha.single hg
    exact ⟨v, run_loadVar_one hok hga hr, .inr (.inr ⟨hg, ha⟩)⟩

theorem VRel.p_int {O : Nat → Prop} {ρ : Nat → Loc} {k : IntKind} {n : Int} {v : Value} (h : VRel O ρ w (.p (.int k) n) v) : v = .int k n := by
  rcases h with ⟨h, _⟩ | ⟨h, _⟩ | ⟨_, h⟩
  · cases h
  · simp [AV.isAgg, Kd.agg] at h
  · cases h with | p h => simpa [Cells] using h
theorem VRel.p_bool {O : Nat → Prop} {ρ : Nat → Loc} {n : Bool} {v : Value} (h : VRel O ρ w (.p .bool n) v) : v = .bool n := by
  rcases h with ⟨h, _⟩ | ⟨h, _⟩ | ⟨_, h⟩
  · cases h
  · simp [AV.isAgg, Kd.agg] at h
  · cases h with | p h => simpa [Cells] using h
theorem VRel.p_str {O : Nat → Prop} {ρ : Nat → Loc} {n : ByteArray} {v : Value} (h : VRel O ρ w (.p .str n) v) : v = .string n := by
  rcases h with ⟨h, _⟩ | ⟨h, _⟩ | ⟨_, h⟩
  · cases h
  · simp [AV.isAgg, Kd.agg] at h
  · cases h with | p h => simpa [Cells] using h
theorem VRel.one {O : Nat → Prop} {ρ : Nat → Loc} {a : AV} {v : Value} (h : VRel O ρ w a v) (hg : a.isAgg = false) (hu : a ≠ .und) : CRel O ρ w a [v] := by
  rcases h with ⟨h, _⟩ | ⟨h, _⟩ | ⟨_, h⟩
  · exact absurd h hu
  · rw [hg] at h; cases h
  · exact h
theorem VRel.und {O : Nat → Prop} {ρ : Nat → Loc} {v : Value} (h : VRel O ρ w .und v) : v = undef := by
  rcases h with ⟨_, h⟩ | ⟨h, _⟩ | ⟨_, h⟩
  · exact h
  · simp [AV.isAgg] at h
  · cases h
theorem VRel.of_int {O : Nat → Prop} {ρ : Nat → Loc} {k : IntKind} {n : Int} : VRel O ρ w (.p (.int k) n) (.int k n) := .inr (.inr ⟨rfl, .p rfl⟩)
theorem VRel.of_bool {O : Nat → Prop} {ρ : Nat → Loc} {n : Bool} : VRel O ρ w (.p .bool n) (.bool n) := .inr (.inr ⟨rfl, .p rfl⟩)
theorem VRel.of_str {O : Nat → Prop} {ρ : Nat → Loc} {n : ByteArray} : VRel O ρ w (.p .str n) (.string n) := .inr (.inr ⟨rfl, .p rfl⟩)
theorem VRel.of_one {O : Nat → Prop} {ρ : Nat → Loc} {a : AV} {v : Value} (hg : a.isAgg = false) (h : CRel O ρ w a [v]) : VRel O ρ w a v := .inr (.inr ⟨hg, h⟩)

theorem VRel.cells {O : Nat → Prop} {ρ : Nat → Loc} {a : AV} {v : Value} (h : VRel O ρ w a v) (hu : a ≠ .und) : CRel O ρ w a v.cells.toList := by
  rcases h with ⟨h, _⟩ | ⟨_, c, rfl, h⟩ | ⟨hg, h⟩
  · exact absurd h hu
  · simpa [Value.cells] using h
  · have h1 := h.one v (by simp)
    cases v <;> first | (simp [Value.oneCell'] at h1; done) | simpa [Value.cells] using h

theorem wp_value {o : Oper} {a : Act} {w w' : World} {v : Value} {K : Act → World → Prop} {Q : Exit → Act → World → Prop} (h : (execOp a.eval o).run P w = .ok (.value v) w') (hk : K (a.put o.dst v) w') : o.wp P a w K Q := by
  unfold Oper.wp; rw [h]; exact hk
theorem wp_skipped {o : Oper} {a : Act} {w w' : World} {K : Act → World → Prop} {Q : Exit → Act → World → Prop} (h : (execOp a.eval o).run P w = .ok .skip w') (hk : K (a.put o.dst undef) w') : o.wp P a w K Q := by
  unfold Oper.wp; rw [h]; exact hk

theorem constAV_sound {O : Nat → Prop} {ρ : Nat → Loc} {v : Value} {a : AV} (h : constAV v = some a) : VRel O ρ w a v := by
  cases v <;> simp only [constAV] at h <;> try (cases h; done)
  · cases h; exact .of_bool
  · cases h; exact .of_int
  · cases h; exact .of_str
  · rename_i x l c
    cases x with
    | some _ => cases h
    | none => cases l with
      | succ _ => cases h
      | zero => cases c with
        | succ _ => cases h
        | zero => cases h; exact .of_one rfl .nilsl

section ops
variable {Sp : Spc → Prop} {c : Cx} {ρ : Nat → Loc} {st : St} {a : Act}

theorem opv_sound (sim : SimR c ρ st a w) {x : Operand} {V : Val} (h : (opv x).run st = some V) : SRel (Own c.base st ρ) ρ w V (a.eval x) := by
  cases x with
  | tmp t =>
    simp only [opv, RM.run] at h
    cases hg : St.get (sk t) st with
    | none => rw [hg] at h; cases h
    | some y => rw [hg] at h; cases h; exact sim.slots t _ hg
  | const v =>
    simp only [opv] at h
    cases hc : constAV v with
    | none => rw [hc] at h; cases h
    | some y => rw [hc] at h; cases h; exact constAV_sound hc
  | func f =>
    cases h
    exact .of_one rfl (.fn (cs := []) .nil rfl)
  | global g =>
    simp only [opv] at h
    cases hg : Globs.tbl g with
    | none => rw [hg] at h; cases h
    | some y =>
      rw [hg] at h
      cases h
      obtain ⟨css, h1, h2, h3⟩ := sim.gl g y hg
      have := CRel.eptr (ρ := ρ) (i := 0) (off := 0) (ad := ⟨g, 0, none⟩) h1 h2 h3 (by simp)
      exact .of_one rfl (by simpa [gAV, Act.eval] using this)

theorem RM.run_bind_some {α β : Type} {m : RM α} {f : α → RM β} {b : β} (h : (m.bind f).run st = some b) : ∃ x, m.run st = some x ∧ (f x).run st = some b := by
  rw [RM.run_bind] at h
  cases hm : m.run st with
  | none => rw [hm] at h; cases h
  | some x => rw [hm] at h; exact ⟨x, rfl, h⟩

theorem opa_sound (sim : SimR c ρ st a w) {x : Operand} {A : AV} (h : (opa x).run st = some A) : VRel (Own c.base st ρ) ρ w A (a.eval x) := by
  obtain ⟨V, h1, h2⟩ := RM.run_bind_some h
  have := opv_sound sim h1
  cases V with
  | v b => cases h2; exact this
  | t => cases h2
  | box => cases h2
  | row => cases h2

theorem opas_sound (sim : SimR c ρ st a w) : ∀ {xs : List Operand} {As : List AV}, (opas xs).run st = some As → All2 (VRel (Own c.base st ρ) ρ w) As (xs.map a.eval)
  | [], As, h => by cases h; trivial
  | x :: xs, As, h => by
    obtain ⟨A, h1, h2⟩ := RM.run_bind_some h
    obtain ⟨As', h3, h4⟩ := RM.run_bind_some h2
    cases h4
    exact ⟨opa_sound sim h1, opas_sound sim h3⟩

theorem optI_sound (sim : SimR c ρ st a w) {x : Option Operand} {n : Option Int} (h : (optI x).run st = some n) :
    (x = none ∧ n = none) ∨ ∃ y k m, x = some y ∧ n = some m ∧ a.eval y = .int k m := by
  cases x with
  | none => cases h; exact .inl ⟨rfl, rfl⟩
  | some y =>
    obtain ⟨A, h1, h2⟩ := RM.run_bind_some h
    have := opa_sound sim h1
    cases A with
    | p k z =>
      cases k with
      | int k => cases h2; exact .inr ⟨y, k, z, rfl, rfl, this.p_int⟩
      | _ => cases h2
    | _ => cases h2

theorem put1_some {o : Oper} {V : Val} {cs : List Prop} {e : Eff} (h : (put1 o V cs).run st = some e) : ∃ d, o.dst = some d ∧ e = ⟨[(sk d, some V)], cs, []⟩ := by
  unfold put1 at h
  cases ho : o.dst with
  | none => rw [ho] at h; cases h
  | some d => rw [ho] at h; cases h; exact ⟨d, rfl, rfl⟩

theorem op_put (sim : SimR c ρ st a w) {o : Oper} {V : Val} {cs : List Prop} {e : Eff} (h : (put1 o V cs).run st = some e) (hdst : ∀ d, o.dst = some d → d < c.n) {v : Value}
    (hv : (∀ p ∈ cs, p) → SRel (Own c.base st ρ) ρ w V v ∧ (execOp a.eval o).run P w = .ok (.value v) w) (hcond : ∀ p ∈ e.c, p) {K : Act → World → Prop} {Q : Exit → Act → World → Prop}
    (hK : ∀ ρ' a' w', SimR c ρ' (e.w ++ st) a' w' → K a' w') : o.wp P a w K Q := by
  obtain ⟨d, hd, rfl⟩ := put1_some h
  obtain ⟨h1, h2⟩ := hv hcond
  refine wp_value h2 (hK ρ _ _ ?_)
  rw [hd]
  exact sim.putSlot (hdst d hd) h1

theorem get_run {α : Type} {k : Nat} {f : Val → RM α} {b : α} (h : (RM.get k f).run st = some b) : ∃ x, St.get k st = some x ∧ (f x).run st = some b := by
  simp only [RM.run] at h
  cases hk : St.get k st with
  | none => rw [hk] at h; cases h
  | some x => rw [hk] at h; exact ⟨x, rfl, h⟩

theorem box_of (sim : SimR c ρ st a w) {r b : Nat} {cs : List AV} (hr : ρ r = .box b) (hg : St.get (ek r) st = some (.box cs)) :
    ∃ vals t, w.heap[b]? = some (.cells vals t (0, 0)) ∧ CsRel (Own c.base st ρ) ρ w cs vals.toList := by
  obtain ⟨b', vals, t, h1, h2, h3⟩ := sim.ents r _ hg
  rw [hr] at h1
  cases h1
  exact ⟨vals, t, h2, h3⟩

theorem rangeAt_cells {b : Nat} {vals : Array Value} {t : TypeId} {fr : Nat × Nat} (h : w.heap[b]? = some (.cells vals t fr)) (off n : Nat) : w.rangeAt b off ((vals.toList.drop off).take n) := by
  intro j v hv
  rw [List.getElem?_take] at hv
  split at hv
  · rw [List.getElem?_drop] at hv
    simp only [World.cell?, h]
    simpa using hv
  · cases hv

theorem range_sub {b o : Nat} {cs : List Value} (h : w.rangeAt b o cs) (p n : Nat) : w.rangeAt b (o + p) ((cs.drop p).take n) := by
  intro j v hv
  rw [List.getElem?_take] at hv
  split at hv
  · rw [List.getElem?_drop] at hv
    have := h (p + j) v hv
    rw [← Nat.add_assoc] at this
    exact this
  · cases hv

theorem row_range {e : Kd} {et : Nat} {xs : List e.T} {O : Nat → Prop} {l : Loc} (h : ERel O ρ w (.row e et xs) l) : ∃ v css, l = .row v ∧ All2 (Cells O w e) xs css ∧ w.ownsRow 0 et e.size v xs.length css.flatten ∧
    (∀ b n cp, v = .slice (some ⟨b, 0, none⟩) n cp → w.rangeAt b 0 css.flatten) := by
  obtain ⟨v, css, h1, h2, h3⟩ := h
  refine ⟨v, css, h1, h2, h3, fun b n cp hv => ?_⟩
  intro j u hu
  have := h3.cells (g := b) (by rw [hv]; rfl) j u hu
  rw [Addr.add_mid] at this
  exact this

theorem load_sound (sim : SimR c ρ st a w) {t : TypeId} {A B : AV} {cs : List Prop} {v : Value} (hok : okT P t = true) (hA : VRel (Own c.base st ρ) ρ w A v) (h : (evLoad P t A).run st = some (B, cs)) (hcs : ∀ p ∈ cs, p) :
    ∃ u, (Instr.loadAt t v).run P w = .ok u w ∧ VRel (Own c.base st ρ) ρ w B u := by
  have sure : ∀ (ad : Addr), (Instr.loadAt t (.pointer (some ad))).run P w = (loadVar t ad).run P w := by
    intro ad; simp [Instr.loadAt, Instr.sureAddr]
  cases A with
  | ptr r off =>
    have hc := hA.one rfl (by simp)
    cases hc with
    | ptr hb =>
      rename_i b
      obtain ⟨x, hg, hx⟩ := get_run h
      cases x with
      | box ccs =>
        dsimp only at hx
        cases hs : AV.subs ccs off (P.cellsOf t) (aggT P t) with
        | none => rw [hs] at hx; cases hx
        | some B' =>
          rw [hs] at hx
          cases hx
          obtain ⟨vals, tt, hh, hcc⟩ := box_of sim hb hg
          obtain ⟨h1, h2, h3, h4⟩ := AV.subs_sound hcc hs
          obtain ⟨u, hu1, hu2⟩ := run_load_abs hok h2 (by rw [List.length_take, List.length_drop]; omega) (rangeAt_cells hh off (P.cellsOf t)) h1
          exact ⟨u, by rw [sure]; exact hu1, hu2⟩
      | v => cases hx
      | t => cases hx
      | row => cases hx
  | eptr e l i off =>
    have hc := hA.one rfl (by simp)
    cases hc with
    | eptr hl hO hr hi =>
      rename_i ad css
      simp only [evLoad] at h
      cases hs : Kd.sub e (List.getD l i e.dflt) off (P.cellsOf t) (aggT P t) with
      | none => rw [hs] at h; cases h
      | some B' =>
        rw [hs] at h
        cases h
        obtain ⟨d, hd1, hd2⟩ := flatten_part hl i hi
        obtain ⟨h1, h2, h3, h4, h5⟩ := Kd.sub_sound (ρ := ρ) hd1 hs
        have hdl := hd1.length
        have hr1 := range_sub hr (i * e.size) e.size
        rw [hd2] at hr1
        have hr2 := range_sub hr1 off (P.cellsOf t)
        obtain ⟨u, hu1, hu2⟩ := run_load_abs hok h2 (by rw [List.length_take, List.length_drop]; omega) hr2 h1
        exact ⟨u, by rw [sure]; exact hu1, hu2⟩
  | rptr e r i off =>
    have hc := hA.one rfl (by simp)
    cases hc with
    | rptr hb =>
      rename_i b cp n
      obtain ⟨x, hg, hx⟩ := get_run h
      cases x with
      | row e' et l =>
        dsimp only at hx
        split at hx
        · rename_i he
          subst he
          dsimp only at hx
          cases hs : Kd.sub e' (List.getD l i e'.dflt) off (P.cellsOf t) (aggT P t) with
          | none => rw [hs] at hx; cases hx
          | some B' =>
            rw [hs] at hx
            cases hx
            have hi : i < l.length := hcs _ (by simp)
            obtain ⟨v', css, h1, h2, h3, h4⟩ := row_range (sim.ents r _ hg)
            rw [hb] at h1
            cases h1
            have hr := h4 b n cp rfl
            obtain ⟨d, hd1, hd2⟩ := flatten_part h2 i hi
            obtain ⟨k1, k2, k3, k4, k5⟩ := Kd.sub_sound (ρ := ρ) hd1 hs
            have hdl := hd1.length
            have hr1 := range_sub hr (i * e'.size) e'.size
            rw [hd2] at hr1
            have hr2 := range_sub hr1 off (P.cellsOf t)
            rw [Nat.zero_add] at hr2
            obtain ⟨u, hu1, hu2⟩ := run_load_abs hok k2 (by rw [List.length_take, List.length_drop]; omega) hr2 k1
            exact ⟨u, by rw [sure]; exact hu1, hu2⟩
        · cases hx
      | v => cases hx
      | t => cases hx
      | box => cases hx
  | aptr e r off n i o =>
    have hc := hA.one rfl (by simp)
    cases hc with
    | aptr hb hi =>
      rename_i b
      simp only [evLoad, evLoadA] at h
      obtain ⟨x, hg, hx⟩ := get_run h
      cases x with
      | box ccs =>
        dsimp only at hx
        split at hx
        · rename_i n' e' y hsub
          split at hx
          · rename_i he
            obtain ⟨he, hn'⟩ := he
            subst he
            subst hn'
            cases hs : Kd.sub e' (List.getD y i e'.dflt) o (P.cellsOf t) (aggT P t) with
            | none => rw [hs] at hx; cases hx
            | some B' =>
              rw [hs] at hx
              cases hx
              obtain ⟨vals, tt, hh, hcc⟩ := box_of sim hb hg
              obtain ⟨h1, _, h3, _⟩ := AV.subs_sound hcc hsub
              cases h1 with
              | p h1 =>
                obtain ⟨hyl, css, hcss, hall⟩ := h1
                obtain ⟨d, hd1, hd2⟩ := flatten_part hall i (by omega)
                obtain ⟨k1, k2, k3, k4, k5⟩ := Kd.sub_sound (ρ := ρ) hd1 hs
                have hdl := hd1.length
                have hr0 := rangeAt_cells hh off (n' * e'.size)
                rw [hcss] at hr0
                have hr1 := range_sub hr0 (i * e'.size) e'.size
                rw [hd2] at hr1
                have hr2 := range_sub hr1 o (P.cellsOf t)
                obtain ⟨u, hu1, hu2⟩ := run_load_abs hok k2 (by rw [List.length_take, List.length_drop]; omega) hr2 k1
                exact ⟨u, by rw [sure]; exact hu1, hu2⟩
          · cases hx
        · cases hx
      | v => cases hx
      | t => cases hx
      | row => cases hx
  | _ => cases h
theorem bsl_read (sim : SimR c ρ st a w) {e : Kd} {r off n lo m b : Nat} {ad : Addr} {cs : List AV} {x : List e.T} (hb : ρ r = .box b) (ha : lo < n → ad = ⟨b, off + lo * e.size, none⟩) (hm : lo + m ≤ n)
    (hg : St.get (ek r) st = some (.box cs)) (hs : AV.subs cs off (n * e.size) true = some (.p (.arr n e) x)) :
    x.length = n ∧ ∃ css, All2 (Cells (Own c.base st ρ) w e) (List.take m (List.drop lo x)) css ∧ ∀ j u, css.flatten[j]? = some u → w.cell? (ad.add j) = some u := by
  obtain ⟨vals, tt, hh, hcc⟩ := box_of sim hb hg
  obtain ⟨h1, _, h3, _⟩ := AV.subs_sound hcc hs
  cases h1 with
  | p h1 =>
    obtain ⟨hxl, css, hcss, hall⟩ := h1
    refine ⟨hxl, (css.drop lo).take m, (hall.drop _).take _, fun j u hu => ?_⟩
    have hlt : lo < n := by
      rcases Nat.lt_or_ge lo n with h | h
      · exact h
      · exfalso
        have hcl : css.length = n := by rw [← hall.length, hxl]
        rw [List.drop_of_length_le (by omega)] at hu
        simp at hu
    rw [ha hlt, Addr.add_mid]
    rw [flatten_take' (hall.drop _), flatten_drop' hall, ← hcss] at hu
    have hr1 := rangeAt_cells hh off (n * e.size)
    exact range_sub hr1 (lo * e.size) (m * e.size) j u hu
end ops
end
end Go.Abs
set_option linter.unusedVariables false
set_option linter.unusedSimpArgs false
namespace Go.Abs
set_option linter.unusedSectionVars false
variable [Globs]

theorem Kd.split_refs : ∀ (k : Kd) (x : k.T), AV.refsL (Kd.split k x) = []
  | .pair a b, x => by
    have h : ∀ (l m : List AV), AV.refsL (l ++ m) = AV.refsL l ++ AV.refsL m := by
      intro l m; induction l with
      | nil => rfl
      | cons a l ih => simp [AV.refsL, ih]
    simp only [Kd.split, h, Kd.split_refs a x.1, Kd.split_refs b x.2, List.append_nil]
  | .unit, _ => rfl
  | .int _, _ => rfl
  | .bool, _ => rfl
  | .str, _ => rfl
  | .sl _, _ => rfl
  | .arr _ _, _ => rfl

theorem refsL_append : ∀ (l m : List AV), AV.refsL (l ++ m) = AV.refsL l ++ AV.refsL m
  | [], _ => rfl
  | a :: l, m => by simp [AV.refsL, refsL_append l m]

mutual
theorem AV.cellsOf_refs : ∀ (a : AV), AV.refsL a.cellsOf = a.refs
  | .p k x => by simp only [AV.cellsOf, AV.refs]; exact Kd.split_refs k x
  | .agg cs => by simp only [AV.cellsOf, AV.refs]; exact AV.cellsOfL_refs cs
  | .nilsl => rfl
  | .nn _ _ => rfl
  | .und => rfl
  | .ptr _ _ => rfl
  | .eptr _ _ _ _ => rfl
  | .rptr _ _ _ _ => rfl
  | .row _ _ => rfl
  | .rsuf _ _ _ _ => rfl
  | .aptr _ _ _ _ _ _ => rfl
  | .bsl _ _ _ _ _ _ => rfl
  | .fn f cs => by simp [AV.cellsOf, AV.refs, AV.refsL]
theorem AV.cellsOfL_refs : ∀ (cs : List AV), AV.refsL (AV.cellsOfL cs) = AV.refsL cs
  | [] => rfl
  | a :: as => by simp only [AV.cellsOfL, refsL_append, AV.refsL, AV.cellsOf_refs a, AV.cellsOfL_refs as]
end

def upd (ρ : Nat → Loc) (d : Nat) (l : Loc) (r : Nat) : Loc := if r = d then l else ρ r
theorem upd_eq (ρ : Nat → Loc) (d : Nat) (l : Loc) : upd ρ d l d = l := by simp [upd]
theorem upd_ne (ρ : Nat → Loc) {d r : Nat} (l : Loc) (h : r ≠ d) : upd ρ d l r = ρ r := by simp [upd, h]

section
variable {P : Program} {c : Cx} {ρ : Nat → Loc} {st : St} {a : Act} {w : World}

theorem opv_refs {x : Operand} {V : Val} (h : (opv x).run st = some V) : ∀ r ∈ V.refs, ∃ k y, St.get k st = some y ∧ r ∈ y.refs := by
  intro r hr
  cases x with
  | tmp t =>
    obtain ⟨y, h1, h2⟩ := get_run h
    cases h2
    exact ⟨_, _, h1, hr⟩
  | const v =>
    simp only [opv] at h
    cases hc : constAV v with
    | none => rw [hc] at h; cases h
    | some y =>
      rw [hc] at h; cases h
      cases v <;> simp only [constAV] at hc <;> try (cases hc; done)
      · cases hc; simp [Val.refs, AV.refs] at hr
      · cases hc; simp [Val.refs, AV.refs] at hr
      · cases hc; simp [Val.refs, AV.refs] at hr
      · rename_i x l cp
        cases x with
        | some _ => cases hc
        | none => cases l with
          | succ _ => cases hc
          | zero => cases cp with
            | succ _ => cases hc
            | zero => cases hc; simp [Val.refs, AV.refs] at hr
  | func f => cases h; simp [Val.refs, AV.refs, AV.refsL] at hr
  | global g =>
    simp only [opv] at h
    cases hg : Globs.tbl g with
    | none => rw [hg] at h; cases h
    | some y => rw [hg] at h; cases h; simp [Val.refs, gAV, AV.refs] at hr

theorem opa_refs {x : Operand} {A : AV} (h : (opa x).run st = some A) : ∀ r ∈ A.refs, ∃ k y, St.get k st = some y ∧ r ∈ y.refs := by
  obtain ⟨V, h1, h2⟩ := RM.run_bind_some h
  have := opv_refs h1
  cases V with
  | v b => cases h2; exact this
  | t => cases h2
  | box => cases h2
  | row => cases h2

theorem SimR.create (sim : SimR c ρ st a w) {d : Nat} (hd : d < c.n) (hfresh : ∀ k x, St.get k st = some x → d ∉ x.refs) (hk : d ∉ c.kp) {E V : Val} {L : Loc} {w' : World} {v : Value}
    (hsize : w.heap.size ≤ w'.heap.size) (hblk : ∀ b, b < w.heap.size → w'.heap[b]? = w.heap[b]?) (hos : w'.os = w.os) (htp : w'.tape = w.tape) (hou : w'.output = w.output)
    (hL : ∀ b, L.block = some b → w.heap.size ≤ b ∧ b < w'.heap.size)
    (hE : Stays (Own c.base st ρ) w (Own c.base ((ek d, some E) :: (sk d, some V) :: st) (upd ρ d L)) w' →
      ERel (Own c.base ((ek d, some E) :: (sk d, some V) :: st) (upd ρ d L)) (upd ρ d L) w' E L)
    (hV : Stays (Own c.base st ρ) w (Own c.base ((ek d, some E) :: (sk d, some V) :: st) (upd ρ d L)) w' → SRel (Own c.base ((ek d, some E) :: (sk d, some V) :: st) (upd ρ d L)) (upd ρ d L) w' V v) :
    SimR c (upd ρ d L) ((ek d, some E) :: (sk d, some V) :: st) (a.put (some d) v) w' := by
  have hget : ∀ r, St.get (ek r) ((ek d, some E) :: (sk d, some V) :: st) = if r = d then some E else St.get (ek r) st := by
    intro r
    by_cases h : r = d
    · subst h; rw [get_cons_eq, if_pos rfl]
    · rw [get_cons_ne _ _ (fun hh => h (ek_inj hh)), get_cons_ne _ _ (fun hh => sk_ne_ek d r hh.symm), if_neg h]
  have hown : ∀ b, Own c.base ((ek d, some E) :: (sk d, some V) :: st) (upd ρ d L) b → b < w.heap.size → Own c.base st ρ b := by
    rintro b (hb | ⟨r, hr, hb⟩) hlt
    · exact .inl hb
    · rw [hget] at hr
      by_cases h : r = d
      · subst h
        rw [upd_eq] at hb
        have := (hL b hb).1
        omega
      · rw [if_neg h] at hr
        rw [upd_ne _ _ h] at hb
        exact .inr ⟨r, hr, hb⟩
  have hs : Stays (Own c.base st ρ) w (Own c.base ((ek d, some E) :: (sk d, some V) :: st) (upd ρ d L)) w' :=
    fun b hb hO => ⟨fun h => hO (hown b h hb), hblk b hb⟩
  refine sim.step (fun k x hx r hr => upd_ne _ _ (fun h => hfresh k x hx (h ▸ hr))) hs ?_ ?_ ?_ ?_
    ⟨hos.trans sim.frame.os, htp.trans sim.frame.tape, hou.trans sim.frame.output, Nat.le_trans sim.frame.size hsize, fun b hb hm => (hblk b (Nat.lt_of_lt_of_le hb sim.frame.size)).trans (sim.frame.block b hb hm)⟩
    (by rw [put_dfr]; exact sim.dfr) (by rw [put_size]; exact sim.size) (fun r hr => upd_ne _ _ (fun h => hk (h ▸ hr)))
  · intro t y hy
    rw [get_cons_ne _ _ (fun hh => sk_ne_ek t d hh)] at hy
    rw [put_getD _ _ _ _ (by rw [sim.size]; exact hd)]
    by_cases ht : t = d
    · subst ht
      rw [get_cons_eq] at hy
      cases hy
      rw [if_pos rfl]
      exact .inl (hV hs)
    · rw [get_cons_ne _ _ (fun hh => ht (sk_inj hh))] at hy
      rw [if_neg ht]
      exact .inr ⟨hy, rfl⟩
  · intro r y hy
    rw [hget] at hy
    by_cases h : r = d
    · subst h
      rw [if_pos rfl] at hy
      cases hy
      rw [upd_eq]
      exact .inl (hE hs)
    · rw [if_neg h] at hy
      exact .inr ⟨hy, upd_ne _ _ h, fun b hb => hblk b (sim.mine r b (by rw [hy]; rfl) hb).2.2⟩
  · intro r r' b h1 h2 h3 h4
    rw [hget] at h1 h2
    by_cases h : r = d <;> by_cases h' : r' = d
    · rw [h, h']
    · subst h
      rw [if_neg h'] at h2
      rw [upd_eq] at h3
      rw [upd_ne _ _ h'] at h4
      have := (hL b h3).1
      have := (sim.mine r' b h2 h4).2.2
      omega
    · subst h'
      rw [if_neg h] at h1
      rw [upd_eq] at h4
      rw [upd_ne _ _ h] at h3
      have := (hL b h4).1
      have := (sim.mine r b h1 h3).2.2
      omega
    · rw [if_neg h] at h1
      rw [if_neg h'] at h2
      rw [upd_ne _ _ h] at h3
      rw [upd_ne _ _ h'] at h4
      exact sim.inj r r' b h1 h2 h3 h4
  · intro r b h1 h3
    rw [hget] at h1
    by_cases h : r = d
    · subst h
      rw [upd_eq] at h3
      have := hL b h3
      exact ⟨fun hb => by have := (sim.base b hb).1; have := sim.frame.size; omega, .inr (Nat.le_trans sim.frame.size this.1), this.2⟩
    · rw [if_neg h] at h1
      rw [upd_ne _ _ h] at h3
      obtain ⟨k1, k2, k3⟩ := sim.mine r b h1 h3
      exact ⟨k1, k2, by omega⟩

theorem SimR.write (sim : SimR c ρ st a w) {r b : Nat} {E : Val} {w' : World} (hr : (St.get (ek r) st).isSome = true) (hb : (ρ r).block = some b)
    (hsize : w'.heap.size = w.heap.size) (hblk : ∀ b', b' ≠ b → w'.heap[b']? = w.heap[b']?) (hos : w'.os = w.os) (htp : w'.tape = w.tape) (hou : w'.output = w.output)
    (hE : Stays (Own c.base st ρ) w (Own c.base st ρ) w' → ERel (Own c.base st ρ) ρ w' E (ρ r)) : SimR c ρ ((ek r, some E) :: st) a w' := by
  have hget : ∀ r', (St.get (ek r') ((ek r, some E) :: st)) = if r' = r then some E else St.get (ek r') st := by
    intro r'
    by_cases h : r' = r
    · subst h; rw [get_cons_eq, if_pos rfl]
    · rw [get_cons_ne _ _ (fun hh => h (ek_inj hh)), if_neg h]
  have hsome : ∀ r', (St.get (ek r') ((ek r, some E) :: st)).isSome = (St.get (ek r') st).isSome := by
    intro r'
    rw [hget]
    by_cases h : r' = r
    · subst h; rw [if_pos rfl, hr]; rfl
    · rw [if_neg h]
  have hown : Own c.base ((ek r, some E) :: st) ρ = Own c.base st ρ := by
    funext b'; simp only [Own, hsome]
  have hne : ∀ b', ¬ Own c.base st ρ b' → b' ≠ b := fun b' h hh => h (.inr ⟨r, hr, by rw [hh]; exact hb⟩)
  have hs : Stays (Own c.base st ρ) w (Own c.base st ρ) w' := fun b' _ hO => ⟨hO, hblk b' (hne b' hO)⟩
  have hmine := sim.mine r b hr hb
  refine sim.step (fun _ _ _ _ _ => rfl) (by rw [hown]; exact hs) ?_ ?_ ?_ ?_
    ⟨hos.trans sim.frame.os, htp.trans sim.frame.tape, hou.trans sim.frame.output, by rw [hsize]; exact sim.frame.size, fun b' hb' hm => by
      rw [hblk b' ?_, sim.frame.block b' hb' hm]
      intro hh
      subst hh
      rcases hmine.2.1 with h | h
      · exact hm h
      · omega⟩ sim.dfr sim.size (fun _ _ => rfl)
  · intro t y hy
    rw [get_cons_ne _ _ (fun hh => sk_ne_ek t r hh)] at hy
    exact .inr ⟨hy, rfl⟩
  · intro r' y hy
    rw [hget] at hy
    by_cases h : r' = r
    · subst h
      rw [if_pos rfl] at hy
      cases hy
      rw [hown]
      exact .inl (hE hs)
    · rw [if_neg h] at hy
      refine .inr ⟨hy, rfl, fun b' hb' => hblk b' (fun hh => h (sim.inj r' r b (by rw [hy]; rfl) hr (hh ▸ hb') hb))⟩
  · intro r1 r2 b' h1 h2
    rw [hsome] at h1 h2
    exact sim.inj r1 r2 b' h1 h2
  · intro r' b' h1 h2
    rw [hsome] at h1
    obtain ⟨k1, k2, k3⟩ := sim.mine r' b' h1 h2
    exact ⟨k1, k2, by rw [hsize]; exact k3⟩

theorem store_ptr (sim : SimR c ρ st a w) {t : TypeId} {r off b : Nat} {X : AV} {x : Value} {cs cs' : List AV} (hst : stores P t X = true) (hX : VRel (Own c.base st ρ) ρ w X x)
    (hrb : ρ r = .box b) (hg : St.get (ek r) st = some (.box cs)) (hu : AV.upds cs off X.cellsOf X.size = some cs') :
    ∃ w', (Instr.storeAt t (.pointer (some ⟨b, off, none⟩)) x).run P w = .ok () w' ∧ SimR c ρ ((ek r, some (.box cs')) :: st) a w' := by
  unfold stores at hst
  simp only [Bool.and_eq_true, beq_iff_eq] at hst
  obtain ⟨⟨hsz, hok⟩, hund⟩ := hst
  have hne : X ≠ .und := by intro h; subst h; cases hund
  have hcx := hX.cells hne
  have hone := hcx.one
  have hlen := hcx.length
  obtain ⟨vals, tt, hh, hcc⟩ := box_of sim hrb hg
  obtain ⟨h1, h2⟩ := AV.upds_sound hcc (AV.cellsOf_sound hcx) hlen hu
  have hrun := run_storeCells_at P b off tt x.cells.toList 0 vals w hh (by rw [hlen]; simpa using h2) hone
  rw [Nat.add_zero, hlen] at hrun
  have hcs : x.cells.size = P.cellsOf t := by rw [← hsz, ← hlen]; simp
  refine ⟨w.setRow b (vals.toList.take off ++ x.cells.toList ++ vals.toList.drop (off + X.size)).toArray, ?_, sim.write (b := b) (by rw [hg]; rfl) (by rw [hrb]; rfl) (setRow_size _ _ _) (fun b' hb' => setRow_other _ _ _ _ hb') rfl rfl rfl (fun hs => ?_)⟩
  · simp only [Instr.storeAt, Instr.sureAddr, Sem.run_bind, Sem.run_pure, Result.andThen_ok, storeVar, run_sizeOf' (okT_iff hok).1]
    rw [hcs]
    simp only [ne_eq, not_true_eq_false, if_false, Sem.run_bind, Sem.run_pure, Result.andThen_ok]
    exact hrun
  · refine ⟨b, _, tt, hrb, setRow_heap w b vals _ tt (0, 0) hh, ?_⟩
    exact (h1.stays hs (fun _ _ => rfl))

theorem list_flatten_set {e : Kd} {O : Nat → Prop} : ∀ {l : List e.T} {css : List (List Value)} (h : All2 (Cells O w e) l css) (i : Nat) (hi : i < l.length) (d : List Value), d.length = e.size →
    (css.set i d).flatten = css.flatten.take (i * e.size) ++ d ++ css.flatten.drop (i * e.size + e.size)
  | [], [], _, i, hi, _, _ => by simp at hi
  | x :: l, cc :: css, h, 0, _, d, hd => by
    have := h.1.length
    simp [← this]
  | x :: l, cc :: css, h, i + 1, hi, d, hd => by
    have ih := list_flatten_set h.2 i (by simpa using hi) d hd
    have hl := h.1.length
    simp only [List.set_cons_succ, List.flatten_cons, ih, Nat.add_mul, Nat.one_mul]
    rw [show i * e.size + e.size = cc.length + i * e.size by omega, List.take_length_add_append, show cc.length + i * e.size + e.size = cc.length + (i * e.size + e.size) by omega, List.drop_length_add_append,
      show cc.length + i * e.size = i * e.size + e.size by omega]
    simp [List.append_assoc]
  | [], _ :: _, h, _, _, _, _ => h.elim
  | _ :: _, [], h, _, _, _, _ => h.elim

theorem splice {α : Type} {vals css c1 : List α} {off i s n : Nat} (hoff : off + n * s ≤ vals.length) (hi : i < n) (hc : (vals.drop off).take (n * s) = css) (hl : c1.length = s) :
    vals.take off ++ (css.take (i * s) ++ c1 ++ css.drop (i * s + s)) ++ vals.drop (off + n * s) = vals.take (off + i * s) ++ c1 ++ vals.drop (off + i * s + s) := by
  subst hc
  have hle : (i + 1) * s ≤ n * s := Nat.mul_le_mul_right _ hi
  rw [Nat.add_mul, Nat.one_mul] at hle
  rw [List.take_take, Nat.min_eq_left (by omega), List.drop_take, List.drop_drop]
  have e1 : vals.take (off + i * s) = vals.take off ++ (vals.drop off).take (i * s) := by rw [List.take_add]
  have e2 : vals.drop (off + i * s + s) = (vals.drop (off + (i * s + s))).take (n * s - (i * s + s)) ++ vals.drop (off + n * s) := by
    have := List.take_append_drop (n * s - (i * s + s)) (vals.drop (off + (i * s + s)))
    rw [List.drop_drop, show off + (i * s + s) + (n * s - (i * s + s)) = off + n * s by omega] at this
    rw [show off + i * s + s = off + (i * s + s) by omega]
    exact this.symm
  rw [e1, e2]
  simp only [List.append_assoc]

theorem store_aptr (sim : SimR c ρ st a w) {t : TypeId} {e : Kd} {r off n i b : Nat} {X : AV} {x : Value} {cs cs' : List AV} {y : List e.T} {z : e.T} (hst : stores P t X = true) (hX : VRel (Own c.base st ρ) ρ w X x)
    (hrb : ρ r = .box b) (hi : i < n) (hg : St.get (ek r) st = some (.box cs)) (hs : AV.subs cs off (n * e.size) true = some (.p (.arr n e) y)) (hz : AV.toP e X.cellsOf = some (z, [])) (hu : AV.upds cs off [.p (.arr n e) (List.set y i z)] (n * e.size) = some cs') :
    ∃ w', (Instr.storeAt t (.pointer (some ⟨b, off + i * e.size, none⟩)) x).run P w = .ok () w' ∧ SimR c ρ ((ek r, some (.box cs')) :: st) a w' := by
  unfold stores at hst
  simp only [Bool.and_eq_true, beq_iff_eq] at hst
  obtain ⟨⟨hsz, hok⟩, hund⟩ := hst
  have hne : X ≠ .und := by intro h; subst h; cases hund
  have hcx := hX.cells hne
  have hone := hcx.one
  have hlen := hcx.length
  obtain ⟨c1, c2, hc12, hy, hnil⟩ := AV.toP_sound (AV.cellsOf_sound hcx) hz
  have hc2 := hnil.inv_nil
  subst hc2
  rw [List.append_nil] at hc12
  rw [hc12] at hone hlen
  have hyl := hy.length
  obtain ⟨vals, tt, hh, hcc⟩ := box_of sim hrb hg
  obtain ⟨h1, _, h3, _⟩ := AV.subs_sound hcc hs
  cases h1 with
  | p h1 =>
    obtain ⟨hml, css, hcss, hall⟩ := h1
    have hset := list_flatten_set hall i (by omega) c1 hyl
    have hnew : Cells (Own c.base st ρ) w (.arr n e) (List.set y i z) (css.set i c1).flatten := ⟨by rw [List.length_set]; exact hml, css.set i c1, rfl, All2.set hall i z c1 hy⟩
    obtain ⟨k1, k2⟩ := AV.upds_sound hcc (CsRel.single (.p hnew)) hnew.length hu
    have hks : (Kd.arr n e).size = n * e.size := rfl
    rw [hks] at k1
    rw [hset, splice (by simpa using h3) hi hcss hyl] at k1
    have hle : (i + 1) * e.size ≤ n * e.size := Nat.mul_le_mul_right _ hi
    rw [Nat.add_mul, Nat.one_mul] at hle
    have hfit : off + i * e.size + e.size ≤ vals.size := by
      have : off + n * e.size ≤ vals.size := by simpa using h3
      omega
    have hrun := run_storeCells_at P b (off + i * e.size) tt x.cells.toList 0 vals w hh (by rw [hc12, hyl]; exact hfit) (by rw [hc12]; exact hone)
    rw [Nat.add_zero, hc12, hyl] at hrun
    have hcs : x.cells.size = P.cellsOf t := by
      rw [← hsz, ← hlen, ← hc12]; simp
    refine ⟨w.setRow b (vals.toList.take (off + i * e.size) ++ c1 ++ vals.toList.drop (off + i * e.size + e.size)).toArray, ?_, sim.write (b := b) (by rw [hg]; rfl) (by rw [hrb]; rfl) (setRow_size _ _ _) (fun b' hb' => setRow_other _ _ _ _ hb') rfl rfl rfl (fun hs => ?_)⟩
    · simp only [Instr.storeAt, Instr.sureAddr, Sem.run_bind, Sem.run_pure, Result.andThen_ok, storeVar, run_sizeOf' (okT_iff hok).1]
      rw [hcs]
      simp only [ne_eq, not_true_eq_false, if_false, Sem.run_bind, Sem.run_pure, Result.andThen_ok]
      rw [hc12]
      exact hrun
    · refine ⟨b, _, tt, hrb, setRow_heap w b vals _ tt (0, 0) hh, ?_⟩
      exact (k1.stays hs (fun _ _ => rfl))

theorem store_rptr (sim : SimR c ρ st a w) {t : TypeId} {e : Kd} {r i b n cp et : Nat} {X : AV} {x : Value} {l : List e.T} {y : e.T} (hst : stores P t X = true) (hX : VRel (Own c.base st ρ) ρ w X x)
    (hrb : ρ r = .row (.slice (some ⟨b, 0, none⟩) n cp)) (hg : St.get (ek r) st = some (.row e et l)) (hu : AV.toP e X.cellsOf = some (y, [])) (hi : i < l.length) :
    ∃ w', (Instr.storeAt t (.pointer (some ⟨b, i * e.size, none⟩)) x).run P w = .ok () w' ∧ SimR c ρ ((ek r, some (.row e et (l.set i y))) :: st) a w' := by
  unfold stores at hst
  simp only [Bool.and_eq_true, beq_iff_eq] at hst
  obtain ⟨⟨hsz, hok⟩, hund⟩ := hst
  have hne : X ≠ .und := by intro h; subst h; cases hund
  have hcx := hX.cells hne
  have hone := hcx.one
  have hlen := hcx.length
  obtain ⟨c1, c2, hc12, hy, hnil⟩ := AV.toP_sound (AV.cellsOf_sound hcx) hu
  have hc2 := hnil.inv_nil
  subst hc2
  rw [List.append_nil] at hc12
  rw [hc12] at hone hlen
  have hyl := hy.length
  obtain ⟨v, css, h1, h2, h3, _⟩ := row_range (sim.ents r _ hg)
  rw [hrb] at h1
  cases h1
  rcases h3.2 with ⟨h, _⟩ | ⟨g, cap, cur, hv, h0, hh, hnc, hcm, hcs, htake⟩
  · cases h
  cases hv
  have hfl := flatten_length h2
  have hle : (i + 1) * e.size ≤ l.length * e.size := Nat.mul_le_mul_right _ hi
  rw [Nat.add_mul, Nat.one_mul] at hle
  have hle2 : l.length * e.size ≤ cp * e.size := Nat.mul_le_mul_right _ hnc
  have hrun := run_storeCells_at P b (i * e.size) et x.cells.toList 0 cur w hh (by rw [hc12, hyl]; omega) (by rw [hc12]; exact hone)
  rw [Nat.add_zero, hc12, hyl] at hrun
  have hcs' : x.cells.size = P.cellsOf t := by
    rw [← hsz, ← hlen, ← hc12]; simp
  refine ⟨w.setRow b (cur.toList.take (i * e.size) ++ c1 ++ cur.toList.drop (i * e.size + e.size)).toArray, ?_, sim.write (b := b) (by rw [hg]; rfl) (by rw [hrb]; rfl) (setRow_size _ _ _) (fun b' hb' => setRow_other _ _ _ _ hb') rfl rfl rfl (fun hs => ?_)⟩
  · simp only [Instr.storeAt, Instr.sureAddr, Sem.run_bind, Sem.run_pure, Result.andThen_ok, storeVar, run_sizeOf' (okT_iff hok).1]
    rw [hcs']
    simp only [ne_eq, not_true_eq_false, if_false, Sem.run_bind, Sem.run_pure, Result.andThen_ok]
    rw [hc12]
    exact hrun
  · have hset := list_flatten_set h2 i hi c1 hyl
    have hall : All2 (Cells (Own c.base st ρ) (w.setRow b (cur.toList.take (i * e.size) ++ c1 ++ cur.toList.drop (i * e.size + e.size)).toArray) e) (l.set i y) (css.set i c1) :=
      All2.set (All2.mono (fun _ _ h => h.stays hs) h2) i y c1 (hy.stays hs)
    refine ⟨_, css.set i c1, hrb, hall, ?_, .inr ⟨b, cp, _, ?_, Nat.zero_le _, setRow_heap w b cur _ et (0, 0) hh, ?_, hcm, ?_, ?_⟩⟩
    · rw [flatten_length hall]
    · simp
    · rw [List.length_set]; exact hnc
    · simp only [List.size_toArray, List.length_append, List.length_take, List.length_drop, Array.length_toList]
      omega
    · rw [List.length_set, hset, ← htake]
      simp only [List.length_append, List.length_take, List.length_drop]
      have hcl : cur.toList.length = cp * e.size := by simpa using hcs
      rw [List.take_append, List.take_append, List.take_take, List.take_take, Nat.min_eq_left (by omega : i * e.size ≤ l.length * e.size)]
      rw [Nat.min_eq_right (by omega : i * e.size ≤ l.length * e.size)]
      simp only [List.length_append, List.length_take, hcl, hyl]
      rw [Nat.min_eq_left (by omega : i * e.size ≤ cp * e.size), List.take_of_length_le (by omega : c1.length ≤ l.length * e.size - i * e.size), List.drop_take]
end
end Go.Abs
