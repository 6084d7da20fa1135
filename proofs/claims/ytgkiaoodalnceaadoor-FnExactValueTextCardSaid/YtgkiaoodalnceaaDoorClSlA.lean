import Derived.Calls
import Derived.Orders
import Derived.Laws.AppendOwn
import Derived.RowKit3
/- The simulation logic, part A: abstract values, what they stand for in a world, and worlds that go on from worlds. -/
namespace SL
open Go
set_option linter.unusedVariables false
set_option linter.unusedSimpArgs false

inductive AV where
  | sc (v : Value)
  | agg (cs : List AV)
  | ptr (n off : Nat)
  | vec (es : List (List AV))
  | sl (n sz off len : Nat)
  | tup (vs : List AV)
  | fn (f : Fn) (first captured : List AV)
  | ifc (t : TypeId) (v : AV)
  deriving Inhabited

inductive TV where
  | v (a : AV)
  | lp (s ver off : Nat)
  | vp (cs : List AV)
  | ls (s ver sz len : Nat)
  deriving Inhabited

structure Heap where
  m : Nat → Option (List AV)
  nx : Nat

structure G where
  ρ : Nat → Option Nat
  π : Nat → Prop

def Pin (g : G) (w : World) (b off : Nat) (vs : List Value) : Prop :=
  g.π b ∧ ∀ i v, vs[i]? = some v → w.cell? ⟨b, off + i, none⟩ = some v

mutual
def RepA (g : G) (w : World) : AV → Value → Prop
  | .sc u, v => v = u
  | .agg cs, v => ∃ vs : List Value, v = .agg vs.toArray ∧ RepL g w cs vs
  | .ptr n off, v => ∃ b, g.ρ n = some b ∧ v = .pointer (some ⟨b, off, none⟩)
  | .vec es, v => ∃ ad len cap, v = .slice ad len cap ∧ len = es.length ∧ len ≤ cap ∧ (es = [] ∨ ∃ b off vs, ad = some ⟨b, off, none⟩ ∧ Pin g w b off vs ∧ RepLL g w es vs)
  | .sl n sz off len, v => ∃ b cap, g.ρ n = some b ∧ v = .slice (some ⟨b, off, none⟩) len cap ∧ len ≤ cap ∧ ∃ t q, w.shape? b = some (t, q) ∧ off + cap * sz = q
  | .tup us, v => ∃ vs : List Value, v = .tuple vs.toArray ∧ RepL g w us vs
  | .fn f fi ca, v => ∃ x y : List Value, v = .func f x.toArray y.toArray ∧ RepL g w fi x ∧ RepL g w ca y
  | .ifc t a, v => ∃ x, v = .iface t x ∧ RepA g w a x
def RepL (g : G) (w : World) : List AV → List Value → Prop
  | [], vs => vs = []
  | a :: as, vs => ∃ x xs, vs = x :: xs ∧ RepA g w a x ∧ RepL g w as xs
def RepLL (g : G) (w : World) : List (List AV) → List Value → Prop
  | [], vs => vs = []
  | e :: es, vs => ∃ x xs, vs = x ++ xs ∧ RepL g w e x ∧ RepLL g w es xs
end

/-- A row of cells, none of them frozen. -/
def Row (w : World) (b : Nat) (c : Array Value) : Prop := ∃ e fr, w.heap[b]? = some (.cells c e fr) ∧ ∀ o, o < c.size → ¬ (fr.1 ≤ o ∧ o < fr.2)

def live (g : G) (h : Heap) (b : Nat) : Prop := ∃ n cs, h.m n = some cs ∧ g.ρ n = some b

/-- What is needed for a standing meaning of values: names and pinned blocks stay. -/
structure GLe (g : G) (w : World) (g' : G) (w' : World) : Prop where
  rho : ∀ n b, g.ρ n = some b → g'.ρ n = some b
  pi : ∀ b, g.π b → g'.π b
  keep : ∀ b, g.π b → w'.heap[b]? = w.heap[b]?
  shape : ∀ b x, w.shape? b = some x → w'.shape? b = some x

theorem GLe.refl (g : G) (w : World) : GLe g w g w := ⟨fun _ _ h => h, fun _ h => h, fun _ _ => rfl, fun _ _ h => h⟩
theorem GLe.trans {g w g1 w1 g2 w2} (h : GLe g w g1 w1) (k : GLe g1 w1 g2 w2) : GLe g w g2 w2 :=
  ⟨fun n b e => k.rho n b (h.rho n b e), fun b e => k.pi b (h.pi b e), fun b e => (k.keep b (h.pi b e)).trans (h.keep b e), fun b x e => k.shape b x (h.shape b x e)⟩

theorem Pin.mono {g w g' w' b off vs} (hl : GLe g w g' w') (h : Pin g w b off vs) : Pin g' w' b off vs :=
  ⟨hl.pi b h.1, fun i v hv => (World.cell?_of_block (hl.keep b h.1)).trans (h.2 i v hv)⟩

mutual
theorem RepA.mono {g w g' w'} (hl : GLe g w g' w') : ∀ (a : AV) (v : Value), RepA g w a v → RepA g' w' a v
  | .sc u, v, h => by simpa only [RepA] using h
  | .agg cs, v, h => by
    simp only [RepA] at h ⊢
    obtain ⟨vs, e, hr⟩ := h
    exact ⟨vs, e, RepL.mono hl cs vs hr⟩
  | .ptr n off, v, h => by
    simp only [RepA] at h ⊢
    obtain ⟨b, e, hr⟩ := h
    exact ⟨b, hl.rho _ _ e, hr⟩
  | .vec es, v, h => by
    simp only [RepA] at h ⊢
    obtain ⟨ad, len, cap, e, e2, e2', hr⟩ := h
    refine ⟨ad, len, cap, e, e2, e2', ?_⟩
    rcases hr with hr | ⟨b, off, vs, e3, hp, hr⟩
    · exact .inl hr
    · exact .inr ⟨b, off, vs, e3, hp.mono hl, RepLL.mono hl es vs hr⟩
  | .sl n sz off len, v, h => by
    simp only [RepA] at h ⊢
    obtain ⟨b, cap, e, e2, hc, t, q, hs, hq⟩ := h
    exact ⟨b, cap, hl.rho _ _ e, e2, hc, t, q, hl.shape _ _ hs, hq⟩
  | .tup us, v, h => by
    simp only [RepA] at h ⊢
    obtain ⟨vs, e, hr⟩ := h
    exact ⟨vs, e, RepL.mono hl us vs hr⟩
  | .fn f fi ca, v, h => by
    simp only [RepA] at h ⊢
    obtain ⟨x, y, e, h1, h2⟩ := h
    exact ⟨x, y, e, RepL.mono hl fi x h1, RepL.mono hl ca y h2⟩
  | .ifc t a, v, h => by
    simp only [RepA] at h ⊢
    obtain ⟨x, e, hr⟩ := h
    exact ⟨x, e, RepA.mono hl a x hr⟩
theorem RepL.mono {g w g' w'} (hl : GLe g w g' w') : ∀ (as : List AV) (vs : List Value), RepL g w as vs → RepL g' w' as vs
  | [], vs, h => by simpa only [RepL] using h
  | a :: as, vs, h => by
    simp only [RepL] at h ⊢
    obtain ⟨x, xs, e, h1, h2⟩ := h
    exact ⟨x, xs, e, RepA.mono hl a x h1, RepL.mono hl as xs h2⟩
theorem RepLL.mono {g w g' w'} (hl : GLe g w g' w') : ∀ (es : List (List AV)) (vs : List Value), RepLL g w es vs → RepLL g' w' es vs
  | [], vs, h => by simpa only [RepLL] using h
  | e :: es, vs, h => by
    simp only [RepLL] at h ⊢
    obtain ⟨x, xs, e, h1, h2⟩ := h
    exact ⟨x, xs, e, RepL.mono hl _ x h1, RepLL.mono hl es xs h2⟩
end

theorem RepL.length {g w} : ∀ {as : List AV} {vs : List Value}, RepL g w as vs → vs.length = as.length
  | [], vs, h => by simp only [RepL] at h; simp [h]
  | a :: as, vs, h => by
    simp only [RepL] at h
    obtain ⟨x, xs, rfl, _, h2⟩ := h
    simp [RepL.length h2]

theorem RepL.append {g w} : ∀ {as bs : List AV} {vs us : List Value}, RepL g w as vs → RepL g w bs us → RepL g w (as ++ bs) (vs ++ us)
  | [], bs, vs, us, h, k => by simp only [RepL] at h; simpa [h] using k
  | a :: as, bs, vs, us, h, k => by
    simp only [RepL] at h
    obtain ⟨x, xs, rfl, h1, h2⟩ := h
    simp only [List.cons_append, RepL]
    exact ⟨x, xs ++ us, rfl, h1, RepL.append h2 k⟩

theorem RepL.split {g w} : ∀ {as bs : List AV} {vs : List Value}, RepL g w (as ++ bs) vs → ∃ x y, vs = x ++ y ∧ RepL g w as x ∧ RepL g w bs y
  | [], bs, vs, h => ⟨[], vs, rfl, by simp [RepL], h⟩
  | a :: as, bs, vs, h => by
    simp only [List.cons_append, RepL] at h
    obtain ⟨x, xs, rfl, h1, h2⟩ := h
    obtain ⟨y, z, rfl, h3, h4⟩ := RepL.split h2
    exact ⟨x :: y, z, rfl, by simp only [RepL]; exact ⟨x, y, rfl, h1, h3⟩, h4⟩

theorem RepL.get {g w} : ∀ {as : List AV} {vs : List Value}, RepL g w as vs → ∀ (i : Nat) (a : AV), as[i]? = some a → ∃ v, vs[i]? = some v ∧ RepA g w a v
  | [], vs, h, i, a, e => by simp at e
  | x :: as, vs, h, i, a, e => by
    simp only [RepL] at h
    obtain ⟨y, ys, rfl, h1, h2⟩ := h
    cases i with
    | zero => simp at e; subst e; exact ⟨y, rfl, h1⟩
    | succ i => simp at e; simpa using RepL.get h2 i a e

theorem RepL.drop {g w} : ∀ (n : Nat) {as : List AV} {vs : List Value}, RepL g w as vs → RepL g w (as.drop n) (vs.drop n)
  | 0, as, vs, h => by simpa using h
  | n + 1, [], vs, h => by simp only [RepL] at h; simp [h, RepL]
  | n + 1, a :: as, vs, h => by
    simp only [RepL] at h
    obtain ⟨x, xs, rfl, _, h2⟩ := h
    simpa using RepL.drop n h2

theorem RepL.take {g w} : ∀ (n : Nat) {as : List AV} {vs : List Value}, RepL g w as vs → RepL g w (as.take n) (vs.take n)
  | 0, as, vs, h => by simp [RepL]
  | n + 1, [], vs, h => by simp only [RepL] at h; simp [h, RepL]
  | n + 1, a :: as, vs, h => by
    simp only [RepL] at h
    obtain ⟨x, xs, rfl, h1, h2⟩ := h
    simp only [List.take_succ_cons, RepL]
    exact ⟨x, _, rfl, h1, RepL.take n h2⟩

theorem RepL.set {g w} : ∀ (i : Nat) {as : List AV} {vs : List Value} {a : AV} {v : Value}, RepL g w as vs → RepA g w a v → RepL g w (as.set i a) (vs.set i v)
  | _, [], vs, a, v, h, k => by simp only [RepL] at h; simp [h, RepL]
  | 0, b :: as, vs, a, v, h, k => by
    simp only [RepL] at h
    obtain ⟨x, xs, rfl, h1, h2⟩ := h
    simp only [List.set_cons_zero, RepL]
    exact ⟨v, xs, rfl, k, h2⟩
  | i + 1, b :: as, vs, a, v, h, k => by
    simp only [RepL] at h
    obtain ⟨x, xs, rfl, h1, h2⟩ := h
    simp only [List.set_cons_succ, RepL]
    exact ⟨x, _, rfl, h1, RepL.set i h2 k⟩

theorem RepLL.get {g w} : ∀ {es : List (List AV)} {vs : List Value}, RepLL g w es vs → ∀ (i : Nat) (e : List AV), es[i]? = some e →
    ∃ x y z, vs = x ++ y ++ z ∧ RepL g w e y ∧ x.length = ((es.take i).map List.length).sum
  | [], vs, h, i, e, hi => by simp at hi
  | a :: es, vs, h, i, e, hi => by
    simp only [RepLL] at h
    obtain ⟨p, q, rfl, h1, h2⟩ := h
    cases i with
    | zero => simp at hi; subst hi; exact ⟨[], p, q, rfl, h1, by simp⟩
    | succ i =>
      simp at hi
      obtain ⟨x, y, z, rfl, h3, h4⟩ := RepLL.get h2 i e hi
      exact ⟨p ++ x, y, z, by simp, h3, by simp [h4, h1.length]⟩

theorem RepLL.flat {g w} : ∀ {es : List (List AV)} {vs : List Value}, RepLL g w es vs ↔ RepL g w es.flatten vs
  | [], vs => by simp [RepLL, RepL]
  | e :: es, vs => by
    simp only [RepLL, List.flatten_cons]
    constructor
    · rintro ⟨x, xs, rfl, h1, h2⟩
      exact h1.append (RepLL.flat.1 h2)
    · intro h
      obtain ⟨x, y, rfl, h1, h2⟩ := h.split
      exact ⟨x, y, rfl, h1, RepLL.flat.2 h2⟩

/-- One world goes on from another: what a call may do. -/
structure Ext (g : G) (h : Heap) (w : World) (g' : G) (h' : Heap) (w' : World) : Prop where
  rho : ∀ n b, g.ρ n = some b → g'.ρ n = some b
  pi : ∀ b, g.π b → g'.π b
  piN : ∀ b, b < w.heap.size → g'.π b → g.π b
  keep : ∀ b, b < w.heap.size → ¬ live g h b → w'.heap[b]? = w.heap[b]?
  shape : ∀ b x, w.shape? b = some x → w'.shape? b = some x
  own : ∀ b, b < w.heap.size → live g' h' b → live g h b
  os : w'.os = w.os
  tape : w'.tape = w.tape
  output : w'.output = w.output
  size : w.heap.size ≤ w'.heap.size

theorem Ext.refl (g : G) (h : Heap) (w : World) : Ext g h w g h w :=
  ⟨fun _ _ e => e, fun _ e => e, fun _ _ e => e, fun _ _ _ => rfl, fun _ _ e => e, fun _ _ e => e, rfl, rfl, rfl, Nat.le_refl _⟩

theorem Ext.trans {g h w g1 h1 w1 g2 h2 w2} (a : Ext g h w g1 h1 w1) (b : Ext g1 h1 w1 g2 h2 w2) : Ext g h w g2 h2 w2 :=
  ⟨fun n x e => b.rho n x (a.rho n x e), fun x e => b.pi x (a.pi x e), fun x hx e => a.piN x hx (b.piN x (Nat.lt_of_lt_of_le hx a.size) e),
   fun x hx hn => (b.keep x (Nat.lt_of_lt_of_le hx a.size) (fun hl => hn (a.own x hx hl))).trans (a.keep x hx hn),
   fun x y e => b.shape x y (a.shape x y e), fun x hx hl => a.own x hx (b.own x (Nat.lt_of_lt_of_le hx a.size) hl),
   b.os.trans a.os, b.tape.trans a.tape, b.output.trans a.output, Nat.le_trans a.size b.size⟩

/-- The abstract heap stands in the world. -/
structure HSim (g : G) (h : Heap) (w : World) : Prop where
  mem : ∀ n cs, h.m n = some cs → ∃ b c, g.ρ n = some b ∧ ¬ g.π b ∧ Row w b c ∧ RepL g w cs (c.toList.take cs.length)
  inj : ∀ n m cs ds b, h.m n = some cs → h.m m = some ds → g.ρ n = some b → g.ρ m = some b → n = m
  nx : ∀ n, h.nx ≤ n → h.m n = none ∧ g.ρ n = none
  pin : ∀ b, g.π b → b < w.heap.size
  rng : ∀ n b, g.ρ n = some b → b < w.heap.size

theorem Ext.gle {g h w g' h' w'} (a : Ext g h w g' h' w') (hs : HSim g h w) : GLe g w g' w' :=
  ⟨a.rho, a.pi, fun b hb => a.keep b (hs.pin b hb) (by
    rintro ⟨n, cs, hm, hr⟩
    obtain ⟨b', c, h1, h2, _⟩ := hs.mem n cs hm
    rw [hr] at h1
    cases h1
    exact h2 hb), a.shape⟩

/-- A function that has a body of its own. -/
def okFunc (P : Program) (f : Nat) : Bool :=
  match P.funcs[f]? with
  | some fn => fn.body.isSome && !(fn.name == "runtime.NumGoroutine")
  | none => false

/-- Go's own tables, by name. -/
def firstV (c : Nat) : Int :=
  if c < 128 then 240 else if c < 194 then 241 else if c < 224 then 2 else if c = 224 then 19 else if c < 237 then 3 else if c = 237 then 35 else if c < 240 then 3 else if c = 240 then 52 else if c < 244 then 4 else if c = 244 then 68 else 241
def knownTabs : List (String × List Value) :=
  [("internal/strconv.uint64pow10", (List.range 20).map fun i => .int .u64 (10 ^ i)),
   ("unicode/utf8.first", (List.range 256).map fun c => .int .u8 (firstV c)),
   ("unicode/utf8.acceptRanges", [128, 191, 160, 191, 128, 159, 144, 191, 128, 143, 0, 0, 0, 0, 0, 0, 0, 0, 0, 0, 0, 0, 0, 0, 0, 0, 0, 0, 0, 0, 0, 0].map fun n => .int .u8 n)]

/-- Go's own tables stand in pinned blocks. -/
def Glob (P : Program) (g : G) (w : World) : Prop := ∀ q ∈ knownTabs, ∀ b, P.globalNamed q.1 = some b → g.π b ∧ w.var? P q.1 = some q.2.toArray

theorem Glob.keep {P : Program} {g g' : G} {w w' : World} (h : Glob P g w) (hp : ∀ b, g.π b → g'.π b) (hk : ∀ b, g.π b → w'.heap[b]? = w.heap[b]?) : Glob P g' w' := by
  intro q hq b hb
  obtain ⟨h1, h2⟩ := h q hq b hb
  refine ⟨hp b h1, ?_⟩
  unfold World.var? at *
  rw [hb] at h2 ⊢
  simp only [Option.bind_some] at h2 ⊢
  rw [hk b h1]
  exact h2

theorem Glob.ext {P : Program} {g g' : G} {h h' : Heap} {w w' : World} (hG : Glob P g w) (hs : HSim g h w) (X : Ext g h w g' h' w') : Glob P g' w' :=
  hG.keep X.pi (X.gle hs).keep


/-- A call, told abstractly. -/
def ACalls (P : Program) (f : FuncId) (args : List AV) (h : Heap) (R : AV → Heap → Prop) : Prop :=
  okFunc P f = true ∧ ∀ (g : G) (w : World) (vs : List Value), Glob P g w → HSim g h w → RepL g w args vs →
    Calls P f vs.toArray w fun e w' => ∃ r h' g' v, e = .returned v ∧ R r h' ∧ RepA g' w' r v ∧ HSim g' h' w' ∧ Ext g h w g' h' w'

theorem ACalls.mono {P f args h R R'} (hc : ACalls P f args h R) (hr : ∀ r h', R r h' → R' r h') : ACalls P f args h R' :=
  ⟨hc.1, fun g w vs hG hs ha => (hc.2 g w vs hG hs ha).mono fun e w' ⟨r, h', g', v, e1, e2, rest⟩ => ⟨r, h', g', v, e1, hr r h' e2, rest⟩⟩

end SL
