import Derived.Test.YtgkiaoodalnceaaDoorClSlA
import Derived.Deep.AppendSrc
import Derived.Laws.MakeOwn
import Derived.Laws.IdiomCopy
/- The simulation logic, part B: temporaries, local memory, and how worlds move under them. -/
namespace SL
open Go
set_option linter.unusedVariables false
set_option linter.unusedSimpArgs false

inductive LE where
  | no
  | mu (ver : Nat) (cs : List TV)
  | fr (ver : Nat) (cs : List TV)

structure Mem where
  l : Nat → LE
  c : Nat
  h : Heap

structure St where
  t : Nat → TV
  m : Mem

abbrev La := Nat → Nat → Option Nat

def upd {α : Type} (t : Nat → α) (d : Nat) (x : α) : Nat → α := fun e => if e = d then x else t e
theorem upd_eq {α : Type} (t : Nat → α) (d : Nat) (x : α) : upd t d x d = x := by simp [upd]
theorem upd_ne {α : Type} (t : Nat → α) (d : Nat) (x : α) (e : Nat) (h : e ≠ d) : upd t d x e = t e := by simp [upd, h]

def RepT (g : G) (la : La) (w : World) : TV → Value → Prop
  | .v a, x => RepA g w a x
  | .lp s ver off, x => ∃ b, la s ver = some b ∧ x = .pointer (some ⟨b, off, none⟩)
  | .vp cs, x => ∃ b off vs, x = .pointer (some ⟨b, off, none⟩) ∧ Pin g w b off vs ∧ RepL g w cs vs
  | .ls s ver sz len, x => ∃ b cap, la s ver = some b ∧ x = .slice (some ⟨b, 0, none⟩) len cap ∧ len ≤ cap ∧ ∃ t q, w.shape? b = some (t, q) ∧ cap * sz = q

def RepTL (g : G) (la : La) (w : World) : List TV → List Value → Prop
  | [], vs => vs = []
  | a :: as, vs => ∃ x xs, vs = x :: xs ∧ RepT g la w a x ∧ RepTL g la w as xs

structure LLe (la la' : La) : Prop where
  le : ∀ s v b, la s v = some b → la' s v = some b
theorem LLe.refl (la : La) : LLe la la := ⟨fun _ _ _ h => h⟩
theorem LLe.trans {a b c : La} (h : LLe a b) (k : LLe b c) : LLe a c := ⟨fun s v x e => k.le s v x (h.le s v x e)⟩

theorem RepT.mono {g w g' w' la la'} (hl : GLe g w g' w') (ll : LLe la la') {a : TV} {v : Value} (h : RepT g la w a v) : RepT g' la' w' a v := by
  cases a with
  | v a => exact RepA.mono hl a v h
  | lp s ver off => obtain ⟨b, e, r⟩ := h; exact ⟨b, ll.le _ _ _ e, r⟩
  | vp cs => obtain ⟨b, off, vs, e, p, r⟩ := h; exact ⟨b, off, vs, e, p.mono hl, RepL.mono hl cs vs r⟩
  | ls s ver sz len => obtain ⟨b, cap, e, e2, hc, t, q, hs, hq⟩ := h; exact ⟨b, cap, ll.le _ _ _ e, e2, hc, t, q, hl.shape _ _ hs, hq⟩

theorem RepTL.mono {g w g' w' la la'} (hl : GLe g w g' w') (ll : LLe la la') : ∀ {as : List TV} {vs : List Value}, RepTL g la w as vs → RepTL g' la' w' as vs
  | [], _, h => h
  | a :: as, vs, h => by
    obtain ⟨x, xs, e, h1, h2⟩ := h
    exact ⟨x, xs, e, h1.mono hl ll, RepTL.mono hl ll h2⟩

theorem RepTL.length {g w la} : ∀ {as : List TV} {vs : List Value}, RepTL g la w as vs → vs.length = as.length
  | [], vs, h => by simp only [RepTL] at h; simp [h]
  | a :: as, vs, h => by
    obtain ⟨x, xs, rfl, _, h2⟩ := h
    simp [RepTL.length h2]

theorem RepTL.append {g w la} : ∀ {as bs : List TV} {vs us : List Value}, RepTL g la w as vs → RepTL g la w bs us → RepTL g la w (as ++ bs) (vs ++ us)
  | [], bs, vs, us, h, k => by simp only [RepTL] at h; simpa [h] using k
  | a :: as, bs, vs, us, h, k => by
    obtain ⟨x, xs, rfl, h1, h2⟩ := h
    exact ⟨x, xs ++ us, rfl, h1, RepTL.append h2 k⟩

theorem RepTL.get {g w la} : ∀ {as : List TV} {vs : List Value}, RepTL g la w as vs → ∀ (i : Nat) (a : TV), as[i]? = some a → ∃ v, vs[i]? = some v ∧ RepT g la w a v
  | [], vs, h, i, a, e => by simp at e
  | x :: as, vs, h, i, a, e => by
    obtain ⟨y, ys, rfl, h1, h2⟩ := h
    cases i with
    | zero => simp at e; subst e; exact ⟨y, rfl, h1⟩
    | succ i => simp at e; simpa using RepTL.get h2 i a e

theorem RepTL.drop {g w la} : ∀ (n : Nat) {as : List TV} {vs : List Value}, RepTL g la w as vs → RepTL g la w (as.drop n) (vs.drop n)
  | 0, as, vs, h => by simpa using h
  | n + 1, [], vs, h => by simp only [RepTL] at h; simp [h, RepTL]
  | n + 1, a :: as, vs, h => by
    obtain ⟨x, xs, rfl, _, h2⟩ := h
    simpa using RepTL.drop n h2

theorem RepTL.take {g w la} : ∀ (n : Nat) {as : List TV} {vs : List Value}, RepTL g la w as vs → RepTL g la w (as.take n) (vs.take n)
  | 0, as, vs, h => by simp [RepTL]
  | n + 1, [], vs, h => by simp only [RepTL] at h; simp [h, RepTL]
  | n + 1, a :: as, vs, h => by
    obtain ⟨x, xs, rfl, h1, h2⟩ := h
    exact ⟨x, _, rfl, h1, RepTL.take n h2⟩

theorem RepTL.set {g w la} : ∀ (i : Nat) {as : List TV} {vs : List Value} {a : TV} {v : Value}, RepTL g la w as vs → RepT g la w a v → RepTL g la w (as.set i a) (vs.set i v)
  | _, [], vs, a, v, h, k => by simp only [RepTL] at h; simp [h, RepTL]
  | 0, b :: as, vs, a, v, h, k => by
    obtain ⟨x, xs, rfl, h1, h2⟩ := h
    exact ⟨v, xs, rfl, k, h2⟩
  | i + 1, b :: as, vs, a, v, h, k => by
    obtain ⟨x, xs, rfl, h1, h2⟩ := h
    exact ⟨x, _, rfl, h1, RepTL.set i h2 k⟩

theorem RepTL.ofL {g w la} : ∀ {as : List AV} {vs : List Value}, RepL g w as vs → RepTL g la w (as.map TV.v) vs
  | [], vs, h => by simp only [RepL] at h; exact h
  | a :: as, vs, h => by
    simp only [RepL] at h
    obtain ⟨x, xs, rfl, h1, h2⟩ := h
    exact ⟨x, xs, rfl, h1, RepTL.ofL h2⟩

/-- The plain values of temporaries, where all are plain. -/
def avs : List TV → Option (List AV)
  | [] => some []
  | .v a :: r => (avs r).map (a :: ·)
  | _ :: _ => none

theorem avs_map (xs : List AV) : avs (xs.map TV.v) = some xs := by
  induction xs with
  | nil => rfl
  | cons a as ih => simp [avs, ih]

theorem avs_eq : ∀ {ts : List TV} {as : List AV}, avs ts = some as → ts = as.map TV.v
  | [], as, h => by simp [avs] at h; simp [← h]
  | .v a :: r, as, h => by
    simp only [avs, Option.map_eq_some_iff] at h
    obtain ⟨bs, hb, rfl⟩ := h
    simp [avs_eq hb]
  | .lp _ _ _ :: r, as, h => by simp [avs] at h
  | .vp _ :: r, as, h => by simp [avs] at h
  | .ls _ _ _ _ :: r, as, h => by simp [avs] at h

theorem RepTL.toL {g w la} : ∀ {as : List AV} {vs : List Value}, RepTL g la w (as.map TV.v) vs → RepL g w as vs
  | [], vs, h => by simpa [RepL, RepTL] using h
  | a :: as, vs, h => by
    obtain ⟨x, xs, rfl, h1, h2⟩ := h
    simp only [RepL]
    exact ⟨x, xs, rfl, h1, RepTL.toL h2⟩

/-- The beginning of a body: names, heap and world. -/
structure K where
  g : G
  h : Heap
  w : World

structure SimC (k : K) (g : G) (la : La) (m : Mem) (w : World) : Prop where
  hs : HSim g m.h w
  ext : Ext k.g k.h k.w g m.h w
  mu : ∀ s ver cs, m.l s = .mu ver cs → ∃ b c, la s ver = some b ∧ ¬ g.π b ∧ k.w.heap.size ≤ b ∧ Row w b c ∧ RepTL g la w cs (c.toList.take cs.length)
  fr : ∀ s ver cs, m.l s = .fr ver cs → ∃ b c, la s ver = some b ∧ g.π b ∧ Row w b c ∧ RepTL g la w cs (c.toList.take cs.length)
  inj : ∀ s v cs s' v' cs' b, m.l s = .mu v cs → m.l s' = .mu v' cs' → la s v = some b → la s' v' = some b → s = s'
  disj : ∀ s v cs b, m.l s = .mu v cs → la s v = some b → ¬ live g m.h b
  ver : ∀ s v, m.c ≤ v → la s v = none
  rng : ∀ s v b, la s v = some b → b < w.heap.size

theorem SimC.gle_refl (g : G) (w : World) : GLe g w g w := GLe.refl g w

theorem Row.cell {w : World} {b : Nat} {c : Array Value} (h : Row w b c) (o : Nat) : w.cell? ⟨b, o, none⟩ = c[o]? := by
  obtain ⟨e, fr, h, _⟩ := h
  simp [World.cell?, h]
theorem Row.thaw {w : World} {b : Nat} {c : Array Value} (h : Row w b c) (o : Nat) (ho : o < c.size) : w.frozen? ⟨b, o, none⟩ = false := by
  obtain ⟨e, fr, h, ht⟩ := h
  have := ht o ho
  simp only [World.frozen?, h]
  simpa using this
theorem Row.lt {w : World} {b : Nat} {c : Array Value} (h : Row w b c) : b < w.heap.size := by
  obtain ⟨e, fr, h, _⟩ := h
  exact (Array.getElem?_eq_some_iff.1 h).1
theorem Row.shape {w : World} {b : Nat} {c : Array Value} (h : Row w b c) : ∃ t, w.shape? b = some (t, c.size) := by
  obtain ⟨e, fr, h, _⟩ := h
  exact ⟨e, by simp [World.shape?, h]⟩
theorem Row.same {w w' : World} {b : Nat} {c : Array Value} (h : Row w b c) (hk : w'.heap[b]? = w.heap[b]?) : Row w' b c := by
  obtain ⟨e, fr, h, ht⟩ := h
  exact ⟨e, fr, hk.trans h, ht⟩

/-- A move of the world that turns at most one block (a row, of the same length), and may lay new ones. -/
structure Turn (w w' : World) (b : Option Nat) : Prop where
  os : w'.os = w.os
  tape : w'.tape = w.tape
  output : w'.output = w.output
  size : w.heap.size ≤ w'.heap.size
  keep : ∀ x, x < w.heap.size → some x ≠ b → w'.heap[x]? = w.heap[x]?
  shape : ∀ x y, w.shape? x = some y → w'.shape? x = some y

theorem shape_lt {w : World} {x : Nat} {y : TypeId × Nat} (h : w.shape? x = some y) : x < w.heap.size := by
  unfold World.shape? at h
  split at h
  · rename_i hh; exact (Array.getElem?_eq_some_iff.1 hh).1
  · cases h
theorem shape_same {w w' : World} {x : Nat} (h : w'.heap[x]? = w.heap[x]?) : w'.shape? x = w.shape? x := by simp [World.shape?, h]

theorem Turn.refl (w : World) : Turn w w none := ⟨rfl, rfl, rfl, Nat.le_refl _, fun _ _ _ => rfl, fun _ _ h => h⟩
theorem Turn.alloc (w : World) (o : Obj) : Turn w (w.alloc o) none :=
  ⟨rfl, rfl, rfl, by simp, fun x hx _ => heap_alloc_old w o x hx, fun x y h => by rw [shape_same (heap_alloc_old w o x (shape_lt h))]; exact h⟩
theorem Turn.drew {w w' : World} {b : Option Nat} (h : Turn w.drew w' b) : Turn w w' b := ⟨h.os, h.tape, h.output, h.size, h.keep, h.shape⟩

theorem Turn.gle {w w' : World} {b : Option Nat} (h : Turn w w' b) {g g' : G} (hp : ∀ x, g.π x → x < w.heap.size) (hn : ∀ x, b = some x → ¬ g.π x)
    (hr : ∀ n x, g.ρ n = some x → g'.ρ n = some x) (hpi : ∀ x, g.π x → g'.π x) : GLe g w g' w' :=
  ⟨hr, hpi, fun x hx => h.keep x (hp x hx) (fun e => hn x e.symm hx), h.shape⟩

section moves
variable {k : K} {g : G} {la : La} {m : Mem} {w w' : World}

theorem SimC.pins (S : SimC k g la m w) : ∀ x, g.π x → x < w.heap.size := S.hs.pin

theorem SimC.turn0 (S : SimC k g la m w) (T : Turn w w' none) : SimC k g la m w' := by
  have gl : GLe g w g w' := T.gle S.hs.pin (by simp) (fun _ _ h => h) (fun _ h => h)
  have ks : ∀ b, b < w.heap.size → w'.heap[b]? = w.heap[b]? := fun b hb => T.keep b hb (by simp)
  refine ⟨⟨?_, S.hs.inj, S.hs.nx, fun b hb => Nat.lt_of_lt_of_le (S.hs.pin b hb) T.size, fun n b hb => Nat.lt_of_lt_of_le (S.hs.rng n b hb) T.size⟩, ?_, ?_, ?_, S.inj, S.disj, S.ver, fun s v b h => Nat.lt_of_lt_of_le (S.rng s v b h) T.size⟩
  · intro n cs h
    obtain ⟨b, c, h1, h2, h3, h4⟩ := S.hs.mem n cs h
    exact ⟨b, c, h1, h2, h3.same (ks b h3.lt), RepL.mono gl _ _ h4⟩
  · have E := S.ext
    exact ⟨E.rho, E.pi, E.piN, fun b hb hn => (ks b (Nat.lt_of_lt_of_le hb E.size)).trans (E.keep b hb hn), fun x y h => T.shape x y (E.shape x y h), E.own, T.os.trans E.os, T.tape.trans E.tape, T.output.trans E.output, Nat.le_trans E.size T.size⟩
  · intro s ver cs h
    obtain ⟨b, c, h1, h2, h3, h4, h5⟩ := S.mu s ver cs h
    exact ⟨b, c, h1, h2, h3, h4.same (ks b h4.lt), h5.mono gl (LLe.refl _)⟩
  · intro s ver cs h
    obtain ⟨b, c, h1, h2, h4, h5⟩ := S.fr s ver cs h
    exact ⟨b, c, h1, h2, h4.same (ks b h4.lt), h5.mono gl (LLe.refl _)⟩

def laSet (la : La) (d v b : Nat) : La := fun s u => if s = d ∧ u = v then some b else la s u

theorem laSet_le (S : SimC k g la m w) (d b : Nat) : LLe la (laSet la d m.c b) :=
  ⟨fun s v x h => by
    unfold laSet
    split
    · rename_i e; obtain ⟨rfl, rfl⟩ := e; rw [S.ver _ _ (Nat.le_refl _)] at h; cases h
    · exact h⟩

theorem SimC.add_l (S : SimC k g la m w) {b : Nat} {c : Array Value} {cs : List TV} (d : Nat) (hb : Row w b c) (hr : RepTL g la w cs (c.toList.take cs.length))
    (f1 : ∀ s v cs, s ≠ d → m.l s = .mu v cs → la s v ≠ some b) (f2 : ¬ live g m.h b) (f3 : ¬ g.π b) (f4 : k.w.heap.size ≤ b) :
    SimC k g (laSet la d m.c b) ⟨upd m.l d (.mu m.c cs), m.c + 1, m.h⟩ w := by
  have ll := laSet_le S d b
  have vn : ∀ s v cs, m.l s = .mu v cs → v ≠ m.c := by
    rintro s v cs h rfl
    obtain ⟨b', _, h1, _⟩ := S.mu _ _ _ h
    rw [S.ver _ _ (Nat.le_refl _)] at h1
    cases h1
  have vf : ∀ s v cs, m.l s = .fr v cs → v ≠ m.c := by
    rintro s v cs h rfl
    obtain ⟨b', _, h1, _⟩ := S.fr _ _ _ h
    rw [S.ver _ _ (Nat.le_refl _)] at h1
    cases h1
  refine ⟨S.hs, S.ext, ?_, ?_, ?_, ?_, ?_, ?_⟩
  · intro s ver cs' h
    by_cases e : s = d
    · subst e
      simp only [upd_eq] at h
      cases h
      exact ⟨b, c, by simp [laSet], f3, f4, hb, hr.mono (GLe.refl _ _) ll⟩
    · simp only [upd_ne _ _ _ _ e] at h
      obtain ⟨b', c', h1, h2, h3, h4, h5⟩ := S.mu s ver cs' h
      exact ⟨b', c', by simp [laSet, e, h1], h2, h3, h4, h5.mono (GLe.refl _ _) ll⟩
  · intro s ver cs' h
    by_cases e : s = d
    · subst e
      simp only [upd_eq] at h
      cases h
    · simp only [upd_ne _ _ _ _ e] at h
      obtain ⟨b', c', h1, h2, h4, h5⟩ := S.fr s ver cs' h
      exact ⟨b', c', by simp [laSet, e, h1], h2, h4, h5.mono (GLe.refl _ _) ll⟩
  · intro s v cs1 s' v' cs2 x h1 h2 h3 h4
    by_cases e : s = d <;> by_cases e' : s' = d
    · rw [e, e']
    · subst e
      simp only [upd_eq] at h1
      simp only [upd_ne _ _ _ _ e'] at h2
      cases h1
      simp [laSet] at h3
      subst h3
      simp [laSet, e'] at h4
      exact absurd h4 (f1 s' v' cs2 e' h2)
    · subst e'
      simp only [upd_eq] at h2
      simp only [upd_ne _ _ _ _ e] at h1
      cases h2
      simp [laSet] at h4
      subst h4
      simp [laSet, e] at h3
      exact absurd h3 (f1 s v cs1 e h1)
    · simp only [upd_ne _ _ _ _ e] at h1
      simp only [upd_ne _ _ _ _ e'] at h2
      simp [laSet, e] at h3
      simp [laSet, e'] at h4
      exact S.inj s v cs1 s' v' cs2 x h1 h2 h3 h4
  · intro s v cs1 x h1 h2
    by_cases e : s = d
    · subst e
      simp only [upd_eq] at h1
      cases h1
      simp [laSet] at h2
      subst h2
      exact f2
    · simp only [upd_ne _ _ _ _ e] at h1
      simp [laSet, e] at h2
      exact S.disj s v cs1 x h1 h2
  · intro s v hv
    have : v ≠ m.c := by simp at hv; omega
    simp [laSet, this]
    exact S.ver s v (by simp at hv; omega)
  · intro s v x h
    unfold laSet at h
    split at h
    · cases h; exact hb.lt
    · exact S.rng s v x h

theorem SimC.kill_l (S : SimC k g la m w) (d : Nat) : SimC k g la ⟨upd m.l d .no, m.c, m.h⟩ w := by
  refine ⟨S.hs, S.ext, ?_, ?_, ?_, ?_, S.ver, S.rng⟩
  · intro s ver cs h
    by_cases e : s = d
    · subst e; simp only [upd_eq] at h; cases h
    · simp only [upd_ne _ _ _ _ e] at h; exact S.mu s ver cs h
  · intro s ver cs h
    by_cases e : s = d
    · subst e; simp only [upd_eq] at h; cases h
    · simp only [upd_ne _ _ _ _ e] at h; exact S.fr s ver cs h
  · intro s v cs1 s' v' cs2 x h1 h2 h3 h4
    by_cases e : s = d
    · subst e; simp only [upd_eq] at h1; cases h1
    · by_cases e' : s' = d
      · subst e'; simp only [upd_eq] at h2; cases h2
      · simp only [upd_ne _ _ _ _ e] at h1; simp only [upd_ne _ _ _ _ e'] at h2
        exact S.inj s v cs1 s' v' cs2 x h1 h2 h3 h4
  · intro s v cs1 x h1 h2
    by_cases e : s = d
    · subst e; simp only [upd_eq] at h1; cases h1
    · simp only [upd_ne _ _ _ _ e] at h1; exact S.disj s v cs1 x h1 h2

theorem SimC.kill_h (S : SimC k g la m w) (n : Nat) : SimC k g la ⟨m.l, m.c, ⟨upd m.h.m n none, m.h.nx⟩⟩ w := by
  have lv : ∀ b, live g ⟨upd m.h.m n none, m.h.nx⟩ b → live g m.h b := by
    rintro b ⟨x, cs, h1, h2⟩
    by_cases e : x = n
    · subst e; simp only [upd_eq] at h1; cases h1
    · simp only [upd_ne _ _ _ _ e] at h1; exact ⟨x, cs, h1, h2⟩
  have E := S.ext
  refine ⟨⟨?_, ?_, ?_, S.hs.pin, S.hs.rng⟩, ⟨E.rho, E.pi, E.piN, E.keep, E.shape, fun b hb hl => E.own b hb (lv b hl), E.os, E.tape, E.output, E.size⟩, S.mu, S.fr, S.inj, fun s v cs b h1 h2 h3 => S.disj s v cs b h1 h2 (lv b h3), S.ver, S.rng⟩
  · intro x cs h
    by_cases e : x = n
    · subst e; simp only [upd_eq] at h; cases h
    · simp only [upd_ne _ _ _ _ e] at h; exact S.hs.mem x cs h
  · intro x y cs ds b h1 h2 h3 h4
    by_cases e : x = n
    · subst e; simp only [upd_eq] at h1; cases h1
    · by_cases e' : y = n
      · subst e'; simp only [upd_eq] at h2; cases h2
      · simp only [upd_ne _ _ _ _ e] at h1; simp only [upd_ne _ _ _ _ e'] at h2
        exact S.hs.inj x y cs ds b h1 h2 h3 h4
  · intro x hx
    have := S.hs.nx x hx
    refine ⟨?_, this.2⟩
    by_cases e : x = n
    · subst e; simp [upd_eq]
    · simp only [upd_ne _ _ _ _ e]; exact this.1

def gSet (g : G) (n b : Nat) : G := ⟨upd g.ρ n (some b), g.π⟩

theorem gSet_le (S : SimC k g la m w) (b : Nat) : GLe g w (gSet g m.h.nx b) w :=
  ⟨fun n x h => by
    by_cases e : n = m.h.nx
    · subst e; rw [(S.hs.nx _ (Nat.le_refl _)).2] at h; cases h
    · simpa [gSet, upd_ne _ _ _ _ e] using h, fun _ h => h, fun _ _ => rfl, fun _ _ h => h⟩

theorem SimC.add_h (S : SimC k g la m w) {b : Nat} {c : Array Value} {cs : List AV} (hb : Row w b c) (hr : RepL g w cs (c.toList.take cs.length))
    (f1 : ∀ s v cs, m.l s = .mu v cs → la s v ≠ some b) (f2 : ¬ live g m.h b) (f3 : ¬ g.π b) (f4 : k.w.heap.size ≤ b ∨ live k.g k.h b) :
    SimC k (gSet g m.h.nx b) la ⟨m.l, m.c, ⟨upd m.h.m m.h.nx (some cs), m.h.nx + 1⟩⟩ w := by
  have gl := gSet_le S b
  have lv : ∀ x, live (gSet g m.h.nx b) ⟨upd m.h.m m.h.nx (some cs), m.h.nx + 1⟩ x → x = b ∨ live g m.h x := by
    rintro x ⟨n, ds, h1, h2⟩
    by_cases e : n = m.h.nx
    · subst e; simp [gSet, upd_eq] at h2; exact .inl h2.symm
    · simp only [upd_ne _ _ _ _ e] at h1
      simp only [gSet, upd_ne _ _ _ _ e] at h2
      exact .inr ⟨n, ds, h1, h2⟩
  have E := S.ext
  refine ⟨⟨?_, ?_, ?_, S.hs.pin, ?_⟩, ⟨fun n x h => gl.rho n x (E.rho n x h), E.pi, E.piN, E.keep, E.shape, ?_, E.os, E.tape, E.output, E.size⟩, ?_, ?_, S.inj, ?_, S.ver, S.rng⟩
  · intro n ds h
    by_cases e : n = m.h.nx
    · subst e
      simp only [upd_eq] at h
      cases h
      exact ⟨b, c, by simp [gSet, upd_eq], f3, hb, RepL.mono gl _ _ hr⟩
    · simp only [upd_ne _ _ _ _ e] at h
      obtain ⟨b', c', h1, h2, h3, h4⟩ := S.hs.mem n ds h
      exact ⟨b', c', gl.rho _ _ h1, h2, h3, RepL.mono gl _ _ h4⟩
  · intro x y cs1 ds b' h1 h2 h3 h4
    by_cases e : x = m.h.nx <;> by_cases e' : y = m.h.nx
    · rw [e, e']
    · subst e
      simp only [upd_ne _ _ _ _ e'] at h2
      simp only [gSet, upd_eq, Option.some.injEq] at h3
      simp only [gSet, upd_ne _ _ _ _ e'] at h4
      subst h3
      exact absurd ⟨y, ds, h2, h4⟩ f2
    · subst e'
      simp only [upd_ne _ _ _ _ e] at h1
      simp only [gSet, upd_eq, Option.some.injEq] at h4
      simp only [gSet, upd_ne _ _ _ _ e] at h3
      subst h4
      exact absurd ⟨x, cs1, h1, h3⟩ f2
    · simp only [upd_ne _ _ _ _ e] at h1
      simp only [upd_ne _ _ _ _ e'] at h2
      simp only [gSet, upd_ne _ _ _ _ e] at h3
      simp only [gSet, upd_ne _ _ _ _ e'] at h4
      exact S.hs.inj x y cs1 ds b' h1 h2 h3 h4
  · intro n hn
    have e : n ≠ m.h.nx := by simp at hn; omega
    simp only [gSet, upd_ne _ _ _ _ e]
    exact S.hs.nx n (by simp at hn; omega)
  · intro n x h
    by_cases e : n = m.h.nx
    · subst e; simp [gSet, upd_eq] at h; subst h; exact hb.lt
    · simp only [gSet, upd_ne _ _ _ _ e] at h; exact S.hs.rng n x h
  · intro x hx hl
    rcases lv x hl with rfl | hl
    · rcases f4 with f4 | f4
      · omega
      · exact f4
    · exact E.own x hx hl
  · intro s ver ds h
    obtain ⟨b', c', h1, h2, h3, h4, h5⟩ := S.mu s ver ds h
    exact ⟨b', c', h1, h2, h3, h4, h5.mono gl (LLe.refl _)⟩
  · intro s ver ds h
    obtain ⟨b', c', h1, h2, h4, h5⟩ := S.fr s ver ds h
    exact ⟨b', c', h1, h2, h4, h5.mono gl (LLe.refl _)⟩
  · intro s v ds x h1 h2 h3
    rcases lv x h3 with rfl | hl
    · exact f1 s v ds h1 h2
    · exact S.disj s v ds x h1 h2 hl

def gPin (g : G) (b : Nat) : G := ⟨g.ρ, fun x => g.π x ∨ x = b⟩

theorem gPin_le (g : G) (w : World) (b : Nat) : GLe g w (gPin g b) w := ⟨fun _ _ h => h, fun _ h => .inl h, fun _ _ => rfl, fun _ _ h => h⟩

theorem SimC.add_p (S : SimC k g la m w) {b : Nat} (hb : b < w.heap.size) (f1 : ∀ s v cs, m.l s = .mu v cs → la s v ≠ some b) (f2 : ¬ live g m.h b) (f4 : k.w.heap.size ≤ b) :
    SimC k (gPin g b) la m w := by
  have gl := gPin_le g w b
  have E := S.ext
  refine ⟨⟨?_, S.hs.inj, S.hs.nx, ?_, S.hs.rng⟩, ⟨E.rho, fun x h => .inl (E.pi x h), ?_, E.keep, E.shape, E.own, E.os, E.tape, E.output, E.size⟩, ?_, ?_, S.inj, S.disj, S.ver, S.rng⟩
  · intro n cs h
    obtain ⟨b', c', h1, h2, h3, h4⟩ := S.hs.mem n cs h
    refine ⟨b', c', h1, ?_, h3, RepL.mono gl _ _ h4⟩
    rintro (h5 | rfl)
    · exact h2 h5
    · exact f2 ⟨n, cs, h, h1⟩
  · rintro x (h | rfl)
    · exact S.hs.pin x h
    · exact hb
  · rintro x hx (h | rfl)
    · exact E.piN x hx h
    · omega
  · intro s ver ds h
    obtain ⟨b', c', h1, h2, h3, h4, h5⟩ := S.mu s ver ds h
    refine ⟨b', c', h1, ?_, h3, h4, h5.mono gl (LLe.refl _)⟩
    rintro (h6 | rfl)
    · exact h2 h6
    · exact f1 s ver ds h h1
  · intro s ver ds h
    obtain ⟨b', c', h1, h2, h4, h5⟩ := S.fr s ver ds h
    exact ⟨b', c', h1, .inl h2, h4, h5.mono gl (LLe.refl _)⟩

theorem SimC.frz (S : SimC k g la m w) {s ver : Nat} {cs : List TV} (hl : m.l s = .mu ver cs) :
    ∃ b c, la s ver = some b ∧ Row w b c ∧ RepTL g la w cs (c.toList.take cs.length) ∧ SimC k (gPin g b) la ⟨upd m.l s (.fr ver cs), m.c, m.h⟩ w := by
  obtain ⟨b, c, h1, h2, h3, h4, h5⟩ := S.mu s ver cs hl
  refine ⟨b, c, h1, h4, h5, ?_⟩
  have S1 := S.kill_l s
  have S2 := S1.add_p (b := b) h4.lt (by
    intro s' v cs' h6 h7
    by_cases e : s' = s
    · subst e; simp only [upd_eq] at h6; cases h6
    · simp only [upd_ne _ _ _ _ e] at h6
      exact e (S.inj s' v cs' s ver cs b h6 hl h7 h1)) (S.disj s ver cs b hl h1) h3
  refine ⟨S2.hs, S2.ext, ?_, ?_, ?_, ?_, S2.ver, S2.rng⟩
  · intro s' v ds h
    by_cases e : s' = s
    · subst e; simp only [upd_eq] at h; cases h
    · simp only [upd_ne _ _ _ _ e] at h
      exact S2.mu s' v ds (by simp only [upd_ne _ _ _ _ e]; exact h)
  · intro s' v ds h
    by_cases e : s' = s
    · subst e
      simp only [upd_eq] at h
      cases h
      exact ⟨b, c, h1, .inr rfl, h4, h5.mono (gPin_le g w b) (LLe.refl _)⟩
    · simp only [upd_ne _ _ _ _ e] at h
      exact S2.fr s' v ds (by simp only [upd_ne _ _ _ _ e]; exact h)
  · intro s1 v1 c1 s2 v2 c2 x g1 g2 g3 g4
    by_cases e : s1 = s
    · subst e; simp only [upd_eq] at g1; cases g1
    · by_cases e' : s2 = s
      · subst e'; simp only [upd_eq] at g2; cases g2
      · simp only [upd_ne _ _ _ _ e] at g1; simp only [upd_ne _ _ _ _ e'] at g2
        exact S.inj s1 v1 c1 s2 v2 c2 x g1 g2 g3 g4
  · intro s1 v1 c1 x g1 g2
    by_cases e : s1 = s
    · subst e; simp only [upd_eq] at g1; cases g1
    · simp only [upd_ne _ _ _ _ e] at g1
      exact S.disj s1 v1 c1 x g1 g2

theorem SimC.write_l (S : SimC k g la m w) {s ver b : Nat} {cs cs' : List TV} {c' : Array Value} (hl : m.l s = .mu ver cs) (hb : la s ver = some b) (T : Turn w w' (some b))
    (hr : Row w' b c') (hc : RepTL g la w cs' (c'.toList.take cs'.length)) : SimC k g la ⟨upd m.l s (.mu ver cs'), m.c, m.h⟩ w' ∧ GLe g w g w' := by
  obtain ⟨b0, c0, h1, h2, h3, h4, h5⟩ := S.mu s ver cs hl
  rw [hb] at h1
  cases h1
  have nl := S.disj s ver cs b hl hb
  have gl : GLe g w g w' := T.gle S.hs.pin (by simp; exact h2) (fun _ _ h => h) (fun _ h => h)
  refine ⟨?_, gl⟩
  have ks : ∀ x, x < w.heap.size → x ≠ b → w'.heap[x]? = w.heap[x]? := fun x hx hn => T.keep x hx (by simpa using hn)
  have E := S.ext
  refine ⟨⟨?_, S.hs.inj, S.hs.nx, fun b hb => Nat.lt_of_lt_of_le (S.hs.pin b hb) T.size, fun n b hb => Nat.lt_of_lt_of_le (S.hs.rng n b hb) T.size⟩, ?_, ?_, ?_, ?_, ?_, S.ver, fun s v b h => Nat.lt_of_lt_of_le (S.rng s v b h) T.size⟩
  · intro n ds h
    obtain ⟨x, c, g1, g2, g3, g4⟩ := S.hs.mem n ds h
    have : x ≠ b := by rintro rfl; exact nl ⟨n, ds, h, g1⟩
    exact ⟨x, c, g1, g2, g3.same (ks x g3.lt this), RepL.mono gl _ _ g4⟩
  · exact ⟨E.rho, E.pi, E.piN, fun x hx hn => (ks x (Nat.lt_of_lt_of_le hx E.size) (by omega)).trans (E.keep x hx hn), fun x y h => T.shape x y (E.shape x y h), E.own, T.os.trans E.os, T.tape.trans E.tape, T.output.trans E.output, Nat.le_trans E.size T.size⟩
  · intro s' v ds h
    by_cases e : s' = s
    · subst e
      simp only [upd_eq] at h
      cases h
      exact ⟨b, c', hb, h2, h3, hr, hc.mono gl (LLe.refl _)⟩
    · simp only [upd_ne _ _ _ _ e] at h
      obtain ⟨x, c, g1, g2, g3, g4, g5⟩ := S.mu s' v ds h
      have : x ≠ b := by rintro rfl; exact e (S.inj s' v ds s ver cs x h hl g1 hb)
      exact ⟨x, c, g1, g2, g3, g4.same (ks x g4.lt this), g5.mono gl (LLe.refl _)⟩
  · intro s' v ds h
    by_cases e : s' = s
    · subst e; simp only [upd_eq] at h; cases h
    · simp only [upd_ne _ _ _ _ e] at h
      obtain ⟨x, c, g1, g2, g4, g5⟩ := S.fr s' v ds h
      have : x ≠ b := by rintro rfl; exact h2 g2
      exact ⟨x, c, g1, g2, g4.same (ks x g4.lt this), g5.mono gl (LLe.refl _)⟩
  · intro s1 v1 c1 s2 v2 c2 x g1 g2 g3 g4
    have r : ∀ s1 v1 c1, upd m.l s (.mu ver cs') s1 = .mu v1 c1 → ∃ c, m.l s1 = .mu v1 c := by
      intro s1 v1 c1 g1
      by_cases e : s1 = s
      · subst e; simp only [upd_eq] at g1; cases g1; exact ⟨cs, hl⟩
      · simp only [upd_ne _ _ _ _ e] at g1; exact ⟨_, g1⟩
    obtain ⟨d1, g1⟩ := r _ _ _ g1
    obtain ⟨d2, g2⟩ := r _ _ _ g2
    exact S.inj s1 v1 d1 s2 v2 d2 x g1 g2 g3 g4
  · intro s1 v1 c1 x g1 g2
    by_cases e : s1 = s
    · subst e; simp only [upd_eq] at g1; cases g1; exact S.disj _ _ _ x hl g2
    · simp only [upd_ne _ _ _ _ e] at g1
      exact S.disj s1 v1 c1 x g1 g2

theorem SimC.write_h (S : SimC k g la m w) {n b : Nat} {cs cs' : List AV} {c' : Array Value} (hm : m.h.m n = some cs) (hb : g.ρ n = some b) (T : Turn w w' (some b))
    (hr : Row w' b c') (hc : RepL g w cs' (c'.toList.take cs'.length)) : SimC k g la ⟨m.l, m.c, ⟨upd m.h.m n (some cs'), m.h.nx⟩⟩ w' ∧ GLe g w g w' := by
  obtain ⟨b0, c0, h1, h2, h3, h4⟩ := S.hs.mem n cs hm
  rw [hb] at h1
  cases h1
  have lb : live g m.h b := ⟨n, cs, hm, hb⟩
  have gl : GLe g w g w' := T.gle S.hs.pin (by simp; exact h2) (fun _ _ h => h) (fun _ h => h)
  refine ⟨?_, gl⟩
  have ks : ∀ x, x < w.heap.size → x ≠ b → w'.heap[x]? = w.heap[x]? := fun x hx hn => T.keep x hx (by simpa using hn)
  have E := S.ext
  have rr : ∀ x ds, upd m.h.m n (some cs') x = some ds → ∃ es, m.h.m x = some es := by
    intro x ds h
    by_cases e : x = n
    · subst e; exact ⟨cs, hm⟩
    · simp only [upd_ne _ _ _ _ e] at h; exact ⟨ds, h⟩
  have lv : ∀ x, live g ⟨upd m.h.m n (some cs'), m.h.nx⟩ x → live g m.h x := by
    rintro x ⟨y, ds, g1, g2⟩
    obtain ⟨es, g3⟩ := rr y ds g1
    exact ⟨y, es, g3, g2⟩
  refine ⟨⟨?_, ?_, ?_, fun b hb => Nat.lt_of_lt_of_le (S.hs.pin b hb) T.size, fun n b hb => Nat.lt_of_lt_of_le (S.hs.rng n b hb) T.size⟩, ?_, ?_, ?_, S.inj, fun s v ds x g1 g2 g3 => S.disj s v ds x g1 g2 (lv x g3), S.ver, fun s v b h => Nat.lt_of_lt_of_le (S.rng s v b h) T.size⟩
  · intro x ds h
    by_cases e : x = n
    · subst e
      simp only [upd_eq] at h
      cases h
      exact ⟨b, c', hb, h2, hr, RepL.mono gl _ _ hc⟩
    · simp only [upd_ne _ _ _ _ e] at h
      obtain ⟨y, c, g1, g2, g3, g4⟩ := S.hs.mem x ds h
      have : y ≠ b := by rintro rfl; exact e (S.hs.inj x n ds cs y h hm g1 hb)
      exact ⟨y, c, g1, g2, g3.same (ks y g3.lt this), RepL.mono gl _ _ g4⟩
  · intro x y ds es z g1 g2 g3 g4
    obtain ⟨_, g1⟩ := rr _ _ g1
    obtain ⟨_, g2⟩ := rr _ _ g2
    exact S.hs.inj x y _ _ z g1 g2 g3 g4
  · intro x hx
    have := S.hs.nx x hx
    refine ⟨?_, this.2⟩
    by_cases e : x = n
    · subst e; rw [hm] at this; cases this.1
    · simp only [upd_ne _ _ _ _ e]; exact this.1
  · refine ⟨E.rho, E.pi, E.piN, fun x hx hn => (ks x (Nat.lt_of_lt_of_le hx E.size) ?_).trans (E.keep x hx hn), fun x y h => T.shape x y (E.shape x y h), fun x hx hl => E.own x hx (lv x hl), T.os.trans E.os, T.tape.trans E.tape, T.output.trans E.output, Nat.le_trans E.size T.size⟩
    rintro rfl
    exact hn (E.own x hx lb)
  · intro s' v ds h
    obtain ⟨x, c, g1, g2, g3, g4, g5⟩ := S.mu s' v ds h
    have : x ≠ b := by rintro rfl; exact S.disj s' v ds x h g1 lb
    exact ⟨x, c, g1, g2, g3, g4.same (ks x g4.lt this), g5.mono gl (LLe.refl _)⟩
  · intro s' v ds h
    obtain ⟨x, c, g1, g2, g4, g5⟩ := S.fr s' v ds h
    have : x ≠ b := by rintro rfl; exact h2 g2
    exact ⟨x, c, g1, g2, g4.same (ks x g4.lt this), g5.mono gl (LLe.refl _)⟩

theorem SimC.call (S : SimC k g la m w) {g' : G} {h' : Heap} (H : HSim g' h' w') (X : Ext g m.h w g' h' w') : SimC k g' la ⟨m.l, m.c, h'⟩ w' := by
  have gl := X.gle S.hs
  refine ⟨H, S.ext.trans X, ?_, ?_, S.inj, ?_, S.ver, fun s v b h => Nat.lt_of_lt_of_le (S.rng s v b h) X.size⟩
  · intro s ver cs h
    obtain ⟨b, c, h1, h2, h3, h4, h5⟩ := S.mu s ver cs h
    exact ⟨b, c, h1, fun hp => h2 (X.piN b h4.lt hp), h3, h4.same (X.keep b h4.lt (S.disj s ver cs b h h1)), h5.mono gl (LLe.refl _)⟩
  · intro s ver cs h
    obtain ⟨b, c, h1, h2, h4, h5⟩ := S.fr s ver cs h
    exact ⟨b, c, h1, X.pi b h2, h4.same (gl.keep b h2), h5.mono gl (LLe.refl _)⟩
  · intro s v cs b h1 h2 h3
    exact S.disj s v cs b h1 h2 (X.own b (S.rng s v b h2) h3)

end moves
end SL
