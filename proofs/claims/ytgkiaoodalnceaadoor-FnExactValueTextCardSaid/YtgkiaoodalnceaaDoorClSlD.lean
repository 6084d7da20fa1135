import Derived.Test.YtgkiaoodalnceaaDoorClSlC
import Derived.Deep.MidRow
/- The simulation logic, part D: memory, told abstractly and by the machine: reading, writing, fixing, laying anew. -/
namespace SL
open Go
set_option linter.unusedVariables false
set_option linter.unusedSimpArgs false

theorem splice_nil {α : Type} (o : Nat) (cs : List α) : splice o [] cs = cs := by simp [splice]

theorem splice_set {α : Type} (o : Nat) (v : α) (r cs : List α) (h : o + r.length + 1 ≤ cs.length) : splice (o + 1) r (cs.set o v) = splice o (v :: r) cs := by
  unfold splice
  have h1 : o < cs.length := by omega
  have e1 : (cs.set o v).take (o + 1) = cs.take o ++ [v] := by
    rw [List.set_eq_take_append_cons_drop, if_pos h1, List.take_append]
    simp [List.length_take, Nat.min_eq_left (Nat.le_of_lt h1), List.take_take]
  have e2 : (cs.set o v).drop (o + 1 + r.length) = cs.drop (o + (r.length + 1)) := by
    rw [List.drop_set_of_lt (by omega)]
    congr 1
    omega
  rw [e1, e2]
  simp

theorem setCell_row {w : World} {b o : Nat} {c : Array Value} (v : Value) (h : Row w b c) : Row (w.setCell ⟨b, o, none⟩ v) b (c.setIfInBounds o v) := by
  obtain ⟨e, fr, h, ht⟩ := h
  refine ⟨e, fr, ?_, by simpa using ht⟩
  simp [World.setCell, Array.getElem?_modify, h]

theorem setCell_turn (w : World) {b o : Nat} {c : Array Value} (v : Value) (h : Row w b c) : Turn w (w.setCell ⟨b, o, none⟩ v) (some b) := by
  obtain ⟨e, fr, h, ht⟩ := h
  refine ⟨rfl, rfl, rfl, by simp [World.setCell], fun x hx hn => ?_, fun x y hs => ?_⟩
  · have : b ≠ x := fun e => hn (by rw [e])
    simp [World.setCell, Array.getElem?_modify, this]
  · by_cases e : x = b
    · subst e
      simp only [World.shape?, h, World.setCell, Array.getElem?_modify] at hs ⊢
      simpa using hs
    · have : b ≠ x := fun h => e h.symm
      simp only [World.shape?, World.setCell, Array.getElem?_modify, this] at hs ⊢
      simpa using hs

theorem Turn.trans {a b c : World} {x : Option Nat} (h : Turn a b x) (k : Turn b c x) : Turn a c x :=
  ⟨k.os.trans h.os, k.tape.trans h.tape, k.output.trans h.output, Nat.le_trans h.size k.size, fun y hy hn => (k.keep y (Nat.lt_of_lt_of_le hy h.size) hn).trans (h.keep y hy hn), fun y z e => k.shape y z (h.shape y z e)⟩

theorem Turn.refl' (w : World) (x : Option Nat) : Turn w w x := ⟨rfl, rfl, rfl, Nat.le_refl _, fun _ _ _ => rfl, fun _ _ h => h⟩

theorem setCells_row (b : Nat) : ∀ (vs : List Value) (o : Nat) (w : World) (c : Array Value), Row w b c → o + vs.length ≤ c.size →
    ∃ c', Row (w.setCells b o vs) b c' ∧ c'.toList = splice o vs c.toList ∧ Turn w (w.setCells b o vs) (some b)
  | [], o, w, c, h, _ => ⟨c, h, by rw [splice_nil], Turn.refl' w _⟩
  | v :: r, o, w, c, h, hl => by
    have h1 := setCell_row (o := o) v h
    obtain ⟨c', h2, h3, h4⟩ := setCells_row b r (o + 1) (w.setCell ⟨b, o, none⟩ v) (c.setIfInBounds o v) h1 (by simp at hl ⊢; omega)
    refine ⟨c', h2, ?_, (setCell_turn w v h).trans h4⟩
    rw [h3, Array.toList_setIfInBounds]
    exact splice_set o v r c.toList (by simp at hl ⊢; omega)

theorem splice_length {α : Type} (o : Nat) (as cs : List α) (h : o + as.length ≤ cs.length) : (splice o as cs).length = cs.length := by
  simp [splice]; omega

theorem splice_take {α : Type} (o n : Nat) (as cs : List α) (h : o + as.length ≤ n) (hn : n ≤ cs.length) : (splice o as cs).take n = splice o as (cs.take n) := by
  unfold splice
  rw [List.take_append, List.take_append, List.take_take, List.drop_take]
  have e1 : min n o = o := by omega
  have e2 : min o n = o := by omega
  simp only [e1, List.take_take, e2, List.length_take, List.length_append]
  have e3 : min o cs.length = o := by omega
  rw [e3]
  congr 1
  · congr 1
    exact List.take_of_length_le (by omega)
  all_goals (congr 1; try omega)

theorem RepTL.splice {g w la} {o : Nat} {as cs : List TV} {us vs : List Value} (h : RepTL g la w as us) (k : RepTL g la w cs vs) : RepTL g la w (splice o as cs) (splice o us vs) := by
  unfold SL.splice
  rw [← h.length]
  exact ((k.take o).append h).append (k.drop _)

theorem RepL.splice {g w} {o : Nat} {as cs : List AV} {us vs : List Value} (h : RepL g w as us) (k : RepL g w cs vs) : RepL g w (splice o as cs) (splice o us vs) := by
  unfold SL.splice
  rw [← h.length]
  exact ((RepL.take o k).append h).append (RepL.drop _ k)

section
variable {k : K} {g : G} {la : La} {m : Mem} {w : World}

/-- What a store may turn. -/
theorem SimC.get (S : SimC k g la m w) {s ver : Nat} {cs : List TV} (h : (m.l s).get ver = some cs) :
    ∃ b c, la s ver = some b ∧ Row w b c ∧ RepTL g la w cs (c.toList.take cs.length) := by
  unfold LE.get at h
  split at h
  · rename_i v ds e
    split at h
    · rename_i e2; subst e2; cases h
      obtain ⟨b, c, h1, _, _, h4, h5⟩ := S.mu s _ _ e
      exact ⟨b, c, h1, h4, h5⟩
    · cases h
  · rename_i v ds e
    split at h
    · rename_i e2; subst e2; cases h
      obtain ⟨b, c, h1, _, h4, h5⟩ := S.fr s _ _ e
      exact ⟨b, c, h1, h4, h5⟩
    · cases h
  · cases h

theorem RepTL.toArrTake {g w la} {cs : List TV} {c : Array Value} (h : RepTL g la w cs (c.toList.take cs.length)) : cs.length ≤ c.size := by
  have := h.length
  simp at this
  omega

theorem RepL.toArrTake {g w} {cs : List AV} {c : Array Value} (h : RepL g w cs (c.toList.take cs.length)) : cs.length ≤ c.size := by
  have := RepL.length h
  simp at this
  omega

theorem rdT_sound (S : SimC k g la m w) {p : TV} {v : Value} {cs : List TV} (hp : RepT g la w p v) (h : rdT m p = some cs) :
    ∃ b off vs, v = .pointer (some ⟨b, off, none⟩) ∧ RepTL g la w cs vs ∧ w.rangeAt b off vs := by
  cases p with
  | v a =>
    cases a with
    | ptr n off =>
      simp only [rdT, Option.map_eq_some_iff] at h
      obtain ⟨ds, hm, rfl⟩ := h
      simp only [RepT, RepA] at hp
      obtain ⟨b, hr, rfl⟩ := hp
      obtain ⟨b', c, h1, h2, h3, h4⟩ := S.hs.mem n ds hm
      rw [hr] at h1; cases h1
      refine ⟨b, off, (c.toList.take ds.length).drop off, rfl, RepTL.ofL (RepL.drop off h4), ?_⟩
      intro j u hu
      rw [h3.cell]
      rw [List.getElem?_drop, List.getElem?_take] at hu
      split at hu
      · simpa using hu
      · cases hu
    | _ => simp [rdT] at h
  | lp s ver off =>
    simp only [rdT, Option.map_eq_some_iff] at h
    obtain ⟨ds, hm, rfl⟩ := h
    obtain ⟨b, hr, rfl⟩ := hp
    obtain ⟨b', c, h1, h3, h4⟩ := S.get hm
    rw [hr] at h1; cases h1
    refine ⟨b, off, (c.toList.take ds.length).drop off, rfl, h4.drop off, ?_⟩
    intro j u hu
    rw [h3.cell]
    rw [List.getElem?_drop, List.getElem?_take] at hu
    split at hu
    · simpa using hu
    · cases hu
  | vp ds =>
    simp only [rdT, Option.some.injEq] at h
    subst h
    obtain ⟨b, off, vs, rfl, hpin, hr⟩ := hp
    exact ⟨b, off, vs, rfl, RepTL.ofL hr, hpin.2⟩
  | ls _ _ _ _ => simp [rdT] at h

theorem ld1_rd {p : TV} {x : TV} (h : ld1 m p = some x) : ∃ cs, rdT m p = some cs ∧ cs[0]? = some x := by
  cases p with
  | v a =>
    cases a with
    | ptr n off =>
      simp only [ld1, Option.bind_eq_some_iff, Option.map_eq_some_iff] at h
      obtain ⟨ds, hm, y, hy, rfl⟩ := h
      exact ⟨_, by simp [rdT, hm]; rfl, by simp [hy]⟩
    | _ => simp [ld1] at h
  | lp s ver off =>
    simp only [ld1, Option.bind_eq_some_iff] at h
    obtain ⟨ds, hm, hy⟩ := h
    exact ⟨_, by simp [rdT, hm]; rfl, by simp [hy]⟩
  | vp ds =>
    simp only [ld1, Option.map_eq_some_iff] at h
    obtain ⟨y, hy, rfl⟩ := h
    exact ⟨_, by simp [rdT]; rfl, by simp [hy]⟩
  | ls _ _ _ _ => simp [ld1] at h

theorem ld1_sound (S : SimC k g la m w) {p x : TV} {v : Value} (hp : RepT g la w p v) (h : ld1 m p = some x) :
    ∃ b off u, v = .pointer (some ⟨b, off, none⟩) ∧ w.cell? ⟨b, off, none⟩ = some u ∧ RepT g la w x u := by
  obtain ⟨cs, h1, h2⟩ := ld1_rd h
  obtain ⟨b, off, vs, rfl, h3, h4⟩ := rdT_sound S hp h1
  obtain ⟨u, h5, h6⟩ := h3.get 0 x h2
  exact ⟨b, off, u, rfl, by simpa using h4 0 u h5, h6⟩

theorem chunk_length (sz : Nat) : ∀ (n : Nat) (as : List AV), (chunk sz n as).length = n
  | 0, as => rfl
  | n + 1, as => by simp [chunk, chunk_length sz n]

theorem chunk_flatten (sz : Nat) : ∀ (n : Nat) (as : List AV), as.length = n * sz → (chunk sz n as).flatten = as
  | 0, as, h => by simp at h; simp [chunk, h]
  | n + 1, as, h => by
    simp only [chunk, List.flatten_cons]
    rw [chunk_flatten sz n (as.drop sz) (by simp [h, Nat.succ_mul])]
    exact List.take_append_drop sz as

theorem repVec {sz n b cap : Nat} {as : List AV} {vs : List Value} (hcap : n ≤ cap) (hl : as.length = n * sz) (hp : Pin g w b 0 vs) (hr : RepL g w as vs) :
    RepA g w (.vec (chunk sz n as)) (.slice (some ⟨b, 0, none⟩) n cap) := by
  simp only [RepA]
  exact ⟨_, _, cap, rfl, (chunk_length sz n as).symm, hcap, .inr ⟨b, 0, vs, rfl, hp, RepLL.flat.2 (by rw [chunk_flatten sz n as hl]; exact hr)⟩⟩

theorem Row.pin {w : World} {b : Nat} {c : Array Value} (h : Row w b c) (hp : g.π b) (n : Nat) : Pin g w b 0 (c.toList.take n) :=
  ⟨hp, fun i v hv => by
    rw [h.cell]
    rw [List.getElem?_take] at hv
    split at hv
    · simpa using hv
    · cases hv⟩

theorem fz_sound (S : SimC k g la m w) {x : TV} {v : Value} {a : AV} {m' : Mem} (hx : RepT g la w x v) (h : fz m x = some (a, m')) :
    ∃ g', RepA g' w a v ∧ SimC k g' la m' w ∧ GLe g w g' w := by
  cases x with
  | v b =>
    simp only [fz, Option.some.injEq, Prod.mk.injEq] at h
    obtain ⟨rfl, rfl⟩ := h
    exact ⟨g, hx, S, GLe.refl _ _⟩
  | lp _ _ _ => simp [fz] at h
  | vp _ => simp [fz] at h
  | ls s ver sz len =>
    obtain ⟨b, cap, h1, rfl, hc, t, q, hs, hq⟩ := hx
    simp only [fz] at h
    split at h
    · rename_i ver' cs hl
      split at h
      · rename_i hcond
        obtain ⟨rfl, hlen⟩ := hcond
        simp only [Option.map_eq_some_iff, Prod.mk.injEq] at h
        obtain ⟨as, has, rfl, rfl⟩ := h
        obtain ⟨b', c, h2, h3, h4, S'⟩ := S.frz hl
        rw [h1] at h2; cases h2
        refine ⟨gPin g b, ?_, S', gPin_le g w b⟩
        have e := avs_eq has
        have hlas : as.length = len * sz := by
          have := congrArg List.length e
          simp at this
          omega
        have h5 : RepL g w as (c.toList.take (len * sz)) := by
          have := h4.take (len * sz)
          rw [e, List.take_take, Nat.min_eq_left hlen] at this
          exact this.toL
        exact repVec hc hlas (Row.pin (g := gPin g b) h3 (Or.inr rfl) _) (RepL.mono (gPin_le g w b) _ _ h5)
      · cases h
    · rename_i ver' cs hl
      split at h
      · rename_i hcond
        obtain ⟨rfl, hlen⟩ := hcond
        simp only [Option.map_eq_some_iff, Prod.mk.injEq] at h
        obtain ⟨as, has, rfl, rfl⟩ := h
        obtain ⟨b', c, h2, h2', h3, h4⟩ := S.fr s _ cs hl
        rw [h1] at h2; cases h2
        refine ⟨g, ?_, S, GLe.refl _ _⟩
        have e := avs_eq has
        have hlas : as.length = len * sz := by
          have := congrArg List.length e
          simp at this
          omega
        have h5 : RepL g w as (c.toList.take (len * sz)) := by
          have := h4.take (len * sz)
          rw [e, List.take_take, Nat.min_eq_left hlen] at this
          exact this.toL
        exact repVec hc hlas (Row.pin h3 h2' _) h5
      · cases h
    · cases h

theorem fzs_sound : ∀ {xs : List TV} {m : Mem} {g : G} {vs : List Value} {as : List AV} {m' : Mem}, SimC k g la m w → RepTL g la w xs vs → fzs m xs = some (as, m') →
    ∃ g', RepL g' w as vs ∧ SimC k g' la m' w ∧ GLe g w g' w
  | [], m, g, vs, as, m', S, hx, h => by
    simp only [fzs, Option.some.injEq, Prod.mk.injEq] at h
    obtain ⟨rfl, rfl⟩ := h
    exact ⟨g, by simpa [RepL, RepTL] using hx, S, GLe.refl _ _⟩
  | x :: xs, m, g, vs, as, m', S, hx, h => by
    simp only [fzs, Option.bind_eq_some_iff, Option.map_eq_some_iff, Prod.exists, Prod.mk.injEq] at h
    obtain ⟨a, m1, h1, as', m2, h2, rfl, rfl⟩ := h
    obtain ⟨u, us, rfl, hu, hus⟩ := hx
    obtain ⟨g1, r1, S1, l1⟩ := fz_sound S hu h1
    obtain ⟨g2, r2, S2, l2⟩ := fzs_sound S1 (hus.mono l1 (LLe.refl _)) h2
    refine ⟨g2, ?_, S2, l1.trans l2⟩
    simp only [RepL]
    exact ⟨u, us, rfl, RepA.mono l2 _ _ r1, r2⟩

theorem fzs_length : ∀ {xs : List TV} {m : Mem} {as : List AV} {m' : Mem}, fzs m xs = some (as, m') → as.length = xs.length
  | [], m, as, m', h => by
    simp only [fzs, Option.some.injEq, Prod.mk.injEq] at h
    obtain ⟨rfl, rfl⟩ := h
    rfl
  | x :: xs, m, as, m', h => by
    simp only [fzs, Option.bind_eq_some_iff, Option.map_eq_some_iff, Prod.exists, Prod.mk.injEq] at h
    obtain ⟨a, m1, h1, as', m2, h2, rfl, rfl⟩ := h
    simp [fzs_length h2]

theorem row_new (w : World) (c : Array Value) (e : TypeId) : Row (w.alloc (.cells c e)) w.heap.size c :=
  ⟨e, (0, 0), heap_alloc_new w _, fun o _ => by simp⟩

/-- A fresh block's number is nobody's. -/
theorem SimC.fresh (S : SimC k g la m w) {b : Nat} (hb : w.heap.size ≤ b) :
    (∀ s v, la s v ≠ some b) ∧ (∀ n, g.ρ n ≠ some b) ∧ ¬ g.π b ∧ ¬ live g m.h b ∧ k.w.heap.size ≤ b := by
  refine ⟨fun s v h => ?_, fun n h => ?_, fun h => ?_, ?_, Nat.le_trans S.ext.size hb⟩
  · have := S.rng s v b h; omega
  · have := S.hs.rng n b h; omega
  · have := S.hs.pin b h; omega
  · rintro ⟨n, cs, _, h⟩
    have := S.hs.rng n b h
    omega

/-- A new row, whose number is fresh in the world before: as a variable, a slice, or fixed. -/
theorem newL_sound {w' : World} (S : SimC k g la m w) (T : Turn w w' none) {b : Nat} {c : Array Value} {cs : List TV} (d : Nat) (hb : w.heap.size ≤ b) (hr : Row w' b c) (hc : RepTL g la w cs (c.toList.take cs.length)) :
    SimC k g (laSet la d m.c b) (newL d m cs) w' ∧ GLe g w g w' ∧ LLe la (laSet la d m.c b) ∧ (laSet la d m.c b) d m.c = some b := by
  obtain ⟨f1, f2, f3, f4, f5⟩ := S.fresh hb
  have gl : GLe g w g w' := T.gle S.hs.pin (by simp) (fun _ _ h => h) (fun _ h => h)
  exact ⟨(S.turn0 T).add_l d hr (hc.mono gl (LLe.refl _)) (fun s v _ _ _ => f1 s v) f4 f3 f5, gl, laSet_le S d b, by simp [laSet]⟩

theorem newH_sound {w' : World} (S : SimC k g la m w) (T : Turn w w' none) {b : Nat} {c : Array Value} {cs : List AV} (hb : w.heap.size ≤ b) (hr : Row w' b c) (hc : RepL g w cs (c.toList.take cs.length)) :
    SimC k (gSet g m.h.nx b) la (newH m cs) w' ∧ GLe g w (gSet g m.h.nx b) w' ∧ (gSet g m.h.nx b).ρ m.h.nx = some b := by
  obtain ⟨f1, f2, f3, f4, f5⟩ := S.fresh hb
  have gl : GLe g w g w' := T.gle S.hs.pin (by simp) (fun _ _ h => h) (fun _ h => h)
  have S1 := S.turn0 T
  exact ⟨S1.add_h hr (RepL.mono gl _ _ hc) (fun s v _ _ => f1 s v) f4 f3 (.inl f5), gl.trans (gSet_le S1 b), by simp [gSet, upd_eq]⟩

theorem newP_sound {w' : World} (S : SimC k g la m w) (T : Turn w w' none) {b : Nat} (hb : w.heap.size ≤ b) (hb' : b < w'.heap.size) :
    SimC k (gPin g b) la m w' ∧ GLe g w (gPin g b) w' := by
  obtain ⟨f1, f2, f3, f4, f5⟩ := S.fresh hb
  have gl : GLe g w g w' := T.gle S.hs.pin (by simp) (fun _ _ h => h) (fun _ h => h)
  have S1 := S.turn0 T
  exact ⟨S1.add_p hb' (fun s v _ _ => f1 s v) f4 f5, gl.trans (gPin_le g w' b)⟩

theorem newVarT_sound (S : SimC k g la m w) {p d : Nat} {cs : List TV} {x : TV} {m' : Mem} {c : Array Value} (e : TypeId) (h : newVarT p d m cs = some (x, m')) (hc : RepTL g la w cs c.toList) :
    ∃ g' la', RepT g' la' (w.alloc (.cells c e)) x (.pointer (some ⟨w.heap.size, 0, none⟩)) ∧ SimC k g' la' m' (w.alloc (.cells c e)) ∧ GLe g w g' (w.alloc (.cells c e)) ∧ LLe la la' := by
  have hlen : cs.length = c.size := by have := hc.length; simpa using this.symm
  have hc' : RepTL g la w cs (c.toList.take cs.length) := by rw [hlen, List.take_of_length_le (by simp)]; exact hc
  unfold newVarT at h
  split at h
  · cases h
    obtain ⟨S1, g1, l1, e1⟩ := newL_sound S (Turn.alloc w _) d (Nat.le_refl _) (row_new w c e) hc'
    exact ⟨g, _, ⟨_, e1, rfl⟩, S1, g1, l1⟩
  · simp only [Option.map_eq_some_iff, Prod.exists, Prod.mk.injEq] at h
    obtain ⟨as, m1, h1, rfl, rfl⟩ := h
    obtain ⟨g1, r1, S1, l1⟩ := fzs_sound S hc h1
    have hl1 : as.length = c.size := by rw [fzs_length h1, hlen]
    obtain ⟨S2, g2, e2⟩ := newH_sound S1 (Turn.alloc w _) (Nat.le_refl _) (row_new w c e) (cs := as) (by rw [hl1, List.take_of_length_le (by simp)]; exact r1)
    exact ⟨_, la, by simp only [RepT, RepA]; exact ⟨_, e2, rfl⟩, S2, l1.trans g2, LLe.refl _⟩
  · cases h

/-- A new slice: n elements of sz cells are told; the row has room for cap. -/
theorem newSlT_sound {w' : World} (S : SimC k g la m w) (T : Turn w w' none) {p d sz n cap b : Nat} {cs : List TV} {x : TV} {m' : Mem} {c : Array Value} (h : newSlT p d sz n m cs = some (x, m'))
    (hb : w.heap.size ≤ b) (hr : Row w' b c) (hc : RepTL g la w cs (c.toList.take cs.length)) (hcs : cs.length = n * sz) (hcap : c.size = cap * sz) (hn : n ≤ cap) :
    ∃ g' la', RepT g' la' w' x (.slice (some ⟨b, 0, none⟩) n cap) ∧ SimC k g' la' m' w' ∧ GLe g w g' w' ∧ LLe la la' := by
  obtain ⟨ty, hsh⟩ := hr.shape
  unfold newSlT at h
  split at h
  · cases h
    obtain ⟨S1, g1, l1, e1⟩ := newL_sound S T d hb hr hc
    exact ⟨g, _, ⟨b, cap, e1, rfl, hn, ty, _, hsh, hcap.symm⟩, S1, g1, l1⟩
  · simp only [Option.map_eq_some_iff, Prod.exists, Prod.mk.injEq] at h
    obtain ⟨as, m1, h1, rfl, rfl⟩ := h
    obtain ⟨g1, r1, S1, l1⟩ := fzs_sound S hc h1
    obtain ⟨S2, g2, e2⟩ := newH_sound S1 T hb hr (cs := as) (by rw [fzs_length h1]; exact r1)
    exact ⟨_, la, by simp only [RepT, RepA]; exact ⟨b, cap, e2, rfl, hn, ty, _, hsh, by omega⟩, S2, l1.trans g2, LLe.refl _⟩
  · simp only [Option.map_eq_some_iff, Prod.exists, Prod.mk.injEq] at h
    obtain ⟨as, m1, h1, rfl, rfl⟩ := h
    obtain ⟨g1, r1, S1, l1⟩ := fzs_sound S hc h1
    obtain ⟨S2, g2⟩ := newP_sound S1 T hb hr.lt
    exact ⟨_, la, repVec hn (by rw [fzs_length h1, hcs]) (Row.pin (g := gPin g1 b) hr (Or.inr rfl) _) (RepL.mono g2 _ _ r1), S2, l1.trans g2, LLe.refl _⟩

theorem oneCell_of {u : Value} : ∀ {a : TV}, RepT g la w a u → cellT a = true → u.oneCell' = true
  | .v (.sc x), h, hc => by
    simp only [RepT, RepA] at h
    subst h
    cases u <;> simp_all [cellT, cellA, Value.oneCell']
  | .v (.agg _), h, hc => by simp [cellT, cellA] at hc
  | .v (.tup _), h, hc => by simp [cellT, cellA] at hc
  | .v (.ptr _ _), h, hc => by simp only [RepT, RepA] at h; obtain ⟨_, _, rfl⟩ := h; rfl
  | .v (.vec _), h, hc => by simp only [RepT, RepA] at h; obtain ⟨_, _, _, rfl, _⟩ := h; rfl
  | .v (.sl _ _ _ _), h, hc => by simp only [RepT, RepA] at h; obtain ⟨_, _, _, rfl, _⟩ := h; rfl
  | .v (.fn _ _ _), h, hc => by simp only [RepT, RepA] at h; obtain ⟨_, _, rfl, _⟩ := h; rfl
  | .v (.ifc _ _), h, hc => by simp only [RepT, RepA] at h; obtain ⟨_, rfl, _⟩ := h; rfl
  | .lp _ _ _, h, hc => by obtain ⟨_, _, rfl⟩ := h; rfl
  | .vp _, h, hc => by obtain ⟨_, _, _, rfl, _⟩ := h; rfl
  | .ls _ _ _ _, h, hc => by obtain ⟨_, _, _, rfl, _⟩ := h; rfl

theorem oneCells_of : ∀ {as : List TV} {us : List Value}, RepTL g la w as us → as.all cellT = true → ∀ u ∈ us, u.oneCell' = true
  | [], us, h, hc, u, hu => by simp only [RepTL] at h; subst h; cases hu
  | a :: as, us, h, hc, u, hu => by
    obtain ⟨x, xs, rfl, h1, h2⟩ := h
    simp only [List.all_cons, Bool.and_eq_true] at hc
    cases hu with
    | head => exact oneCell_of h1 hc.1
    | tail _ hu => exact oneCells_of h2 hc.2 u hu

theorem Row.there {w : World} {b : Nat} {c : Array Value} (h : Row w b c) {o n : Nat} (ho : o + n ≤ c.size) : w.there b o n := fun j hj => by
  constructor
  · rw [h.cell]; simp; omega
  · exact h.thaw _ (by omega)

/-- Cells stored into a variable or row of the call's own. -/
theorem storeL_sound (S : SimC k g la m w) {s ver off : Nat} {cs ys : List TV} {us : List Value} {b : Nat} (hl : m.l s = .mu ver cs) (hb : la s ver = some b) (ho : off + ys.length ≤ cs.length) (hy : RepTL g la w ys us) :
    w.there b off us.length ∧ SimC k g la ⟨upd m.l s (.mu ver (splice off ys cs)), m.c, m.h⟩ (w.setCells b off us) ∧ GLe g w g (w.setCells b off us) := by
  obtain ⟨b', c, h1, h2, h3, h4, h5⟩ := S.mu s ver cs hl
  rw [hb] at h1; cases h1
  have hle := RepTL.toArrTake h5
  have hul := hy.length
  obtain ⟨c', r1, r2, r3⟩ := setCells_row b us off w c h4 (by omega)
  refine ⟨h4.there (by omega), S.write_l hl hb r3 r1 ?_⟩
  rw [r2, splice_length off ys cs (by omega), splice_take off _ us c.toList (by omega) (by simpa using hle)]
  exact hy.splice h5

theorem storeH_sound (S : SimC k g la m w) {n off : Nat} {cs ys : List AV} {us : List Value} {b : Nat} (hl : m.h.m n = some cs) (hb : g.ρ n = some b) (ho : off + ys.length ≤ cs.length) (hy : RepL g w ys us) :
    w.there b off us.length ∧ SimC k g la ⟨m.l, m.c, ⟨upd m.h.m n (some (splice off ys cs)), m.h.nx⟩⟩ (w.setCells b off us) ∧ GLe g w g (w.setCells b off us) := by
  obtain ⟨b', c, h1, h2, h4, h5⟩ := S.hs.mem n cs hl
  rw [hb] at h1; cases h1
  have hle := RepL.toArrTake h5
  have hul := RepL.length hy
  obtain ⟨c', r1, r2, r3⟩ := setCells_row b us off w c h4 (by omega)
  refine ⟨h4.there (by omega), S.write_h hl hb r3 r1 ?_⟩
  rw [r2, splice_length off ys cs (by omega), splice_take off _ us c.toList (by omega) (by simpa using hle)]
  exact RepL.splice hy h5

end
end SL
