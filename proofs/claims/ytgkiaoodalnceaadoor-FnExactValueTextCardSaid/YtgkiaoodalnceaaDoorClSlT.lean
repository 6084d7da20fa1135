import Derived.Test.YtgkiaoodalnceaaDoorClSlS
/- The simulation logic, part T: slices of the call's own. -/
namespace SL
open Go
set_option linter.unusedVariables false
set_option linter.unusedSimpArgs false

def nilS : AV := .sc (.slice none 0 0)
def i64 (n : Int) : AV := .sc (.int .i64 n)

theorem chunk_flat {sz : Nat} : ∀ {es : List (List AV)}, (∀ e ∈ es, e.length = sz) → chunk sz es.length es.flatten = es
  | [], _ => rfl
  | e :: es, h => by
    have he := h e (by simp)
    simp only [List.length_cons, List.flatten_cons, chunk]
    rw [← he, List.take_left, List.drop_left, he, chunk_flat (fun x hx => h x (by simp [hx]))]

theorem flatten_length {sz : Nat} : ∀ {es : List (List AV)}, (∀ e ∈ es, e.length = sz) → es.flatten.length = es.length * sz
  | [], _ => by simp
  | e :: es, h => by
    have ih := flatten_length (es := es) (fun x hx => h x (by simp [hx]))
    simp only [List.flatten_cons, List.length_append, List.length_cons, h e (by simp), ih]
    rw [Nat.add_mul]; omega

theorem avs_mapv : ∀ {l : List AV}, avs (l.map TV.v) = some l
  | [] => rfl
  | a :: l => by simp [avs, avs_mapv]

/-- A slice of the call's own, in one of the slots D, by its elements; nil where there is none. -/
def LsE (D : List Nat) (m : Mem) (x : TV) (sz : Nat) (es : List (List AV)) : Prop :=
  (∀ e ∈ es, e.length = sz) ∧ ((es = [] ∧ x = .v (.sc (.slice none 0 0))) ∨ ∃ d ver cs, d ∈ D ∧ x = .ls d ver sz es.length ∧ m.l d = .mu ver cs ∧ cs.take (es.length * sz) = es.flatten.map TV.v ∧ es.length * sz ≤ cs.length)

theorem LsE.nil {D : List Nat} {m : Mem} {sz : Nat} : LsE D m (.v (.sc (.slice none 0 0))) sz [] := ⟨by simp, .inl ⟨rfl, rfl⟩⟩

theorem LsE.ln {D : List Nat} {m : Mem} {x : TV} {sz : Nat} {es : List (List AV)} (h : LsE D m x sz es) : lnT x = some (.sc (.int .i64 es.length)) := by
  rcases h.2 with ⟨rfl, rfl⟩ | ⟨d, ver, cs, _, rfl, _⟩
  · rfl
  · rfl

theorem LsE.cell {D : List Nat} {m : Mem} {x : TV} {sz : Nat} {es : List (List AV)} (h : LsE D m x sz es) : cellT x = true := by
  rcases h.2 with ⟨rfl, rfl⟩ | ⟨d, ver, cs, _, rfl, _⟩ <;> rfl

theorem LsE.keep {D : List Nat} {m m' : Mem} {x : TV} {sz : Nat} {es : List (List AV)} (h : LsE D m x sz es) (hk : ∀ d ∈ D, m'.l d = m.l d) : LsE D m' x sz es := by
  refine ⟨h.1, ?_⟩
  rcases h.2 with h1 | ⟨d, ver, cs, hd, h1, h2, h3⟩
  · exact .inl h1
  · exact .inr ⟨d, ver, cs, hd, h1, by rw [hk d hd]; exact h2, h3⟩

theorem LsE.fz {D : List Nat} {m : Mem} {x : TV} {sz : Nat} {es : List (List AV)} (h : LsE D m x sz es) : ∃ a m', SL.fz m x = some (a, m') ∧ Sub a (.vec es) ∧ m'.h = m.h ∧ m'.c = m.c ∧ (∀ s, s ∉ D → m'.l s = m.l s) ∧ cellA a = true := by
  rcases h.2 with ⟨rfl, rfl⟩ | ⟨d, ver, cs, hd, rfl, h2, h3, h4⟩
  · exact ⟨_, m, rfl, Sub.nilv, rfl, rfl, fun _ _ => rfl, rfl⟩
  · refine ⟨.vec es, ⟨upd m.l d (.fr ver cs), m.c, m.h⟩, ?_, Sub.refl _, rfl, rfl, fun s hs => upd_ne _ _ _ _ (fun e => hs (e ▸ hd)), rfl⟩
    simp only [SL.fz, h2, h4, and_self, if_true, h3, avs_mapv, Option.map_some, chunk_flat h.1]

/-- One more (or some more) behind. -/
theorem LsE.app {D : List Nat} {m : Mem} {x y : TV} {sz bytes p d : Nat} {es fs : List (List AV)} (h : LsE D m x sz es) (hd : d ∈ D) (hsz : 0 < sz) (hp : p = 0)
    (hy : srcT sz m y = some (fs.length, fs.flatten.map TV.v)) (hf : ∀ e ∈ fs, e.length = sz) (hc : fs.flatten.all cellA = true) (hb : (es.length + fs.length) * bytes ≤ 140737488355328) (hl : es.length + fs.length ≤ 9223372036854775807) :
    ∃ x' m', apT p d sz bytes m x y = some (x', m') ∧ LsE D m' x' sz (es ++ fs) ∧ m'.h = m.h ∧ ∀ s, s ∉ D → m'.l s = m.l s := by
  subst hp
  have hc' : (fs.flatten.map TV.v).all cellT = true := by simpa [List.all_map, Function.comp_def, cellT] using hc
  have hlen := flatten_length hf
  have hall : ∀ e ∈ es ++ fs, e.length = sz := fun e he => (List.mem_append.1 he).elim (h.1 e) (hf e)
  rcases h.2 with ⟨rfl, rfl⟩ | ⟨d0, ver, cs, hd0, rfl, h2, h3, h4⟩
  · by_cases h0 : fs = []
    · subst h0
      refine ⟨.v (.sc (.slice none 0 0)), m, ?_, LsE.nil, rfl, fun _ _ => rfl⟩
      simp [apT, hy, hsz]
    · have hne : fs.length ≠ 0 := fun e => h0 (List.eq_nil_of_length_eq_zero e)
      have b1 : fs.length * bytes ≤ 140737488355328 := by simpa using hb
      have b2 : fs.length ≤ 9223372036854775807 := by simpa using hl
      refine ⟨.ls d m.c sz fs.length, newL d m (fs.flatten.map TV.v), ?_, ⟨hall, .inr ⟨d, m.c, fs.flatten.map TV.v, hd, by simp, by simp [newL, upd], ?_, ?_⟩⟩, rfl, fun s hs => upd_ne _ _ _ _ (fun e => hs (e ▸ hd))⟩
      · simp only [apT, hy, Option.bind_some, List.length_map, hlen, hc', hsz, and_self, if_true, b1, b2, hne, if_false, newSlT]
      · rw [List.nil_append, List.take_of_length_le (by rw [List.length_map, hlen]; exact Nat.le_refl _)]
      · rw [List.nil_append, List.length_map, hlen]; exact Nat.le_refl _
  · refine ⟨.ls d m.c sz (es.length + fs.length), newL d ⟨upd m.l d0 .no, m.c, m.h⟩ (cs.take (es.length * sz) ++ fs.flatten.map TV.v), ?_, ⟨hall, .inr ⟨d, m.c, cs.take (es.length * sz) ++ fs.flatten.map TV.v, hd, by simp, by simp only [newL, upd_eq], ?_, ?_⟩⟩, rfl, ?_⟩
    · simp only [apT, hy, Option.bind_some, List.length_map, hlen, hc', hsz, and_self, if_true, h2, h4, hb, hl, true_and]
    · rw [h3]
      simp only [List.length_append, List.flatten_append, List.map_append]
      rw [List.take_of_length_le]
      rw [List.length_append, List.length_map, List.length_map, flatten_length h.1, hlen, Nat.add_mul]; exact Nat.le_refl _
    · rw [h3, List.length_append, List.length_append, List.length_map, List.length_map, flatten_length h.1, hlen, Nat.add_mul]; exact Nat.le_refl _
    · intro s hs
      simp only [newL]
      have n1 : s ≠ d := fun e => hs (e ▸ hd)
      have n2 : s ≠ d0 := fun e => hs (e ▸ hd0)
      rw [upd_ne _ _ _ _ n1, upd_ne _ _ _ _ n2]

theorem getElem?_flatten {α : Type} {sz : Nat} : ∀ {es : List (List α)} {i j : Nat} {e : List α}, (∀ e ∈ es, e.length = sz) → es[i]? = some e → j < sz → es.flatten[i * sz + j]? = e[j]?
  | [], i, j, e, h, hi, hj => by simp at hi
  | x :: es, 0, j, e, h, hi, hj => by
    simp at hi; subst hi
    rw [List.flatten_cons, List.getElem?_append_left (by rw [h x (by simp)]; omega)]
    simp
  | x :: es, i + 1, j, e, h, hi, hj => by
    simp at hi
    have hx := h x (by simp)
    rw [List.flatten_cons, List.getElem?_append_right (by rw [hx, Nat.add_mul]; omega), hx, show (i + 1) * sz + j - sz = i * sz + j by rw [Nat.add_mul]; omega]
    exact getElem?_flatten (fun y hy => h y (by simp [hy])) hi hj

theorem splice_flatten {sz : Nat} {e : List AV} (he : e.length = sz) : ∀ {es : List (List AV)} {i : Nat}, (∀ x ∈ es, x.length = sz) → i < es.length → splice (i * sz) e es.flatten = (es.set i e).flatten
  | [], i, h, hi => by simp at hi
  | x :: es, 0, h, hi => by
    have hx := h x (by simp)
    simp only [splice, Nat.zero_mul, List.take_zero, List.nil_append, Nat.zero_add, List.flatten_cons, List.set_cons_zero]
    rw [he, ← hx, List.drop_left]
  | x :: es, i + 1, h, hi => by
    have hx := h x (by simp)
    have ih := splice_flatten he (es := es) (i := i) (fun y hy => h y (by simp [hy])) (by simpa using hi)
    simp only [List.flatten_cons, List.set_cons_succ]
    rw [← ih]
    unfold splice
    have e1 : (i + 1) * sz = x.length + i * sz := by rw [hx, Nat.add_mul]; omega
    rw [e1, List.take_append, List.drop_append]
    simp only [Nat.add_sub_cancel_left]
    rw [List.take_of_length_le (by omega), List.drop_of_length_le (show x.length ≤ x.length + i * sz + e.length by omega), List.nil_append, show x.length + i * sz + e.length - x.length = i * sz + e.length by omega]
    simp [List.append_assoc]

theorem splice_map {α β : Type} (f : α → β) (n : Nat) (a c : List α) : splice n (a.map f) (c.map f) = (splice n a c).map f := by
  simp [splice, List.map_take, List.map_drop]

/-- An element written anew. -/
theorem LsE.set {D : List Nat} {m : Mem} {x : TV} {sz : Nat} {k : IntKind} {es : List (List AV)} {i : Nat} {e : List AV} (h : LsE D m x sz es) (hi : i < es.length) (he : e.length = sz) (hc : e.all cellA = true) :
    ∃ p m', ixT sz m x (.v (.sc (.int k i))) = some p ∧ sonT sz m p (.v (.agg e)) = some m' ∧ LsE D m' x sz (es.set i e) ∧ m'.h = m.h ∧ ∀ s, s ∉ D → m'.l s = m.l s := by
  rcases h.2 with ⟨rfl, rfl⟩ | ⟨d, ver, cs, hd, rfl, h2, h3, h4⟩
  · simp at hi
  · have hle : i * sz + sz ≤ es.length * sz := by
      have : (i + 1) * sz ≤ es.length * sz := Nat.mul_le_mul_right _ hi
      rw [Nat.add_mul] at this; omega
    refine ⟨.lp d ver (i * sz), ⟨upd m.l d (.mu ver (splice (i * sz) (e.map TV.v) cs)), m.c, m.h⟩, ?_, ?_, ⟨?_, .inr ⟨d, ver, _, hd, by simp, upd_eq _ _ _, ?_, ?_⟩⟩, rfl, fun s hs => upd_ne _ _ _ _ (fun e => hs (e ▸ hd))⟩
    · simp [ixT]; omega
    · simp only [sonT, h2, he, hc, and_true, true_and]
      rw [if_pos (by omega)]
    · intro y hy
      rcases List.mem_or_eq_of_mem_set hy with hy | rfl
      · exact h.1 y hy
      · exact he
    · rw [List.length_set, ← splice_flatten he h.1 hi, ← splice_map, ← h3]
      have hsp : ∀ (N : Nat) (a c : List TV) (o : Nat), o + a.length ≤ N → N ≤ c.length → (splice o a c).take N = splice o a (c.take N) := by
        intro N a c o h1 h2
        unfold splice
        rw [List.take_append, List.take_append, List.take_take, List.drop_take]
        simp only [List.length_append, List.length_take]
        rw [List.take_take, List.take_of_length_le (l := a) (by omega)]
        congr 2
        · rw [Nat.min_comm]
        · omega
      rw [hsp _ _ _ _ (by simp [he]; omega) h4]
    · rw [List.length_set]
      simp [splice, he]
      omega

/-- A new one. -/
theorem LsE.make {D : List Nat} {m : Mem} {p d sz n : Nat} {e : List AV} (hd : d ∈ D) (hp : p = 0) (he : e.length = sz) :
    ∃ x m', newSlT p d sz n m ((List.replicate n (e.map TV.v)).flatten) = some (x, m') ∧ LsE D m' x sz (List.replicate n e) ∧ m'.h = m.h ∧ ∀ s, s ∉ D → m'.l s = m.l s := by
  subst hp
  refine ⟨.ls d m.c sz n, newL d m _, rfl, ⟨by simp_all, .inr ⟨d, m.c, _, hd, by simp, upd_eq _ _ _, ?_, ?_⟩⟩, rfl, fun s hs => upd_ne _ _ _ _ (fun e => hs (e ▸ hd))⟩
  · rw [List.take_of_length_le]
    · have : ∀ n, (List.replicate n (e.map TV.v)).flatten = ((List.replicate n e).flatten).map TV.v := by
        intro n
        induction n with
        | zero => rfl
        | succ n ih => simp only [List.replicate_succ, List.flatten_cons, List.map_append, ih]
      exact this n
    · simp [he]
  · simp [he]

/-- An element read. -/
theorem LsE.get {D : List Nat} {m : Mem} {x : TV} {sz : Nat} {k : IntKind} {es : List (List AV)} {i : Nat} {e : List AV} (h : LsE D m x sz es) (hi : es[i]? = some e) :
    ∃ p, ixT sz m x (.v (.sc (.int k i))) = some p ∧ ldnT sz m p = some (.v (.agg e), m) ∧ ∀ j, j < sz → ∃ q, faT j p = some q ∧ ld1 m q = (e[j]?).map TV.v := by
  have hlt : i < es.length := (List.getElem?_eq_some_iff.1 hi).1
  have hel : e.length = sz := h.1 e (List.mem_of_getElem? hi)
  rcases h.2 with ⟨rfl, rfl⟩ | ⟨d, ver, cs, hd, rfl, h2, h3, h4⟩
  · simp at hlt
  · have hle : i * sz + sz ≤ es.length * sz := by
      have : (i + 1) * sz ≤ es.length * sz := Nat.mul_le_mul_right _ hlt
      rw [Nat.add_mul] at this; omega
    have cell : ∀ j, j < sz → cs[i * sz + j]? = (e[j]?).map TV.v := by
      intro j hj
      have : (cs.take (es.length * sz))[i * sz + j]? = cs[i * sz + j]? := by rw [List.getElem?_take, if_pos (by omega)]
      rw [← this, h3, List.getElem?_map, getElem?_flatten h.1 hi hj]
    refine ⟨.lp d ver (i * sz), by simp [ixT]; omega, ?_, fun j hj => ⟨_, rfl, ?_⟩⟩
    · have hz : ((cs.drop (i * sz)).take sz) = e.map TV.v := by
        apply List.ext_getElem?
        intro j
        rw [List.getElem?_take]
        split
        · rw [List.getElem?_drop, cell j (by assumption), List.getElem?_map]
        · rw [List.getElem?_eq_none (by simp; omega)]
      simp only [ldnT, rdT, h2, LE.get, if_true, Option.map_some, Option.bind_some, hz]
      rw [if_pos (by simp; omega)]
      rw [fzs_avs avs_mapv]
      rfl
    · simp only [ld1, h2, LE.get, if_true, Option.bind_some]
      exact cell j hj

/-- The elements of a fixed slice. -/
theorem bind_make {t : Nat → TV} {dd : Option Nat} {C : St → Prop} {D : List Nat} {m : Mem} {d sz n : Nat} {cells : List TV} (e : List AV) (hd : d ∈ D) (hc : cells = e.map TV.v) (he : e.length = sz)
    (hK : ∀ x m', LsE D m' x sz (List.replicate n e) → m'.h = m.h → (∀ s, s ∉ D → m'.l s = m.l s) → C ⟨putO t dd x, m'⟩) : bindO t dd C (newSlT 0 d sz n m (List.replicate n cells).flatten) := by
  subst hc
  obtain ⟨x, m', e1, h1, h2, h3⟩ := LsE.make (m := m) (n := n) hd rfl he
  rw [e1]
  exact hK x m' h1 h2 h3

theorem bind_app {t : Nat → TV} {dd : Option Nat} {C : St → Prop} {D : List Nat} {m : Mem} {x y : TV} {sz bytes d : Nat} {es fs : List (List AV)} (h : LsE D m x sz es) (hd : d ∈ D) (hsz : 0 < sz)
    (hy : srcT sz m y = some (fs.length, fs.flatten.map TV.v)) (hf : ∀ e ∈ fs, e.length = sz) (hc : fs.flatten.all cellA = true) (hb : (es.length + fs.length) * bytes ≤ 140737488355328) (hl : es.length + fs.length ≤ 9223372036854775807)
    (hK : ∀ x' m', LsE D m' x' sz (es ++ fs) → m'.h = m.h → (∀ s, s ∉ D → m'.l s = m.l s) → C ⟨putO t dd x', m'⟩) : bindO t dd C (apT 0 d sz bytes m x y) := by
  obtain ⟨x', m', e1, h1, h2, h3⟩ := LsE.app h hd hsz rfl hy hf hc hb hl
  rw [e1]
  exact hK x' m' h1 h2 h3

theorem end_ls {R : AV → Heap → Prop} {D : List Nat} {m : Mem} {x : TV} {sz : Nat} {es : List (List AV)} (h : LsE D m x sz es) (hR : R (.vec es) m.h) :
    endR (fun r h' => ∃ r', Sub r r' ∧ R r' h') ((fz m x).bind fun x => some ([x.1], x.2)) := by
  obtain ⟨a, m', e1, e2, e3, _⟩ := LsE.fz h
  simp only [e1, Option.bind_some, endR, tupA]
  exact ⟨_, e2, by rw [e3]; exact hR⟩

theorem fillc_step {α : Type} {c : α → List AV} {l : List α} {i : Nat} {y : α} {z : List AV} (h : l[i]? = some y) : ((l.take i).map c ++ List.replicate (l.length - i) z).set i (c y) = (l.take (i + 1)).map c ++ List.replicate (l.length - (i + 1)) z := by
  have hi : i < l.length := (List.getElem?_eq_some_iff.1 h).1
  have e : l.length - i = (l.length - (i + 1)) + 1 := by omega
  rw [List.set_append, if_neg (by simp; omega), e, List.replicate_succ]
  simp only [List.length_map, List.length_take, Nat.min_eq_left (Nat.le_of_lt hi), Nat.sub_self, List.set_cons_zero]
  rw [List.take_add_one, h]
  simp

theorem vec_get {m : Mem} {sz : Nat} {k : IntKind} {es : List (List AV)} {i : Nat} {e : List AV} (h : ∀ e ∈ es, e.length = sz) (hi : es[i]? = some e) : ixT sz m (.v (.vec es)) (.v (.sc (.int k i))) = some (.vp e) := by
  have hlt : i < es.length := (List.getElem?_eq_some_iff.1 hi).1
  have hall : es.all (fun e => e.length == sz) = true := by
    rw [List.all_eq_true]
    intro e he
    simpa using h e he
  simp [ixT, hi, hall]
  omega

theorem vp_ldn {m : Mem} {e : List AV} {sz : Nat} (h : e.length = sz) : ldnT sz m (.vp e) = some (.v (.agg e), m) := by
  subst h
  simp only [ldnT, rdT, Option.bind_some, List.length_map, Nat.le_refl, if_true]
  rw [List.take_of_length_le (by simp), fzs_avs avs_mapv]
  rfl

theorem vp_ldq {m : Mem} {e : List AV} {sz : Nat} (h : e.length = sz) : ldnQ sz m (.vp e) = some (.v (.agg e)) := by
  subst h
  simp only [ldnQ, rdT, Option.bind_some, List.length_map, Nat.le_refl, if_true]
  rw [List.take_of_length_le (by simp), avs_mapv]
  rfl

theorem chunk_0 {sz : Nat} {l : List AV} : chunk sz 0 l = [] := rfl
theorem chunk_1 {sz : Nat} {l : List AV} : chunk sz 1 l = [l.take sz] := rfl
theorem chunk_2 {sz : Nat} {l : List AV} : chunk sz 2 l = [l.take sz, (l.drop sz).take sz] := rfl
theorem chunk_3 {sz : Nat} {l : List AV} : chunk sz 3 l = [l.take sz, (l.drop sz).take sz, ((l.drop sz).drop sz).take sz] := rfl
attribute [push_cast] chunk_0 chunk_1 chunk_2 chunk_3

attribute [push_cast] avs_mapv

theorem vp_2 {m : Mem} {a b : AV} : ldnT 2 m (.vp [a, b]) = some (.v (.agg [a, b]), m) := vp_ldn rfl
theorem vq_2 {m : Mem} {a b : AV} : ldnQ 2 m (.vp [a, b]) = some (.v (.agg [a, b])) := vp_ldq rfl
theorem vp_3 {m : Mem} {a b c : AV} : ldnT 3 m (.vp [a, b, c]) = some (.v (.agg [a, b, c]), m) := vp_ldn rfl
theorem vq_3 {m : Mem} {a b c : AV} : ldnQ 3 m (.vp [a, b, c]) = some (.v (.agg [a, b, c])) := vp_ldq rfl
theorem vp_4 {m : Mem} {a b c d : AV} : ldnT 4 m (.vp [a, b, c, d]) = some (.v (.agg [a, b, c, d]), m) := vp_ldn rfl
theorem vq_4 {m : Mem} {a b c d : AV} : ldnQ 4 m (.vp [a, b, c, d]) = some (.v (.agg [a, b, c, d])) := vp_ldq rfl
theorem vp_5 {m : Mem} {a b c d e : AV} : ldnT 5 m (.vp [a, b, c, d, e]) = some (.v (.agg [a, b, c, d, e]), m) := vp_ldn rfl
theorem vq_5 {m : Mem} {a b c d e : AV} : ldnQ 5 m (.vp [a, b, c, d, e]) = some (.v (.agg [a, b, c, d, e])) := vp_ldq rfl
theorem vp_6 {m : Mem} {a b c d e f : AV} : ldnT 6 m (.vp [a, b, c, d, e, f]) = some (.v (.agg [a, b, c, d, e, f]), m) := vp_ldn rfl
theorem vq_6 {m : Mem} {a b c d e f : AV} : ldnQ 6 m (.vp [a, b, c, d, e, f]) = some (.v (.agg [a, b, c, d, e, f])) := vp_ldq rfl
attribute [push_cast] vp_2 vq_2 vp_3 vq_3 vp_4 vq_4 vp_5 vq_5 vp_6 vq_6

theorem fzs_mapv {m : Mem} {l : List AV} : fzs m (l.map TV.v) = some (l, m) := fzs_avs avs_mapv
attribute [push_cast] fzs_mapv

end SL
