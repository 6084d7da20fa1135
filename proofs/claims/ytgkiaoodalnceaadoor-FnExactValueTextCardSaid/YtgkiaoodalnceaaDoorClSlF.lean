import Derived.Test.YtgkiaoodalnceaaDoorClSlE
/- The simulation logic, part F: loads, stores, places, indexes. -/
namespace SL
open Go
set_option linter.unusedVariables false
set_option linter.unusedSimpArgs false

section
variable {P : Program} {k : K} {g : G} {la : La} {m m' : Mem} {w : World} {a : Act} {t : Nat → TV} {o : Oper} {d : Nat} {x : TV}

theorem op_ex (S : SimC k g la m w) (ht : ∀ i, RepT g la w (t i) (a.tmps.getD i undef)) {p : Operand} {i : Nat} (ho : o.op = .extract p i)
    (he : aev d t m (.ex i (compX p)) = some (x, m')) : Out P k g la w o a x m' := by
  simp only [aev, Option.map_eq_some_iff, Prod.mk.injEq] at he
  obtain ⟨u, hu, rfl, rfl⟩ := he
  have hp := ev_sound ht p
  unfold exT at hu
  split at hu
  · rename_i us e1
    rw [e1] at hp
    simp only [RepT, RepA] at hp
    obtain ⟨vs, e2, hr⟩ := hp
    obtain ⟨v, hv, hv2⟩ := hr.get i u hu
    refine Out.same S (v := v) (.inl ?_) hv2
    simp only [execOp, ho, e2]
    simp [Instr.extract, hv]
  · cases hu

theorem run_isAgg {ty : TypeId} {dd : TypeDesc} (h : P.underlying ty = some dd) (w : World) : (isAgg ty).run P w = .ok dd.isRow w := by
  unfold isAgg
  rw [Sem.run_bind, run_underlying h w]
  cases dd <;> simp

theorem op_ld (S : SimC k g la m w) (ht : ∀ i, RepT g la w (t i) (a.tmps.getD i undef)) {p : Operand} {ty : TypeId} {dd : TypeDesc} (ho : o.op = .load ty p) (hd : P.underlying ty = some dd) (hr : dd.isRow = false)
    (he : aev d t m (.ld (compX p)) = some (x, m')) : Out P k g la w o a x m' := by
  simp only [aev, Option.map_eq_some_iff, Prod.mk.injEq] at he
  obtain ⟨u, hu, rfl, rfl⟩ := he
  obtain ⟨b, off, v, e1, e2, e3⟩ := ld1_sound S (ev_sound ht p) hu
  refine Out.same S (v := v) (.inl ?_) e3
  have hl := run_isAgg hd w
  rw [hr] at hl
  simp only [execOp, ho, e1]
  simp [Instr.loadAt, Instr.sureAddr, loadVar, hl, load, Sem.run, e2]

theorem op_ldn (S : SimC k g la m w) (ht : ∀ i, RepT g la w (t i) (a.tmps.getD i undef)) {p : Operand} {ty : TypeId} {dd : TypeDesc} {n : Nat} (ho : o.op = .load ty p) (hd : P.underlying ty = some dd) (hr : dd.isRow = true)
    (hi : (P.info? ty).map (·.size) = some n) (he : aev d t m (.ldn n (compX p)) = some (x, m')) : Out P k g la w o a x m' := by
  simp only [aev, ldnT, Option.bind_eq_some_iff] at he
  obtain ⟨cs, hcs, he⟩ := he
  split at he
  · rename_i hn
    simp only [Option.map_eq_some_iff, Prod.exists, Prod.mk.injEq] at he
    obtain ⟨as, m1, h1, rfl, rfl⟩ := he
    obtain ⟨b, off, vs, e1, e2, e3⟩ := rdT_sound S (ev_sound ht p) hcs
    obtain ⟨g1, r1, S1, l1⟩ := fzs_sound S (e2.take n) h1
    have hvl := e2.length
    refine ⟨.agg (vs.take n).toArray, w, g1, la, .inl ?_, ?_, S1, l1, LLe.refl _⟩
    · simp only [execOp, ho, e1, Sem.run_bind, Sem.run_pure]
      rw [run_loadAt_mid w b off ty (vs.take n) dd (fun j v hv => by
        rw [List.getElem?_take] at hv
        split at hv
        · exact e3 j v hv
        · cases hv) hd hr (by rw [hi]; simp; omega)]
      rfl
    · simp only [RepT, RepA]
      exact ⟨_, rfl, r1⟩
  · cases he

theorem set_splice {α : Type} (off : Nat) (y : α) (cs : List α) (h : off < cs.length) : cs.set off y = splice off [y] cs := by
  unfold splice
  rw [List.set_eq_take_append_cons_drop, if_pos h]
  simp

theorem run_storeAt_one {ty b off : Nat} {v : Value} (hi : (P.info? ty).map (·.size) = some 1) (h1 : v.oneCell' = true) (ht : w.there b off 1) :
    (Instr.storeAt ty (.pointer (some ⟨b, off, none⟩)) v).run P w = .ok () (w.setCells b off [v]) := by
  have hv : v.cells = #[v] := by cases v <;> simp_all [Value.cells, Value.oneCell']
  have := run_storeCells_cells (P := P) b off [v] 0 w (fun j hj => by simpa using (ht j (by simpa using hj)).1) (fun j hj => by simpa using (ht j (by simpa using hj)).2) (by simpa using h1)
  cases hq : P.info? ty with
  | none => simp [hq] at hi
  | some i =>
    have hs : i.size = 1 := by simpa [hq] using hi
    simp only [Nat.add_zero] at this
    simp [Instr.storeAt, Instr.sureAddr, storeVar, Go.sizeOf, typeInfo, hq, hv, hs, this]

theorem op_so (S : SimC k g la m w) (ht : ∀ i, RepT g la w (t i) (a.tmps.getD i undef)) {p q : Operand} {ty : TypeId} (ho : o.op = .store ty p q)
    (hi : (P.info? ty).map (·.size) = some 1) (he : aev d t m (.so (compX p) (compX q)) = some (x, m')) : Out P k g la w o a x m' := by
  simp only [aev, Option.map_eq_some_iff, Prod.mk.injEq] at he
  obtain ⟨m1, hu, rfl, rfl⟩ := he
  have hp := ev_sound ht p
  have hq := ev_sound ht q
  unfold soT at hu
  split at hu
  · rename_i s ver off e1
    rw [e1] at hp
    split at hu
    · rename_i v cs hl
      split at hu
      · rename_i hcond
        obtain ⟨rfl, ho1, hc⟩ := hcond
        cases hu
        obtain ⟨b, hb, e2⟩ := hp
        obtain ⟨h1, h2, h3⟩ := storeL_sound S (ys := [ev t (compX q)]) (us := [a.eval q]) (off := off) hl hb (by simp; omega) ⟨_, _, rfl, hq, rfl⟩
        refine ⟨undef, _, g, la, .inr ⟨?_, rfl⟩, by simp [RepT, RepA], by rw [set_splice off _ cs ho1]; exact h2, h3, LLe.refl _⟩
        simp only [execOp, ho, e2, Sem.run_bind, Sem.run_pure]
        rw [run_storeAt_one hi (oneCell_of hq hc) h1]
        rfl
      · cases hu
    · cases hu
  · rename_i n off e1
    rw [e1] at hp
    simp only [Option.bind_eq_some_iff, Prod.exists] at hu
    obtain ⟨y, m2, hy, cs, hm, hu⟩ := hu
    split at hu
    · rename_i hcond
      cases hu
      obtain ⟨g1, r1, S1, l1⟩ := fz_sound S hq hy
      simp only [RepT, RepA] at hp
      obtain ⟨b, hb, e2⟩ := hp
      obtain ⟨h1, h2, h3⟩ := storeH_sound S1 (ys := [y]) (us := [a.eval q]) (off := off) hm (l1.rho _ _ hb) (by simp; omega) (by simp only [RepL]; exact ⟨_, _, rfl, r1, rfl⟩)
      refine ⟨undef, _, g1, la, .inr ⟨?_, rfl⟩, by simp [RepT, RepA], by rw [set_splice off _ cs hcond.1]; exact h2, l1.trans h3, LLe.refl _⟩
      simp only [execOp, ho, e2, Sem.run_bind, Sem.run_pure]
      rw [run_storeAt_one hi (oneCell_of (g := g1) (la := la) (w := w) (a := .v y) r1 hcond.2) h1]
      rfl
    · cases hu
  · cases hu

theorem RepL.cellsOne : ∀ {as : List AV} {us : List Value}, RepL g w as us → as.all cellA = true → us.all (·.oneCell') = true
  | [], us, h, _ => by simp only [RepL] at h; subst h; rfl
  | a :: as, us, h, hc => by
    simp only [RepL] at h
    obtain ⟨x, xs, rfl, h1, h2⟩ := h
    simp only [List.all_cons, Bool.and_eq_true] at hc ⊢
    exact ⟨oneCell_of (la := fun _ _ => none) (a := .v a) h1 hc.1, RepL.cellsOne h2 hc.2⟩

theorem op_son (S : SimC k g la m w) (ht : ∀ i, RepT g la w (t i) (a.tmps.getD i undef)) {p q : Operand} {ty : TypeId} {n : Nat} (ho : o.op = .store ty p q)
    (hi : (P.info? ty).map (·.size) = some n) (he : aev d t m (.son n (compX p) (compX q)) = some (x, m')) : Out P k g la w o a x m' := by
  simp only [aev, Option.map_eq_some_iff, Prod.mk.injEq] at he
  obtain ⟨m1, hu, rfl, rfl⟩ := he
  have hp := ev_sound ht p
  have hq := ev_sound ht q
  unfold sonT at hu
  split at hu
  · rename_i s ver off as e1 e3
    rw [e1] at hp
    rw [e3] at hq
    simp only [RepT, RepA] at hq
    obtain ⟨us, e4, hq⟩ := hq
    have hul := RepL.length hq
    split at hu
    · rename_i v cs hl
      split at hu
      · rename_i hcond
        obtain ⟨rfl, hn, ho1, hc⟩ := hcond
        cases hu
        obtain ⟨b, hb, e2⟩ := hp
        obtain ⟨h1, h2, h3⟩ := storeL_sound S (ys := as.map TV.v) (us := us) (off := off) hl hb (by simp; omega) (RepTL.ofL hq)
        refine ⟨undef, _, g, la, .inr ⟨?_, rfl⟩, by simp [RepT, RepA], h2, h3, LLe.refl _⟩
        simp only [execOp, ho, e2, e4, Sem.run_bind, Sem.run_pure]
        rw [run_storeAt_mid w b off ty us.toArray (by simpa using h1) (by rw [hi]; simp; omega) (by simpa using hq.cellsOne hc)]
        simp
      · cases hu
    · cases hu
  · rename_i n' off as e1 e3
    rw [e1] at hp
    rw [e3] at hq
    simp only [RepT, RepA] at hq
    obtain ⟨us, e4, hq⟩ := hq
    have hul := RepL.length hq
    simp only [Option.bind_eq_some_iff] at hu
    obtain ⟨cs, hm, hu⟩ := hu
    split at hu
    · rename_i hcond
      obtain ⟨hn, ho1, hc⟩ := hcond
      cases hu
      simp only [RepT, RepA] at hp
      obtain ⟨b, hb, e2⟩ := hp
      obtain ⟨h1, h2, h3⟩ := storeH_sound S (ys := as) (us := us) (off := off) hm hb (by omega) hq
      refine ⟨undef, _, g, la, .inr ⟨?_, rfl⟩, by simp [RepT, RepA], h2, h3, LLe.refl _⟩
      simp only [execOp, ho, e2, e4, Sem.run_bind, Sem.run_pure]
      rw [run_storeAt_mid w b off ty us.toArray (by simpa using h1) (by rw [hi]; simp; omega) (by simpa using hq.cellsOne hc)]
      simp
    · cases hu
  · cases hu

theorem Pin.drop {b off : Nat} {vs : List Value} (h : Pin g w b off vs) (n : Nat) : Pin g w b (off + n) (vs.drop n) :=
  ⟨h.1, fun i v hv => by
    rw [List.getElem?_drop] at hv
    have := h.2 (n + i) v hv
    rwa [← Nat.add_assoc] at this⟩

theorem Pin.take {b off : Nat} {vs : List Value} (h : Pin g w b off vs) (n : Nat) : Pin g w b off (vs.take n) :=
  ⟨h.1, fun i v hv => by
    rw [List.getElem?_take] at hv
    split at hv
    · exact h.2 i v hv
    · cases hv⟩

theorem faT_sound {n : Nat} {y z : TV} {v : Value} (hp : RepT g la w y v) (h : faT n y = some z) : ∃ b off, v = .pointer (some ⟨b, off, none⟩) ∧ RepT g la w z (.pointer (some ⟨b, off + n, none⟩)) := by
  unfold faT at h
  split at h
  · cases h
    simp only [RepT, RepA] at hp ⊢
    obtain ⟨b, hb, rfl⟩ := hp
    exact ⟨b, _, rfl, b, hb, rfl⟩
  · cases h
    obtain ⟨b, hb, rfl⟩ := hp
    exact ⟨b, _, rfl, b, hb, rfl⟩
  · cases h
    obtain ⟨b, off, vs, rfl, hpin, hr⟩ := hp
    exact ⟨b, off, rfl, b, off + n, vs.drop n, rfl, hpin.drop n, RepL.drop n hr⟩
  · cases h

theorem op_fa (S : SimC k g la m w) (ht : ∀ i, RepT g la w (t i) (a.tmps.getD i undef)) {p : Operand} {ty : TypeId} {fs : Array Field} {f : Field} {i n : Nat} (ho : o.op = .fieldAddr ty p i)
    (hd : P.underlying ty = some (.struct fs)) (hf : fs[i]? = some f) (hs : (P.info? f.type).map (·.size) = some n) (hn : n ≠ 0) (he : aev d t m (.fa f.offset (compX p)) = some (x, m')) : Out P k g la w o a x m' := by
  simp only [aev, Option.map_eq_some_iff, Prod.mk.injEq] at he
  obtain ⟨u, hu, rfl, rfl⟩ := he
  obtain ⟨b, off, e1, e2⟩ := faT_sound (ev_sound ht p) hu
  refine Out.same S (.inl ?_) e2
  cases hq : P.info? f.type with
  | none => simp [hq] at hs
  | some i =>
    have hs' : i.size = n := by simpa [hq] using hs
    simp only [execOp, ho, e1]
    simp [Instr.fieldAt, run_underlying hd, hf, Instr.sureAddr, fieldPlace, Go.sizeOf, typeInfo, hq, hs', hn, Addr.add_mid]

theorem op_fl (S : SimC k g la m w) (ht : ∀ i, RepT g la w (t i) (a.tmps.getD i undef)) {p : Operand} {ty : TypeId} {fs : Array Field} {f : Field} {i : Nat} {dd : TypeDesc} (ho : o.op = .field ty p i)
    (hd : P.underlying ty = some (.struct fs)) (hf : fs[i]? = some f) (hs : P.underlying f.type = some dd) (hr : dd.isRow = false) (he : aev d t m (.fl f.offset (compX p)) = some (x, m')) : Out P k g la w o a x m' := by
  simp only [aev, Option.map_eq_some_iff, Prod.mk.injEq] at he
  obtain ⟨u, hu, rfl, rfl⟩ := he
  have hp := ev_sound ht p
  unfold flT at hu
  split at hu
  · rename_i cs e1
    rw [e1] at hp
    simp only [RepT, RepA] at hp
    obtain ⟨vs, e2, hrl⟩ := hp
    obtain ⟨v, hv, hv2⟩ := hrl.get _ u hu
    refine Out.same S (v := v) (.inl ?_) hv2
    have hl := run_isAgg hs w
    rw [hr] at hl
    simp only [execOp, ho, e2]
    simp [Instr.field, run_underlying hd, hf, asAgg, part, hl, hv]
  · cases hu

theorem op_fln (S : SimC k g la m w) (ht : ∀ i, RepT g la w (t i) (a.tmps.getD i undef)) {p : Operand} {ty : TypeId} {fs : Array Field} {f : Field} {i n : Nat} {dd : TypeDesc} (ho : o.op = .field ty p i)
    (hd : P.underlying ty = some (.struct fs)) (hf : fs[i]? = some f) (hs : P.underlying f.type = some dd) (hr : dd.isRow = true) (hn : (P.info? f.type).map (·.size) = some n) (he : aev d t m (.fln f.offset n (compX p)) = some (x, m')) : Out P k g la w o a x m' := by
  simp only [aev, Option.map_eq_some_iff, Prod.mk.injEq] at he
  obtain ⟨u, hu, rfl, rfl⟩ := he
  have hp := ev_sound ht p
  unfold flnT at hu
  split at hu
  · rename_i cs e1
    rw [e1] at hp
    simp only [RepT, RepA] at hp
    obtain ⟨vs, e2, hrl⟩ := hp
    split at hu
    · cases hu
      refine Out.same S (v := .agg ((vs.drop f.offset).take n).toArray) (.inl ?_) ?_
      · have hl := run_isAgg hs w
        rw [hr] at hl
        cases hq : P.info? f.type with
        | none => simp [hq] at hn
        | some i =>
          have hs' : i.size = n := by simpa [hq] using hn
          simp only [execOp, ho, e2]
          simp [Instr.field, run_underlying hd, hf, asAgg, part, hl, Go.sizeOf, typeInfo, hq, hs', List.extract_eq_take_drop]
      · simp only [RepT, RepA]
        exact ⟨_, rfl, RepL.take n (RepL.drop _ hrl)⟩
    · cases hu
  · cases hu

theorem RepLL.at {es : List (List AV)} {vs : List Value} (h : RepLL g w es vs) {i : Nat} {e : List AV} (hi : es[i]? = some e) {sz : Nat} (hsz : ∀ e ∈ es, e.length = sz) :
    RepL g w e ((vs.drop (i * sz)).take sz) := by
  obtain ⟨x, y, z, rfl, h1, h2⟩ := h.get i e hi
  have hlt : i < es.length := (List.getElem?_eq_some_iff.1 hi).1
  have hx : x.length = i * sz := by
    rw [h2]
    have : (es.take i).map List.length = List.replicate i sz := by
      apply List.eq_replicate_iff.2
      refine ⟨by simp; omega, ?_⟩
      intro b hb
      obtain ⟨e', he', rfl⟩ := List.mem_map.1 hb
      exact hsz e' (List.mem_of_mem_take he')
    rw [this]
    simp
  have hy : y.length = sz := by
    rw [RepL.length h1]
    exact hsz e (List.mem_of_getElem? hi)
  rw [← hx, List.append_assoc, List.drop_left, ← hy, List.take_left]
  exact h1

theorem op_ix (S : SimC k g la m w) (ht : ∀ i, RepT g la w (t i) (a.tmps.getD i undef)) {p q : Operand} {ty e : TypeId} {n : Nat} (ho : o.op = .indexAddr ty p q)
    (hd : P.underlying ty = some (.slice e)) (hn : (P.info? e).map (·.size) = some n) (he : aev d t m (.ix n (compX p) (compX q)) = some (x, m')) : Out P k g la w o a x m' := by
  simp only [aev, Option.map_eq_some_iff, Prod.mk.injEq] at he
  obtain ⟨u, hu, rfl, rfl⟩ := he
  have hp := ev_sound ht p
  have hq := ev_sound ht q
  cases hqi : P.info? e with
  | none => simp [hqi] at hn
  | some inf =>
    have hs' : inf.size = n := by simpa [hqi] using hn
    have key : ∀ (b off len cap : Nat) (kk : IntKind) (i : Int), a.eval p = .slice (some ⟨b, off, none⟩) len cap → a.eval q = .int kk i → 0 ≤ i → i < (len : Int) →
        (execOp a.eval o).run P w = .ok (.value (.pointer (some ⟨b, off + i.toNat * n, none⟩))) w := by
      intro b off len cap kk i e1 e2 h0 h1
      simp only [execOp, ho, e1, e2]
      simp [Instr.indexAt, asIntOf, run_underlying hd, h0, h1, Go.sizeOf, typeInfo, hqi, hs', Addr.add_mid]
    unfold ixT at hu
    split at hu
    · rename_i es kk i e1 e2
      rw [e1] at hp; rw [e2] at hq
      simp only [RepT, RepA] at hp hq
      split at hu
      · rename_i hc
        simp only [Option.bind_eq_some_iff, Option.ite_none_right_eq_some, Option.some.injEq] at hu
        obtain ⟨e, hge, hel, rfl⟩ := hu
        obtain ⟨ad, len, cap, e3, e4, _, hr⟩ := hp
        subst e4
        rcases hr with hr | ⟨b, off, vs, rfl, hpin, hr⟩
        · subst hr; simp at hc; omega
        · refine Out.same S (.inl (key b off _ cap kk i e3 hq hc.1 hc.2)) ?_
          refine ⟨b, off + i.toNat * n, (vs.drop (i.toNat * n)).take n, rfl, (hpin.drop _).take n, ?_⟩
          exact hr.at hge (by simpa using hel)
      · cases hu
    · rename_i n' sz' off len kk i e1 e2
      rw [e1] at hp; rw [e2] at hq
      simp only [RepT, RepA] at hp hq
      split at hu
      · rename_i hc
        cases hu
        obtain ⟨b, cap, hb, e3, _⟩ := hp
        refine Out.same S (.inl (key b off len cap kk i e3 hq hc.2.1 hc.2.2)) ?_
        simp only [RepT, RepA]
        exact ⟨b, hb, rfl⟩
      · cases hu
    · rename_i s ver sz' len kk i e1 e2
      rw [e1] at hp; rw [e2] at hq
      simp only [RepT, RepA] at hq
      split at hu
      · rename_i hc
        cases hu
        obtain ⟨b, cap, hb, e3, _⟩ := hp
        refine Out.same S (.inl (key b 0 len cap kk i e3 hq hc.2.1 hc.2.2)) ?_
        exact ⟨b, hb, by simp⟩
      · cases hu
    · cases hu

theorem op_ia (S : SimC k g la m w) (ht : ∀ i, RepT g la w (t i) (a.tmps.getD i undef)) {p q : Operand} {ty e : TypeId} {n len : Nat} (ho : o.op = .indexAddr ty p q)
    (hd : P.underlying ty = some (.array len e)) (hn : (P.info? e).map (·.size) = some n) (he : aev d t m (.ia n len (compX p) (compX q)) = some (x, m')) : Out P k g la w o a x m' := by
  simp only [aev, Option.map_eq_some_iff, Prod.mk.injEq] at he
  obtain ⟨u, hu, rfl, rfl⟩ := he
  have hp := ev_sound ht p
  have hq := ev_sound ht q
  cases hqi : P.info? e with
  | none => simp [hqi] at hn
  | some inf =>
    have hs' : inf.size = n := by simpa [hqi] using hn
    unfold iaT at hu
    split at hu
    · rename_i y kk i e2
      rw [e2] at hq
      simp only [RepT, RepA] at hq
      split at hu
      · rename_i hc
        obtain ⟨b, off, e1, e3⟩ := faT_sound hp hu
        refine Out.same S (.inl ?_) e3
        simp only [execOp, ho, e1, hq]
        simp [Instr.indexAt, asIntOf, run_underlying hd, Instr.sureAddr, hc.1, hc.2, Go.sizeOf, typeInfo, hqi, hs', Addr.add_mid]
      · cases hu
    · cases hu

theorem op_xs (S : SimC k g la m w) (ht : ∀ i, RepT g la w (t i) (a.tmps.getD i undef)) {p q : Operand} {ty : TypeId} (ho : o.op = .index ty p q)
    (hd : P.underlying ty = some .string) (he : aev d t m (.xs (compX p) (compX q)) = some (x, m')) : Out P k g la w o a x m' := by
  simp only [aev, Option.map_eq_some_iff, Prod.mk.injEq] at he
  obtain ⟨u, hu, rfl, rfl⟩ := he
  have hp := ev_sound ht p
  have hq := ev_sound ht q
  unfold xsT at hu
  split at hu
  · rename_i s kk i e1 e2
    rw [e1] at hp; rw [e2] at hq
    simp only [RepT, RepA] at hp hq
    split at hu
    · rename_i hc
      simp only [Option.map_eq_some_iff] at hu
      obtain ⟨b, hb, rfl⟩ := hu
      refine Out.same S (v := .int .u8 b.toNat) (.inl ?_) (by simp [RepT, RepA])
      simp only [execOp, ho, hp, hq]
      simp [Instr.index, asIntOf, run_underlying hd, hc, hb]
    · cases hu
  · cases hu

theorem op_xa (S : SimC k g la m w) (ht : ∀ i, RepT g la w (t i) (a.tmps.getD i undef)) {p q : Operand} {ty e : TypeId} {len : Nat} {dd : TypeDesc} (ho : o.op = .index ty p q)
    (hd : P.underlying ty = some (.array len e)) (hn : (P.info? e).map (·.size) = some 1) (hs : P.underlying e = some dd) (hr : dd.isRow = false) (he : aev d t m (.xa len (compX p) (compX q)) = some (x, m')) : Out P k g la w o a x m' := by
  simp only [aev, Option.map_eq_some_iff, Prod.mk.injEq] at he
  obtain ⟨u, hu, rfl, rfl⟩ := he
  have hp := ev_sound ht p
  have hq := ev_sound ht q
  cases hqi : P.info? e with
  | none => simp [hqi] at hn
  | some inf =>
    have hs' : inf.size = 1 := by simpa [hqi] using hn
    unfold xaT at hu
    split at hu
    · rename_i cs kk i e1 e2
      rw [e1] at hp; rw [e2] at hq
      simp only [RepT, RepA] at hp hq
      obtain ⟨vs, e3, hrl⟩ := hp
      split at hu
      · rename_i hc
        obtain ⟨v, hv, hv2⟩ := hrl.get _ u hu
        refine Out.same S (v := v) (.inl ?_) hv2
        have hl := run_isAgg hs w
        rw [hr] at hl
        simp only [execOp, ho, e3, hq]
        simp [Instr.index, asIntOf, run_underlying hd, hc.1, hc.2, Go.sizeOf, typeInfo, hqi, hs', part, hl, hv]
      · cases hu
    · cases hu

theorem op_nc (S : SimC k g la m w) (ht : ∀ i, RepT g la w (t i) (a.tmps.getD i undef)) {p : Operand} (ho : o.op = .nilCheck p)
    (he : aev d t m (.nc (compX p)) = some (x, m')) : Out P k g la w o a x m' := by
  simp only [aev, Option.map_eq_some_iff, Prod.mk.injEq] at he
  obtain ⟨u, hu, rfl, rfl⟩ := he
  have hp := ev_sound ht p
  have : ∃ ad, a.eval p = .pointer (some ad) ∧ u = ev t (compX p) := by
    unfold ncT at hu
    split at hu <;> rename_i e1 <;> (try cases hu) <;> rw [e1] at hp
    · simp only [RepT, RepA] at hp; obtain ⟨b, _, e⟩ := hp; exact ⟨_, e, e1.symm⟩
    · obtain ⟨b, _, e⟩ := hp; exact ⟨_, e, e1.symm⟩
    · obtain ⟨b, _, _, e, _⟩ := hp; exact ⟨_, e, e1.symm⟩
  obtain ⟨ad, e, rfl⟩ := this
  refine Out.same S (v := a.eval p) (.inl ?_) hp
  simp only [execOp, ho, e]
  simp

end
end SL
