import Derived.Test.YtgkiaoodalnceaaDoorClSlF
/- The simulation logic, part G: what is made anew: variables, literals, slices; append, copy, conversions. -/
namespace SL
open Go
set_option linter.unusedVariables false
set_option linter.unusedSimpArgs false

section
variable {P : Program} {k : K} {g : G} {la : La} {m m' : Mem} {w : World} {a : Act} {t : Nat → TV} {o : Oper} {d : Nat} {x : TV}

theorem cellsO_sound {y : TV} {v : Value} {cs : List TV} (hp : RepT g la w y v) (h : cellsO y = some cs) : RepTL g la w cs v.cells.toList ∧ cs.length = v.cells.size := by
  have one : cellT y = true → cs = [y] → RepTL g la w cs v.cells.toList ∧ cs.length = v.cells.size := by
    intro h1 h2
    have h3 := oneCell_of hp h1
    have hv : v.cells = #[v] := by cases v <;> simp_all [Value.cells, Value.oneCell']
    subst h2
    rw [hv]
    exact ⟨⟨v, [], rfl, hp, rfl⟩, rfl⟩
  unfold cellsO at h
  split at h
  · rename_i as
    cases h
    simp only [RepT, RepA] at hp
    obtain ⟨vs, rfl, hr⟩ := hp
    exact ⟨by simpa [Value.cells] using RepTL.ofL hr, by simp [Value.cells, RepL.length hr]⟩
  · split at h
    · rename_i h1
      cases h
      exact one h1 rfl
    · cases h

theorem op_bx (S : SimC k g la m w) (ht : ∀ i, RepT g la w (t i) (a.tmps.getD i undef)) {p : Operand} {e : TypeId} {pp : Nat} (ho : o.op = .box e p)
    (he : aev d t m (.bx pp (compX p)) = some (x, m')) : Out P k g la w o a x m' := by
  simp only [aev, Option.bind_eq_some_iff] at he
  obtain ⟨cs, hcs, he⟩ := he
  obtain ⟨h1, h2⟩ := cellsO_sound (ev_sound ht p) hcs
  obtain ⟨g', la', r1, r2, r3, r4⟩ := newVarT_sound S (c := (a.eval p).cells) e he h1
  refine ⟨_, _, g', la', .inl ?_, r1, r2, r3, r4⟩
  simp only [execOp, ho]
  simp [Instr.box, newVar, newRow]

theorem repScT (g : G) (la : La) (w : World) (zs : List Value) : RepTL g la w (zs.map fun v => TV.v (.sc v)) zs := by
  have := RepTL.ofL (la := la) (repSc g w zs)
  rw [List.map_map] at this
  exact this

theorem op_al (S : SimC k g la m w) (ht : ∀ i, RepT g la w (t i) (a.tmps.getD i undef)) {e : TypeId} {pp : Nat} {i : TypeInfo} {z : Value} (ho : o.op = .alloc e) (hi : P.info? e = some i) (hz : i.zero = some z)
    (he : aev d t m (.al pp z.cells.toList) = some (x, m')) : Out P k g la w o a x m' := by
  simp only [aev] at he
  obtain ⟨g', la', r1, r2, r3, r4⟩ := newVarT_sound S (c := z.cells) e he (repScT g la w _)
  refine ⟨_, _, g', la', .inl ?_, r1, r2, r3, r4⟩
  simp only [execOp, ho]
  simp [Instr.alloc, zeroValue, typeInfo, hi, hz, newVar, newRow]

theorem madeCells_take (z : Array Value) (sz : Nat) (hz : z.size = sz) : ∀ (l c : Nat), l ≤ c → (madeCells z (c * sz)).toList.take (l * sz) = (List.replicate l z.toList).flatten := by
  have base : ∀ l : Nat, (List.range (l * sz)).map (fun i => z[i % z.size]!) = (List.replicate l z.toList).flatten := by
    intro l
    induction l with
    | zero => simp
    | succ l ih =>
      rw [Nat.succ_mul, Nat.add_comm, List.range_add, List.map_append, List.map_map, List.replicate_succ, List.flatten_cons, ← ih]
      congr 1
      · apply List.ext_getElem
        · simp [hz]
        · intro i h1 h2
          simp at h1
          simp [Nat.mod_eq_of_lt (show i < z.size by omega), getElem!_pos z i (by omega)]
      · apply List.map_congr_left
        intro i _
        simp [hz]
  intro l c hlc
  have hle : l * sz ≤ c * sz := Nat.mul_le_mul_right _ hlc
  simp only [madeCells, Array.toList_map, Array.toList_range, ← List.map_take, List.take_range, Nat.min_eq_left hle]
  exact base l

theorem op_ms (S : SimC k g la m w) (ht : ∀ i, RepT g la w (t i) (a.tmps.getD i undef)) {ty e : TypeId} {p q : Operand} {pp : Nat} {i : TypeInfo} {z : Value} (ho : o.op = .makeSlice ty p q) (hd : P.underlying ty = some (.slice e)) (hi : P.info? e = some i) (hz : i.zero = some z)
    (he : aev d t m (.ms pp i.size i.bytes z.cells.toList (compX p) (compX q)) = some (x, m')) : Out P k g la w o a x m' := by
  simp only [aev] at he
  have hp := ev_sound ht p
  have hq := ev_sound ht q
  unfold msT at he
  split at he
  · rename_i k1 l k2 c e1 e2
    rw [e1] at hp; rw [e2] at hq
    simp only [RepT, RepA] at hp hq
    split at he
    · rename_i hc
      obtain ⟨h0, h1, h2, h3, h4⟩ := hc
      have hzs : z.cells.size = i.size := by simpa using h4
      have hl : l.toNat ≤ c.toNat := by omega
      obtain ⟨g', la', r1, r2, r3, r4⟩ := newSlT_sound S (Turn.alloc w (.cells (madeCells z.cells (c.toNat * i.size)) e)) (cap := c.toNat) he (Nat.le_refl _) (row_new w _ e) (by
        have hlen : ((List.replicate l.toNat (z.cells.toList.map fun v => TV.v (AV.sc v))).flatten).length = l.toNat * i.size := by simp [h4]
        rw [hlen, madeCells_take z.cells i.size hzs _ _ hl]
        have e : (List.replicate l.toNat (z.cells.toList.map fun v => TV.v (AV.sc v))).flatten = ((List.replicate l.toNat z.cells.toList).flatten).map fun v => TV.v (AV.sc v) := by
          rw [List.map_flatten, List.map_replicate]
        rw [e]
        exact repScT g la w _) (by simp [h4]) (by simp [size_madeCells]) hl
      refine ⟨_, _, g', la', .inl ?_, r1, r2, r3, r4⟩
      simp only [execOp, ho, hp, hq, Sem.run_bind, Sem.run_pure]
      rw [run_make w ty e i z hd hi hz k1 k2 l c h0 h1 h2 h3]
      simp
    · cases he
  · cases he

inductive All2 {α β : Type} (R : α → β → Prop) : List α → List β → Prop
  | nil : All2 R [] []
  | cons {a b as bs} (h : R a b) (t : All2 R as bs) : All2 R (a :: as) (b :: bs)

theorem All2.imp {α β : Type} {R S : α → β → Prop} {as : List α} {bs : List β} (h : All2 R as bs) (f : ∀ a b, R a b → S a b) : All2 S as bs := by
  induction h with
  | nil => exact .nil
  | cons h _ ih => exact .cons (f _ _ h) ih

theorem fold_splice : ∀ (us : List Value) (off i : Nat) (cells : Array Value), off + i + us.length ≤ cells.size →
    (us.zipIdx i).foldl (fun cs (p : Value × Nat) => cs.setIfInBounds (off + p.2) p.1) cells = (splice (off + i) us cells.toList).toArray
  | [], off, i, cells, _ => by simp [splice_nil]
  | u :: us, off, i, cells, h => by
    simp only [List.length_cons] at h
    simp only [List.zipIdx_cons, List.foldl_cons]
    rw [fold_splice us off (i + 1) (cells.setIfInBounds (off + i) u) (by simp; omega)]
    rw [Array.toList_setIfInBounds, show off + (i + 1) = off + i + 1 by omega, splice_set (off + i) u us cells.toList (by simp; omega)]

theorem fill_step {place : Nat → Option (Nat × Nat)} {cells : Array Value} {i off sz : Nat} {v : Value} {rest : List (Nat × Value)} (hp : place i = some (off, sz)) (h1 : v.cells.size = sz) (h2 : off + sz ≤ cells.size) :
    Instr.fill place cells ((i, v) :: rest) = Instr.fill place (splice off v.cells.toList cells.toList).toArray rest := by
  have h3 : ¬ (v.cells.size ≠ sz ∨ off + v.cells.size > cells.size) := by omega
  have := fold_splice v.cells.toList off 0 cells (by simp; omega)
  simp only [Nat.add_zero] at this
  simp only [Instr.fill, hp]
  rw [if_neg (by simpa using h3)]
  congr 1
  rw [← this, ← Array.foldl_toList, Array.toList_zipIdx]

theorem fillT_sound {place : Nat → Option (Nat × Nat)} : ∀ {qs : List (Nat × Nat × TV)} {ps : List (Nat × Value)} {cs cs' : List AV} {vs : List Value},
    All2 (fun (q : Nat × Nat × TV) (p : Nat × Value) => place p.1 = some (q.1, q.2.1) ∧ RepT g la w q.2.2 p.2) qs ps → RepL g w cs vs → fillT cs qs = some cs' →
    ∃ vs', Instr.fill place vs.toArray ps = some vs'.toArray ∧ RepL g w cs' vs'
  | [], _, cs, cs', vs, .nil, hr, h => by
    simp only [fillT, Option.some.injEq] at h
    subst h
    exact ⟨vs, by simp [Instr.fill], hr⟩
  | (off, sz, y) :: qs, (i, v) :: ps, cs, cs', vs, .cons ⟨hp, hv⟩ hrest, hr, h => by
    have hl := RepL.length hr
    simp only [fillT] at h
    split at h
    · rename_i as
      split at h
      · rename_i hc
        simp only [RepT, RepA] at hv
        obtain ⟨us, rfl, hu⟩ := hv
        have hul := RepL.length hu
        rw [fill_step hp (by simp [Value.cells]; omega) (by simp; omega)]
        exact fillT_sound hrest (by simpa [Value.cells] using RepL.splice hu hr) h
      · cases h
    · cases h
    · rename_i b hb1 hb2
      split at h
      · rename_i hc
        have hce : cellA b = true := hc.2.2
        have h3 := oneCell_of hv (by simpa [cellT] using hce)
        have hvc : v.cells = #[v] := by cases v <;> simp_all [Value.cells, Value.oneCell']
        rw [fill_step hp (by simp [hvc]; omega) (by simp; omega)]
        refine fillT_sound hrest ?_ h
        rw [hvc, set_splice off b cs hc.2.1]
        exact RepL.splice (by simp only [RepL]; exact ⟨v, [], rfl, hv, rfl⟩) hr
      · cases h
    · cases h

theorem fzP_sound : ∀ {qs : List (Nat × Nat × TV)} {m : Mem} {g : G} {ps : List (Nat × Value)} {qs' : List (Nat × Nat × TV)} {m' : Mem} {place : Nat → Option (Nat × Nat)}, SimC k g la m w →
    All2 (fun (q : Nat × Nat × TV) (p : Nat × Value) => place p.1 = some (q.1, q.2.1) ∧ RepT g la w q.2.2 p.2) qs ps → fzP m qs = some (qs', m') →
    ∃ g', All2 (fun (q : Nat × Nat × TV) (p : Nat × Value) => place p.1 = some (q.1, q.2.1) ∧ RepT g' la w q.2.2 p.2) qs' ps ∧ SimC k g' la m' w ∧ GLe g w g' w
  | [], m, g, ps, qs', m', place, S, hx, h => by
    cases hx
    simp only [fzP, Option.some.injEq, Prod.mk.injEq] at h
    obtain ⟨rfl, rfl⟩ := h
    exact ⟨g, .nil, S, GLe.refl _ _⟩
  | (o, s, x) :: qs, m, g, _, qs', m', place, S, .cons ⟨h1, h2⟩ hr, h => by
    simp only [fzP, Option.bind_eq_some_iff, Option.map_eq_some_iff, Prod.exists, Prod.mk.injEq] at h
    obtain ⟨a, m1, e1, as', m2, e2, rfl, rfl⟩ := h
    obtain ⟨g1, r1, S1, l1⟩ := fz_sound S h2 e1
    have hr1 := hr.imp (fun q p (h : place p.1 = some (q.1, q.2.1) ∧ RepT g la w q.2.2 p.2) => (⟨h.1, h.2.mono l1 (LLe.refl _)⟩ : place p.1 = some (q.1, q.2.1) ∧ RepT g1 la w q.2.2 p.2))
    obtain ⟨g2, r2, S2, l2⟩ := fzP_sound S1 hr1 e2
    exact ⟨g2, .cons ⟨h1, RepA.mono l2 _ _ r1⟩ r2, S2, l1.trans l2⟩

/-- A literal of a struct or an array. -/
theorem op_bd (S : SimC k g la m w) (ht : ∀ i, RepT g la w (t i) (a.tmps.getD i undef)) {ty : TypeId} {ps : Array (Nat × Operand)} {qs : List (Nat × Nat × Opd)} {i : TypeInfo} {z : Value} {place : Nat → Option (Nat × Nat)} (ho : o.op = .build ty ps) (hi : P.info? ty = some i) (hz : i.zero = some z)
    (hq : All2 (fun (q : Nat × Nat × Opd) (p : Nat × Operand) => place p.1 = some (q.1, q.2.1) ∧ q.2.2 = compX p.2) qs ps.toList)
    (hrun : ∀ cells, Instr.fill place z.cells (ps.toList.map fun p => (p.1, a.eval p.2)) = some cells → (Instr.build ty (ps.map fun (i, x) => (i, a.eval x))).run P w = .ok (.agg cells) w)
    (he : aev d t m (.bd z.cells.toList qs) = some (x, m')) : Out P k g la w o a x m' := by
  simp only [aev, Option.bind_eq_some_iff, Option.map_eq_some_iff, Prod.exists, Prod.mk.injEq] at he
  obtain ⟨qs', m1, h1, cs, h2, rfl, rfl⟩ := he
  have hf : All2 (fun (q : Nat × Nat × TV) (p : Nat × Value) => place p.1 = some (q.1, q.2.1) ∧ RepT g la w q.2.2 p.2) (qs.map fun (o, s, x) => (o, s, ev t x)) (ps.toList.map fun p => (p.1, a.eval p.2)) := by
    have : ∀ {qs : List (Nat × Nat × Opd)} {l : List (Nat × Operand)}, All2 (fun (q : Nat × Nat × Opd) (p : Nat × Operand) => place p.1 = some (q.1, q.2.1) ∧ q.2.2 = compX p.2) qs l →
        All2 (fun (q : Nat × Nat × TV) (p : Nat × Value) => place p.1 = some (q.1, q.2.1) ∧ RepT g la w q.2.2 p.2) (qs.map fun (o, s, x) => (o, s, ev t x)) (l.map fun p => (p.1, a.eval p.2)) := by
      intro qs l h
      induction h with
      | nil => exact .nil
      | cons h _ ih =>
        obtain ⟨h1, h2⟩ := h
        exact .cons ⟨h1, by show RepT g la w (ev t _) (a.eval _); rw [h2]; exact ev_sound ht _⟩ ih
    exact this hq
  obtain ⟨g1, r1, S1, l1⟩ := fzP_sound S hf h1
  obtain ⟨vs', e1, e2⟩ := fillT_sound r1 (repSc g1 w z.cells.toList) h2
  refine ⟨.agg vs'.toArray, w, g1, la, .inl ?_, ?_, S1, l1, LLe.refl _⟩
  · simp only [execOp, ho, Sem.run_bind]
    rw [hrun _ (by simpa using e1)]
    simp
  · simp only [RepT, RepA]
    exact ⟨_, rfl, e2⟩

theorem fill_rows {sz : Nat} : ∀ {xs : List TV} {vs : List Value} {cs : List TV} (j : Nat) (pre junk : List Value), RepTL g la w xs vs → bsC sz xs = some cs → pre.length = j * sz → junk.length = xs.length * sz →
    ∃ us, Instr.fill (fun i => some (i * sz, sz)) (pre ++ junk).toArray (vs.zipIdx j |>.map fun p => (p.2, p.1)) = some (pre ++ us).toArray ∧ RepTL g la w cs us ∧ cs.length = xs.length * sz
  | [], vs, cs, j, pre, junk, h, hb, hp, hj => by
    simp only [RepTL] at h
    simp only [bsC, Option.some.injEq] at hb
    subst h; subst hb
    have : junk = [] := by simpa using hj
    subst this
    exact ⟨[], by simp [Instr.fill], rfl, by simp⟩
  | y :: xs, _, cs, j, pre, junk, ⟨v, vs, rfl, hv, hr⟩, hb, hp, hj => by
    simp only [bsC, Option.bind_eq_some_iff] at hb
    obtain ⟨ys, hys, hb⟩ := hb
    split at hb
    · rename_i hlen
      simp only [Option.map_eq_some_iff] at hb
      obtain ⟨cs', hcs', rfl⟩ := hb
      obtain ⟨c1, c2⟩ := cellsO_sound hv hys
      simp only [List.length_cons, Nat.succ_mul] at hj
      simp only [List.zipIdx_cons, List.map_cons]
      rw [fill_step (i := j) (off := j * sz) (sz := sz) rfl (by omega) (by simp; omega)]
      have e : (splice (j * sz) v.cells.toList (pre ++ junk).toArray.toList) = (pre ++ v.cells.toList) ++ junk.drop sz := by
        unfold splice
        simp only [List.toList_toArray]
        rw [← hp, List.take_left, List.drop_append, List.drop_of_length_le (by omega)]
        simp only [List.nil_append, Nat.add_sub_cancel_left]
        congr 2
        simp; omega
      simp only [e]
      obtain ⟨us, r1, r2, r3⟩ := fill_rows (j + 1) (pre ++ v.cells.toList) (junk.drop sz) hr hcs' (by simp [Nat.succ_mul]; omega) (by simp; omega)
      refine ⟨v.cells.toList ++ us, by rw [r1, List.append_assoc], c1.append r2, ?_⟩
      simp [r3, Nat.succ_mul]; omega
    · cases hb

theorem run_buildSlice {ty e : TypeId} {i : TypeInfo} {z : Value} {len : Nat} {parts : Array (Nat × Value)} {cells : Array Value} (hd : P.underlying ty = some (.slice e)) (hi : P.info? e = some i) (hz : i.zero = some z) (hsm : len * i.size ≤ 16777216)
    (hf : Instr.fill (fun j => some (j * i.size, i.size)) ((Array.range (len * i.size)).map ((if len * i.size = 0 then (#[] : Array Value) else z.cells)[· % (if len * i.size = 0 then (#[] : Array Value) else z.cells).size]!)) parts.toList = some cells) :
    (Instr.buildSlice ty len parts).run P w = .ok (.slice (some ⟨w.heap.size, 0, none⟩) len len) (w.alloc (.cells cells e)) := by
  have hsm' : ¬ 2 ^ 24 < len * i.size := by omega
  have rs : (Go.sizeOf e).run P w = .ok i.size w := by simp [Go.sizeOf, typeInfo, hi]
  have rz : (zeroValue e).run P w = .ok z w := by simp [zeroValue, typeInfo, hi, hz]
  unfold Instr.buildSlice
  by_cases h0 : len * i.size = 0
  · simp only [h0, if_true] at hf hsm'
    simp only [Sem.run_bind, run_underlying hd, Result.andThen_ok, rs, h0, if_true, Sem.run_pure, hsm', if_false, hf, gt_iff_lt]
    simp [newRow]
  · simp only [h0, if_false] at hf
    simp only [Sem.run_bind, run_underlying hd, Result.andThen_ok, rs, h0, if_false, Sem.run_pure, hsm', rz, hf, gt_iff_lt]
    simp [newRow]

theorem op_bs (S : SimC k g la m w) (ht : ∀ i, RepT g la w (t i) (a.tmps.getD i undef)) {ty e : TypeId} {ps : Array (Nat × Operand)} {xs : List Operand} {pp len : Nat} {i : TypeInfo} {z : Value} (ho : o.op = .buildSlice ty len ps) (hd : P.underlying ty = some (.slice e)) (hi : P.info? e = some i) (hz : i.zero = some z)
    (hps : ps.toList = xs.zipIdx.map fun p => (p.2, p.1)) (hlen : len = xs.length) (he : aev d t m (.bs pp i.size (xs.map compX)) = some (x, m')) : Out P k g la w o a x m' := by
  simp only [aev, Option.bind_eq_some_iff, List.length_map] at he
  obtain ⟨cs, hcs, he⟩ := he
  split at he
  · rename_i hsm
    have hv := evs_sound ht xs
    obtain ⟨us, r1, r2, r3⟩ := fill_rows 0 [] (((Array.range (len * i.size)).map ((if len * i.size = 0 then (#[] : Array Value) else z.cells)[· % (if len * i.size = 0 then (#[] : Array Value) else z.cells).size]!)).toList) hv hcs (by simp) (by simp [hlen])
    have hul := r2.length
    simp only [List.length_map] at r3
    have hrow : us.length = len * i.size := by rw [hul, r3, hlen]
    obtain ⟨g', la', q1, q2, q3, q4⟩ := newSlT_sound S (Turn.alloc w (.cells us.toArray e)) (cap := len) (c := us.toArray) he (Nat.le_refl _) (row_new w _ e) (by rw [List.toList_toArray, List.take_of_length_le (by omega)]; exact r2) r3 (by simpa using hrow) (by omega)
    refine ⟨_, _, g', la', .inl ?_, by rw [← hlen] at q1; exact q1, q2, q3, q4⟩
    have hparts : (ps.map fun (p : Nat × Operand) => (p.1, a.eval p.2)).toList = (xs.map a.eval).zipIdx.map fun p => (p.2, p.1) := by
      rw [Array.toList_map, hps, List.map_map, List.zipIdx_map, List.map_map]
      rfl
    simp only [List.nil_append, Array.toArray_toList] at r1
    rw [← hparts] at r1
    simp only [execOp, ho, Sem.run_bind]
    rw [run_buildSlice hd hi hz (by rw [hlen]; exact hsm) r1]
    simp
  · cases he

end
end SL
