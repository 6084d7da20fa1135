import Derived.Test.YtgkiaoodalnceaaDoorClSlG
/- The simulation logic, part H: append, copy, slices and strings cut, conversions, functions and interfaces made. -/
namespace SL
open Go
set_option linter.unusedVariables false
set_option linter.unusedSimpArgs false

section
variable {P : Program} {k : K} {g : G} {la : La} {m m' : Mem} {w : World} {a : Act} {t : Nat → TV} {o : Oper} {d : Nat} {x : TV}

/-- What an append or a copy takes from a value. -/
structure SrcOK (P : Program) (w : World) (sz : Nat) (v : Value) (n : Nat) (vals : List Value) : Prop where
  len : ∀ w' : World, (Builtin.lenOf v).run P w' = .ok n w'
  cells : ∀ j, j ≤ n → (Builtin.firstCells sz j v).run P w = .ok (vals.take (j * sz)).toArray w
  cellsD : ∀ j, j ≤ n → (Builtin.firstCells sz j v).run P w.drew = .ok (vals.take (j * sz)).toArray w.drew

theorem srcOK_slice {sz b off n cap : Nat} {vals : List Value} (hr : w.rangeAt b off vals) (hl : vals.length = n * sz) : SrcOK P w sz (.slice (some ⟨b, off, none⟩) n cap) n vals := by
  have key : ∀ (w' : World), (∀ x, w'.cell? x = w.cell? x) → ∀ j, j ≤ n → (Builtin.firstCells sz j (.slice (some ⟨b, off, none⟩) n cap)).run P w' = .ok (vals.take (j * sz)).toArray w' := by
    intro w' hw j hj
    have hle : j * sz ≤ n * sz := Nat.mul_le_mul_right _ hj
    exact run_firstCells_some w' sz j ⟨b, off, none⟩ n cap (vals.take (j * sz)) (by rw [List.length_take, hl, Nat.min_eq_left hle]) (fun i v hv => by
      rw [Addr.add_mid, hw]
      rw [List.getElem?_take] at hv
      split at hv
      · exact hr i v hv
      · cases hv)
  exact ⟨fun _ => rfl, key w (fun _ => rfl), key w.drew (fun _ => rfl)⟩

theorem Row.range {b : Nat} {c : Array Value} (h : Row w b c) (off n : Nat) : w.rangeAt b off ((c.toList.drop off).take n) := by
  intro j u hu
  rw [h.cell]
  rw [List.getElem?_take] at hu
  split at hu
  · rw [List.getElem?_drop] at hu; simpa using hu
  · cases hu

theorem firstCells_str (s : ByteArray) (j : Nat) (hj : j ≤ s.size) (w' : World) : (Builtin.firstCells 1 j (.string s)).run P w' = .ok ((s.data.toList.map fun b => Value.int .u8 b.toNat).take (j * 1)).toArray w' := by
  simp only [Builtin.firstCells, Sem.run_pure, Nat.mul_one]
  congr 1
  apply Array.ext'
  rw [Array.toList_map, ← List.map_take]
  congr 1
  simp [ByteArray.data_extract]

theorem srcT_sound (S : SimC k g la m w) {sz n : Nat} {y : TV} {v : Value} {news : List TV} (hp : RepT g la w y v) (h : srcT sz m y = some (n, news)) (hl : news.length = n * sz) (hsz : 0 < sz) :
    ∃ vals, SrcOK P w sz v n vals ∧ RepTL g la w news vals := by
  unfold srcT at h
  split at h
  · rename_i s
    simp only [RepT, RepA] at hp
    simp only [Option.some.injEq, Prod.mk.injEq] at h
    obtain ⟨rfl, rfl⟩ := h
    subst hp
    have hss : s.data.toList.length = s.size := rfl
    simp only [List.length_map, hss] at hl
    have hone : sz = 1 ∨ s.size = 0 := by
      rcases Nat.eq_zero_or_pos s.size with h0 | h0
      · exact .inr h0
      · exact .inl (Nat.eq_of_mul_eq_mul_left h0 (by omega))
    refine ⟨s.data.toList.map fun b => .int .u8 b.toNat, ⟨fun _ => rfl, ?_, ?_⟩, ?_⟩
    · intro j hj
      rcases hone with rfl | h0
      · exact firstCells_str s j hj w
      · have : j = 0 := by omega
        subst this
        simp [Builtin.firstCells]
    · intro j hj
      rcases hone with rfl | h0
      · exact firstCells_str s j hj w.drew
      · have : j = 0 := by omega
        subst this
        simp [Builtin.firstCells]
    · have := repScT g la w (s.data.toList.map fun b => Value.int .u8 b.toNat)
      rw [List.map_map] at this
      exact this
  · simp only [RepT, RepA] at hp
    simp only [Option.some.injEq, Prod.mk.injEq] at h
    obtain ⟨rfl, rfl⟩ := h
    subst hp
    refine ⟨[], ⟨fun _ => rfl, ?_, ?_⟩, rfl⟩
    · intro j hj; simpa using run_firstCells_none w sz j 0 0
    · intro j hj; simpa using run_firstCells_none w.drew sz j 0 0
  · rename_i es
    simp only [RepT, RepA] at hp
    simp only [Option.some.injEq, Prod.mk.injEq] at h
    obtain ⟨rfl, rfl⟩ := h
    obtain ⟨ad, len, cap, rfl, rfl, _, hr⟩ := hp
    rcases hr with rfl | ⟨b, off, vs, rfl, hpin, hr⟩
    · refine ⟨[], ⟨fun _ => rfl, ?_, ?_⟩, by simp [RepTL]⟩
      · intro j hj
        have : j = 0 := by simpa using hj
        subst this
        cases ad <;> simp [Builtin.firstCells, loadCells, loadCellsFrom]
      · intro j hj
        have : j = 0 := by simpa using hj
        subst this
        cases ad <;> simp [Builtin.firstCells, loadCells, loadCellsFrom]
    · have hr' := RepLL.flat.1 hr
      refine ⟨vs, srcOK_slice hpin.2 (by rw [RepL.length hr', ← hl, List.length_map]), RepTL.ofL hr'⟩
  · rename_i b0 sz' off len
    simp only [RepT, RepA] at hp
    simp only [Option.bind_eq_some_iff, Option.ite_none_right_eq_some, Option.some.injEq, Prod.mk.injEq] at h
    obtain ⟨cs, hm, ⟨rfl, hc⟩, rfl, rfl⟩ := h
    obtain ⟨b, cap, hb, rfl, _⟩ := hp
    obtain ⟨b', c, h1, h2, h3, h4⟩ := S.hs.mem _ cs hm
    rw [hb] at h1; cases h1
    have hle := RepL.toArrTake h4
    have e : ((c.toList.take cs.length).drop off).take (len * sz') = (c.toList.drop off).take (len * sz') := by
      rw [List.drop_take, List.take_take, Nat.min_eq_left (by omega)]
    refine ⟨(c.toList.drop off).take (len * sz'), srcOK_slice (h3.range off _) (by simp; omega), ?_⟩
    rw [← e]
    exact RepTL.ofL (RepL.take _ (RepL.drop _ h4))
  · rename_i s ver sz' len
    simp only [Option.bind_eq_some_iff, Option.ite_none_right_eq_some, Option.some.injEq, Prod.mk.injEq] at h
    obtain ⟨cs, hm, ⟨rfl, hc⟩, rfl, rfl⟩ := h
    obtain ⟨b, cap, hb, rfl, _⟩ := hp
    obtain ⟨b', c, h1, h3, h4⟩ := S.get hm
    rw [hb] at h1; cases h1
    have hle := RepTL.toArrTake h4
    have e : ((c.toList.take cs.length)).take (len * sz') = c.toList.take (len * sz') := by
      rw [List.take_take, Nat.min_eq_left (by omega)]
    have hra := h3.range 0 (len * sz')
    simp only [List.drop_zero] at hra
    refine ⟨c.toList.take (len * sz'), srcOK_slice hra (by simp; omega), ?_⟩
    rw [← e]
    exact h4.take _
  · cases h

theorem SrcOK.src {sz n : Nat} {v : Value} {vals : List Value} {tx : TypeId} (h : SrcOK P w sz v n vals) (hk : (∃ e', P.underlying tx = some (.slice e')) ∨ P.underlying tx = some .string) (hl : vals.length = n * sz) (h1 : ∀ u ∈ vals, u.oneCell' = true) :
    Src P sz tx v n vals w := by
  have c := h.cells n (Nat.le_refl _)
  have cd := h.cellsD n (Nat.le_refl _)
  rw [List.take_of_length_le (by omega)] at c cd
  exact ⟨hk, h.len, c, cd, hl, h1⟩

theorem upd_upd {α : Type} (f : Nat → α) (s : Nat) (x y : α) : upd (upd f s x) s y = upd f s y := by
  funext e; simp only [upd]; split <;> rfl

theorem run_append_nil0 {ty tx ty' e : TypeId} {i : TypeInfo} {v : Value} {vals : List Value} (hd : P.underlying ty = some (.slice e)) (hi : P.info? e = some i) (hs : Src P i.size tx v 0 vals w) :
    (Builtin.append_ #[ty, tx] ty' #[.slice none 0 0, v]).run P w = .ok (.slice none 0 0) w := by
  have hv : vals = [] := by have := hs.newsLen; simpa using this
  subst hv
  rcases hs.kind with ⟨e', hk⟩ | hk <;> simp [Builtin.append_, run_underlying hd, run_underlying hk, Go.sizeOf, typeInfo, hi, hs.len, hs.cells]

theorem grown_row {e : TypeId} {i : TypeInfo} {z : Value} {olds news : List Value} {ln n cap sz : Nat} (hz : z.cells.size = sz) (ho : olds.length = ln * sz) (hn : news.length = n * sz) (hge : ln + n ≤ cap) :
    let c := (olds ++ news).toArray ++ Builtin.zeroCells z.cells (cap - (ln + n))
    Row (w.drew.alloc (.cells c e)) w.heap.size c ∧ c.size = cap * sz ∧ c.toList.take ((ln + n) * sz) = olds ++ news ∧ Turn w (w.drew.alloc (.cells c e)) none := by
  intro c
  have h1 : (olds ++ news).length = (ln + n) * sz := by rw [List.length_append, ho, hn, Nat.add_mul]
  refine ⟨row_new w.drew c e, ?_, ?_, (Turn.alloc w.drew _).drew⟩
  · show ((olds ++ news).toArray ++ Builtin.zeroCells z.cells (cap - (ln + n))).size = cap * sz
    rw [Array.size_append, size_zeroCells, hz]
    simp only [List.size_toArray, h1, ← Nat.add_mul]
    congr 1
    omega
  · show ((olds ++ news).toArray ++ Builtin.zeroCells z.cells (cap - (ln + n))).toList.take ((ln + n) * sz) = olds ++ news
    rw [Array.toList_append, ← h1]
    exact List.take_left

theorem op_ap (S : SimC k g la m w) (ht : ∀ i, RepT g la w (t i) (a.tmps.getD i undef)) {ty tx e : TypeId} {p q : Operand} {pp : Nat} {i : TypeInfo} {z : Value} (ho : o.op = .call { callee := .builtin .append, args := #[p, q], argTypes := #[ty, tx] })
    (hd : P.underlying ty = some (.slice e)) (hk : (∃ e', P.underlying tx = some (.slice e')) ∨ P.underlying tx = some .string) (hi : P.info? e = some i) (hz : i.zero = some z) (hzs : z.cells.size = i.size)
    (he : aev d t m (.ap pp i.size i.bytes (compX p) (compX q)) = some (x, m')) : Out P k g la w o a x m' := by
  simp only [aev, apT, Option.bind_eq_some_iff, Prod.exists] at he
  obtain ⟨n, news, hsrc, he⟩ := he
  have hp := ev_sound ht p
  have hq := ev_sound ht q
  split at he
  · rename_i hc0
    obtain ⟨hnl, hone, hsz⟩ := hc0
    obtain ⟨vals, s1, s2⟩ := srcT_sound (P := P) S hq hsrc hnl hsz
    have hvl : vals.length = n * i.size := by rw [s2.length, hnl]
    have hsc := s1.src hk hvl (oneCells_of s2 hone)
    have red : ∀ {v : Value} {w' : World}, (Builtin.append_ #[ty, tx] o.type #[a.eval p, a.eval q]).run P w = .ok v w' → Runs P o a w v w' := by
      intro v w' hr
      refine .inl ?_
      simp only [execOp, ho]
      simp [resolve, invoke, builtin, hr]
    split at he
    · -- a nil slice
      rename_i e1
      rw [e1] at hp
      simp only [RepT, RepA] at hp
      split at he
      · rename_i hb
        split at he
        · rename_i h0
          subst h0
          simp only [Option.some.injEq, Prod.mk.injEq] at he
          obtain ⟨rfl, rfl⟩ := he
          refine Out.same S (v := .slice none 0 0) (red ?_) (by rw [e1]; simp [RepT, RepA])
          rw [hp]
          exact run_append_nil0 hd hi hsc
        · rename_i h0
          have hge := grownCap_ge w (0 + n) 0 e
          have hr := run_append_grow_src w ty tx o.type e i z hd hi hz none 0 0 [] (run_firstCells_none w.drew i.size 0 0 0) _ n vals hsc (by omega) (by omega) (growslice_fits (by omega) (by simpa using hb.1))
          obtain ⟨r1, r2, r3, r4⟩ := grown_row (w := w) (e := e) (i := i) (z := z) (olds := []) (news := vals) (ln := 0) (n := n) (cap := grownCap w (0 + n) 0 e) hzs (by simp) hvl hge
          simp only [Nat.zero_add] at hge r1 r2 r3 r4 hr
          obtain ⟨g', la', q1, q2, q3, q4⟩ := newSlT_sound S r4 he (Nat.le_refl _) r1 (by rw [hnl, r3]; simpa using s2) hnl r2 hge
          refine ⟨_, _, g', la', red ?_, q1, q2, q3, q4⟩
          rw [hp]
          exact hr
      · cases he
    · -- a slice of the call's own
      rename_i s ver sz' len e1
      rw [e1] at hp
      split at he
      · rename_i ver' cs hl
        split at he
        · rename_i hc
          obtain ⟨rfl, rfl, hlen, hby, h63⟩ := hc
          simp only [Option.some.injEq, Prod.mk.injEq] at he
          obtain ⟨rfl, rfl⟩ := he
          obtain ⟨b, cap, hb, e2, hcap, ty', q', hsh, hq'⟩ := hp
          obtain ⟨b', c, h1, h2, h3, h4, h5⟩ := S.mu s _ cs hl
          rw [hb] at h1; cases h1
          obtain ⟨ty2, hsh2⟩ := h4.shape
          rw [hsh] at hsh2
          cases hsh2
          have hle := RepTL.toArrTake h5
          have htk : (c.toList.take cs.length).take (len * i.size) = c.toList.take (len * i.size) := by rw [List.take_take, Nat.min_eq_left hlen]
          have h6 : RepTL g la w (cs.take (len * i.size)) (c.toList.take (len * i.size)) := by rw [← htk]; exact h5.take _
          by_cases hroom : len + n ≤ cap
          · have hfit : len * i.size + n * i.size ≤ c.size := by rw [← hq', ← Nat.add_mul]; exact Nat.mul_le_mul_right _ hroom
            have hr := run_append_room_src w ty tx o.type e i hd hi b 0 len cap _ n vals hsc hroom (fun j hj => by rw [h4.cell]; simp; omega) (fun j hj => h4.thaw _ (by omega))
            simp only [Nat.zero_add] at hr
            obtain ⟨c', r1, r2, r3⟩ := setCells_row b vals (len * i.size) w c h4 (by omega)
            have hlc : (cs.take (len * i.size) ++ news).length = len * i.size + n * i.size := by simp [hnl]; omega
            have hc' : c'.toList.take (len * i.size + n * i.size) = c.toList.take (len * i.size) ++ vals := by
              rw [r2]
              unfold splice
              have : (c.toList.take (len * i.size) ++ vals).length = len * i.size + n * i.size := by simp [hvl]; omega
              rw [← this]
              exact List.take_left
            have h7 : RepTL g la w (cs.take (len * i.size) ++ news) (c'.toList.take (cs.take (len * i.size) ++ news).length) := by
              rw [hlc, hc']; exact h6.append s2
            obtain ⟨S1, l1⟩ := S.write_l hl hb r3 r1 h7
            have S2 := S1.kill_l s
            have f4 := S.disj s _ cs b hl hb
            have S3 := S2.add_l d r1 (h7.mono l1 (LLe.refl _)) (by
              intro s' v' ds hne hs' hla
              by_cases es : s' = s
              · subst es; simp only [upd_eq] at hs'; cases hs'
              · simp only [upd_ne _ _ _ _ es] at hs'
                exact es (S.inj s' v' ds s _ cs b hs' hl hla hb)) f4 h2 h3
            have ll := laSet_le S1 d b
            refine ⟨_, _, g, laSet la d m.c b, red (by rw [e2]; exact hr), ⟨b, cap, by simp [laSet], rfl, hroom, ?_⟩, ?_, l1, ll⟩
            · obtain ⟨t3, hs3⟩ := r1.shape
              refine ⟨t3, _, hs3, ?_⟩
              have := congrArg List.length r2
              rw [splice_length _ _ _ (by simp; omega)] at this
              simp at this
              omega
            · have := S3
              simp only [upd_upd] at this
              exact this
          · have hge := grownCap_ge w (len + n) cap e
            have hold : (Builtin.firstCells i.size len (.slice (some ⟨b, 0, none⟩) len cap)).run P w.drew = .ok (c.toList.take (len * i.size)).toArray w.drew :=
              run_firstCells_some w.drew i.size len ⟨b, 0, none⟩ len cap _ (by simp; omega) (fun j v hv => by
                rw [Addr.add_mid]
                have := h4.range 0 (len * i.size) j v (by simpa using hv)
                simpa using this)
            have hr := run_append_grow_src w ty tx o.type e i z hd hi hz (some ⟨b, 0, none⟩) len cap _ hold _ n vals hsc (by omega) (by omega) (growslice_fits (by omega) hby)
            obtain ⟨r1, r2, r3, r4⟩ := grown_row (w := w) (e := e) (i := i) (z := z) (olds := c.toList.take (len * i.size)) (news := vals) (ln := len) (n := n) (cap := grownCap w (len + n) cap e) hzs (by simp; omega) hvl hge
            have S2 := S.kill_l s
            have hlc : (cs.take (len * i.size) ++ news).length = (len + n) * i.size := by simp [hnl, Nat.add_mul]; omega
            obtain ⟨S3, l3, ll3, e3⟩ := newL_sound S2 r4 d (Nat.le_refl _) r1 (cs := cs.take (len * i.size) ++ news) (by rw [hlc, r3]; exact h6.append s2)
            obtain ⟨t3, hs3⟩ := r1.shape
            exact ⟨_, _, g, _, red (by rw [e2]; exact hr), ⟨w.heap.size, _, e3, rfl, hge, t3, _, hs3, r2.symm⟩, S3, l3, ll3⟩
        · cases he
      · cases he
    · -- a slice in the heap
      rename_i b0 sz' off len e1
      rw [e1] at hp
      simp only [Option.bind_eq_some_iff, Prod.exists] at he
      obtain ⟨as, m1, has, cs, hm, he⟩ := he
      split at he
      · rename_i hc
        obtain ⟨rfl, rfl, hlen, hby, h63⟩ := hc
        simp only [Option.some.injEq, Prod.mk.injEq] at he
        obtain ⟨rfl, rfl⟩ := he
        simp only [RepT, RepA] at hp
        obtain ⟨b, cap, hb, e2, hcap, ty', q', hsh, hq'⟩ := hp
        obtain ⟨g1, s3, S1, l1⟩ := fzs_sound S s2 has
        have hasl : as.length = n * i.size := by rw [fzs_length has, hnl]
        have hb1 := l1.rho _ _ hb
        obtain ⟨b', c, h1, h2, h4, h5⟩ := S1.hs.mem b0 cs hm
        rw [hb1] at h1; cases h1
        obtain ⟨ty2, hsh2⟩ := h4.shape
        rw [hsh] at hsh2
        cases hsh2
        have hle := RepL.toArrTake h5
        have htk : (c.toList.take cs.length).take (len * i.size) = c.toList.take (len * i.size) := by rw [List.take_take, Nat.min_eq_left hlen]
        have h6 : RepL g1 w (cs.take (len * i.size)) (c.toList.take (len * i.size)) := by rw [← htk]; exact RepL.take _ h5
        have hlb : live g1 m1.h b := ⟨b0, cs, hm, hb1⟩
        simp only [Nat.zero_add] at hq'
        by_cases hroom : len + n ≤ cap
        · have hfit : len * i.size + n * i.size ≤ c.size := by rw [← hq', ← Nat.add_mul]; exact Nat.mul_le_mul_right _ hroom
          have hr := run_append_room_src w ty tx o.type e i hd hi b 0 len cap _ n vals hsc hroom (fun j hj => by rw [h4.cell]; simp; omega) (fun j hj => h4.thaw _ (by omega))
          simp only [Nat.zero_add] at hr
          obtain ⟨c', r1, r2, r3⟩ := setCells_row b vals (len * i.size) w c h4 (by omega)
          have hlc : (cs.take (len * i.size) ++ as).length = len * i.size + n * i.size := by simp [hasl]; omega
          have hc' : c'.toList.take (len * i.size + n * i.size) = c.toList.take (len * i.size) ++ vals := by
            rw [r2]
            unfold splice
            have : (c.toList.take (len * i.size) ++ vals).length = len * i.size + n * i.size := by simp [hvl]; omega
            rw [← this]
            exact List.take_left
          have h7 : RepL g1 w (cs.take (len * i.size) ++ as) (c'.toList.take (cs.take (len * i.size) ++ as).length) := by
            rw [hlc, hc']; exact h6.append s3
          obtain ⟨S2, l2⟩ := S1.write_h hm hb1 r3 r1 h7
          have S3 := S2.kill_h b0
          simp only [upd_upd] at S3
          have f2 : ¬ live g1 ⟨upd m1.h.m b0 none, m1.h.nx⟩ b := by
            rintro ⟨y, ds, hy, hy2⟩
            by_cases ey : y = b0
            · subst ey; simp only [upd_eq] at hy; cases hy
            · simp only [upd_ne _ _ _ _ ey] at hy
              exact ey (S1.hs.inj y b0 ds cs b hy hm hy2 hb1)
          have f4 : k.w.heap.size ≤ b ∨ live k.g k.h b := by
            rcases Nat.lt_or_ge b k.w.heap.size with hlt | hge
            · exact .inr (S1.ext.own b hlt hlb)
            · exact .inl hge
          have S4 := S3.add_h r1 (RepL.mono l2 _ _ h7) (fun s v ds hs hla => S1.disj s v ds b hs hla hlb) f2 h2 f4
          have lg := gSet_le S3 b
          refine ⟨_, _, gSet g1 m1.h.nx b, la, red (by rw [e2]; exact hr), ?_, S4, (l1.trans l2).trans lg, LLe.refl _⟩
          simp only [RepT, RepA]
          refine ⟨b, cap, by simp [gSet, upd_eq], rfl, hroom, ?_⟩
          obtain ⟨t3, hs3⟩ := r1.shape
          refine ⟨t3, _, hs3, ?_⟩
          have := congrArg List.length r2
          rw [splice_length _ _ _ (by simp; omega)] at this
          simp at this
          omega
        · have hge := grownCap_ge w (len + n) cap e
          have hold : (Builtin.firstCells i.size len (.slice (some ⟨b, 0, none⟩) len cap)).run P w.drew = .ok (c.toList.take (len * i.size)).toArray w.drew :=
            run_firstCells_some w.drew i.size len ⟨b, 0, none⟩ len cap _ (by simp; omega) (fun j v hv => by
              rw [Addr.add_mid]
              have := h4.range 0 (len * i.size) j v (by simpa using hv)
              simpa using this)
          have hr := run_append_grow_src w ty tx o.type e i z hd hi hz (some ⟨b, 0, none⟩) len cap _ hold _ n vals hsc (by omega) (by omega) (growslice_fits (by omega) hby)
          obtain ⟨r1, r2, r3, r4⟩ := grown_row (w := w) (e := e) (i := i) (z := z) (olds := c.toList.take (len * i.size)) (news := vals) (ln := len) (n := n) (cap := grownCap w (len + n) cap e) hzs (by simp; omega) hvl hge
          have S2 := S1.kill_h b0
          have hlc : (cs.take (len * i.size) ++ as).length = (len + n) * i.size := by simp [hasl, Nat.add_mul]; omega
          obtain ⟨S3, l3, e3⟩ := newH_sound S2 r4 (Nat.le_refl _) r1 (cs := cs.take (len * i.size) ++ as) (by rw [hlc, r3]; exact h6.append s3)
          obtain ⟨t3, hs3⟩ := r1.shape
          refine ⟨_, _, _, la, red (by rw [e2]; exact hr), ?_, S3, l1.trans l3, LLe.refl _⟩
          simp only [RepT, RepA]
          exact ⟨w.heap.size, _, e3, rfl, hge, t3, _, hs3, by omega⟩
      · cases he
    · cases he
  · cases he

end
end SL
