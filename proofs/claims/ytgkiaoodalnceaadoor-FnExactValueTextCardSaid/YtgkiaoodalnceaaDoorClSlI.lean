import Derived.Test.YtgkiaoodalnceaaDoorClSlH
/- The simulation logic, part I: copy, slices and strings cut, conversions, functions and interfaces made. -/
namespace SL
open Go
set_option linter.unusedVariables false
set_option linter.unusedSimpArgs false

section
variable {P : Program} {k : K} {g : G} {la : La} {m m' : Mem} {w : World} {a : Act} {t : Nat → TV} {o : Oper} {d : Nat} {x : TV}

theorem run_copy {dT sT ty e : TypeId} {i : TypeInfo} {base : Option Addr} {dLen dCap n : Nat} {v : Value} {vals : List Value} {w' : World} (hd : P.underlying dT = some (.slice e)) (hi : P.info? e = some i) (hs : SrcOK P w i.size v n vals)
    (hst : base = none ∧ w' = w ∨ ∃ ad, base = some ad ∧ (storeCells ad (vals.take (min n dLen * i.size))).run P w = .ok () w') :
    (Builtin.copy_ #[dT, sT] ty #[.slice base dLen dCap, v]).run P w = .ok (goInt (min n dLen : Nat)) w' := by
  have hc := hs.cells (min n dLen) (Nat.min_le_left _ _)
  have hmin : Nat.min n dLen = min n dLen := rfl
  rcases hst with ⟨rfl, rfl⟩ | ⟨ad, rfl, hst⟩
  · simp [Builtin.copy_, run_underlying hd, hs.len, Go.sizeOf, typeInfo, hi, hmin, hc]
  · simp [Builtin.copy_, run_underlying hd, hs.len, Go.sizeOf, typeInfo, hi, hmin, hc, hst]

theorem op_cp (S : SimC k g la m w) (ht : ∀ i, RepT g la w (t i) (a.tmps.getD i undef)) {ty tx e : TypeId} {p q : Operand} {i : TypeInfo} (ho : o.op = .call { callee := .builtin .copy, args := #[p, q], argTypes := #[ty, tx] })
    (hd : P.underlying ty = some (.slice e)) (hi : P.info? e = some i)
    (he : aev d t m (.cp i.size (compX p) (compX q)) = some (x, m')) : Out P k g la w o a x m' := by
  simp only [aev, cpT, Option.bind_eq_some_iff, Prod.exists] at he
  obtain ⟨n, news, hsrc, he⟩ := he
  have hp := ev_sound ht p
  have hq := ev_sound ht q
  split at he
  · rename_i hc0
    obtain ⟨hnl, hone, hsz⟩ := hc0
    obtain ⟨vals, s1, s2⟩ := srcT_sound (P := P) S hq hsrc hnl hsz
    have hvl : vals.length = n * i.size := by rw [s2.length, hnl]
    have h1c := oneCells_of s2 hone
    have red : ∀ {v : Value} {w' : World}, (Builtin.copy_ #[ty, tx] o.type #[a.eval p, a.eval q]).run P w = .ok v w' → Runs P o a w v w' := by
      intro v w' hr
      refine .inl ?_
      simp only [execOp, ho]
      simp [resolve, invoke, builtin, hr]
    have store : ∀ (b off : Nat) (us : List Value), (∀ u ∈ us, u.oneCell' = true) → w.there b off us.length → (storeCells ⟨b, off, none⟩ us).run P w = .ok () (w.setCells b off us) := by
      intro b off us h1 hth
      have := run_storeCells_cells (P := P) b off us 0 w (fun j hj => by simpa using (hth j hj).1) (fun j hj => by simpa using (hth j hj).2) h1
      simpa using this
    split at he
    · rename_i b0 sz' off len e1
      rw [e1] at hp
      simp only [Option.bind_eq_some_iff, Prod.exists] at he
      obtain ⟨as, m1, has, cs, hm, he⟩ := he
      split at he
      · rename_i hc
        obtain ⟨rfl, hlen⟩ := hc
        simp only [Option.some.injEq, Prod.mk.injEq] at he
        obtain ⟨rfl, rfl⟩ := he
        simp only [RepT, RepA] at hp
        obtain ⟨b, cap, hb, e2, hcap, ty', q', hsh, hq'⟩ := hp
        obtain ⟨g1, s3, S1, l1⟩ := fzs_sound S s2 has
        have hasl : as.length = n * i.size := by rw [fzs_length has, hnl]
        have hmn : min n len * i.size ≤ n * i.size := Nat.mul_le_mul_right _ (Nat.min_le_left _ _)
        have hml : min n len * i.size ≤ len * i.size := Nat.mul_le_mul_right _ (Nat.min_le_right _ _)
        have htl : (vals.take (min n len * i.size)).length = min n len * i.size := by rw [List.length_take, hvl]; omega
        obtain ⟨h1, h2, h3⟩ := storeH_sound S1 (ys := as.take (min n len * i.size)) (us := vals.take (min n len * i.size)) (off := off) hm (l1.rho _ _ hb) (by rw [List.length_take, hasl]; omega) (RepL.take _ s3)
        refine ⟨goInt ((min n len : Nat) : Int), _, g1, la, red ?_, ?_, h2, l1.trans h3, LLe.refl _⟩
        · rw [e2]
          exact run_copy hd hi s1 (.inr ⟨_, rfl, store b off _ (fun u hu => h1c u (List.mem_of_mem_take hu)) h1⟩)
        · simp [RepT, RepA, goI, goInt]
      · cases he
    · rename_i s ver sz' len e1
      rw [e1] at hp
      split at he
      · rename_i ver' cs hl
        split at he
        · rename_i hc
          obtain ⟨rfl, rfl, hlen⟩ := hc
          simp only [Option.some.injEq, Prod.mk.injEq] at he
          obtain ⟨rfl, rfl⟩ := he
          obtain ⟨b, cap, hb, e2, hcap, ty', q', hsh, hq'⟩ := hp
          have hmn : min n len * i.size ≤ n * i.size := Nat.mul_le_mul_right _ (Nat.min_le_left _ _)
          have hml : min n len * i.size ≤ len * i.size := Nat.mul_le_mul_right _ (Nat.min_le_right _ _)
          obtain ⟨h1, h2, h3⟩ := storeL_sound S (ys := news.take (min n len * i.size)) (us := vals.take (min n len * i.size)) (off := 0) hl hb (by rw [List.length_take, hnl]; omega) (s2.take _)
          refine ⟨goInt ((min n len : Nat) : Int), _, g, la, red ?_, ?_, h2, h3, LLe.refl _⟩
          · rw [e2]
            exact run_copy hd hi s1 (.inr ⟨_, rfl, store b 0 _ (fun u hu => h1c u (List.mem_of_mem_take hu)) h1⟩)
          · simp [RepT, RepA, goI, goInt]
        · cases he
      · cases he
    · rename_i e1
      rw [e1] at hp
      simp only [RepT, RepA] at hp
      obtain ⟨ad, len, cap, e2, rfl, _⟩ := hp
      simp only [Option.some.injEq, Prod.mk.injEq] at he
      obtain ⟨rfl, rfl⟩ := he
      refine Out.same S (v := goInt (min n 0 : Nat)) (red ?_) (by simp [RepT, RepA, goI, goInt])
      rw [e2]
      refine run_copy hd hi s1 ?_
      cases ad with
      | none => exact .inl ⟨rfl, rfl⟩
      | some ad => exact .inr ⟨ad, rfl, by simp [storeCells]⟩
    · rename_i e1
      rw [e1] at hp
      simp only [RepT, RepA] at hp
      simp only [Option.some.injEq, Prod.mk.injEq] at he
      obtain ⟨rfl, rfl⟩ := he
      refine Out.same S (v := goInt (min n 0 : Nat)) (red ?_) (by simp [RepT, RepA, goI, goInt])
      rw [hp]
      exact run_copy hd hi s1 (.inl ⟨rfl, rfl⟩)
    · cases he
  · cases he

def optX (x : Option Operand) : Option Opd := x.map compX

theorem bnd_sound (ht : ∀ i, RepT g la w (t i) (a.tmps.getD i undef)) {dflt i : Int} {x : Option Operand} (h : bnd dflt t (optX x) = some i) :
    (x = none ∧ i = dflt) ∨ ∃ p kk, x = some p ∧ a.eval p = .int kk i := by
  cases x with
  | none => simp [bnd, optX] at h; exact .inl ⟨rfl, h.symm⟩
  | some p =>
    have hp := ev_sound ht p
    simp only [optX, Option.map_some, bnd] at h
    split at h
    · rename_i kk j e1
      rw [e1] at hp
      simp only [RepT, RepA] at hp
      cases h
      exact .inr ⟨p, kk, rfl, hp⟩
    · cases h

theorem run_bounds {isSlice : Bool} {len cap : Nat} {lo hi : Option Value} {l h : Int} (hl : (lo = none ∧ l = 0) ∨ ∃ kk, lo = some (.int kk l)) (hh : (hi = none ∧ h = len) ∨ ∃ kk, hi = some (.int kk h)) (h0 : 0 ≤ l) (h1 : l ≤ h) (h2 : h ≤ (len : Int)) (h3 : len ≤ cap) (w : World) :
    (Instr.sliceBounds isSlice len cap lo hi none).run P w = .ok (l.toNat, h.toNat, cap) w := by
  have hc : h ≤ (cap : Int) := by omega
  have h0h : 0 ≤ h := by omega
  have e : (h.toNat : Int) = h := by omega
  rcases hl with ⟨rfl, rfl⟩ | ⟨kl, rfl⟩ <;> rcases hh with ⟨rfl, rfl⟩ | ⟨kh, rfl⟩ <;> simp [Instr.sliceBounds, Instr.sliceBound, asIntOf, h0, h0h, hc, e, h1, h2]

theorem op_ss (S : SimC k g la m w) (ht : ∀ i, RepT g la w (t i) (a.tmps.getD i undef)) {ty : TypeId} {p : Operand} {lo hi : Option Operand} (ho : o.op = .slice ty p lo hi none) (hd : P.underlying ty = some .string)
    (he : aev d t m (.ss (compX p) (optX lo) (optX hi)) = some (x, m')) : Out P k g la w o a x m' := by
  simp only [aev, Option.map_eq_some_iff, Prod.mk.injEq] at he
  obtain ⟨u, hu, rfl, rfl⟩ := he
  have hp := ev_sound ht p
  unfold ssT at hu
  split at hu
  · rename_i s e1
    rw [e1] at hp
    simp only [RepT, RepA] at hp
    simp only [Option.bind_eq_some_iff, Option.ite_none_right_eq_some, Option.some.injEq] at hu
    obtain ⟨l, hl, h, hh, ⟨c1, c2, c3⟩, rfl⟩ := hu
    refine Out.same S (v := .string (s.extract l.toNat h.toNat)) (.inl ?_) (by simp [RepT, RepA])
    have hb := run_bounds (P := P) (isSlice := false) (len := s.size) (cap := s.size) (lo := lo.map a.eval) (hi := hi.map a.eval) (l := l) (h := h)
      ((bnd_sound ht hl).imp (fun ⟨e, e2⟩ => ⟨by rw [e]; rfl, e2⟩) (fun ⟨p, kk, e, e2⟩ => ⟨kk, by rw [e]; simp [e2]⟩))
      ((bnd_sound ht hh).imp (fun ⟨e, e2⟩ => ⟨by rw [e]; rfl, e2⟩) (fun ⟨p, kk, e, e2⟩ => ⟨kk, by rw [e]; simp [e2]⟩)) c1 c2 c3 (Nat.le_refl _) w
    simp only [execOp, ho, hp]
    simp [Instr.sliceAt, Instr.slice, run_underlying hd, hb]
  · cases hu

theorem flatten_drop {α : Type} (sz : Nat) : ∀ (n : Nat) (es : List (List α)), es.all (fun e => e.length == sz) = true → (es.drop n).flatten = es.flatten.drop (n * sz)
  | 0, es, _ => by simp
  | n + 1, [], _ => by simp
  | n + 1, e :: es, h => by
    simp only [List.all_cons, Bool.and_eq_true, beq_iff_eq] at h
    have hm : (n + 1) * sz = e.length + n * sz := by rw [h.1, Nat.succ_mul, Nat.add_comm]
    rw [List.drop_succ_cons, flatten_drop sz n es h.2, List.flatten_cons, hm, ← List.drop_drop, List.drop_left]

theorem flatten_take {α : Type} (sz : Nat) : ∀ (n : Nat) (es : List (List α)), es.all (fun e => e.length == sz) = true → (es.take n).flatten = es.flatten.take (n * sz)
  | 0, es, _ => by simp
  | n + 1, [], _ => by simp
  | n + 1, e :: es, h => by
    simp only [List.all_cons, Bool.and_eq_true, beq_iff_eq] at h
    have hm : (n + 1) * sz = e.length + n * sz := by rw [h.1, Nat.succ_mul, Nat.add_comm]
    rw [List.take_succ_cons, List.flatten_cons, flatten_take sz n es h.2, List.flatten_cons, hm, List.take_append, List.take_of_length_le (Nat.le_add_right _ _), Nat.add_sub_cancel_left]

theorem all_drop {es : List (List AV)} {sz : Nat} (h : es.all (fun e => e.length == sz) = true) (n : Nat) : (es.drop n).all (fun e => e.length == sz) = true := by
  rw [List.all_eq_true] at h ⊢
  exact fun x hx => h x (List.mem_of_mem_drop hx)

theorem op_sl (S : SimC k g la m w) (ht : ∀ i, RepT g la w (t i) (a.tmps.getD i undef)) {ty e : TypeId} {p : Operand} {lo hi : Option Operand} {n : Nat} (ho : o.op = .slice ty p lo hi none) (hd : P.underlying ty = some (.slice e)) (hn : (P.info? e).map (·.size) = some n)
    (he : aev d t m (.sl n (compX p) (optX lo) (optX hi)) = some (x, m')) : Out P k g la w o a x m' := by
  simp only [aev] at he
  have hp := ev_sound ht p
  cases hqi : P.info? e with
  | none => simp [hqi] at hn
  | some inf =>
    have hs' : inf.size = n := by simpa [hqi] using hn
    have key : ∀ {ad : Option Addr} {len cap : Nat} {l h : Int}, a.eval p = .slice ad len cap → bnd 0 t (optX lo) = some l → bnd len t (optX hi) = some h → 0 ≤ l → l ≤ h → h ≤ (len : Int) → len ≤ cap →
        Runs P o a w (.slice (if cap = l.toNat then ad else ad.map (·.add (l.toNat * n))) (h.toNat - l.toNat) (cap - l.toNat)) w := by
      intro ad len cap l h e2 hl hh c1 c2 c3 c4
      have hb := run_bounds (P := P) (isSlice := true) (len := len) (cap := cap) (lo := lo.map a.eval) (hi := hi.map a.eval) (l := l) (h := h)
        ((bnd_sound ht hl).imp (fun ⟨e, e2⟩ => ⟨by rw [e]; rfl, e2⟩) (fun ⟨p, kk, e, e2⟩ => ⟨kk, by rw [e]; simp [e2]⟩))
        ((bnd_sound ht hh).imp (fun ⟨e, e2⟩ => ⟨by rw [e]; rfl, e2⟩) (fun ⟨p, kk, e, e2⟩ => ⟨kk, by rw [e]; simp [e2]⟩)) c1 c2 c3 c4 w
      refine .inl ?_
      simp only [execOp, ho, e2]
      simp [Instr.sliceAt, Instr.slice, run_underlying hd, hb, Go.sizeOf, typeInfo, hqi, hs']
    unfold slT at he
    split at he
    · rename_i e1
      rw [e1] at hp
      simp only [RepT, RepA] at hp
      simp only [Option.bind_eq_some_iff, Option.ite_none_right_eq_some, Option.some.injEq, Prod.mk.injEq] at he
      obtain ⟨l, hl, h, hh, ⟨rfl, rfl⟩, rfl, rfl⟩ := he
      refine Out.same S (key (h := 0) hp hl hh (by omega) (by omega) (by omega) (Nat.le_refl _)) ?_
      simp [RepT, RepA]
    · rename_i es e1
      rw [e1] at hp
      simp only [RepT, RepA] at hp
      obtain ⟨ad, len, cap, e2, rfl, hcap, hr⟩ := hp
      simp only [Option.bind_eq_some_iff, Option.ite_none_right_eq_some, Option.some.injEq, Prod.mk.injEq] at he
      obtain ⟨l, hl, h, hh, ⟨c1, c2, c3, c4⟩, rfl, rfl⟩ := he
      have hrun := key e2 hl hh c1 c2 c3 hcap
      refine Out.same S hrun ?_
      simp only [RepT, RepA]
      refine ⟨_, _, _, rfl, by simp; omega, by omega, ?_⟩
      rcases hr with rfl | ⟨b, off, vs, rfl, hpin, hr⟩
      · exact .inl (by simp)
      · by_cases hlc : cap = l.toNat
        · exact .inl (by rw [List.drop_of_length_le (by omega)]; simp)
        · refine .inr ⟨b, off + l.toNat * n, (vs.drop (l.toNat * n)).take ((h.toNat - l.toNat) * n), ?_, (hpin.drop _).take _, ?_⟩
          · rw [if_neg hlc]; simp [Addr.add_mid]
          · rw [RepLL.flat, flatten_take n _ _ (all_drop c4 _), flatten_drop n _ _ c4]
            exact RepL.take _ (RepL.drop _ (RepLL.flat.1 hr))
    · rename_i n' sz' off len e1
      rw [e1] at hp
      simp only [RepT, RepA] at hp
      obtain ⟨b, cap, hb, e2, hcap, t2, q2, hsh, hq2⟩ := hp
      simp only [Option.bind_eq_some_iff, Option.ite_none_right_eq_some] at he
      obtain ⟨l, hl, h, hh, ⟨rfl, c1, c2, c3⟩, he⟩ := he
      have hrun := key e2 hl hh c1 c2 c3 hcap
      split at he
      · rename_i hl0
        subst hl0
        simp only [Option.some.injEq, Prod.mk.injEq] at he
        obtain ⟨rfl, rfl⟩ := he
        refine Out.same S hrun ?_
        simp only [RepT, RepA]
        refine ⟨b, cap, hb, ?_, by omega, t2, q2, hsh, hq2⟩
        simp [Addr.add_mid]
      · split at he
        · rename_i hl0 hll
          simp only [Option.some.injEq, Prod.mk.injEq] at he
          obtain ⟨rfl, rfl⟩ := he
          refine Out.same S hrun ?_
          simp only [RepT, RepA]
          refine ⟨b, cap - l.toNat, hb, ?_, by omega, t2, q2, hsh, ?_⟩
          · rw [if_neg (by omega)]
            simp [Addr.add_mid]
          · have : (cap - l.toNat) * sz' = cap * sz' - l.toNat * sz' := Nat.sub_mul _ _ _
            have : l.toNat * sz' ≤ cap * sz' := Nat.mul_le_mul_right _ (by omega)
            omega
        · rename_i hl0 hll
          simp only [Option.some.injEq, Prod.mk.injEq] at he
          obtain ⟨rfl, rfl⟩ := he
          refine Out.same S hrun ?_
          simp only [RepT, RepA]
          exact ⟨_, _, _, rfl, by simp; omega, by omega, .inl trivial⟩
    · rename_i s ver sz' len e1
      rw [e1] at hp
      obtain ⟨b, cap, hb, e2, hcap, t2, q2, hsh, hq2⟩ := hp
      simp only [Option.bind_eq_some_iff, Option.ite_none_right_eq_some, Option.some.injEq, Prod.mk.injEq] at he
      obtain ⟨l, hl, h, hh, ⟨rfl, rfl, c2, c3⟩, rfl, rfl⟩ := he
      refine Out.same S (key e2 hl hh (by omega) c2 c3 hcap) ?_
      refine ⟨b, cap, hb, ?_, by omega, t2, q2, hsh, hq2⟩
      simp [Addr.add_mid]
    · cases he

theorem op_mf (S : SimC k g la m w) (ht : ∀ i, RepT g la w (t i) (a.tmps.getD i undef)) {f : Fn} {fi ca : Array Operand} (ho : o.op = .makeFunc f fi ca)
    (he : aev d t m (.mf f (fi.toList.map compX) (ca.toList.map compX)) = some (x, m')) : Out P k g la w o a x m' := by
  simp only [aev, Option.bind_eq_some_iff, Option.map_eq_some_iff, Prod.exists, Prod.mk.injEq] at he
  obtain ⟨as, m1, h1, bs, m2, h2, rfl, rfl⟩ := he
  obtain ⟨g1, r1, S1, l1⟩ := fzs_sound S (evs_sound ht fi.toList) h1
  obtain ⟨g2, r2, S2, l2⟩ := fzs_sound S1 ((evs_sound ht ca.toList).mono l1 (LLe.refl _)) h2
  refine ⟨.func f (fi.map a.eval) (ca.map a.eval), w, g2, la, .inl ?_, ?_, S2, l1.trans l2, LLe.refl _⟩
  · simp only [execOp, ho]
    simp only [Instr.makeFunc, Sem.run_bind, Sem.run_pure, Result.andThen_ok]
  · simp only [RepT, RepA]
    exact ⟨fi.toList.map a.eval, ca.toList.map a.eval, by congr 1 <;> (apply Array.ext'; simp), RepL.mono l2 _ _ r1, r2⟩

theorem op_mi (S : SimC k g la m w) (ht : ∀ i, RepT g la w (t i) (a.tmps.getD i undef)) {ty : TypeId} {p : Operand} {dd : TypeDesc} (ho : o.op = .makeInterface ty p) (hd : P.underlying ty = some dd) (hn : ∀ ms, dd ≠ .interface ms)
    (he : aev d t m (.mi ty (compX p)) = some (x, m')) : Out P k g la w o a x m' := by
  simp only [aev, miT, Option.map_eq_some_iff, Prod.exists, Prod.mk.injEq] at he
  obtain ⟨as, m1, h1, rfl, rfl⟩ := he
  obtain ⟨g1, r1, S1, l1⟩ := fz_sound S (ev_sound ht p) h1
  refine ⟨.iface ty (a.eval p), w, g1, la, .inl ?_, ?_, S1, l1, LLe.refl _⟩
  · simp only [execOp, ho]
    cases dd <;> first | (exact absurd rfl (hn _)) | simp [Instr.makeInterface, run_underlying hd]
  · simp only [RepT, RepA]
    exact ⟨_, rfl, r1⟩

theorem op_mm (S : SimC k g la m w) (ht : ∀ i, RepT g la w (t i) (a.tmps.getD i undef)) {mx : Bool} {p q : Operand} {tys : Array TypeId} (ho : o.op = .call { callee := .builtin (if mx then .max else .min), args := #[p, q], argTypes := tys })
    (he : aev d t m (.mm mx (compX p) (compX q)) = some (x, m')) : Out P k g la w o a x m' := by
  simp only [aev, Option.map_eq_some_iff, Prod.mk.injEq] at he
  obtain ⟨u, hu, rfl, rfl⟩ := he
  have hp := ev_sound ht p
  have hq := ev_sound ht q
  unfold mmT at hu
  split at hu
  · rename_i kk y k2 z e1 e2
    rw [e1] at hp; rw [e2] at hq
    simp only [RepT, RepA] at hp hq
    cases hu
    refine Out.same S (.inl ?_) (by simp only [RepT, RepA]; rfl)
    cases mx
    · simp only [execOp, ho]
      simp [resolve, invoke, builtin, Builtin.min_, Builtin.min2, hp, hq]
    · simp only [execOp, ho]
      simp [resolve, invoke, builtin, Builtin.max_, Builtin.max2, hp, hq]
  · cases hu

end
end SL
