import Derived.Test.YtgkiaoodalnceaaDoorClSlQ
/- The simulation logic, part R: regions that draw their order: all orders from one plan. -/
namespace SL
open Go
set_option linter.unusedVariables false
set_option linter.unusedSimpArgs false

/-- A region's operations by number, those ahead of each, those ahead of each through others. -/
structure Tab where
  n : Nat
  ops : List AOp
  pre : List (List Nat)
  anc : List (List Nat)

def Tab.ao (T : Tab) (i : Nat) : AOp := T.ops.getD i default
def Tab.pr (T : Tab) (i : Nat) : List Nat := T.pre.getD i []
def Tab.an (T : Tab) (i : Nat) : List Nat := T.anc.getD i []

def Tab.rdy (T : Tab) (done : List Nat) : List Nat := (List.range T.n).filter fun i => !done.contains i && (T.pr i).all fun j => done.contains j
def Tab.drop (T : Tab) (E : List Nat) (i : Nat) : List Nat := E.filter fun e => !(T.an i).contains e

def Tab.ok (T : Tab) : Bool :=
  ((List.range T.n).all fun j => (T.an j).all fun i => (T.pr j).contains i || (T.pr j).any fun p => decide (p < j) && (T.an p).contains i) &&
  T.ops.all wfO

/-- May it be done ahead of all that is not done? -/
def Tab.early (T : Tab) (done E : List Nat) (i : Nat) : Bool :=
  quO (T.ao i) &&
  (match dsO (T.ao i) with
   | some d => !(rdO (T.ao i)).contains d && E.all fun e => !(rdO (T.ao e)).contains d && dsO (T.ao e) != some d
   | none => false) &&
  (List.range T.n).all fun j => done.contains j || j == i || (T.pr j).contains i || apO (T.ao i) (T.ao j)

def Tab.add (T : Tab) (i : Nat) (E : List Nat) : List Nat := if memO (T.ao i) = true then i :: E else E

def altsD : List DP → DP
  | [] => .no
  | [x] => x
  | x :: r => .a x (altsD r)

def Tab.plan (T : Tab) : Nat → List Nat → List Nat → DP
  | 0, done, E => match T.rdy done with
    | [] => .dn
    | _ => .no
  | f + 1, done, E => match T.rdy done with
    | [] => .dn
    | rd => match rd.find? (T.early done E) with
      | some i => .q (T.ao i) (T.plan f (i :: done) (T.add i E))
      | none => altsD (rd.map fun j => .c (T.ao j) ((T.drop E j).map T.ao) (T.plan f (j :: done) (T.drop E j)))

section
variable {P : Program} {k : K} {n : Nat} {pol : Pol} {T : Tab}

/-- Whatever the order, what was done early being read again. -/
def anyJ (P : Program) (T : Tab) : Nat → List Nat → List Nat → (St → Prop) → St → Prop
  | 0, done, E, C, st => T.rdy done = [] ∧ C st
  | f + 1, done, E, C, st => (T.rdy done = [] → C st) ∧ ∀ i ∈ T.rdy done, doO P (T.ao i) (fun st' => rechk ((T.drop E i).map T.ao) st' ∧ anyJ P T f (i :: done) (T.drop E i) C st') st

theorem mem_rdy {done : List Nat} {i : Nat} : i ∈ T.rdy done ↔ i < T.n ∧ i ∉ done ∧ ∀ j ∈ T.pr i, j ∈ done := by
  simp [Tab.rdy, List.mem_filter]

theorem rdy_congr {d d' : List Nat} (h : ∀ x, x ∈ d ↔ x ∈ d') : T.rdy d = T.rdy d' := by
  unfold Tab.rdy
  refine List.filter_congr fun i _ => ?_
  have e : ∀ x, d.contains x = d'.contains x := fun x => by
    rw [Bool.eq_iff_iff, List.contains_iff_mem, List.contains_iff_mem]; exact h x
  simp only [e]

theorem anyJ_congr : ∀ {f : Nat} {d d' E : List Nat} {C : St → Prop} {st : St}, (∀ x, x ∈ d ↔ x ∈ d') → anyJ P T f d E C st → anyJ P T f d' E C st
  | 0, d, d', E, C, st, h, hb => by
    simp only [anyJ] at *
    rw [← rdy_congr h]; exact hb
  | f + 1, d, d', E, C, st, h, hb => by
    simp only [anyJ] at *
    rw [← rdy_congr h]
    exact ⟨hb.1, fun i hi => doO_mono (fun st hst => ⟨hst.1, anyJ_congr (fun x => by simp [h x]) hst.2⟩) (hb.2 i hi)⟩

theorem rechk_iff {ops : List AOp} {st : St} : rechk ops st ↔ ∀ o ∈ ops, qvO st.t st.m o = getO st.t (dsO o) := by
  induction ops with
  | nil => simp [rechk]
  | cons o r ih => simp [rechk, ih]

theorem mem_drop {E : List Nat} {i e : Nat} : e ∈ T.drop E i ↔ e ∈ E ∧ e ∉ T.an i := by simp [Tab.drop, List.mem_filter]

theorem anyJ_weak : ∀ {f : Nat} {d E E' : List Nat} {C : St → Prop} {st : St}, (∀ x, x ∈ E' → x ∈ E) → anyJ P T f d E C st → anyJ P T f d E' C st
  | 0, d, E, E', C, st, h, hb => hb
  | f + 1, d, E, E', C, st, h, hb => by
    simp only [anyJ] at *
    have sub : ∀ i x, x ∈ T.drop E' i → x ∈ T.drop E i := fun i x hx => mem_drop.2 ⟨h x (mem_drop.1 hx).1, (mem_drop.1 hx).2⟩
    refine ⟨hb.1, fun i hi => doO_mono (fun st hst => ⟨?_, anyJ_weak (sub i) hst.2⟩) (hb.2 i hi)⟩
    rw [rechk_iff] at *
    intro o ho
    obtain ⟨x, hx, rfl⟩ := List.mem_map.1 ho
    exact hst.1 _ (List.mem_map.2 ⟨x, sub i x hx, rfl⟩)

theorem wf_at (h : T.ok = true) (i : Nat) : wfO (T.ao i) = true := by
  simp only [Tab.ok, Bool.and_eq_true, List.all_eq_true] at h
  unfold Tab.ao
  rw [List.getD_eq_getElem?_getD]
  cases he : T.ops[i]? with
  | none => rfl
  | some o => exact h.2 o (List.mem_of_getElem? he)

theorem anc_done (h : T.ok = true) {done : List Nat} (hc : ∀ j ∈ done, j < T.n ∧ ∀ i ∈ T.pr j, i ∈ done) : ∀ j, j < T.n → (∀ i ∈ T.pr j, i ∈ done) → ∀ i ∈ T.an j, i ∈ done := by
  intro j
  induction j using Nat.strongRecOn with
  | _ j ih =>
    intro hj hp i hi
    simp only [Tab.ok, Bool.and_eq_true, List.all_eq_true, List.mem_range, Bool.or_eq_true, List.contains_iff_mem, List.any_eq_true, decide_eq_true_eq] at h
    rcases h.1 j hj i hi with h1 | ⟨p, hp1, hp2, hp3⟩
    · exact hp i h1
    · have := hp p hp1
      exact ih p hp2 (hc p this).1 (hc p this).2 i hp3

/-- What can be done early: known at a state. -/
structure Early (T : Tab) (done E : List Nat) (i d : Nat) : Prop where
  ds : dsO (T.ao i) = some d
  own : d ∉ rdO (T.ao i)
  eE : ∀ e ∈ E, d ∉ rdO (T.ao e) ∧ dsO (T.ao e) ≠ some d
  ap : ∀ j, j < T.n → j ∉ done → j ≠ i → i ∉ T.pr j → d ∉ rdO (T.ao j) ∧ dsO (T.ao j) ≠ some d ∧ ∀ d', dsO (T.ao j) = some d' → d' ∉ rdO (T.ao i)

theorem early_spec {done E : List Nat} {i : Nat} (h : T.early done E i = true) : ∃ d, Early T done E i d := by
  unfold Tab.early at h
  simp only [Bool.and_eq_true] at h
  obtain ⟨⟨h0, h1⟩, h2⟩ := h
  split at h1
  · rename_i d hd
    simp only [Bool.and_eq_true, Bool.not_eq_true', List.all_eq_true, bne_iff_ne, ne_eq] at h1
    refine ⟨d, hd, ?_, ?_, ?_⟩
    · intro hm; rw [← List.contains_iff_mem, h1.1] at hm; cases hm
    · intro e he
      have := h1.2 e he
      refine ⟨fun hm => ?_, this.2⟩
      rw [← List.contains_iff_mem, this.1] at hm; cases hm
    · intro j hj hjd hji hip
      simp only [List.all_eq_true, List.mem_range, Bool.or_eq_true, List.contains_iff_mem, beq_iff_eq] at h2
      have := h2 j hj
      have ha : apO (T.ao i) (T.ao j) = true := by
        rcases this with ((h | h) | h) | h
        · exact absurd h hjd
        · exact absurd h hji
        · exact absurd h hip
        · exact h
      simp only [apO, hd, Bool.and_eq_true, Bool.not_eq_true', bne_iff_ne, ne_eq] at ha
      refine ⟨fun hm => ?_, ha.1.2, fun d' hd' hm => ?_⟩
      · rw [← List.contains_iff_mem, ha.1.1] at hm; cases hm
      · have h3 := ha.2
        rw [hd'] at h3
        simp only [Bool.not_eq_true'] at h3
        rw [← List.contains_iff_mem, h3] at hm; cases hm
  · cases h1

theorem rechk_patch {E : List Nat} {d : Nat} {x : TV} {t : Nat → TV} {m : Mem} (hE : ∀ e ∈ E, d ∉ rdO (T.ao e) ∧ dsO (T.ao e) ≠ some d) : rechk (E.map T.ao) ⟨putO t (some d) x, m⟩ ↔ rechk (E.map T.ao) ⟨t, m⟩ := by
  rw [rechk_iff, rechk_iff]
  have key : ∀ e ∈ E, qvO (putO t (some d) x) m (T.ao e) = qvO t m (T.ao e) ∧ getO (putO t (some d) x) (dsO (T.ao e)) = getO t (dsO (T.ao e)) := by
    intro e he
    refine ⟨qvO_congr fun n hn => putO_at fun e' he' hne => (hE e he).1 ?_, ?_⟩
    · cases he'; rw [hne]; exact hn
    · cases hd : dsO (T.ao e) with
      | none => rfl
      | some d' =>
        simp only [getO]
        rw [putO_at]
        intro e' he' hne
        cases he'
        exact (hE e he).2 (by rw [hd, hne])
  constructor
  · intro h o ho
    obtain ⟨e, he, rfl⟩ := List.mem_map.1 ho
    have := h _ ho
    simp only [key e he] at this
    exact this
  · intro h o ho
    obtain ⟨e, he, rfl⟩ := List.mem_map.1 ho
    have := h _ ho
    simp only [key e he]
    exact this

theorem closed_cons {done : List Nat} {i : Nat} (hi : i ∈ T.rdy done) (hc : ∀ j ∈ done, j < T.n ∧ ∀ i ∈ T.pr j, i ∈ done) : ∀ j ∈ i :: done, j < T.n ∧ ∀ k ∈ T.pr j, k ∈ i :: done := by
  intro j hj
  rw [List.mem_cons] at hj
  rcases hj with rfl | hj
  · have := mem_rdy.1 hi
    exact ⟨this.1, fun k hk => List.mem_cons_of_mem _ (this.2.2 k hk)⟩
  · exact ⟨(hc j hj).1, fun k hk => List.mem_cons_of_mem _ ((hc j hj).2 k hk)⟩

theorem rdy_cons {done : List Nat} {i j : Nat} (hj : j ∈ T.rdy done) (hne : j ≠ i) : j ∈ T.rdy (i :: done) := by
  rw [mem_rdy] at *
  exact ⟨hj.1, by simp [hne, hj.2.1], fun k hk => List.mem_cons_of_mem _ (hj.2.2 k hk)⟩

theorem anyJ_first (hok : T.ok = true) {i d : Nat} {x : TV} {C : St → Prop} : ∀ {f : Nat} {done E : List Nat} {st : St}, Early T done E i d → (∀ j ∈ done, j < T.n ∧ ∀ i ∈ T.pr j, i ∈ done) → i ∈ T.rdy done →
    qvO st.t st.m (T.ao i) = some x → rechk (E.map T.ao) st → anyJ P T f (i :: done) (T.add i E) C ⟨putO st.t (some d) x, st.m⟩ → anyJ P T (f + 1) done E C st := by
  intro f
  induction f with
  | zero =>
    intro done E st he hc hi hq hE H
    refine ⟨fun h => by rw [h] at hi; (cases hi), fun j hj => ?_⟩
    by_cases hji : j = i
    · subst hji
      refine doO_quiet (wf_at hok _) hq ?_
      rw [he.ds]
      have eE' : ∀ e ∈ T.drop E j, d ∉ rdO (T.ao e) ∧ dsO (T.ao e) ≠ some d := fun e h => he.eE e (mem_drop.1 h).1
      refine ⟨(rechk_patch eE').2 ?_, H⟩
      rw [rechk_iff] at *
      intro o ho
      obtain ⟨e, h1, rfl⟩ := List.mem_map.1 ho
      exact hE _ (List.mem_map.2 ⟨e, (mem_drop.1 h1).1, rfl⟩)
    · have := rdy_cons hj hji
      rw [H.1] at this
      cases this
  | succ f ih =>
    intro done E st he hc hi hq hE H
    refine ⟨fun h => by rw [h] at hi; (cases hi), fun j hj => ?_⟩
    by_cases hji : j = i
    · subst hji
      refine doO_quiet (wf_at hok _) hq ?_
      rw [he.ds]
      have eE' : ∀ e ∈ T.drop E j, d ∉ rdO (T.ao e) ∧ dsO (T.ao e) ≠ some d := fun e h => he.eE e (mem_drop.1 h).1
      refine ⟨(rechk_patch eE').2 ?_, anyJ_weak (fun y hy => ?_) H⟩
      · rw [rechk_iff] at *
        intro o ho
        obtain ⟨e, h1, rfl⟩ := List.mem_map.1 ho
        exact hE _ (List.mem_map.2 ⟨e, (mem_drop.1 h1).1, rfl⟩)
      · unfold Tab.add
        split
        · exact List.mem_cons_of_mem _ (mem_drop.1 hy).1
        · exact (mem_drop.1 hy).1
    · have hjr := mem_rdy.1 hj
      have hir := mem_rdy.1 hi
      have hip : i ∉ T.pr j := fun h => hir.2.1 (hjr.2.2 i h)
      have hia : i ∉ T.an j := fun h => hir.2.1 (anc_done hok hc j hjr.1 hjr.2.2 i h)
      obtain ⟨a1, a2, a3⟩ := he.ap j hjr.1 hjr.2.1 hji hip
      have h1 := H.2 j (rdy_cons hj hji)
      have h2 := doO_patch (d := some d) (x := x) (st := st) (wf_at hok j) (by intro e e1; cases e1; exact a1) (by intro e e1; cases e1; exact a2) h1
      have h3 := doO_frame (wf_at hok j) h2
      refine doO_mono ?_ h3
      rintro st' ⟨⟨r1, r2⟩, fr⟩
      have hdrop : ∀ y, y ∈ T.drop E j → y ∈ T.drop (T.add i E) j := fun y hy => by
        refine mem_drop.2 ⟨?_, (mem_drop.1 hy).2⟩
        unfold Tab.add
        split
        · exact List.mem_cons_of_mem _ (mem_drop.1 hy).1
        · exact (mem_drop.1 hy).1
      have hq' : qvO st'.t st'.m (T.ao i) = some x := by
        by_cases hm : memO (T.ao i) = true
        · rw [rechk_iff] at r1
          have hmem : i ∈ T.drop (T.add i E) j := mem_drop.2 ⟨by simp [Tab.add, hm], hia⟩
          have := r1 _ (List.mem_map.2 ⟨i, hmem, rfl⟩)
          simp only [he.ds, getO, putO, upd_eq] at this
          rw [← this]
          exact qvO_congr fun n hn => (putO_at (d := some d) fun e e1 hne => he.own (by cases e1; rw [hne]; exact hn)).symm
        · rw [← hq, qvO_free (m' := st.m) (by simpa using hm)]
          exact qvO_congr fun n hn => fr n (fun hd => a3 n hd hn)
      have eE' : ∀ e ∈ T.drop E j, d ∉ rdO (T.ao e) ∧ dsO (T.ao e) ≠ some d := fun e h => he.eE e (mem_drop.1 h).1
      have r1' : rechk ((T.drop E j).map T.ao) st' := by
        refine (rechk_patch (T := T) (x := x) eE').1 ?_
        rw [rechk_iff] at *
        intro o ho
        obtain ⟨e, h1, rfl⟩ := List.mem_map.1 ho
        exact r1 _ (List.mem_map.2 ⟨e, hdrop e h1, rfl⟩)
      refine ⟨r1', ih ⟨he.ds, he.own, eE', ?_⟩ (closed_cons hj hc) (rdy_cons hi (Ne.symm hji)) hq' r1' ?_⟩
      · intro k hk hkd hki hkp
        exact he.ap k hk (fun h => hkd (List.mem_cons_of_mem _ h)) hki hkp
      · refine anyJ_weak (fun y hy => ?_) (anyJ_congr (d' := i :: j :: done) (fun y => by simp only [List.mem_cons]; exact or_left_comm) r2)
        unfold Tab.add at hy ⊢
        split at hy
        · rename_i hm
          rw [List.mem_cons] at hy
          rcases hy with rfl | hy
          · exact mem_drop.2 ⟨by simp [hm], hia⟩
          · refine mem_drop.2 ⟨?_, (mem_drop.1 hy).2⟩
            simp [hm, (mem_drop.1 hy).1]
        · rename_i hm
          refine mem_drop.2 ⟨?_, (mem_drop.1 hy).2⟩
          simp [hm, (mem_drop.1 hy).1]

theorem altsD_mem {C : St → Prop} {st : St} : ∀ {l : List DP} {p : DP}, p ∈ l → awpD P (altsD l) C st → awpD P p C st
  | [x], p, hp, h => by simp at hp; subst hp; exact h
  | x :: y :: r, p, hp, h => by
    rw [List.mem_cons] at hp
    rcases hp with rfl | hp
    · exact h.1
    · exact altsD_mem hp h.2

theorem plan_sound (hok : T.ok = true) {C : St → Prop} : ∀ {f : Nat} {done E : List Nat} {st : St}, (∀ j ∈ done, j < T.n ∧ ∀ i ∈ T.pr j, i ∈ done) → rechk (E.map T.ao) st → awpD P (T.plan f done E) C st → anyJ P T f done E C st := by
  intro f
  induction f with
  | zero =>
    intro done E st hc hE h
    simp only [Tab.plan] at h
    split at h
    · rename_i e; exact ⟨e, h⟩
    · exact h.elim
  | succ f ih =>
    intro done E st hc hE h
    simp only [Tab.plan] at h
    split at h
    · rename_i e
      exact ⟨fun _ => h, fun i hi => by rw [e] at hi; cases hi⟩
    · rename_i hne
      split at h
      · rename_i i hf
        obtain ⟨d, he⟩ := early_spec (List.find?_some hf)
        have hi : i ∈ T.rdy done := List.mem_of_find?_eq_some hf
        simp only [awpD, qK] at h
        split at h
        · rename_i x hq
          rw [he.ds] at h
          refine anyJ_first hok he hc hi hq hE (ih (closed_cons hi hc) ?_ h)
          have base := (rechk_patch (T := T) (x := x) (m := st.m) he.eE).2 hE
          unfold Tab.add
          split
          · rw [List.map_cons]
            refine ⟨?_, base⟩
            simp only [he.ds, getO, putO, upd_eq]
            rw [← hq]
            exact qvO_congr fun n hn => putO_at (d := some d) fun e e1 hne => he.own (by cases e1; rw [hne]; exact hn)
          · exact base
        · exact h.elim
      · refine ⟨fun e => absurd e (by simpa using hne), fun j hj => ?_⟩
        have := altsD_mem (List.mem_map.2 ⟨j, hj, rfl⟩) h
        simp only [awpD] at this
        refine doO_mono (fun st' hst => ?_) this
        exact ⟨hst.1, ih (closed_cons hj hc) hst.1 hst.2⟩

/-- All orders of the machine. -/
theorem anyJ_sound (hk : HSim k.g k.h k.w ∧ Glob P k.g k.w) {ops : Array Oper} {C : St → Prop} {Q : Exit → Act → World → Prop} (hn : T.n = ops.size)
    (hops : ∀ i o, ops[i]? = some o → compO P pol n ops o = some (T.ao i) ∧ T.pr i = (o.after.toList.filter (Region.binds .any)).map (·.on)) (hQ : ∀ st a w, C st → Sim k n st a w → Q .normal a w) :
    ∀ {f : Nat} {done E : List Nat} {listed : Array Bool} {st : St} {a : Act} {w : World}, (∀ i, listed.getD i false = done.contains i) → (∀ i, i < ops.size → listed.getD i true = done.contains i) → listed.size = ops.size →
      Sim k n st a w → anyJ P T f done E C st → wpAny P .any ops Q f listed a w := by
  have rd : ∀ {done : List Nat} {listed : Array Bool}, (∀ i, listed.getD i false = done.contains i) → (∀ i, i < ops.size → listed.getD i true = done.contains i) → ∀ j, j ∈ Region.ready .any ops listed ↔ j ∈ T.rdy done := by
    intro done listed h1 h2 j
    rw [mem_ready, mem_rdy]
    constructor
    · rintro ⟨a1, o, ho, a2⟩
      have hj : j < ops.size := (Array.getElem?_eq_some_iff.1 ho).1
      refine ⟨by rw [hn]; exact hj, ?_, ?_⟩
      · rw [h2 j hj] at a1
        intro hm
        rw [← List.contains_iff_mem, a1] at hm; cases hm
      · intro i hi
        rw [(hops j o ho).2] at hi
        obtain ⟨e, he, rfl⟩ := List.mem_map.1 hi
        rw [List.mem_filter] at he
        have := a2 e (by simpa using he.1) he.2
        rw [h1, List.contains_iff_mem] at this
        exact this
    · rintro ⟨a1, a2, a3⟩
      rw [hn] at a1
      have ho : ops[j]? = some ops[j] := Array.getElem?_eq_getElem a1
      refine ⟨?_, ops[j], ho, ?_⟩
      · rw [h2 j a1]
        cases hc : done.contains j with
        | false => rfl
        | true => exact absurd (List.contains_iff_mem.1 hc) a2
      · intro e he hb
        rw [h1, List.contains_iff_mem]
        refine a3 _ ?_
        rw [(hops j _ ho).2]
        exact List.mem_map.2 ⟨e, List.mem_filter.2 ⟨by simpa using he, hb⟩, rfl⟩
  have nil : ∀ {done : List Nat} {listed : Array Bool}, (∀ i, listed.getD i false = done.contains i) → (∀ i, i < ops.size → listed.getD i true = done.contains i) → (Region.ready .any ops listed = [] ↔ T.rdy done = []) := by
    intro done listed h1 h2
    rw [List.eq_nil_iff_forall_not_mem, List.eq_nil_iff_forall_not_mem]
    exact forall_congr' fun j => not_congr (rd h1 h2 j)
  intro f
  induction f with
  | zero =>
    intro done E listed st a w h1 h2 h3 hs h
    exact ⟨(nil h1 h2).2 h.1, hQ _ _ _ h.2 hs⟩
  | succ f ih =>
    intro done E listed st a w h1 h2 h3 hs h
    refine ⟨fun e => hQ _ _ _ (h.1 ((nil h1 h2).1 e)) hs, fun i hi => ?_⟩
    have hi' := (rd h1 h2 i).1 hi
    have hlt : i < ops.size := by rw [← hn]; exact (mem_rdy.1 hi').1
    have ho : ops[i]? = some ops[i] := Array.getElem?_eq_getElem hlt
    have step := doO_sound hk (Q := Q) (next := wpAny P .any ops Q f (listed.setIfInBounds i true)) hs (hops i _ ho).1 (h.2 i hi') (fun st' a' w' hst hs' => by
      refine ih (done := i :: done) ?_ ?_ (by simp [h3]) hs' hst.2
      · intro j
        by_cases hij : i = j
        · subst hij; simp [h3, hlt]
        · rw [getD_set_ne false hij, h1]
          simp [Ne.symm hij]
      · intro j hj
        by_cases hij : i = j
        · subst hij; simp [h3, hlt]
        · rw [getD_set_ne true hij, h2 j hj]
          simp [Ne.symm hij])
    unfold wpOp
    simp only [ho]
    split
    · rename_i hw; simp only [hw, if_true] at step; exact .inl step
    · rename_i hw; simp only [hw] at step; exact step

/-- The table of a region. -/
def ancL : List (List Nat) → List (List Nat) → List (List Nat)
  | [], acc => acc
  | p :: r, acc => ancL r (acc ++ [(p ++ p.flatMap fun j => acc.getD j []).eraseDups])

def tabOf (aops : List AOp) (ops : Array Oper) : Tab :=
  let pre := ops.toList.map fun o => (o.after.toList.filter (Region.binds .any)).map (·.on)
  ⟨ops.size, aops, pre, ancL pre []⟩

def compD (P : Program) (pol : Pol) (n : Nat) (ops : Array Oper) : Option AC :=
  if P.follows .mixedOrders = true then
    (compOs P pol n ops ops.toList).bind fun aops =>
      let T := tabOf aops ops
      if T.ok = true then some (.dr (T.plan ops.size [] [])) else none
  else none

theorem compOs_get {ops : Array Oper} : ∀ {l : List Oper} {aops : List AOp}, compOs P pol n ops l = some aops → ∀ (i : Nat) (o : Oper), l[i]? = some o → ∃ x, aops[i]? = some x ∧ compO P pol n ops o = some x
  | [], aops, h, i, o, ho => by simp at ho
  | o' :: l, aops, h, i, o, ho => by
    simp only [compOs, Option.bind_eq_some_iff, Option.map_eq_some_iff] at h
    obtain ⟨x, h1, xs, h2, rfl⟩ := h
    cases i with
    | zero => simp at ho; subst ho; exact ⟨x, rfl, h1⟩
    | succ i => simp at ho; simpa using compOs_get h2 i o ho

theorem draw_sound (hk : HSim k.g k.h k.w ∧ Glob P k.g k.w) {ops : Array Oper} {ac : AC} {C : St → Prop} {Q : Exit → Act → World → Prop} {id : Nat} {st : St} {a : Act} {w : World} (hc : compD P pol n ops = some ac) (hs : Sim k n st a w)
    (h : ∀ p, ac = .dr p → awpD P p C st) (hQ : ∀ st a w, C st → Sim k n st a w → Q .normal a w) (hp : ∀ w', w' = { w with drawn := w.drawn + 1 } → Sim k n st a w') : (Code.region id ops true).wp P Q a w := by
  unfold compD at hc
  split at hc
  · rename_i hm
    simp only [Option.bind_eq_some_iff] at hc
    obtain ⟨aops, ha, hc⟩ := hc
    split at hc
    · rename_i hok
      cases hc
      have hb := plan_sound hok (f := ops.size) (done := []) (E := []) (by simp) (by simp [rechk]) (h _ rfl)
      refine wp_region_any hm (anyJ_sound hk (T := tabOf aops ops) (pol := pol) rfl ?_ hQ (done := []) ?_ ?_ (by simp) (hp _ rfl) hb)
      · intro i o ho
        have ho' : ops.toList[i]? = some o := by simpa using ho
        obtain ⟨x, h1, h2⟩ := compOs_get ha i o ho'
        refine ⟨?_, ?_⟩
        · rw [h2]
          simp [tabOf, Tab.ao, List.getD_eq_getElem?_getD, h1]
        · simp [tabOf, Tab.pr, List.getD_eq_getElem?_getD, ho']
      · intro i
        simp [Array.getD_eq_getD_getElem?, Array.getElem?_replicate]
        split <;> rfl
      · intro i hi
        simp [Array.getD_eq_getD_getElem?, Array.getElem?_replicate, hi]
    · cases hc
  · cases hc

end
end SL
