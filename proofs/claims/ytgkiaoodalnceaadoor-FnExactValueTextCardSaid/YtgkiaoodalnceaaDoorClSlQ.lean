import Derived.Test.YtgkiaoodalnceaaDoorClSlL
import Derived.Orders
/- The simulation logic, part Q: regions that draw their order. -/
namespace SL
open Go
set_option linter.unusedVariables false
set_option linter.unusedSimpArgs false

section
variable {P : Program} {k : K} {n : Nat} {pol : Pol}

theorem bindK_mono {r : Res} {C C' : TV → Mem → Prop} (h : ∀ x m, C x m → C' x m) (hb : bindK r C) : bindK r C' := by
  unfold bindK at *; split at hb
  · exact h _ _ hb
  · exact hb.elim
theorem bindL_mono {r : Option (List AV × Mem)} {C C' : List AV → Mem → Prop} (h : ∀ x m, C x m → C' x m) (hb : bindL r C) : bindL r C' := by
  unfold bindL at *; split at hb
  · exact h _ _ hb
  · exact hb.elim
theorem caseB_mono {q : Bool} {A B A' B' : Prop} (h1 : A → A') (h2 : B → B') (hb : caseB q A B) : caseB q A' B' := by
  cases q
  · exact h2 hb
  · exact h1 hb
theorem caseT_mono {x : TV} {A B A' B' : Prop} (h1 : A → A') (h2 : B → B') (hb : caseT x A B) : caseT x A' B' := by
  unfold caseT at *; split at hb
  · exact caseB_mono h1 h2 hb
  · exact hb.elim
theorem caseG_mono {x : TV} {A B U A' B' U' : Prop} (h1 : A → A') (h2 : B → B') (h3 : U → U') (hb : caseG x A B U) : caseG x A' B' U' := by
  unfold caseG at *; split at hb
  · exact caseB_mono h1 h2 hb
  · exact h3 hb
  · exact hb.elim
theorem callF_mono {x : TV} {as : List AV} {h : Heap} {R R' : AV → Heap → Prop} (hr : ∀ r h, R r h → R' r h) (hb : callF P x as h R) : callF P x as h R' := by
  unfold callF at *; split at hb
  · exact hb.mono hr
  · exact hb.elim

theorem yielded_of {ops : Array Oper} {oj : Oper} {j dj : Nat} {tmps : Array Value} {q : Bool} (h1 : ops[j]? = some oj) (h2 : oj.dst = some dj) (h3 : tmps.getD dj undef = .bool q) : yielded ops tmps j = some q := by
  have h4 : tmps[dj]? = some (.bool q) := by
    cases h : tmps[dj]? with
    | none => simp [h, undef] at h3
    | some v => simp [h] at h3; rw [h3]
  simp [yielded, h1, h2, h4]

theorem yielded_no {ops : Array Oper} {oj : Oper} {j dj : Nat} {tmps : Array Value} {vs : Array Value} (h1 : ops[j]? = some oj) (h2 : oj.dst = some dj) (h3 : tmps.getD dj undef = .tuple vs) : yielded ops tmps j = none := by
  cases h : tmps[dj]? with
  | none => simp [yielded, h1, h2, h]
  | some v => simp [h] at h3; subst h3; simp [yielded, h1, h2, h]

theorem doO_sound (hk : HSim k.g k.h k.w ∧ Glob P k.g k.w) {ops : Array Oper} {st : St} {a : Act} {w : World} {o : Oper} {ao : AOp} {C : St → Prop} {Q : Exit → Act → World → Prop} {next : Act → World → Prop} (hs : Sim k n st a w) (hc : compO P pol n ops o = some ao) (h : doO P ao C st)
    (hn : ∀ st a w, C st → Sim k n st a w → next a w) :
    if Region.wanted o (yielded ops a.tmps) then o.wp P a w next Q else next (a.put o.dst undef) w := by
  unfold compO at hc
  split at hc
  · rename_i hd
    split at hc
    · rename_i hg
      simp only [Region.wanted, hg, if_true]
      exact doA_sound hk hs hd hc h hn
    · rename_i j b hg
      simp only [Option.bind_eq_some_iff, Option.map_eq_some_iff] at hc
      obtain ⟨oj, h1, dj, h2, op, hi, rfl⟩ := hc
      have skip : C ⟨putO st.t o.dst (.v (.sc undef)), st.m⟩ → next (a.put o.dst undef) w := by
        intro h
        refine hn _ _ _ h ?_
        obtain ⟨s1, s2, g, la, S, ht⟩ := hs
        exact ⟨by rw [put_def, s1], by rw [put_size, s2], g, la, S, tmps_put (by rw [s2]; exact hd) ht (by simp [RepT, RepA])⟩
      simp only [doO, caseG] at h
      split at h
      · rename_i q e1
        have hv : a.tmps.getD dj undef = .bool q := by
          obtain ⟨_, _, g, la, _, ht⟩ := hs
          have := ht dj
          rw [e1] at this
          simpa only [RepT, RepA] using this
        have hy := yielded_of h1 h2 hv
        simp only [Region.wanted, hg, hy]
        cases q <;> cases b <;> simp only [caseB] at h
        · simpa using doA_sound hk hs hd hi h hn
        · simpa using skip h
        · simpa using skip h
        · simpa using doA_sound hk hs hd hi h hn
      · rename_i vs e1
        have hv : a.tmps.getD dj undef = .tuple vs := by
          obtain ⟨_, _, g, la, _, ht⟩ := hs
          have := ht dj
          rw [e1] at this
          simpa only [RepT, RepA] using this
        have hy := yielded_no h1 h2 hv
        simp only [Region.wanted, hg, hy]
        simpa using skip h
      · exact h.elim
  · cases hc



theorem doO_mono : ∀ {op : AOp} {C C' : St → Prop} {st : St}, (∀ st, C st → C' st) → doO P op C st → doO P op C' st
  | .o d i, C, C', st, h, hb => bindK_mono (fun _ _ => h _) hb
  | .c d f xs, C, C', st, h, hb => bindL_mono (fun _ _ hc => hc.mono fun _ _ => h _) hb
  | .f d x xs, C, C', st, h, hb => bindL_mono (fun _ _ hc => callF_mono (fun _ _ => h _) hc) hb
  | .g j b d op, C, C', st, h, hb => caseG_mono (caseB_mono (doO_mono h) (h _)) (caseB_mono (h _) (doO_mono h)) (h _) hb

theorem doOs_mono : ∀ {ops : List AOp} {C C' : St → Prop} {st : St}, (∀ st, C st → C' st) → doOs P ops C st → doOs P ops C' st
  | [], C, C', st, h, hb => h _ hb
  | op :: r, C, C', st, h, hb => doO_mono (fun st => doOs_mono h) hb

/-! ### What an operation reads; moving it -/

def rdO : AOp → List Nat
  | .o _ i => rdI i
  | .c _ _ xs => xs.flatMap opT
  | .f _ x xs => opT x ++ xs.flatMap opT
  | .g j _ _ op => j :: rdO op

def wfO : AOp → Bool
  | .g _ _ d op => dsO op == d && wfO op
  | _ => true

def memO : AOp → Bool
  | .o _ i => rdMem i
  | .g _ _ _ op => memO op
  | _ => true

def quI : AI → Bool
  | .so _ _ | .son _ _ _ | .al _ _ | .bx _ _ | .ms _ _ _ _ _ _ | .sl _ _ _ _ | .ap _ _ _ _ _ | .cp _ _ _ | .mf _ _ _ | .s2b _ _ => false
  | .bs p _ _ => p == 2
  | _ => true

def quO : AOp → Bool
  | .o (some _) i => quI i
  | .g _ _ (some _) op => quO op
  | _ => false

/-- No dst of the one is read or written by the other. -/
def apO (x y : AOp) : Bool :=
  (match dsO x with
   | some d => !(rdO y).contains d && dsO y != some d
   | none => true) &&
  (match dsO y with
   | some d => !(rdO x).contains d
   | none => true)

theorem doO_quiet {C : St → Prop} : ∀ {op : AOp} {st : St} {x : TV}, wfO op = true → qvO st.t st.m op = some x → C ⟨putO st.t (dsO op) x, st.m⟩ → doO P op C st
  | .o d i, st, x, _, hq, hC => by
    simp only [qvO] at hq
    simp only [doO, qv_aev _ hq, bindK]
    exact hC
  | .c _ _ _, st, x, _, hq, hC => by simp [qvO] at hq
  | .f _ _ _, st, x, _, hq, hC => by simp [qvO] at hq
  | .g j b d op, st, x, hw, hq, hC => by
    simp only [wfO, Bool.and_eq_true, beq_iff_eq] at hw
    simp only [qvO] at hq
    split at hq
    · rename_i q e
      simp only [doO, e, caseG]
      split at hq
      · rename_i hqb
        have : doO P op C st := doO_quiet hw.2 hq (by rw [hw.1]; exact hC)
        subst hqb
        cases q <;> exact this
      · rename_i hqb
        simp only [Option.some.injEq] at hq
        subst hq
        cases q <;> cases b <;> first | exact absurd rfl hqb | exact hC
    · rename_i vs e
      simp only [Option.some.injEq] at hq
      subst hq
      simp only [doO, e, caseG]
      exact hC
    · cases hq

theorem qvO_congr {t t' : Nat → TV} {m : Mem} : ∀ {op : AOp}, (∀ n ∈ rdO op, t n = t' n) → qvO t m op = qvO t' m op
  | .o d i, h => by simp only [qvO]; exact qv_congr h
  | .c _ _ _, h => rfl
  | .f _ _ _, h => rfl
  | .g j b d op, h => by
    simp only [qvO, h j (by simp [rdO])]
    rw [qvO_congr (op := op) (fun n hn => h n (by simp [rdO, hn]))]

theorem qvO_free {t : Nat → TV} {m m' : Mem} : ∀ {op : AOp}, memO op = false → qvO t m op = qvO t m' op
  | .o d i, h => by simp only [qvO]; exact qv_free h
  | .c _ _ _, h => rfl
  | .f _ _ _, h => rfl
  | .g j b d op, h => by
    simp only [qvO]
    rw [qvO_free (op := op) h]

theorem putO_swap {t : Nat → TV} {d d' : Option Nat} {x y : TV} (h : ∀ e, d = some e → d' ≠ some e) : putO (putO t d x) d' y = putO (putO t d' y) d x := by
  cases d with
  | none => rfl
  | some d =>
    cases d' with
    | none => rfl
    | some e =>
      have hne : d ≠ e := fun he => h d rfl (he ▸ rfl)
      funext i
      simp only [putO, upd]
      by_cases h1 : i = d <;> by_cases h2 : i = e <;> simp [h1, h2, hne, Ne.symm hne]

theorem putO_at {t : Nat → TV} {d : Option Nat} {x : TV} {n : Nat} (h : ∀ e, d = some e → e ≠ n) : putO t d x n = t n := by
  cases d with
  | none => rfl
  | some d => exact upd_ne _ _ _ _ (fun e => h d rfl e.symm)

theorem ev_put {t : Nat → TV} {d : Option Nat} {x : TV} {o : Opd} (h : ∀ e, d = some e → e ∉ opT o) : ev (putO t d x) o = ev t o :=
  ev_congr fun n hn => putO_at fun e he hne => h e he (hne ▸ hn)
theorem evs_put {t : Nat → TV} {d : Option Nat} {x : TV} {xs : List Opd} (h : ∀ e, d = some e → e ∉ xs.flatMap opT) : xs.map (ev (putO t d x)) = xs.map (ev t) :=
  evs_congr fun n hn => putO_at fun e he hne => h e he (hne ▸ hn)

/-- An operation that has nothing to do with a temporary does the same with it patched. -/
theorem doO_patch {d : Option Nat} {x : TV} : ∀ {op : AOp} {C : St → Prop} {st : St}, wfO op = true → (∀ e, d = some e → e ∉ rdO op) → (∀ e, d = some e → dsO op ≠ some e) → doO P op C ⟨putO st.t d x, st.m⟩ → doO P op (fun st' => C ⟨putO st'.t d x, st'.m⟩) st
  | .o d' i, C, st, hw, h1, h2, h => by
    have h2 : ∀ e, d = some e → d' ≠ some e := h2
    simp only [doO] at *
    rw [aev_congr (t' := st.t) (fun n hn => putO_at fun e he hne => h1 e he (hne ▸ hn))] at h
    refine bindK_mono (fun y m hC => ?_) h
    rw [← putO_swap h2]; exact hC
  | .c d' f xs, C, st, hw, h1, h2, h => by
    have h2 : ∀ e, d = some e → d' ≠ some e := h2
    simp only [doO] at *
    rw [evs_put h1] at h
    refine bindL_mono (fun y m hC => hC.mono fun r h' hC => ?_) h
    rw [← putO_swap h2]; exact hC
  | .f d' y xs, C, st, hw, h1, h2, h => by
    have h2 : ∀ e, d = some e → d' ≠ some e := h2
    simp only [doO] at *
    rw [evs_put (fun e he hm => h1 e he (by simp only [rdO, List.mem_append]; exact .inr hm)), ev_put (fun e he hm => h1 e he (by simp [rdO, hm]))] at h
    refine bindL_mono (fun y m hC => callF_mono (fun r h' hC => ?_) hC) h
    rw [← putO_swap h2]; exact hC
  | .g j b d' op, C, st, hw, h1, h2, h => by
    have h2 : ∀ e, d = some e → d' ≠ some e := h2
    simp only [wfO, Bool.and_eq_true, beq_iff_eq] at hw
    simp only [doO] at *
    rw [putO_at (fun e he hne => h1 e he (by simp [rdO, hne]))] at h
    have i1 : doO P op C ⟨putO st.t d x, st.m⟩ → doO P op (fun st' => C ⟨putO st'.t d x, st'.m⟩) st := doO_patch hw.2 (fun e he hm => h1 e he (by simp [rdO, hm])) (by rw [hw.1]; exact h2)
    have i2 : C ⟨putO (putO st.t d x) d' (.v (.sc undef)), st.m⟩ → C ⟨putO (putO st.t d' (.v (.sc undef))) d x, st.m⟩ := fun h => by rw [← putO_swap h2]; exact h
    exact caseG_mono (caseB_mono i1 i2) (caseB_mono i2 i1) i2 h

/-- An operation leaves the other temporaries as they are. -/
theorem doO_frame : ∀ {op : AOp} {C : St → Prop} {st : St}, wfO op = true → doO P op C st → doO P op (fun st' => C st' ∧ ∀ n, dsO op ≠ some n → st'.t n = st.t n) st
  | .o d' i, C, st, hw, h => by
    refine bindK_mono (fun y m hC => ⟨hC, fun n hn => putO_at fun e he hne => hn (by rw [← hne]; exact he)⟩) h
  | .c d' f xs, C, st, hw, h => by
    refine bindL_mono (fun y m hC => hC.mono fun r h' hC => ⟨hC, fun n hn => putO_at fun e he hne => hn (by rw [← hne]; exact he)⟩) h
  | .f d' y xs, C, st, hw, h => by
    refine bindL_mono (fun y m hC => callF_mono (fun r h' hC => ⟨hC, fun n hn => putO_at fun e he hne => hn (by rw [← hne]; exact he)⟩) hC) h
  | .g j b d' op, C, st, hw, h => by
    simp only [wfO, Bool.and_eq_true, beq_iff_eq] at hw
    have i1 : doO P op C st → doO P op (fun st' => C st' ∧ ∀ n, dsO (.g j b d' op) ≠ some n → st'.t n = st.t n) st := fun h => by
      have := doO_frame hw.2 h
      rw [hw.1] at this
      exact this
    have i2 : C ⟨putO st.t d' (.v (.sc undef)), st.m⟩ → C ⟨putO st.t d' (.v (.sc undef)), st.m⟩ ∧ ∀ n, dsO (.g j b d' op) ≠ some n → (putO st.t d' (.v (.sc undef))) n = st.t n := fun h =>
      ⟨h, fun n hn => putO_at fun e he hne => hn (by rw [← hne]; exact he)⟩
    exact caseG_mono (caseB_mono i1 i2) (caseB_mono i2 i1) i2 h
end
end SL
