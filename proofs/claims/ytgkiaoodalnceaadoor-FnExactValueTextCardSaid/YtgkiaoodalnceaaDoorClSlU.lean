import Derived.Test.YtgkiaoodalnceaaDoorClSlT
/- The simulation logic, part U: which temporaries a statement may write; loops and cuts that keep the others. -/
namespace SL
open Go
set_option linter.unusedVariables false
set_option linter.unusedSimpArgs false

def inM (M n : Nat) : Bool := M / 2 ^ n % 2 == 1
def okD (M : Nat) : Option Nat → Bool
  | some d => inM M d
  | none => true
def okO (M : Nat) : AOp → Bool
  | .o d _ => okD M d
  | .c d _ _ => okD M d
  | .f d _ _ => okD M d
  | .g _ _ d op => okD M d && okO M op
def okP (M : Nat) : DP → Bool
  | .dn => true
  | .no => true
  | .q op r => okD M (dsO op) && okP M r
  | .c op _ r => okO M op && okP M r
  | .a x y => okP M x && okP M y
def okC (M : Nat) : AC → Bool
  | .sk => true
  | .rg ops => ops.all (okO M)
  | .dr p => okP M p
  | .sq a b => okC M a && okC M b
  | .cd _ a b => okC M a && okC M b
  | .bk _ a => okC M a
  | .lp a => okC M a
  | .sp a => okC M a
  | .ex _ => true
  | .rt => true

/-- All other temporaries are as they were. -/
def Fr (M : Nat) (t t' : Nat → TV) : Prop := ∀ n, inM M n = false → t' n = t n
theorem Fr.refl (M : Nat) (t : Nat → TV) : Fr M t t := fun _ _ => rfl
theorem Fr.trans {M : Nat} {a b c : Nat → TV} (h : Fr M a b) (k : Fr M b c) : Fr M a c := fun n hn => (k n hn).trans (h n hn)
theorem Fr.put {M : Nat} {t : Nat → TV} {d : Option Nat} {x : TV} (h : okD M d = true) : Fr M t (putO t d x) := by
  intro n hn
  cases d with
  | none => rfl
  | some d =>
    simp only [okD] at h
    simp only [putO, upd]
    rw [if_neg]
    rintro rfl
    rw [h] at hn
    cases hn

def ovr (M : Nat) (t' t : Nat → TV) : Nat → TV := fun n => if M / 2 ^ n % 2 = 1 then t' n else t n
theorem ovr_app {M : Nat} {t' t : Nat → TV} {n : Nat} : ovr M t' t n = if M / 2 ^ n % 2 = 1 then t' n else t n := rfl
theorem Fr.ovr {M : Nat} {t t' : Nat → TV} (h : Fr M t t') : t' = ovr M t' t := by
  funext n
  simp only [SL.ovr]
  split
  · rfl
  · rename_i hn
    exact h n (by simpa [inM] using hn)

section
variable {P : Program}

theorem doO_fr {M : Nat} : ∀ {op : AOp} {C : St → Prop} {st : St}, okO M op = true → doO P op C st → doO P op (fun s => C s ∧ Fr M st.t s.t) st
  | .o d i, C, st, ho, h => by
    simp only [doO, bindK] at h ⊢
    split at h
    · rename_i e; exact ⟨h, Fr.put ho⟩
    · exact h
  | .c d f xs, C, st, ho, h => by
    simp only [doO, bindL] at h ⊢
    split at h
    · exact h.mono fun r h' hr => ⟨hr, Fr.put ho⟩
    · exact h
  | .f d x xs, C, st, ho, h => by
    simp only [doO, bindL] at h ⊢
    split at h
    · unfold callF at h ⊢
      split at h
      · exact h.mono fun r h' hr => ⟨hr, Fr.put ho⟩
      · exact h
    · exact h
  | .g j b d op, C, st, ho, h => by
    simp only [okO, Bool.and_eq_true] at ho
    simp only [doO, caseG] at h ⊢
    split at h
    · rename_i q e
      cases q <;> cases b <;> simp only [caseB] at h ⊢ <;> first | exact doO_fr ho.2 h | exact ⟨h, Fr.put ho.1⟩
    · exact ⟨h, Fr.put ho.1⟩
    · exact h

theorem doOs_fr {M : Nat} : ∀ {ops : List AOp} {C : St → Prop} {st : St}, ops.all (okO M) = true → doOs P ops C st → doOs P ops (fun s => C s ∧ Fr M st.t s.t) st
  | [], C, st, _, h => ⟨h, Fr.refl _ _⟩
  | op :: r, C, st, ho, h => by
    simp only [List.all_cons, Bool.and_eq_true] at ho
    simp only [doOs] at h ⊢
    refine doO_mono (fun s hs => ?_) (doO_fr ho.1 h)
    exact doOs_mono (fun s' hs' => ⟨hs'.1, hs.2.trans hs'.2⟩) (doOs_fr ho.2 hs.1)

theorem awpD_fr {M : Nat} : ∀ {p : DP} {C : St → Prop} {st : St}, okP M p = true → awpD P p C st → awpD P p (fun s => C s ∧ Fr M st.t s.t) st
  | .dn, C, st, _, h => ⟨h, Fr.refl _ _⟩
  | .no, C, st, _, h => h
  | .q op r, C, st, ho, h => by
    simp only [okP, Bool.and_eq_true] at ho
    simp only [awpD, qK] at h ⊢
    split at h
    · exact awpD_mono (fun s hs => ⟨hs.1, (Fr.put ho.1).trans hs.2⟩) (awpD_fr ho.2 h)
    · exact h
  | .c op rs r, C, st, ho, h => by
    simp only [okP, Bool.and_eq_true] at ho
    simp only [awpD] at h ⊢
    refine doO_mono (fun s hs => ⟨hs.1.1, ?_⟩) (doO_fr ho.1 h)
    exact awpD_mono (fun s' hs' => ⟨hs'.1, hs.2.trans hs'.2⟩) (awpD_fr ho.2 hs.1.2)
  | .a x y, C, st, ho, h => by
    simp only [okP, Bool.and_eq_true] at ho
    exact ⟨awpD_fr ho.1 h.1, awpD_fr ho.2 h.2⟩

theorem awp_fr {M : Nat} : ∀ {ac : AC} {Q : Exit → St → Prop} {st : St}, okC M ac = true → awp P ac Q st → awp P ac (fun e s => Q e s ∧ Fr M st.t s.t) st
  | .sk, Q, st, _, h => ⟨h, Fr.refl _ _⟩
  | .rg ops, Q, st, ho, h => doOs_fr ho h
  | .dr p, Q, st, ho, h => awpD_fr ho h
  | .sq a b, Q, st, ho, h => by
    simp only [okC, Bool.and_eq_true] at ho
    refine awp_mono (ac := a) (fun e s hs => ?_) (awp_fr (ac := a) ho.1 h)
    cases e with
    | normal => exact awp_mono (ac := b) (fun e s' hs' => ⟨hs'.1, hs.2.trans hs'.2⟩) (awp_fr (ac := b) ho.2 hs.1)
    | _ => exact hs
  | .cd x a b, Q, st, ho, h => by
    simp only [okC, Bool.and_eq_true] at ho
    exact caseT_mono (awp_fr (ac := a) ho.1) (awp_fr (ac := b) ho.2) h
  | .bk id a, Q, st, ho, h => by
    refine awp_mono (ac := a) (fun e s hs => ?_) (awp_fr (ac := a) ho h)
    obtain ⟨h1, h2⟩ := hs
    cases e with
    | exit i =>
      simp only [blockK] at h1 ⊢
      split
      · rename_i e; rw [if_pos e] at h1; exact ⟨h1, h2⟩
      · rename_i e; rw [if_neg e] at h1; exact ⟨h1, h2⟩
    | _ => exact ⟨h1, h2⟩
  | .lp a, Q, st, ho, ⟨n, h⟩ => by
    refine ⟨n, ?_⟩
    have key : ∀ n st, iterK (awp P a) Q n st → iterK (awp P a) (fun e s => Q e s ∧ Fr M st.t s.t) n st := by
      intro n
      induction n with
      | zero => intro st h; exact h
      | succ n ih =>
        intro st h
        refine awp_mono (ac := a) (fun e s hs => ?_) (awp_fr (ac := a) ho h)
        cases e with
        | normal => exact iterK_mono (W := awp P a) (fun Q Q' st h => awp_mono (ac := a) h) (fun e s' hs' => ⟨hs'.1, hs.2.trans hs'.2⟩) n s (ih s hs.1)
        | _ => exact hs
    exact key n st h
  | .sp a, Q, st, ho, h => by
    refine awp_mono (ac := a) (fun e s hs => ?_) (awp_fr (ac := a) ho h)
    obtain ⟨h1, h2⟩ := hs
    cases e with
    | goto i => exact h1
    | _ => exact ⟨h1, h2⟩
  | .ex id, Q, st, _, h => ⟨h, Fr.refl _ _⟩
  | .rt, Q, st, _, h => ⟨h, Fr.refl _ _⟩

/-- A loop by what holds at its head: of the temporaries only those that the body may write are told anew. -/
theorem awp_lpW {a : AC} {Q : Exit → St → Prop} {t : Nat → TV} {m : Mem} (M : Nat) (I : Nat → (Nat → TV) → Mem → Prop) (n : Nat) (hM : okC M a = true) (h0 : I n t m)
    (hs : ∀ d t' m', I d t' m' → awp P a (thenK (fun st => ∃ d', d' < d ∧ I d' st.t st.m) Q) ⟨ovr M t' t, m'⟩) : awp P (.lp a) Q ⟨t, m⟩ := by
  refine awp_lp (fun d st => I d st.t st.m ∧ Fr M t st.t) n ⟨h0, Fr.refl _ _⟩ ?_
  rintro d ⟨t', m'⟩ ⟨hI, hF⟩
  have h1 := hs d t' m' hI
  rw [← hF.ovr] at h1
  refine awp_mono (ac := a) (fun e s hq => ?_) (awp_fr (ac := a) hM h1)
  cases e with
  | normal => obtain ⟨⟨d', hd, hI'⟩, hf⟩ := hq; exact ⟨d', hd, hI', hF.trans hf⟩
  | _ => exact hq.1

/-- What holds behind a statement, the other temporaries being as they were. -/
theorem awp_cutW {a : AC} {Q : Exit → St → Prop} {t : Nat → TV} {m : Mem} (M : Nat) (J : Exit → (Nat → TV) → Mem → Prop) (hM : okC M a = true) (h1 : awp P a (fun e st => J e st.t st.m) ⟨t, m⟩)
    (h2 : ∀ e t' m', J e t' m' → Q e ⟨ovr M t' t, m'⟩) : awp P a Q ⟨t, m⟩ := by
  refine awp_mono (ac := a) (fun e s hq => ?_) (awp_fr (ac := a) hM h1)
  have := h2 e s.t s.m hq.1
  rw [← hq.2.ovr] at this
  exact this

end
attribute [push_cast] ovr_app
end SL
