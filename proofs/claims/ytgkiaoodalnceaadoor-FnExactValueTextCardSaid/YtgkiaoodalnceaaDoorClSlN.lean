import Derived.Test.YtgkiaoodalnceaaDoorClSlM
/- The simulation logic, part N: the contract of a body; more is more; loops by what holds at their head. -/
namespace SL
open Go
set_option linter.unusedVariables false
set_option linter.unusedSimpArgs false

def initT (args : List AV) : Nat → TV := fun i => match args[i]? with
  | some a => .v a
  | none => .v (.sc undef)

/-- Where a body's results are: a temporary, a variable of n cells, a variable of one cell. -/
inductive RV where
  | t (n : Nat)
  | c (n sz : Nat)
  | d (n : Nat)
  deriving Inhabited

def resA (t : Nat → TV) (m : Mem) : List RV → Option (List AV × Mem)
  | [] => some ([], m)
  | .t n :: r => (fz m (t n)).bind fun (a, m1) => (resA t m1 r).map fun (as, m2) => (a :: as, m2)
  | .c n sz :: r => (ldnT sz m (t n)).bind fun (x, m1) => (fz m1 x).bind fun (a, m1) => (resA t m1 r).map fun (as, m2) => (a :: as, m2)
  | .d n :: r => (ld1 m (t n)).bind fun x => (fz m x).bind fun (a, m1) => (resA t m1 r).map fun (as, m2) => (a :: as, m2)

def tupA : List AV → AV
  | [a] => a
  | as => .tup as

/-- The end of a body: its results. -/
def endK (rts : List RV) (R : AV → Heap → Prop) : Exit → St → Prop
  | .normal, st => bindL (resA st.t st.m rts) fun as m => R (tupA as) m.h
  | .ret, st => bindL (resA st.t st.m rts) fun as m => R (tupA as) m.h
  | _, _ => False

def resVs (P : Program) : List ResultVar → Option (List RV)
  | [] => some []
  | .tmp t :: r => (resVs P r).map (.t t :: ·)
  | .cell a ty :: r => (P.underlying ty).bind fun dd => (szO P ty).bind fun n => (resVs P r).map fun l => (if dd.isRow then .c a n else .d a) :: l

def compF (P : Program) (pol : Pol) (f : Nat) : Option (AC × List RV × Nat) :=
  if okFunc P f = true then (P.funcs[f]?).bind fun fn => fn.body.bind fun c => (resVs P fn.results.toList).bind fun rts => (compC P pol fn.ntmps c).map fun ac => (ac, rts, fn.ntmps) else none

section
variable {P : Program} {pol : Pol}

def resRun (tmps : Array Value) : ResultVar → Sem Value
  | .tmp t => pure (tmps.getD t undef)
  | .cell a t => do loadVar t (← asAddr (tmps.getD a undef))

theorem resVs_sound {k : K} {la : La} {w : World} {t : Nat → TV} {tmps : Array Value} : ∀ {l : List ResultVar} {rts : List RV} {as : List AV} {m m' : Mem} {g : G}, resVs P l = some rts → SimC k g la m w →
    (∀ i, RepT g la w (t i) (tmps.getD i undef)) → resA t m rts = some (as, m') →
    ∃ g' vs, (l.mapM (resRun tmps)).run P w = .ok vs w ∧ RepL g' w as vs ∧ SimC k g' la m' w ∧ GLe g w g' w
  | [], rts, as, m, m', g, hr, S, ht, ha => by
    simp only [resVs, Option.some.injEq] at hr
    subst hr
    simp only [resA, Option.some.injEq, Prod.mk.injEq] at ha
    obtain ⟨rfl, rfl⟩ := ha
    exact ⟨g, [], by simp, by simp [RepL], S, GLe.refl _ _⟩
  | .tmp n :: l, rts, as, m, m', g, hr, S, ht, ha => by
    simp only [resVs, Option.map_eq_some_iff] at hr
    obtain ⟨r, hr, rfl⟩ := hr
    simp only [resA, Option.bind_eq_some_iff, Option.map_eq_some_iff, Prod.exists, Prod.mk.injEq] at ha
    obtain ⟨a, m1, h1, as', m2, h2, rfl, rfl⟩ := ha
    obtain ⟨g1, r1, S1, l1⟩ := fz_sound S (ht n) h1
    obtain ⟨g2, vs, q1, q2, S2, l2⟩ := resVs_sound hr S1 (fun i => (ht i).mono l1 (LLe.refl _)) h2
    refine ⟨g2, tmps.getD n undef :: vs, ?_, ?_, S2, l1.trans l2⟩
    · rw [List.mapM_cons]
      simp only [Sem.run_bind, resRun, Sem.run_pure, Result.andThen_ok, q1]
    · simp only [RepL]
      exact ⟨_, vs, rfl, RepA.mono l2 _ _ r1, q2⟩
  | .cell n ty :: l, rts, as, m, m', g, hr, S, ht, ha => by
    simp only [resVs, Option.bind_eq_some_iff, Option.map_eq_some_iff] at hr
    obtain ⟨dd, hd, sz, hsz, r, hr, rfl⟩ := hr
    have hag := run_isAgg hd w
    split at ha
    · rename_i hrow
      simp only [resA, ldnT, Option.bind_eq_some_iff, Option.map_eq_some_iff, Option.ite_none_right_eq_some, Prod.exists, Prod.mk.injEq] at ha
      obtain ⟨x, m0, ⟨cs, hcs, hle, as0, m00, h0, rfl, rfl⟩, a, m1, h1, as', m2, h2, rfl, rfl⟩ := ha
      simp only [fz, Option.some.injEq, Prod.mk.injEq] at h1
      obtain ⟨rfl, rfl⟩ := h1
      obtain ⟨b, off, vs0, e1, e2, e3⟩ := rdT_sound S (ht n) hcs
      obtain ⟨g1, r1, S1, l1⟩ := fzs_sound S (e2.take sz) h0
      have hvl := e2.length
      obtain ⟨g2, vs, q1, q2, S2, l2⟩ := resVs_sound hr S1 (fun i => (ht i).mono l1 (LLe.refl _)) h2
      refine ⟨g2, .agg (vs0.take sz).toArray :: vs, ?_, ?_, S2, l1.trans l2⟩
      · rw [List.mapM_cons]
        simp only [Sem.run_bind, resRun, e1, asAddr, Sem.run_pure, Result.andThen_ok]
        rw [run_loadVar_mid w b off ty (vs0.take sz) dd (fun j v hv => by
          rw [List.getElem?_take] at hv
          split at hv
          · exact e3 j v hv
          · cases hv) hd hrow (by rw [show (P.info? ty).map (·.size) = some sz from hsz]; simp; omega)]
        simp only [Result.andThen_ok, q1]
      · simp only [RepL]
        exact ⟨_, vs, rfl, by simp only [RepA]; exact ⟨_, rfl, RepL.mono l2 _ _ r1⟩, q2⟩
    · rename_i hrow
      simp only [resA, Option.bind_eq_some_iff, Option.map_eq_some_iff, Prod.exists, Prod.mk.injEq] at ha
      obtain ⟨x, h0, a, m1, h1, as', m2, h2, rfl, rfl⟩ := ha
      obtain ⟨b, off, u, e1, e2, e3⟩ := ld1_sound S (ht n) h0
      obtain ⟨g1, r1, S1, l1⟩ := fz_sound S e3 h1
      obtain ⟨g2, vs, q1, q2, S2, l2⟩ := resVs_sound hr S1 (fun i => (ht i).mono l1 (LLe.refl _)) h2
      refine ⟨g2, u :: vs, ?_, ?_, S2, l1.trans l2⟩
      · rw [List.mapM_cons]
        simp only [show dd.isRow = false from by simpa using hrow] at hag
        simp [resRun, e1, asAddr, loadVar, hag, load, Sem.run, e2, q1]
      · simp only [RepL]
        exact ⟨_, vs, rfl, RepA.mono l2 _ _ r1, q2⟩

def tupV : List Value → Value
  | [v] => v
  | vs => .tuple vs.toArray

theorem run_results {fn : Func} {tmps : Array Value} {w : World} {vs : List Value} (h : (fn.results.toList.mapM (resRun tmps)).run P w = .ok vs w) : (results fn tmps).run P w = .ok (tupV vs) w := by
  have e : results fn tmps = (do
      let vs ← fn.results.mapM (resRun tmps)
      pure (if h : vs.size = 1 then vs[0] else .tuple vs)) := by
    unfold results
    congr 1
    try (congr 1; funext r; cases r <;> rfl)
  rw [e]
  simp only [Sem.run_bind, Array.mapM_eq_mapM_toList, map_eq_pure_bind, h, Result.andThen_ok, Sem.run_pure]
  match vs with
  | [] => simp [tupV]
  | [t] => simp [tupV]
  | t :: u :: r => simp [tupV]

theorem tup_rep {g : G} {w : World} {as : List AV} {vs : List Value} (h : RepL g w as vs) : RepA g w (tupA as) (tupV vs) := by
  have hl := RepL.length h
  match as, vs, h, hl with
  | [], [], h, _ => simp only [tupA, tupV, RepA]; exact ⟨[], rfl, h⟩
  | [x], [v], h, _ => simp only [RepL] at h; obtain ⟨y, ys, e, h1, h2⟩ := h; subst h2; cases e; exact h1
  | x :: y :: r, u :: v :: s, h, _ => simp only [tupA, tupV, RepA]; exact ⟨u :: v :: s, rfl, h⟩

theorem sim0 {g : G} {h : Heap} {w : World} (H : HSim g h w) : SimC ⟨g, h, w⟩ g (fun _ _ => none) ⟨fun _ => .no, 0, h⟩ w :=
  ⟨H, Ext.refl _ _ _, fun _ _ _ e => (by cases e), fun _ _ _ e => (by cases e), fun _ _ _ _ _ _ _ e => (by cases e), fun _ _ _ _ e => (by cases e), fun _ _ _ => rfl, fun _ _ _ e => (by cases e)⟩

theorem acalls_body {f : Nat} {ac : AC} {rts : List RV} {nt : Nat} {args : List AV} {h : Heap} {R : AV → Heap → Prop} (hc : compF P pol f = some (ac, rts, nt)) (hn : args.length ≤ nt)
    (hb : awp P ac (endK rts R) ⟨initT args, ⟨fun _ => .no, 0, h⟩⟩) : ACalls P f args h R := by
  unfold compF at hc
  split at hc
  · rename_i hok
    simp only [Option.bind_eq_some_iff, Option.map_eq_some_iff, Prod.mk.injEq] at hc
    obtain ⟨fn, hf, c, hbody, rts', hr, ac', hcc, rfl, rfl, rfl⟩ := hc
    refine ⟨hok, fun g w vs hG H hvs => ?_⟩
    have hlen : vs.length ≤ fn.ntmps := by rw [RepL.length hvs]; exact hn
    refine calls_of_wp hf hbody ?_
    refine wp_mono (awp_sound (k := ⟨g, h, w⟩) ⟨H, hG⟩ (n := fn.ntmps) hcc hb ⟨rfl, by simp; omega, g, fun _ _ => none, sim0 H, ?_⟩) ?_
    · intro i
      by_cases hi : i < vs.length
      · have hg : (vs.toArray ++ Array.replicate (fn.ntmps - vs.toArray.size) undef).getD i undef = vs[i] := by
          simp [Array.getD_eq_getD_getElem?, Array.getElem?_append, hi]
        rw [hg]
        have : args[i]? = some (args[i]'(by rw [← RepL.length hvs]; exact hi)) := List.getElem?_eq_getElem _
        obtain ⟨v, hv, hrv⟩ := hvs.get i _ this
        have e : vs[i] = v := by
          rw [List.getElem?_eq_getElem hi] at hv
          exact Option.some.inj hv
        rw [e]
        simp only [initT, this]
        exact hrv
      · have hg : (vs.toArray ++ Array.replicate (fn.ntmps - vs.toArray.size) undef).getD i undef = undef := by
          simp only [Array.getD_eq_getD_getElem?, Array.getElem?_append, List.size_toArray, hi, if_false, Array.getElem?_replicate]
          split <;> rfl
        rw [hg]
        have : args[i]? = none := by rw [List.getElem?_eq_none_iff, ← RepL.length hvs]; omega
        simp [initT, this, RepT, RepA]
    · rintro e a' w' ⟨st, hq, hs1, hs2, g', la, S, ht⟩
      have key : bindL (resA st.t st.m rts') (fun as m => R (tupA as) m.h) → a'.defers = [] ∧ ∃ v, (results fn a'.tmps).run P w' = .ok v w' ∧ ∃ r h' g' v', Ending.returned v = .returned v' ∧ R r h' ∧ RepA g' w' r v' ∧ HSim g' h' w' ∧ Ext g h w g' h' w' := by
        intro hb
        unfold bindL at hb
        split at hb
        · rename_i as m1 hfz
          obtain ⟨g2, vs, q1, r2, S2, l2⟩ := resVs_sound hr S ht hfz
          exact ⟨hs1, _, run_results q1, _, m1.h, g2, _, rfl, hb, tup_rep r2, S2.hs, S2.ext⟩
        · exact hb.elim
      cases e with
      | normal => exact key hq
      | ret => exact key hq
      | _ => exact hq.elim
  · cases hc

theorem thenK_mono {C C' : St → Prop} {Q Q' : Exit → St → Prop} (h1 : ∀ st, C st → C' st) (h2 : ∀ e st, Q e st → Q' e st) : ∀ e st, thenK C Q e st → thenK C' Q' e st := by
  intro e st h
  cases e <;> first | exact h1 _ h | exact h2 _ _ h

theorem blockK_mono {id : Nat} {Q Q' : Exit → St → Prop} (h2 : ∀ e st, Q e st → Q' e st) : ∀ e st, blockK id Q e st → blockK id Q' e st := by
  intro e st h
  cases e with
  | exit id' =>
    simp only [blockK] at *
    split at h
    · rename_i e; simp only [e, if_true]; exact h2 _ _ h
    · rename_i e; simp only [e, if_false]; exact h2 _ _ h
  | _ => exact h2 _ _ h

theorem ngK_mono {Q Q' : Exit → St → Prop} (h2 : ∀ e st, Q e st → Q' e st) : ∀ e st, ngK Q e st → ngK Q' e st := by
  intro e st h
  cases e <;> first | exact h.elim | exact h2 _ _ h

theorem iterK_mono {W : (Exit → St → Prop) → St → Prop} (hW : ∀ Q Q' st, (∀ e st, Q e st → Q' e st) → W Q st → W Q' st) {Q Q' : Exit → St → Prop} (h : ∀ e st, Q e st → Q' e st) : ∀ n st, iterK W Q n st → iterK W Q' n st
  | 0, st, hb => hb
  | n + 1, st, hb => hW _ _ _ (thenK_mono (iterK_mono hW h n) h) hb

theorem awpD_mono : ∀ {p : DP} {C C' : St → Prop} {st : St}, (∀ st, C st → C' st) → awpD P p C st → awpD P p C' st
  | .dn, C, C', st, h, hb => h _ hb
  | .no, C, C', st, h, hb => hb
  | .q op r, C, C', st, h, hb => by
    simp only [awpD, qK] at *
    split at hb
    · exact awpD_mono h hb
    · exact hb
  | .c op rs r, C, C', st, h, hb => doO_mono (fun st hst => ⟨hst.1, awpD_mono h hst.2⟩) hb
  | .a x y, C, C', st, h, hb => ⟨awpD_mono h hb.1, awpD_mono h hb.2⟩

theorem awp_mono : ∀ {ac : AC} {Q Q' : Exit → St → Prop} {st : St}, (∀ e st, Q e st → Q' e st) → awp P ac Q st → awp P ac Q' st
  | .sk, _, _, _, h, hb => h _ _ hb
  | .rg ops, _, _, _, h, hb => doOs_mono (h _) hb
  | .dr p, _, _, _, h, hb => awpD_mono (h _) hb
  | .sq a b, _, _, _, h, hb => awp_mono (ac := a) (thenK_mono (fun st => awp_mono (ac := b) h) h) hb
  | .cd x a b, _, _, _, h, hb => caseT_mono (awp_mono (ac := a) h) (awp_mono (ac := b) h) hb
  | .bk id a, _, _, _, h, hb => awp_mono (ac := a) (blockK_mono h) hb
  | .lp a, _, _, _, h, ⟨n, hb⟩ => ⟨n, iterK_mono (W := awp P a) (fun Q Q' st h => awp_mono (ac := a) h) h n _ hb⟩
  | .sp a, _, _, _, h, hb => awp_mono (ac := a) (ngK_mono h) hb
  | .ex id, _, _, _, h, hb => h _ _ hb
  | .rt, _, _, _, h, hb => h _ _ hb

theorem iterK_succ {W : (Exit → St → Prop) → St → Prop} (hW : ∀ Q Q' st, (∀ e st, Q e st → Q' e st) → W Q st → W Q' st) {Q : Exit → St → Prop} : ∀ n st, iterK W Q n st → iterK W Q (n + 1) st
  | 0, st, hb => hb.elim
  | n + 1, st, hb => hW _ _ _ (thenK_mono (iterK_succ hW n) (fun _ _ h => h)) hb

theorem iterK_le {W : (Exit → St → Prop) → St → Prop} (hW : ∀ Q Q' st, (∀ e st, Q e st → Q' e st) → W Q st → W Q' st) {Q : Exit → St → Prop} {n m : Nat} (h : n ≤ m) {st : St} (hb : iterK W Q n st) : iterK W Q m st := by
  induction h with
  | refl => exact hb
  | step _ ih => exact iterK_succ hW _ _ ih

/-- A loop, by what holds at its head: I d, d being how many rounds there are still at most. -/
theorem awp_lp {a : AC} {Q : Exit → St → Prop} {st : St} (I : Nat → St → Prop) (n : Nat) (h0 : I n st)
    (hr : ∀ d st, I d st → awp P a (thenK (fun st' => ∃ d', d' < d ∧ I d' st') Q) st) : awp P (.lp a) Q st := by
  have hW : ∀ Q Q' st, (∀ e st, Q e st → Q' e st) → awp P a Q st → awp P a Q' st := fun Q Q' st => awp_mono
  have key : ∀ n d st, d < n → I d st → iterK (awp P a) Q n st := by
    intro n
    induction n with
    | zero => intro d st h; omega
    | succ n ih =>
      intro d st hd hI
      refine awp_mono (thenK_mono ?_ (fun _ _ h => h)) (hr d st hI)
      rintro st' ⟨d', hd', hI'⟩
      exact ih d' st' (by omega) hI'
  exact ⟨n + 1, key (n + 1) n st (by omega) h0⟩

/-- Cut: what holds between two statements. -/
theorem awp_cut {a b : AC} {Q : Exit → St → Prop} {st : St} (M : St → Prop) (h1 : awp P a (thenK M Q) st) (h2 : ∀ st, M st → awp P b Q st) : awp P (.sq a b) Q st := by
  show awp P a (thenK (awp P b Q) Q) st
  exact awp_mono (thenK_mono h2 (fun _ _ h => h)) h1

end
end SL
