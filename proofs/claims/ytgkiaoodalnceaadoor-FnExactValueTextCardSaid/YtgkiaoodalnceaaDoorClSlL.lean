import Derived.Test.YtgkiaoodalnceaaDoorClSlLa
import Derived.Scope
/- The simulation logic, part L: statements, calls, bodies. -/
namespace SL
open Go
set_option linter.unusedVariables false
set_option linter.unusedSimpArgs false

inductive AOp where
  | o (d : Option Nat) (i : AI)
  | c (d : Option Nat) (f : Nat) (xs : List Opd)
  | f (d : Option Nat) (x : Opd) (xs : List Opd)
  | g (j : Nat) (b : Bool) (d : Option Nat) (op : AOp)
  deriving Inhabited

/-- A region that draws its order: quiet operations as early as they can be, the others one behind the other; behind each what was read ahead of it is read again. -/
inductive DP where
  | dn
  | no
  | q (op : AOp) (r : DP)
  | c (op : AOp) (rs : List AOp) (r : DP)
  | a (x y : DP)
  deriving Inhabited

inductive AC where
  | sk
  | rg (ops : List AOp)
  | dr (p : DP)
  | sq (a b : AC)
  | cd (x : Opd) (a b : AC)
  | bk (id : Nat) (a : AC)
  | lp (a : AC)
  | sp (a : AC)
  | ex (id : Nat)
  | rt
  deriving Inhabited

def putO (t : Nat → TV) (d : Option Nat) (x : TV) : Nat → TV :=
  match d with
  | some d => upd t d x
  | none => t

def bindK (r : Res) (C : TV → Mem → Prop) : Prop :=
  match r with
  | some (x, m) => C x m
  | none => False

def bindL (r : Option (List AV × Mem)) (C : List AV → Mem → Prop) : Prop :=
  match r with
  | some (x, m) => C x m
  | none => False

def caseB (q : Bool) (A B : Prop) : Prop :=
  match q with
  | true => A
  | false => B

def caseT (x : TV) (A B : Prop) : Prop :=
  match x with
  | .v (.sc (.bool q)) => caseB q A B
  | _ => False

/-- A guard: what was left out itself (a value of no results) lets nothing through. -/
def caseG (x : TV) (A B U : Prop) : Prop :=
  match x with
  | .v (.sc (.bool q)) => caseB q A B
  | .v (.sc (.tuple _)) => U
  | _ => False

def callF (P : Program) (x : TV) (as : List AV) (h : Heap) (R : AV → Heap → Prop) : Prop :=
  match x with
  | .v (.fn (.func f) fi ca) => ACalls P f (fi ++ (as ++ ca)) h R
  | _ => False

/-- One operation. -/
def doO (P : Program) (op : AOp) (C : St → Prop) (st : St) : Prop :=
  match op with
  | .o d i => bindK (aev (d.getD 0) st.t st.m i) fun x m => C ⟨putO st.t d x, m⟩
  | .c d f xs => bindL (fzs st.m (xs.map (ev st.t))) fun as m => ACalls P f as m.h fun r h => C ⟨putO st.t d (.v r), ⟨m.l, m.c, h⟩⟩
  | .f d x xs => bindL (fzs st.m (xs.map (ev st.t))) fun as m => callF P (ev st.t x) as m.h fun r h => C ⟨putO st.t d (.v r), ⟨m.l, m.c, h⟩⟩
  | .g j b d op => caseG (st.t j) (caseB b (doO P op C st) (C ⟨putO st.t d (.v (.sc undef)), st.m⟩)) (caseB b (C ⟨putO st.t d (.v (.sc undef)), st.m⟩) (doO P op C st)) (C ⟨putO st.t d (.v (.sc undef)), st.m⟩)

def doOs (P : Program) : List AOp → (St → Prop) → St → Prop
  | [], C, st => C st
  | op :: r, C, st => doO P op (doOs P r C) st

def dsO : AOp → Option Nat
  | .o d _ => d
  | .c d _ _ => d
  | .f d _ _ => d
  | .g _ _ d _ => d

def qvO (t : Nat → TV) (m : Mem) : AOp → Option TV
  | .o _ i => qv t m i
  | .g j b _ op => match t j with
    | .v (.sc (.bool q)) => if q = b then qvO t m op else some (.v (.sc undef))
    | .v (.sc (.tuple _)) => some (.v (.sc undef))
    | _ => none
  | _ => none

def getO (t : Nat → TV) : Option Nat → Option TV
  | some d => some (t d)
  | none => none

def rechk : List AOp → St → Prop
  | [], _ => True
  | op :: r, st => qvO st.t st.m op = getO st.t (dsO op) ∧ rechk r st

def chkK (rs : List AOp) (C : St → Prop) (st : St) : Prop := rechk rs st ∧ C st

def qK (r : Option TV) (C : TV → Prop) : Prop :=
  match r with
  | some x => C x
  | none => False

def awpD (P : Program) : DP → (St → Prop) → St → Prop
  | .dn, C, st => C st
  | .no, C, st => False
  | .q op r, C, st => qK (qvO st.t st.m op) fun x => awpD P r C ⟨putO st.t (dsO op) x, st.m⟩
  | .c op rs r, C, st => doO P op (chkK rs (awpD P r C)) st
  | .a x y, C, st => awpD P x C st ∧ awpD P y C st

def thenK (C : St → Prop) (Q : Exit → St → Prop) : Exit → St → Prop
  | .normal, st => C st
  | e, st => Q e st

def blockK (id : Nat) (Q : Exit → St → Prop) : Exit → St → Prop
  | .exit id', st => if id' = id then Q .normal st else Q (.exit id') st
  | e, st => Q e st

def ngK (Q : Exit → St → Prop) : Exit → St → Prop
  | .goto _, _ => False
  | e, st => Q e st

def iterK (W : (Exit → St → Prop) → St → Prop) (Q : Exit → St → Prop) : Nat → St → Prop
  | 0, _ => False
  | n + 1, st => W (thenK (iterK W Q n) Q) st

def awp (P : Program) : AC → (Exit → St → Prop) → St → Prop
  | .sk, Q, st => Q .normal st
  | .rg ops, Q, st => doOs P ops (Q .normal) st
  | .dr p, Q, st => awpD P p (Q .normal) st
  | .sq a b, Q, st => awp P a (thenK (awp P b Q) Q) st
  | .cd x a b, Q, st => caseT (ev st.t x) (awp P a Q st) (awp P b Q st)
  | .bk id a, Q, st => awp P a (blockK id Q) st
  | .lp a, Q, st => ∃ n, iterK (awp P a) Q n st
  | .sp a, Q, st => awp P a (ngK Q) st
  | .ex id, Q, st => Q (.exit id) st
  | .rt, Q, st => Q .ret st

/-- A state stands in the machine. -/
def Sim (k : K) (n : Nat) (st : St) (a : Act) (w : World) : Prop :=
  a.defers = [] ∧ a.tmps.size = n ∧ ∃ g la, SimC k g la st.m w ∧ ∀ i, RepT g la w (st.t i) (a.tmps.getD i undef)

def okDst (n : Nat) : Option Nat → Bool
  | some d => decide (d < n)
  | none => true

def compCall (P : Program) (o : Oper) : Option AOp :=
  match o.op with
  | .call c => match c.callee with
    | .value x => match x with
      | .func f => if okFunc P f = true then some (.c o.dst f (c.args.toList.map compX)) else none
      | x => some (.f o.dst (compX x) (c.args.toList.map compX))
    | _ => none
  | _ => none

def compA (P : Program) (pol : Pol) (o : Oper) : Option AOp :=
  match compCall P o with
  | some i => some i
  | none => (compI P pol o).map (.o o.dst)

def compO (P : Program) (pol : Pol) (n : Nat) (ops : Array Oper) (o : Oper) : Option AOp :=
  if okDst n o.dst = true then
    match o.guard with
    | none => compA P pol o
    | some (j, b) => (ops[j]?).bind fun oj => oj.dst.bind fun dj => (compA P pol o).map (.g dj b o.dst)
  else none

def compOs (P : Program) (pol : Pol) (n : Nat) (ops : Array Oper) : List Oper → Option (List AOp)
  | [] => some []
  | o :: r => (compO P pol n ops o).bind fun x => (compOs P pol n ops r).map fun xs => x :: xs

section
variable {P : Program} {k : K} {n : Nat} {pol : Pol}

theorem tmps_put {g : G} {la : La} {w : World} {a : Act} {t : Nat → TV} {d : Option Nat} {x : TV} {v : Value} (hn : okDst a.tmps.size d = true) (ht : ∀ i, RepT g la w (t i) (a.tmps.getD i undef)) (hx : RepT g la w x v) :
    ∀ i, RepT g la w (putO t d x i) ((a.put d v).tmps.getD i undef) := by
  intro i
  cases d with
  | none => exact ht i
  | some d =>
    simp only [okDst, decide_eq_true_eq] at hn
    simp only [putO, Act.put]
    by_cases e : i = d
    · subst e
      rw [upd_eq]
      simpa [Array.getD, hn] using hx
    · rw [upd_ne _ _ _ _ e]
      have := ht i
      simp only [Array.getD_eq_getD_getElem?] at this ⊢
      rw [Array.getElem?_setIfInBounds_ne (fun h => e h.symm)]
      exact this

theorem put_size (a : Act) (d : Option Nat) (v : Value) : (a.put d v).tmps.size = a.tmps.size := by
  cases d <;> simp [Act.put]
theorem put_def (a : Act) (d : Option Nat) (v : Value) : (a.put d v).defers = a.defers := by
  cases d <;> simp [Act.put]

theorem run_callFunc {f : Nat} {args : Array Value} (h : okFunc P f = true) (w : World) : (callFunc f args).run P w = .ok (.enter f args) w := by
  unfold okFunc at h
  split at h
  · rename_i fn hf
    simp only [Bool.and_eq_true, Bool.not_eq_true', beq_eq_false_iff_ne, ne_eq] at h
    obtain ⟨c, hb⟩ := Option.isSome_iff_exists.1 h.1
    simp [callFunc, hf, h.2, hb]
  · cases h

theorem doA_sound (hk : HSim k.g k.h k.w ∧ Glob P k.g k.w) {st : St} {a : Act} {w : World} {o : Oper} {ao : AOp} {C : St → Prop} {Q : Exit → Act → World → Prop} {next : Act → World → Prop} (hs : Sim k n st a w) (hd : okDst n o.dst = true) (hc : compA P pol o = some ao) (h : doO P ao C st)
    (hn : ∀ st a w, C st → Sim k n st a w → next a w) : o.wp P a w next Q := by
  obtain ⟨h1, h2, g, la, S, ht⟩ := hs
  have fin : ∀ {g' la' m' w' x v}, SimC k g' la' m' w' → (∀ i, RepT g' la' w' (st.t i) (a.tmps.getD i undef)) → RepT g' la' w' x v → C ⟨putO st.t o.dst x, m'⟩ → next (a.put o.dst v) w' := by
    intro g' la' m' w' x v S' ht' hx hC
    exact hn _ _ _ hC ⟨by rw [put_def, h1], by rw [put_size, h2], g', la', S', tmps_put (by rw [h2]; exact hd) ht' hx⟩
  have call : ∀ {f : Nat} {as : List AV} {m1 : Mem} {vs : List Value} {g1 : G}, SimC k g1 la m1 w → GLe g w g1 w → RepL g1 w as vs → (execOp a.eval o).run P w = .ok (.enter f vs.toArray) w →
      ACalls P f as m1.h (fun r h' => C ⟨putO st.t o.dst (.v r), ⟨m1.l, m1.c, h'⟩⟩) → o.wp P a w next Q := by
    intro f as m1 vs g1 S1 l1 hr hrun hcall
    unfold Oper.wp
    rw [hrun, Oper.upon_enter]
    refine (hcall.2 g1 w vs (hk.2.ext hk.1 S1.ext) S1.hs hr).mono ?_
    rintro e w' ⟨r, h', g', v, rfl, hC, hrv, H, X⟩
    have gl := X.gle S1.hs
    exact fin (x := .v r) (S1.call H X) (fun i => (ht i).mono (l1.trans gl) (LLe.refl _)) hrv hC
  have amap : ∀ c : Call, c.args.map a.eval = (c.args.toList.map a.eval).toArray := fun c => by apply Array.ext'; simp
  unfold compA at hc
  split at hc
  · rename_i ao' hcc
    cases hc
    unfold compCall at hcc
    split at hcc
    · rename_i c ho
      split at hcc
      · rename_i x hcal
        split at hcc
        · rename_i f
          split at hcc
          · rename_i hok
            cases hcc
            simp only [doO, bindL] at h
            split at h
            · rename_i as m1 hf
              obtain ⟨g1, r1, S1, l1⟩ := fzs_sound S (evs_sound ht c.args.toList) hf
              refine call S1 l1 r1 ?_ h
              simp only [execOp, ho]
              simp [resolve, hcal, Act.eval, Deferred.ofValue, invoke, run_callFunc hok]
              exact amap c
            · exact h.elim
          · cases hcc
        · cases hcc
          simp only [doO, bindL] at h
          split at h
          · rename_i as m1 hf
            obtain ⟨g1, r1, S1, l1⟩ := fzs_sound S (evs_sound ht c.args.toList) hf
            unfold callF at h
            split at h
            · rename_i f fi ca e1
              have hx := ev_sound ht x
              rw [e1] at hx
              simp only [RepT, RepA] at hx
              obtain ⟨vx, vy, e2, hx1, hx2⟩ := hx
              refine call (vs := vx ++ (c.args.toList.map a.eval ++ vy)) S1 l1 ((RepL.mono l1 _ _ hx1).append (r1.append (RepL.mono l1 _ _ hx2))) ?_ h
              simp only [execOp, ho]
              simp [resolve, hcal, e2, Deferred.ofValue, invoke, run_callFunc h.1]
            · exact h.elim
          · exact h.elim
      · cases hcc
    · cases hcc
  · simp only [Option.map_eq_some_iff] at hc
    obtain ⟨i, hi, rfl⟩ := hc
    simp only [doO, bindK] at h
    split at h
    · rename_i x m1 he
      obtain ⟨v, w', g', la', hr, r1, r2, r3, r4⟩ := op_sound S ht hi he
      have := fin r2 (fun i => (ht i).mono r3 r4) r1 h
      unfold Oper.wp
      rcases hr with hr | ⟨hr, rfl⟩
      · rw [hr]; exact this
      · rw [hr]; exact this
    · exact h.elim

end
end SL
