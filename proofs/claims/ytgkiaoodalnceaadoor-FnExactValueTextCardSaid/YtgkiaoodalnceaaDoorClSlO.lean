import Derived.Test.YtgkiaoodalnceaaDoorClSlN
import Derived.IntWalk
/- The simulation logic, part O: running abstract code by simp. -/
namespace SL
open Go
set_option linter.unusedVariables false
set_option linter.unusedSimpArgs false

def cdB (P : Program) (a b : AC) (Q : Exit → St → Prop) (st : St) (q : Bool) : Prop :=
  match q with
  | true => awp P a Q st
  | false => awp P b Q st
def cdK (P : Program) (a b : AC) (Q : Exit → St → Prop) (st : St) (x : TV) : Prop := caseT x (awp P a Q st) (awp P b Q st)
def bindO (t : Nat → TV) (d : Option Nat) (C : St → Prop) (r : Res) : Prop :=
  match r with
  | some (x, m) => C ⟨putO t d x, m⟩
  | none => False
def retK (d : Option Nat) (t : Nat → TV) (m : Mem) (C : St → Prop) (r : AV) (h : Heap) : Prop := C ⟨putO t d (.v r), ⟨m.l, m.c, h⟩⟩
def callO (P : Program) (f : Nat) (d : Option Nat) (t : Nat → TV) (C : St → Prop) (r : Option (List AV × Mem)) : Prop :=
  match r with
  | some (as, m) => ACalls P f as m.h (retK d t m C)
  | none => False
def callV (P : Program) (x : TV) (d : Option Nat) (t : Nat → TV) (C : St → Prop) (r : Option (List AV × Mem)) : Prop :=
  match r with
  | some (as, m) => callF P x as m.h (retK d t m C)
  | none => False
def gK (P : Program) (op : AOp) (b : Bool) (d : Option Nat) (C : St → Prop) (st : St) (x : TV) : Prop :=
  caseG x (caseB b (doO P op C st) (C ⟨putO st.t d (.v (.sc undef)), st.m⟩)) (caseB b (C ⟨putO st.t d (.v (.sc undef)), st.m⟩) (doO P op C st)) (C ⟨putO st.t d (.v (.sc undef)), st.m⟩)
def gB (P : Program) (op : AOp) (d : Option Nat) (C : St → Prop) (st : St) (q : Bool) : Prop :=
  match q with
  | true => doO P op C st
  | false => C ⟨putO st.t d (.v (.sc undef)), st.m⟩
def qO (t : Nat → TV) (m : Mem) (d : Option Nat) (C : St → Prop) (r : Option TV) : Prop :=
  match r with
  | some x => C ⟨putO t d x, m⟩
  | none => False
def endR (R : AV → Heap → Prop) (r : Option (List AV × Mem)) : Prop :=
  match r with
  | some (as, m) => R (tupA as) m.h
  | none => False

section
variable {P : Program}

theorem awp_sk {Q : Exit → St → Prop} {st : St} : awp P .sk Q st = Q .normal st := rfl
theorem awp_rg {ops : List AOp} {Q : Exit → St → Prop} {st : St} : awp P (.rg ops) Q st = doOs P ops (Q .normal) st := rfl
theorem awp_dr {p : DP} {Q : Exit → St → Prop} {st : St} : awp P (.dr p) Q st = awpD P p (Q .normal) st := rfl
theorem awp_sq {a b : AC} {Q : Exit → St → Prop} {st : St} : awp P (.sq a b) Q st = awp P a (thenK (awp P b Q) Q) st := rfl
theorem awp_cd {x : Opd} {a b : AC} {Q : Exit → St → Prop} {st : St} : awp P (.cd x a b) Q st = cdK P a b Q st (ev st.t x) := by
  simp only [awp, cdK, caseT]
theorem cdK_bool {a b : AC} {Q : Exit → St → Prop} {st : St} {q : Bool} : cdK P a b Q st (.v (.sc (.bool q))) = cdB P a b Q st q := by cases q <;> rfl
theorem cdB_true {a b : AC} {Q : Exit → St → Prop} {st : St} : cdB P a b Q st true = awp P a Q st := rfl
theorem cdB_false {a b : AC} {Q : Exit → St → Prop} {st : St} : cdB P a b Q st false = awp P b Q st := rfl
theorem cdB_not {a b : AC} {Q : Exit → St → Prop} {st : St} {q : Bool} : cdB P a b Q st (!q) = cdB P b a Q st q := by cases q <;> rfl
theorem cdB_dec {a b : AC} {Q : Exit → St → Prop} {st : St} {p : Prop} [Decidable p] (h1 : p → decide p = true → awp P a Q st) (h2 : ¬ p → decide p = false → awp P b Q st) : cdB P a b Q st (decide p) := by
  by_cases h : p
  · rw [decide_eq_true h]; exact h1 h (decide_eq_true h)
  · rw [decide_eq_false h]; exact h2 h (decide_eq_false h)
theorem cdB_of {a b : AC} {Q : Exit → St → Prop} {st : St} {q : Bool} (h1 : q = true → awp P a Q st) (h2 : q = false → awp P b Q st) : cdB P a b Q st q := by
  cases q
  · exact h2 rfl
  · exact h1 rfl
theorem awp_bk {id : Nat} {a : AC} {Q : Exit → St → Prop} {st : St} : awp P (.bk id a) Q st = awp P a (blockK id Q) st := rfl
theorem awp_sp {a : AC} {Q : Exit → St → Prop} {st : St} : awp P (.sp a) Q st = awp P a (ngK Q) st := rfl
theorem awp_ex {id : Nat} {Q : Exit → St → Prop} {st : St} : awp P (.ex id) Q st = Q (.exit id) st := rfl
theorem awp_rt {Q : Exit → St → Prop} {st : St} : awp P .rt Q st = Q .ret st := rfl

theorem doOs_nil {C : St → Prop} {st : St} : doOs P [] C st = C st := rfl
theorem doOs_cons {op : AOp} {r : List AOp} {C : St → Prop} {st : St} : doOs P (op :: r) C st = doO P op (doOs P r C) st := rfl

theorem doO_o {d : Option Nat} {i : AI} {C : St → Prop} {st : St} : doO P (.o d i) C st = bindO st.t d C (aev (d.getD 0) st.t st.m i) := by
  simp only [doO, bindK, bindO]
  rfl
theorem bindO_some {t : Nat → TV} {d : Option Nat} {C : St → Prop} {x : TV} {m : Mem} : bindO t d C (some (x, m)) = C ⟨putO t d x, m⟩ := rfl
theorem bindO_ite {t : Nat → TV} {d : Option Nat} {C : St → Prop} {c : Prop} [Decidable c] {a : Res} : bindO t d C (if c then a else none) = (c ∧ bindO t d C a) := by
  by_cases h : c <;> simp [h, bindO]
theorem doO_c {d : Option Nat} {f : Nat} {xs : List Opd} {C : St → Prop} {st : St} : doO P (.c d f xs) C st = callO P f d st.t C (fzs st.m (xs.map (ev st.t))) := by
  simp only [doO, bindL, callO, retK]
  rfl
theorem callO_some {f : Nat} {d : Option Nat} {t : Nat → TV} {C : St → Prop} {as : List AV} {m : Mem} : callO P f d t C (some (as, m)) = ACalls P f as m.h (retK d t m C) := rfl
theorem retK_eq {d : Option Nat} {t : Nat → TV} {C : St → Prop} {m : Mem} {r : AV} {h : Heap} : retK d t m C r h = C ⟨putO t d (.v r), ⟨m.l, m.c, h⟩⟩ := rfl
theorem doO_f {d : Option Nat} {x : Opd} {xs : List Opd} {C : St → Prop} {st : St} : doO P (.f d x xs) C st = callV P (ev st.t x) d st.t C (fzs st.m (xs.map (ev st.t))) := by
  simp only [doO, bindL, callV, retK]
  rfl
theorem callV_some {x : TV} {d : Option Nat} {t : Nat → TV} {C : St → Prop} {as : List AV} {m : Mem} : callV P x d t C (some (as, m)) = callF P x as m.h (retK d t m C) := rfl
theorem doO_g {j : Nat} {b : Bool} {d : Option Nat} {op : AOp} {C : St → Prop} {st : St} : doO P (.g j b d op) C st = gK P op b d C st (st.t j) := by
  simp only [doO, gK, caseG]
theorem gK_bool {op : AOp} {b : Bool} {d : Option Nat} {C : St → Prop} {st : St} {q : Bool} : gK P op b d C st (.v (.sc (.bool q))) = gB P op d C st (q == b) := by cases q <;> cases b <;> rfl
theorem gK_undef {op : AOp} {b : Bool} {d : Option Nat} {C : St → Prop} {st : St} : gK P op b d C st (.v (.sc undef)) = C ⟨putO st.t d (.v (.sc undef)), st.m⟩ := rfl
theorem gB_true {op : AOp} {d : Option Nat} {C : St → Prop} {st : St} : gB P op d C st true = doO P op C st := rfl
theorem gB_false {op : AOp} {d : Option Nat} {C : St → Prop} {st : St} : gB P op d C st false = C ⟨putO st.t d (.v (.sc undef)), st.m⟩ := rfl
theorem gB_dec {op : AOp} {d : Option Nat} {C : St → Prop} {st : St} {p : Prop} [Decidable p] (h1 : p → decide p = true → doO P op C st) (h2 : ¬ p → decide p = false → C ⟨putO st.t d (.v (.sc undef)), st.m⟩) : gB P op d C st (decide p) := by
  by_cases h : p
  · rw [decide_eq_true h]; exact h1 h (decide_eq_true h)
  · rw [decide_eq_false h]; exact h2 h (decide_eq_false h)
theorem gB_ndec {op : AOp} {d : Option Nat} {C : St → Prop} {st : St} {p : Prop} [Decidable p] (h1 : p → decide p = true → C ⟨putO st.t d (.v (.sc undef)), st.m⟩) (h2 : ¬ p → decide p = false → doO P op C st) : gB P op d C st (!decide p) := by
  by_cases h : p
  · rw [decide_eq_true h]; exact h1 h (decide_eq_true h)
  · rw [decide_eq_false h]; exact h2 h (decide_eq_false h)
theorem gB_of {op : AOp} {d : Option Nat} {C : St → Prop} {st : St} {q : Bool} (h1 : q = true → doO P op C st) (h2 : q = false → C ⟨putO st.t d (.v (.sc undef)), st.m⟩) : gB P op d C st q := by
  cases q
  · exact h2 rfl
  · exact h1 rfl
theorem gB_nof {op : AOp} {d : Option Nat} {C : St → Prop} {st : St} {q : Bool} (h1 : q = true → C ⟨putO st.t d (.v (.sc undef)), st.m⟩) (h2 : q = false → doO P op C st) : gB P op d C st (!q) := by
  cases q
  · exact h2 rfl
  · exact h1 rfl

theorem awpD_dn {C : St → Prop} {st : St} : awpD P .dn C st = C st := rfl
theorem awpD_q {op : AOp} {r : DP} {C : St → Prop} {st : St} : awpD P (.q op r) C st = qO st.t st.m (dsO op) (awpD P r C) (qvO st.t st.m op) := by
  simp only [awpD, qK, qO]
  rfl
theorem qO_some {t : Nat → TV} {m : Mem} {d : Option Nat} {C : St → Prop} {x : TV} : qO t m d C (some x) = C ⟨putO t d x, m⟩ := rfl
theorem qO_ite {t : Nat → TV} {m : Mem} {d : Option Nat} {C : St → Prop} {c : Prop} [Decidable c] {a : Option TV} : qO t m d C (if c then a else none) = (c ∧ qO t m d C a) := by
  by_cases h : c <;> simp [h, qO]
theorem awpD_c {op : AOp} {rs : List AOp} {r : DP} {C : St → Prop} {st : St} : awpD P (.c op rs r) C st = doO P op (chkK rs (awpD P r C)) st := rfl
theorem awpD_a {x y : DP} {C : St → Prop} {st : St} : awpD P (.a x y) C st = (awpD P x C st ∧ awpD P y C st) := rfl
theorem chkK_eq {rs : List AOp} {C : St → Prop} {st : St} : chkK rs C st = (rechk rs st ∧ C st) := rfl

theorem thenK_normal {C : St → Prop} {Q : Exit → St → Prop} {st : St} : thenK C Q .normal st = C st := rfl
theorem thenK_ret {C : St → Prop} {Q : Exit → St → Prop} {st : St} : thenK C Q .ret st = Q .ret st := rfl
theorem thenK_exit {C : St → Prop} {Q : Exit → St → Prop} {st : St} {i : Nat} : thenK C Q (.exit i) st = Q (.exit i) st := rfl
theorem blockK_normal {id : Nat} {Q : Exit → St → Prop} {st : St} : blockK id Q .normal st = Q .normal st := rfl
theorem blockK_ret {id : Nat} {Q : Exit → St → Prop} {st : St} : blockK id Q .ret st = Q .ret st := rfl
theorem blockK_exit {id i : Nat} {Q : Exit → St → Prop} {st : St} : blockK id Q (.exit i) st = if i = id then Q .normal st else Q (.exit i) st := rfl
theorem ngK_normal {Q : Exit → St → Prop} {st : St} : ngK Q .normal st = Q .normal st := rfl
theorem ngK_ret {Q : Exit → St → Prop} {st : St} : ngK Q .ret st = Q .ret st := rfl
theorem ngK_exit {i : Nat} {Q : Exit → St → Prop} {st : St} : ngK Q (.exit i) st = Q (.exit i) st := rfl

theorem endK_normal {rts : List RV} {R : AV → Heap → Prop} {st : St} : endK rts R .normal st = endR R (resA st.t st.m rts) := by
  simp only [endK, bindL, endR]
  rfl
theorem endK_ret {rts : List RV} {R : AV → Heap → Prop} {st : St} : endK rts R .ret st = endR R (resA st.t st.m rts) := by
  simp only [endK, bindL, endR]
  rfl

theorem endR_some {R : AV → Heap → Prop} {as : List AV} {m : Mem} : endR R (some (as, m)) = R (tupA as) m.h := rfl
theorem bindK_some {x : TV} {m : Mem} {C : TV → Mem → Prop} : bindK (some (x, m)) C = C x m := rfl
theorem bindK_ite {c : Prop} [Decidable c] {a : Res} {C : TV → Mem → Prop} : bindK (if c then a else none) C = (c ∧ bindK a C) := by
  by_cases h : c <;> simp [h, bindK]
theorem bindL_some {x : List AV} {m : Mem} {C : List AV → Mem → Prop} : bindL (some (x, m)) C = C x m := rfl
theorem bindL_ite {c : Prop} [Decidable c] {a : Option (List AV × Mem)} {C : List AV → Mem → Prop} : bindL (if c then a else none) C = (c ∧ bindL a C) := by
  by_cases h : c <;> simp [h, bindL]
theorem qK_some {x : TV} {C : TV → Prop} : qK (some x) C = C x := rfl
theorem qK_ite {c : Prop} [Decidable c] {a : Option TV} {C : TV → Prop} : qK (if c then a else none) C = (c ∧ qK a C) := by
  by_cases h : c <;> simp [h, qK]
theorem map_ite {α β : Type} {c : Prop} [Decidable c] {a : Option α} {f : α → β} : Option.map f (if c then a else none) = if c then a.map f else none := by
  by_cases h : c <;> simp [h]
theorem bind_ite {α β : Type} {c : Prop} [Decidable c] {a : Option α} {f : α → Option β} : Option.bind (if c then a else none) f = if c then a.bind f else none := by
  by_cases h : c <;> simp [h]

theorem caseT_bool {q : Bool} {A B : Prop} : caseT (.v (.sc (.bool q))) A B = caseB q A B := rfl
theorem caseB_true {A B : Prop} : caseB true A B = A := rfl
theorem caseB_false {A B : Prop} : caseB false A B = B := rfl
theorem caseB_dec {p : Prop} [Decidable p] {A B : Prop} (h1 : p → A) (h2 : ¬ p → B) : caseB (decide p) A B := by
  by_cases h : p
  · simp only [h, decide_true]; exact h1 h
  · simp only [h, decide_false]; exact h2 h
theorem caseB_not {q : Bool} {A B : Prop} : caseB (!q) A B = caseB q B A := by cases q <;> rfl
theorem caseB_of {q : Bool} {A B : Prop} (h1 : q = true → A) (h2 : q = false → B) : caseB q A B := by
  cases q
  · exact h2 rfl
  · exact h1 rfl

theorem upd_app {α : Type} {t : Nat → α} {d e : Nat} {x : α} : upd t d x e = if e = d then x else t e := rfl
theorem putO_some {t : Nat → TV} {d : Nat} {x : TV} : putO t (some d) x = upd t d x := rfl
theorem putO_none {t : Nat → TV} {x : TV} : putO t none x = t := rfl

theorem initT_0 {a : AV} {r : List AV} : initT (a :: r) 0 = .v a := rfl
theorem initT_1 {a b : AV} {r : List AV} : initT (a :: b :: r) 1 = .v b := rfl
theorem initT_2 {a b c : AV} {r : List AV} : initT (a :: b :: c :: r) 2 = .v c := rfl
theorem initT_3 {a b c d : AV} {r : List AV} : initT (a :: b :: c :: d :: r) 3 = .v d := rfl

theorem ACalls_val {f : Nat} {args : List AV} {h : Heap} {v : AV} {R : AV → Heap → Prop} (hc : ACalls P f args h fun r h' => r = v ∧ h' = h) (hR : R v h) : ACalls P f args h R :=
  hc.mono fun r h' ⟨e1, e2⟩ => by subst e1; subst e2; exact hR

theorem ofV_bool {b : Bool} : ofV (.bool b) = .sc (.bool b) := rfl
theorem ofV_int {k : IntKind} {n : Int} : ofV (.int k n) = .sc (.int k n) := rfl
theorem ofV_string {s : ByteArray} : ofV (.string s) = .sc (.string s) := rfl
theorem ofV_pointer {s : Option Addr} : ofV (.pointer s) = .sc (.pointer s) := rfl
theorem ofV_slice {s : Option Addr} {l c : Nat} : ofV (.slice s l c) = .sc (.slice s l c) := rfl
theorem ofV_agg {cs : List Value} : ofV (.agg cs.toArray) = .agg (cs.map AV.sc) := by simp [ofV]

end

attribute [push_cast] awp_sk awp_rg awp_sq awp_cd cdK_bool cdB_true cdB_false cdB_not awp_sp awp_ex awp_rt doOs_nil doOs_cons doO_o bindO_some bindO_ite doO_c callO_some retK_eq doO_f callV_some doO_g gK_bool gK_undef gB_true gB_false awpD_dn awpD_q qO_some qO_ite awpD_c awpD_a chkK_eq
  thenK_normal thenK_ret thenK_exit blockK_normal blockK_ret blockK_exit ngK_normal ngK_ret ngK_exit endK_normal endK_ret endR_some map_ite bind_ite
  upd_app putO_some putO_none initT_0 initT_1 initT_2 initT_3 ofV_bool ofV_int ofV_string ofV_pointer ofV_slice
  Option.map_some Option.map_none Option.bind_some Option.bind_none Option.getD_some Option.getD_none
  IntWalk.i64_in IntWalk.u8_in IntWalk.u16_in IntWalk.u32_in IntWalk.u64_in IntWalk.i32_in

attribute [irreducible] cdB gB

theorem doOs_cg {P : Program} {a : List AOp} {Q : St → Prop} {st st' : St} (h : st = st') : doOs P a Q st = doOs P a Q st' := by rw [h]
end SL
