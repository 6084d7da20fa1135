import Derived.Test.YtgkiaoodalnceaaDoorClSlO
import Derived.Laws.Strings
import Derived.WideShapes
/- The simulation logic, part P (printed by mkP.py): equations for running abstract code by simp. -/
namespace SL
open Go
set_option linter.unusedVariables false
set_option linter.unusedSimpArgs false
def bandI (k : IntKind) (a b : Int) : Int := k.wrap (BitVec.ofInt k.bits a &&& BitVec.ofInt k.bits b).toNat
def borI (k : IntKind) (a b : Int) : Int := k.wrap (BitVec.ofInt k.bits a ||| BitVec.ofInt k.bits b).toNat
def bxorI (k : IntKind) (a b : Int) : Int := k.wrap (BitVec.ofInt k.bits a ^^^ BitVec.ofInt k.bits b).toNat
def qgK (x : TV) (b : Bool) (r : Option TV) : Option TV :=
  match x with
  | .v (.sc (.bool q)) => if q = b then r else some (.v (.sc undef))
  | .v (.sc (.tuple _)) => some (.v (.sc undef))
  | _ => none
def ldnQ (n : Nat) (m : Mem) (p : TV) : Option TV := (rdT m p).bind fun cs => if n ≤ cs.length then (avs (cs.take n)).map fun as => .v (.agg as) else none
def bndV (x : TV) : Option Int :=
  match x with
  | .v (.sc (.int _ i)) => some i
  | _ => none
def miQ (ty : Nat) (x : TV) : Option TV :=
  match x with
  | .v a => some (.v (.ifc ty a))
  | _ => none
def soK (m : Mem) (s ver off : Nat) (y : TV) (e : LE) : Option Mem :=
  match e with
  | .mu v cs => if v = ver ∧ off < cs.length ∧ cellT y = true then some ⟨upd m.l s (.mu ver (cs.set off y)), m.c, m.h⟩ else none
  | _ => none
def sonK (n : Nat) (m : Mem) (s ver off : Nat) (as : List AV) (e : LE) : Option Mem :=
  match e with
  | .mu v cs => if v = ver ∧ as.length = n ∧ off + n ≤ cs.length ∧ as.all cellA = true then some ⟨upd m.l s (.mu ver (splice off (as.map TV.v) cs)), m.c, m.h⟩ else none
  | _ => none
def apL (d sz bytes : Nat) (m : Mem) (n : Nat) (news : List TV) (s ver sz' len : Nat) (e : LE) : Res :=
  match e with
  | .mu v cs => if v = ver ∧ sz' = sz ∧ len * sz ≤ cs.length ∧ (len + n) * bytes ≤ 140737488355328 ∧ len + n ≤ 9223372036854775807 then
      some (.ls d m.c sz (len + n), newL d ⟨upd m.l s .no, m.c, m.h⟩ (cs.take (len * sz) ++ news)) else none
  | _ => none
def apK (p d sz bytes : Nat) (m : Mem) (n : Nat) (news : List TV) (x : TV) : Res :=
  match x with
  | .v (.sc (.slice none 0 0)) => if n * bytes ≤ 140737488355328 ∧ n ≤ 9223372036854775807 then (if n = 0 then some (x, m) else newSlT p d sz n m news) else none
  | .ls s ver sz' len => match m.l s with
    | .mu v cs => if v = ver ∧ sz' = sz ∧ len * sz ≤ cs.length ∧ (len + n) * bytes ≤ 140737488355328 ∧ len + n ≤ 9223372036854775807 then
        some (.ls d m.c sz (len + n), newL d ⟨upd m.l s .no, m.c, m.h⟩ (cs.take (len * sz) ++ news)) else none
    | _ => none
  | .v (.sl b sz' off len) => (fzs m news).bind fun (as, m1) => (m1.h.m b).bind fun cs =>
      if off = 0 ∧ sz' = sz ∧ len * sz ≤ cs.length ∧ (len + n) * bytes ≤ 140737488355328 ∧ len + n ≤ 9223372036854775807 then
        some (.v (.sl m1.h.nx sz 0 (len + n)), newH ⟨m1.l, m1.c, ⟨upd m1.h.m b none, m1.h.nx⟩⟩ (cs.take (len * sz) ++ as)) else none
  | _ => none
theorem toList_inj {a b : ByteArray} (h : a.toList = b.toList) : a = b := by
  rw [ByteArray.toList_eq, ByteArray.toList_eq] at h
  obtain ⟨⟨a⟩⟩ := a
  obtain ⟨⟨b⟩⟩ := b
  simp only at h
  rw [h]

theorem aev_mv {d : Nat} {t : Nat → TV} {m : Mem} {x : Opd} : aev d t m (.mv x) = (some (ev t x, m)) := rfl
theorem aev_pk {d : Nat} {t : Nat → TV} {m : Mem} {c : Opd} {a : Opd} {b : Opd} : aev d t m (.pk c a b) = ((pkT (ev t c) (ev t a) (ev t b)).map (·, m)) := rfl
theorem aev_bi {d : Nat} {t : Nat → TV} {m : Mem} {op : BinOp} {x : Opd} {y : Opd} : aev d t m (.bi op x y) = ((biT op (ev t x) (ev t y)).map (.v ·, m)) := rfl
theorem aev_bq {d : Nat} {t : Nat → TV} {m : Mem} {neq : Bool} {x : Opd} {y : Opd} : aev d t m (.bq neq x y) = ((bqT neq (ev t x) (ev t y)).map (.v ·, m)) := rfl
theorem aev_ni {d : Nat} {t : Nat → TV} {m : Mem} {kd : Nat} {neq : Bool} {x : Opd} : aev d t m (.ni kd neq x) = ((isNil kd (ev t x)).map fun b => (.v (.sc (.bool (b != neq))), m)) := rfl
theorem aev_un {d : Nat} {t : Nat → TV} {m : Mem} {op : UnOp} {x : Opd} : aev d t m (.un op x) = ((unT op (ev t x)).map (.v ·, m)) := rfl
theorem aev_cv {d : Nat} {t : Nat → TV} {m : Mem} {k : IntKind} {x : Opd} : aev d t m (.cv k x) = ((cvT k (ev t x)).map (.v ·, m)) := rfl
theorem aev_s2b {d : Nat} {t : Nat → TV} {m : Mem} {p : Nat} {x : Opd} : aev d t m (.s2b p x) = (s2bT p d m (ev t x)) := rfl
theorem aev_b2s {d : Nat} {t : Nat → TV} {m : Mem} {x : Opd} : aev d t m (.b2s x) = ((b2sT m (ev t x)).map (.v ·, m)) := rfl
theorem aev_ln {d : Nat} {t : Nat → TV} {m : Mem} {x : Opd} : aev d t m (.ln x) = ((lnT (ev t x)).map (.v ·, m)) := rfl
theorem aev_sn {d : Nat} {t : Nat → TV} {m : Mem} {x : Opd} : aev d t m (.sn x) = ((snT (ev t x)).map (.v ·, m)) := rfl
theorem aev_ex {d : Nat} {t : Nat → TV} {m : Mem} {i : Nat} {x : Opd} : aev d t m (.ex i x) = ((exT i (ev t x)).map (.v ·, m)) := rfl
theorem aev_ld {d : Nat} {t : Nat → TV} {m : Mem} {x : Opd} : aev d t m (.ld x) = ((ld1 m (ev t x)).map (·, m)) := rfl
theorem aev_ldn {d : Nat} {t : Nat → TV} {m : Mem} {n : Nat} {x : Opd} : aev d t m (.ldn n x) = (ldnT n m (ev t x)) := rfl
theorem aev_so {d : Nat} {t : Nat → TV} {m : Mem} {x : Opd} {y : Opd} : aev d t m (.so x y) = ((soT m (ev t x) (ev t y)).map (.v (.sc undef), ·)) := rfl
theorem aev_son {d : Nat} {t : Nat → TV} {m : Mem} {n : Nat} {x : Opd} {y : Opd} : aev d t m (.son n x y) = ((sonT n m (ev t x) (ev t y)).map (.v (.sc undef), ·)) := rfl
theorem aev_fa {d : Nat} {t : Nat → TV} {m : Mem} {off : Nat} {x : Opd} : aev d t m (.fa off x) = ((faT off (ev t x)).map (·, m)) := rfl
theorem aev_fl {d : Nat} {t : Nat → TV} {m : Mem} {off : Nat} {x : Opd} : aev d t m (.fl off x) = ((flT off (ev t x)).map (.v ·, m)) := rfl
theorem aev_fln {d : Nat} {t : Nat → TV} {m : Mem} {off : Nat} {n : Nat} {x : Opd} : aev d t m (.fln off n x) = ((flnT off n (ev t x)).map (.v ·, m)) := rfl
theorem aev_ix {d : Nat} {t : Nat → TV} {m : Mem} {sz : Nat} {x : Opd} {i : Opd} : aev d t m (.ix sz x i) = ((ixT sz m (ev t x) (ev t i)).map (·, m)) := rfl
theorem aev_ia {d : Nat} {t : Nat → TV} {m : Mem} {sz : Nat} {n : Nat} {x : Opd} {i : Opd} : aev d t m (.ia sz n x i) = ((iaT sz n (ev t x) (ev t i)).map (·, m)) := rfl
theorem aev_xs {d : Nat} {t : Nat → TV} {m : Mem} {x : Opd} {i : Opd} : aev d t m (.xs x i) = ((xsT (ev t x) (ev t i)).map (.v ·, m)) := rfl
theorem aev_xa {d : Nat} {t : Nat → TV} {m : Mem} {n : Nat} {x : Opd} {i : Opd} : aev d t m (.xa n x i) = ((xaT n (ev t x) (ev t i)).map (.v ·, m)) := rfl
theorem aev_nc {d : Nat} {t : Nat → TV} {m : Mem} {x : Opd} : aev d t m (.nc x) = ((ncT (ev t x)).map (·, m)) := rfl
theorem aev_al {d : Nat} {t : Nat → TV} {m : Mem} {p : Nat} {z : List Value} : aev d t m (.al p z) = (newVarT p d m (z.map fun v => .v (.sc v))) := rfl
theorem aev_bx {d : Nat} {t : Nat → TV} {m : Mem} {p : Nat} {x : Opd} : aev d t m (.bx p x) = ((cellsO (ev t x)).bind fun cs => newVarT p d m cs) := rfl
theorem aev_bd {d : Nat} {t : Nat → TV} {m : Mem} {z : List Value} {ps : List (Nat × Nat × Opd)} : aev d t m (.bd z ps) = ((fzP m (ps.map fun (o, s, x) => (o, s, ev t x))).bind fun (qs, m1) => (fillT (z.map AV.sc) qs).map fun cs => (.v (.agg cs), m1)) := rfl
theorem aev_bs {d : Nat} {t : Nat → TV} {m : Mem} {p : Nat} {sz : Nat} {ps : List Opd} : aev d t m (.bs p sz ps) = ((bsC sz (ps.map (ev t))).bind fun cs => if ps.length * sz ≤ 16777216 then newSlT p d sz ps.length m cs else none) := rfl
theorem aev_ms {d : Nat} {t : Nat → TV} {m : Mem} {p : Nat} {sz : Nat} {bytes : Nat} {z : List Value} {x : Opd} {y : Opd} : aev d t m (.ms p sz bytes z x y) = (msT p d sz bytes z m (ev t x) (ev t y)) := rfl
theorem aev_sl {d : Nat} {t : Nat → TV} {m : Mem} {sz : Nat} {x : Opd} {lo : Option Opd} {hi : Option Opd} : aev d t m (.sl sz x lo hi) = (slT sz t m (ev t x) lo hi) := rfl
theorem aev_ss {d : Nat} {t : Nat → TV} {m : Mem} {x : Opd} {lo : Option Opd} {hi : Option Opd} : aev d t m (.ss x lo hi) = ((ssT t (ev t x) lo hi).map (.v ·, m)) := rfl
theorem aev_ap {d : Nat} {t : Nat → TV} {m : Mem} {p : Nat} {sz : Nat} {bytes : Nat} {x : Opd} {y : Opd} : aev d t m (.ap p sz bytes x y) = (apT p d sz bytes m (ev t x) (ev t y)) := rfl
theorem aev_cp {d : Nat} {t : Nat → TV} {m : Mem} {sz : Nat} {x : Opd} {y : Opd} : aev d t m (.cp sz x y) = (cpT sz m (ev t x) (ev t y)) := rfl
theorem aev_mf {d : Nat} {t : Nat → TV} {m : Mem} {f : Fn} {fi : List Opd} {ca : List Opd} : aev d t m (.mf f fi ca) = ((fzs m (fi.map (ev t))).bind fun (as, m1) => (fzs m1 (ca.map (ev t))).map fun (bs, m2) => (.v (.fn f as bs), m2)) := rfl
theorem aev_mi {d : Nat} {t : Nat → TV} {m : Mem} {ty : Nat} {x : Opd} : aev d t m (.mi ty x) = (miT ty m (ev t x)) := rfl
theorem aev_mm {d : Nat} {t : Nat → TV} {m : Mem} {mx : Bool} {x : Opd} {y : Opd} : aev d t m (.mm mx x y) = ((mmT mx (ev t x) (ev t y)).map (.v ·, m)) := rfl
theorem qv_mv {t : Nat → TV} {m : Mem} {x : Opd} : qv t m (.mv x) = (some (ev t x)) := rfl
theorem qv_pk {t : Nat → TV} {m : Mem} {c : Opd} {a : Opd} {b : Opd} : qv t m (.pk c a b) = (pkT (ev t c) (ev t a) (ev t b)) := rfl
theorem qv_bi {t : Nat → TV} {m : Mem} {op : BinOp} {x : Opd} {y : Opd} : qv t m (.bi op x y) = ((biT op (ev t x) (ev t y)).map .v) := rfl
theorem qv_bq {t : Nat → TV} {m : Mem} {neq : Bool} {x : Opd} {y : Opd} : qv t m (.bq neq x y) = ((bqT neq (ev t x) (ev t y)).map .v) := rfl
theorem qv_ni {t : Nat → TV} {m : Mem} {kd : Nat} {neq : Bool} {x : Opd} : qv t m (.ni kd neq x) = ((isNil kd (ev t x)).map fun b => .v (.sc (.bool (b != neq)))) := rfl
theorem qv_un {t : Nat → TV} {m : Mem} {op : UnOp} {x : Opd} : qv t m (.un op x) = ((unT op (ev t x)).map .v) := rfl
theorem qv_cv {t : Nat → TV} {m : Mem} {k : IntKind} {x : Opd} : qv t m (.cv k x) = ((cvT k (ev t x)).map .v) := rfl
theorem qv_b2s {t : Nat → TV} {m : Mem} {x : Opd} : qv t m (.b2s x) = ((b2sT m (ev t x)).map .v) := rfl
theorem qv_ln {t : Nat → TV} {m : Mem} {x : Opd} : qv t m (.ln x) = ((lnT (ev t x)).map .v) := rfl
theorem qv_sn {t : Nat → TV} {m : Mem} {x : Opd} : qv t m (.sn x) = ((snT (ev t x)).map .v) := rfl
theorem qv_ex {t : Nat → TV} {m : Mem} {i : Nat} {x : Opd} : qv t m (.ex i x) = ((exT i (ev t x)).map .v) := rfl
theorem qv_ld {t : Nat → TV} {m : Mem} {x : Opd} : qv t m (.ld x) = (ld1 m (ev t x)) := rfl
theorem qv_ldn {t : Nat → TV} {m : Mem} {n : Nat} {x : Opd} : qv t m (.ldn n x) = (ldnQ n m (ev t x)) := rfl
theorem qv_fa {t : Nat → TV} {m : Mem} {off : Nat} {x : Opd} : qv t m (.fa off x) = (faT off (ev t x)) := rfl
theorem qv_fl {t : Nat → TV} {m : Mem} {off : Nat} {x : Opd} : qv t m (.fl off x) = ((flT off (ev t x)).map .v) := rfl
theorem qv_fln {t : Nat → TV} {m : Mem} {off : Nat} {n : Nat} {x : Opd} : qv t m (.fln off n x) = ((flnT off n (ev t x)).map .v) := rfl
theorem qv_ix {t : Nat → TV} {m : Mem} {sz : Nat} {x : Opd} {i : Opd} : qv t m (.ix sz x i) = (ixT sz m (ev t x) (ev t i)) := rfl
theorem qv_ia {t : Nat → TV} {m : Mem} {sz : Nat} {n : Nat} {x : Opd} {i : Opd} : qv t m (.ia sz n x i) = (iaT sz n (ev t x) (ev t i)) := rfl
theorem qv_xs {t : Nat → TV} {m : Mem} {x : Opd} {i : Opd} : qv t m (.xs x i) = ((xsT (ev t x) (ev t i)).map .v) := rfl
theorem qv_xa {t : Nat → TV} {m : Mem} {n : Nat} {x : Opd} {i : Opd} : qv t m (.xa n x i) = ((xaT n (ev t x) (ev t i)).map .v) := rfl
theorem qv_nc {t : Nat → TV} {m : Mem} {x : Opd} : qv t m (.nc x) = (ncT (ev t x)) := rfl
theorem qv_bs {t : Nat → TV} {m : Mem} {p : Nat} {sz : Nat} {ps : List Opd} : qv t m (.bs p sz ps) = (if p = 2 then (bsC sz (ps.map (ev t))).bind fun cs => if ps.length * sz ≤ 16777216 then (avs cs).map fun as => .v (.vec (chunk sz ps.length as)) else none else none) := rfl
theorem qv_bd {t : Nat → TV} {m : Mem} {z : List Value} {ps : List (Nat × Nat × Opd)} : qv t m (.bd z ps) = (if plainP (ps.map fun (o, s, x) => (o, s, ev t x)) = true then (fillT (z.map AV.sc) (ps.map fun (o, s, x) => (o, s, ev t x))).map fun cs => .v (.agg cs) else none) := rfl
theorem qv_ss {t : Nat → TV} {m : Mem} {x : Opd} {lo : Option Opd} {hi : Option Opd} : qv t m (.ss x lo hi) = ((ssT t (ev t x) lo hi).map .v) := rfl
theorem qv_mm {t : Nat → TV} {m : Mem} {mx : Bool} {x : Opd} {y : Opd} : qv t m (.mm mx x y) = ((mmT mx (ev t x) (ev t y)).map .v) := rfl
theorem qv_mi {t : Nat → TV} {m : Mem} {ty : Nat} {x : Opd} : qv t m (.mi ty x) = (miQ ty (ev t x)) := rfl
theorem miQ_v {ty : Nat} {a : AV} : miQ ty (.v a) = some (.v (.ifc ty a)) := rfl
theorem miT_v {ty : Nat} {m : Mem} {a : AV} : miT ty m (.v a) = some (.v (.ifc ty a), m) := rfl
theorem qvO_o {t : Nat → TV} {m : Mem} {d : Option Nat} {i : AI} : qvO t m (.o d i) = qv t m i := rfl
theorem qvO_g {t : Nat → TV} {m : Mem} {d : Option Nat} {op : AOp} {j : Nat} {b : Bool} : qvO t m (.g j b d op) = qgK (t j) b (qvO t m op) := rfl
theorem qgK_bool {q b : Bool} {r : Option TV} : qgK (.v (.sc (.bool q))) b r = if q = b then r else some (.v (.sc undef)) := rfl
theorem qgK_undef {b : Bool} {r : Option TV} : qgK (.v (.sc undef)) b r = some (.v (.sc undef)) := rfl
theorem dsO_o {d : Option Nat} {i : AI} : dsO (.o d i) = d := rfl
theorem dsO_g {d : Option Nat} {j : Nat} {b : Bool} {op : AOp} : dsO (.g j b d op) = d := rfl
theorem getO_some {t : Nat → TV} {d : Nat} : getO t (some d) = some (t d) := rfl
theorem rechk_nil {st : St} : rechk [] st = True := rfl
theorem rechk_cons {st : St} {o : AOp} {r : List AOp} : rechk (o :: r) st = (qvO st.t st.m o = getO st.t (dsO o) ∧ rechk r st) := rfl
theorem ev_t {t : Nat → TV} {n : Nat} : ev t (.t n) = t n := rfl
theorem ev_k {t : Nat → TV} {v : Value} : ev t (.k v) = .v (ofV v) := rfl
theorem ev_f {t : Nat → TV} {n : Nat} : ev t (.f n) = .v (.fn (.func n) [] []) := rfl
theorem biT_add {k : IntKind} {a b : Int} : biT .add (.v (.sc (.int k a))) (.v (.sc (.int k b))) = some (.sc (.int k (k.wrap (a + b)))) := by simp [biT, scBin, isSh, intBin]
theorem biT_sub {k : IntKind} {a b : Int} : biT .sub (.v (.sc (.int k a))) (.v (.sc (.int k b))) = some (.sc (.int k (k.wrap (a - b)))) := by simp [biT, scBin, isSh, intBin]
theorem biT_mul {k : IntKind} {a b : Int} : biT .mul (.v (.sc (.int k a))) (.v (.sc (.int k b))) = some (.sc (.int k (k.wrap (a * b)))) := by simp [biT, scBin, isSh, intBin]
theorem biT_and {k : IntKind} {a b : Int} : biT .and (.v (.sc (.int k a))) (.v (.sc (.int k b))) = some (.sc (.int k (bandI k a b))) := by simp [biT, scBin, isSh, intBin, bandI]
theorem biT_or {k : IntKind} {a b : Int} : biT .or (.v (.sc (.int k a))) (.v (.sc (.int k b))) = some (.sc (.int k (borI k a b))) := by simp [biT, scBin, isSh, intBin, borI]
theorem biT_xor {k : IntKind} {a b : Int} : biT .xor (.v (.sc (.int k a))) (.v (.sc (.int k b))) = some (.sc (.int k (bxorI k a b))) := by simp [biT, scBin, isSh, intBin, bxorI]
theorem biT_eql {k : IntKind} {a b : Int} : biT .eql (.v (.sc (.int k a))) (.v (.sc (.int k b))) = some (.sc (.bool (decide (a = b)))) := by simp [biT, scBin, isSh, intBin]; rfl
theorem biT_neq {k : IntKind} {a b : Int} : biT .neq (.v (.sc (.int k a))) (.v (.sc (.int k b))) = some (.sc (.bool (!decide (a = b)))) := by simp [biT, scBin, isSh, intBin]; rfl
theorem biT_lss {k : IntKind} {a b : Int} : biT .lss (.v (.sc (.int k a))) (.v (.sc (.int k b))) = some (.sc (.bool (decide (a < b)))) := by simp [biT, scBin, isSh, intBin]
theorem biT_leq {k : IntKind} {a b : Int} : biT .leq (.v (.sc (.int k a))) (.v (.sc (.int k b))) = some (.sc (.bool (decide (a ≤ b)))) := by simp [biT, scBin, isSh, intBin]
theorem biT_gtr {k : IntKind} {a b : Int} : biT .gtr (.v (.sc (.int k a))) (.v (.sc (.int k b))) = some (.sc (.bool (decide (b < a)))) := by simp [biT, scBin, isSh, intBin]
theorem biT_geq {k : IntKind} {a b : Int} : biT .geq (.v (.sc (.int k a))) (.v (.sc (.int k b))) = some (.sc (.bool (decide (b ≤ a)))) := by simp [biT, scBin, isSh, intBin]
theorem biT_quo {k : IntKind} {a b : Int} : biT .quo (.v (.sc (.int k a))) (.v (.sc (.int k b))) = if b ≠ 0 then some (.sc (.int k (k.wrap (a.tdiv b)))) else none := by by_cases h : b = 0 <;> simp [biT, scBin, isSh, intBin, h]
theorem biT_rem {k : IntKind} {a b : Int} : biT .rem (.v (.sc (.int k a))) (.v (.sc (.int k b))) = if b ≠ 0 then some (.sc (.int k (a.tmod b))) else none := by by_cases h : b = 0 <;> simp [biT, scBin, isSh, intBin, h]
theorem biT_shl {k k' : IntKind} {a b : Int} : biT .shl (.v (.sc (.int k a))) (.v (.sc (.int k' b))) = if 0 ≤ b then some (.sc (.int k (k.wrap (a * 2 ^ (min b.toNat k.bits))))) else none := by
  by_cases h : b < 0
  · simp [biT, scBin, isSh, shBin, h, show ¬ 0 ≤ b by omega]
  · simp [biT, scBin, isSh, shBin, h, show 0 ≤ b by omega]
theorem biT_shr {k k' : IntKind} {a b : Int} : biT .shr (.v (.sc (.int k a))) (.v (.sc (.int k' b))) = if 0 ≤ b then some (.sc (.int k (a.fdiv (2 ^ (min b.toNat k.bits))))) else none := by
  by_cases h : b < 0
  · simp [biT, scBin, isSh, shBin, h, show ¬ 0 ≤ b by omega]
  · simp [biT, scBin, isSh, shBin, h, show 0 ≤ b by omega]
theorem ba_eq {a b : ByteArray} : (a.toList == b.toList) = decide (a = b) := by
  by_cases h : a = b
  · simp [h]
  · have : a.toList ≠ b.toList := fun e => h (toList_inj e)
    simp [h, this]
theorem biT_sadd {a b : ByteArray} : biT .add (.v (.sc (.string a))) (.v (.sc (.string b))) = if a.size + b.size ≤ 140737488355328 then some (.sc (.string (a ++ b))) else none := by by_cases h : a.size + b.size ≤ 140737488355328 <;> simp [biT, scBin, strBin, h]
theorem biT_seql {a b : ByteArray} : biT .eql (.v (.sc (.string a))) (.v (.sc (.string b))) = some (.sc (.bool (decide (a = b)))) := by simp [biT, scBin, strBin, ba_eq]
theorem biT_sneq {a b : ByteArray} : biT .neq (.v (.sc (.string a))) (.v (.sc (.string b))) = some (.sc (.bool (!decide (a = b)))) := by simp [biT, scBin, strBin, ba_eq]
theorem bqT_ne {p q : Prop} [Decidable p] [Decidable q] : bqT true (.v (.sc (.bool (decide p)))) (.v (.sc (.bool (decide q)))) = some (.sc (.bool (!decide (p ↔ q)))) := by
  by_cases hp : p <;> by_cases hq : q <;> simp [bqT, hp, hq]
theorem bqT_eq {p q : Prop} [Decidable p] [Decidable q] : bqT false (.v (.sc (.bool (decide p)))) (.v (.sc (.bool (decide q)))) = some (.sc (.bool (decide (p ↔ q)))) := by
  by_cases hp : p <;> by_cases hq : q <;> simp [bqT, hp, hq]
theorem isNil_p  : isNil 0 (.v (.sc (.pointer none))) = some true := rfl
theorem isNil_ptr {n off : Nat} : isNil 0 (.v (.ptr n off)) = some false := rfl
theorem isNil_lp {s v off : Nat} : isNil 0 (.lp s v off) = some false := rfl
theorem isNil_vp {cs : List AV} : isNil 0 (.vp cs) = some false := rfl
theorem isNil_i  : isNil 1 (.v (.sc .nilIface)) = some true := rfl
theorem isNil_ifc {t : TypeId} {v : AV} : isNil 1 (.v (.ifc t v)) = some false := rfl
theorem isNil_f  : isNil 2 (.v (.sc .nilFunc)) = some true := rfl
theorem isNil_fn {f : Fn} {a b : List AV} : isNil 2 (.v (.fn f a b)) = some false := rfl
theorem unT_not {b : Bool} : unT .not (.v (.sc (.bool b))) = some (.sc (.bool (!b))) := rfl
theorem unT_neg {k : IntKind} {n : Int} : unT .neg (.v (.sc (.int k n))) = some (.sc (.int k (k.wrap (0 - n)))) := rfl
theorem pkT_bool {b : Bool} {x y : TV} : pkT (.v (.sc (.bool b))) x y = some (if b then x else y) := rfl
theorem cvT_int {k k' : IntKind} {n : Int} : cvT k (.v (.sc (.int k' n))) = some (.sc (.int k (k.wrap n))) := rfl
theorem snT_s {s : ByteArray} : snT (.v (.sc (.string s))) = some (.sc (.int .i64 s.size)) := rfl
theorem lnT_nil  : lnT (.v (.sc (.slice none 0 0))) = some (.sc (.int .i64 0)) := rfl
theorem lnT_vec {es : List (List AV)} : lnT (.v (.vec es)) = some (.sc (.int .i64 es.length)) := rfl
theorem lnT_sl {n sz off len : Nat} : lnT (.v (.sl n sz off len)) = some (.sc (.int .i64 len)) := rfl
theorem lnT_ls {s v sz len : Nat} : lnT (.ls s v sz len) = some (.sc (.int .i64 len)) := rfl
theorem exT_tup {i : Nat} {vs : List AV} : exT i (.v (.tup vs)) = vs[i]? := rfl
theorem get_mu {v u : Nat} {cs : List TV} : LE.get (.mu v cs) u = if v = u then some cs else none := rfl
theorem get_fr {v u : Nat} {cs : List TV} : LE.get (.fr v cs) u = if v = u then some cs else none := rfl
theorem rdT_ptr {m : Mem} {n off : Nat} : rdT m (.v (.ptr n off)) = (m.h.m n).map fun cs => (cs.drop off).map TV.v := rfl
theorem rdT_lp {m : Mem} {s v off : Nat} : rdT m (.lp s v off) = ((m.l s).get v).map fun cs => cs.drop off := rfl
theorem rdT_vp {m : Mem} {cs : List AV} : rdT m (.vp cs) = some (cs.map TV.v) := rfl
theorem ld1_ptr {m : Mem} {n off : Nat} : ld1 m (.v (.ptr n off)) = (m.h.m n).bind fun cs => (cs[off]?).map TV.v := rfl
theorem ld1_lp {m : Mem} {s v off : Nat} : ld1 m (.lp s v off) = ((m.l s).get v).bind fun cs => cs[off]? := rfl
theorem ld1_vp {m : Mem} {cs : List AV} : ld1 m (.vp cs) = (cs[0]?).map TV.v := rfl
theorem fz_v {m : Mem} {a : AV} : fz m (.v a) = some (a, m) := rfl
theorem fzs_gen {m : Mem} {x : TV} {r : List TV} : fzs m (x :: r) = ((fz m x).bind fun (a, m1) => (fzs m1 r).map fun (as, m2) => (a :: as, m2)) := rfl
theorem fzs_nil {m : Mem}  : fzs m [] = some ([], m) := rfl
theorem fzs_cons {m : Mem} {a : AV} {r : List TV} : fzs m (.v a :: r) = (fzs m r).map fun (as, m2) => (a :: as, m2) := rfl
theorem fzs_ls {m : Mem} {s ver sz len : Nat} {r : List TV} : fzs m (.ls s ver sz len :: r) = ((fz m (.ls s ver sz len)).bind fun (a, m1) => (fzs m1 r).map fun (as, m2) => (a :: as, m2)) := rfl
theorem avs_nil  : avs [] = some [] := rfl
theorem avs_cons {a : AV} {r : List TV} : avs (.v a :: r) = (avs r).map (a :: ·) := rfl
theorem cellA_int {k : IntKind} {n : Int} : cellA (.sc (.int k n)) = true := rfl
theorem cellA_bool {b : Bool} : cellA (.sc (.bool b)) = true := rfl
theorem cellA_str {s : ByteArray} : cellA (.sc (.string s)) = true := rfl
theorem cellA_pt {p : Option Addr} : cellA (.sc (.pointer p)) = true := rfl
theorem cellA_slc {p : Option Addr} {l c : Nat} : cellA (.sc (.slice p l c)) = true := rfl
theorem cellA_ptr {n o : Nat} : cellA (.ptr n o) = true := rfl
theorem cellA_vec {es : List (List AV)} : cellA (.vec es) = true := rfl
theorem cellA_sl {a b c d : Nat} : cellA (.sl a b c d) = true := rfl
theorem cellA_nf  : cellA (.sc .nilFunc) = true := rfl
theorem cellA_ni  : cellA (.sc .nilIface) = true := rfl
theorem cellA_fn {f : Fn} {a b : List AV} : cellA (.fn f a b) = true := rfl
theorem cellA_ifc {t : TypeId} {a : AV} : cellA (.ifc t a) = true := rfl
theorem cellT_v {a : AV} : cellT (.v a) = cellA a := rfl
theorem cellT_lp {s v o : Nat} : cellT (.lp s v o) = true := rfl
theorem cellT_ls {s v o n : Nat} : cellT (.ls s v o n) = true := rfl
theorem ldnQ_lp {m : Mem} {n : Nat} {s v off : Nat} : ldnQ n m (.lp s v off) = (rdT m (.lp s v off)).bind fun cs => if n ≤ cs.length then (avs (cs.take n)).map fun as => .v (.agg as) else none := rfl
theorem ldnQ_ptr {m : Mem} {n : Nat} {b off : Nat} : ldnQ n m (.v (.ptr b off)) = (rdT m (.v (.ptr b off))).bind fun cs => if n ≤ cs.length then (avs (cs.take n)).map fun as => .v (.agg as) else none := rfl
theorem ldnT_lp {m : Mem} {n : Nat} {s v off : Nat} : ldnT n m (.lp s v off) = (rdT m (.lp s v off)).bind fun cs => if n ≤ cs.length then (fzs m (cs.take n)).map fun (as, m1) => (.v (.agg as), m1) else none := rfl
theorem ldnT_ptr {m : Mem} {n : Nat} {b off : Nat} : ldnT n m (.v (.ptr b off)) = (rdT m (.v (.ptr b off))).bind fun cs => if n ≤ cs.length then (fzs m (cs.take n)).map fun (as, m1) => (.v (.agg as), m1) else none := rfl
theorem soT_lp {m : Mem} {s ver off : Nat} {y : TV} : soT m (.lp s ver off) y = soK m s ver off y (m.l s) := rfl
theorem soK_mu {m : Mem} {s ver v off : Nat} {y : TV} {cs : List TV} : soK m s ver off y (.mu v cs) = if v = ver ∧ off < cs.length ∧ cellT y = true then some ⟨upd m.l s (.mu ver (cs.set off y)), m.c, m.h⟩ else none := rfl
theorem soT_ptr {m : Mem} {n off : Nat} {y : TV} : soT m (.v (.ptr n off)) y = ((fz m y).bind fun (a, m1) => (m1.h.m n).bind fun cs => if off < cs.length ∧ cellA a = true then some ⟨m1.l, m1.c, ⟨upd m1.h.m n (some (cs.set off a)), m1.h.nx⟩⟩ else none) := rfl
theorem sonT_lp {m : Mem} {n s ver off : Nat} {as : List AV} : sonT n m (.lp s ver off) (.v (.agg as)) = sonK n m s ver off as (m.l s) := rfl
theorem sonK_mu {m : Mem} {n s ver v off : Nat} {as : List AV} {cs : List TV} : sonK n m s ver off as (.mu v cs) = if v = ver ∧ as.length = n ∧ off + n ≤ cs.length ∧ as.all cellA = true then some ⟨upd m.l s (.mu ver (splice off (as.map TV.v) cs)), m.c, m.h⟩ else none := rfl
theorem sonT_ptr {m : Mem} {n b off : Nat} {as : List AV} : sonT n m (.v (.ptr b off)) (.v (.agg as)) = ((m.h.m b).bind fun cs => if as.length = n ∧ off + n ≤ cs.length ∧ as.all cellA = true then some ⟨m.l, m.c, ⟨upd m.h.m b (some (splice off as cs)), m.h.nx⟩⟩ else none) := rfl
theorem faT_ptr {k n off : Nat} : faT k (.v (.ptr n off)) = some (.v (.ptr n (off + k))) := rfl
theorem faT_lp {k s v off : Nat} : faT k (.lp s v off) = some (.lp s v (off + k)) := rfl
theorem faT_vp {k : Nat} {cs : List AV} : faT k (.vp cs) = some (.vp (cs.drop k)) := rfl
theorem flT_agg {off : Nat} {cs : List AV} : flT off (.v (.agg cs)) = cs[off]? := rfl
theorem flnT_agg {off n : Nat} {cs : List AV} : flnT off n (.v (.agg cs)) = if off + n ≤ cs.length then some (.agg ((cs.drop off).take n)) else none := rfl
theorem ixT_vec {m : Mem} {sz : Nat} {es : List (List AV)} {k : IntKind} {i : Int} : ixT sz m (.v (.vec es)) (.v (.sc (.int k i))) = if 0 ≤ i ∧ i < (es.length : Int) then (es[i.toNat]?).bind fun e => if es.all (fun e => e.length == sz) = true then some (.vp e) else none else none := rfl
theorem ixT_sl {m : Mem} {sz n sz' off len : Nat} {k : IntKind} {i : Int} : ixT sz m (.v (.sl n sz' off len)) (.v (.sc (.int k i))) = if sz' = sz ∧ 0 ≤ i ∧ i < (len : Int) then some (.v (.ptr n (off + i.toNat * sz))) else none := rfl
theorem ixT_ls {m : Mem} {sz s v sz' len : Nat} {k : IntKind} {i : Int} : ixT sz m (.ls s v sz' len) (.v (.sc (.int k i))) = if sz' = sz ∧ 0 ≤ i ∧ i < (len : Int) then some (.lp s v (i.toNat * sz)) else none := rfl
theorem iaT_int {sz n : Nat} {p : TV} {k : IntKind} {i : Int} : iaT sz n p (.v (.sc (.int k i))) = if 0 ≤ i ∧ i < (n : Int) then faT (i.toNat * sz) p else none := by cases p <;> rfl
theorem xsT_s {s : ByteArray} {k : IntKind} {i : Int} : xsT (.v (.sc (.string s))) (.v (.sc (.int k i))) = if 0 ≤ i then (s[i.toNat]?).map fun b => .sc (.int .u8 b.toNat) else none := rfl
theorem xaT_agg {n : Nat} {cs : List AV} {k : IntKind} {i : Int} : xaT n (.v (.agg cs)) (.v (.sc (.int k i))) = if 0 ≤ i ∧ i < (n : Int) then cs[i.toNat]? else none := rfl
theorem ncT_ptr {n off : Nat} : ncT (.v (.ptr n off)) = some (.v (.ptr n off)) := rfl
theorem ncT_lp {s v off : Nat} : ncT (.lp s v off) = some (.lp s v off) := rfl
theorem ncT_vp {cs : List AV} : ncT (.vp cs) = some (.vp cs) := rfl
theorem newVarT_0 {m : Mem} {d : Nat} {cs : List TV} : newVarT 0 d m cs = some (.lp d m.c 0, newL d m cs) := rfl
theorem newVarT_1 {m : Mem} {d : Nat} {cs : List TV} : newVarT 1 d m cs = (fzs m cs).map fun (as, m1) => (.v (.ptr m1.h.nx 0), newH m1 as) := rfl
theorem newSlT_0 {m : Mem} {d sz n : Nat} {cs : List TV} : newSlT 0 d sz n m cs = some (.ls d m.c sz n, newL d m cs) := rfl
theorem newSlT_1 {m : Mem} {d sz n : Nat} {cs : List TV} : newSlT 1 d sz n m cs = (fzs m cs).map fun (as, m1) => (.v (.sl m1.h.nx sz 0 n), newH m1 as) := rfl
theorem newSlT_2 {m : Mem} {d sz n : Nat} {cs : List TV} : newSlT 2 d sz n m cs = (fzs m cs).map fun (as, m1) => (.v (.vec (chunk sz n as)), m1) := rfl
theorem cellsO_agg {as : List AV} : cellsO (.v (.agg as)) = some (as.map TV.v) := rfl
theorem cellsO_int {k : IntKind} {n : Int} : cellsO (.v (.sc (.int k n))) = some [.v (.sc (.int k n))] := rfl
theorem cellsO_bool {b : Bool} : cellsO (.v (.sc (.bool b))) = some [.v (.sc (.bool b))] := rfl
theorem cellsO_str {s : ByteArray} : cellsO (.v (.sc (.string s))) = some [.v (.sc (.string s))] := rfl
theorem cellsO_pt {p : Option Addr} : cellsO (.v (.sc (.pointer p))) = some [.v (.sc (.pointer p))] := rfl
theorem cellsO_slc {p : Option Addr} {l c : Nat} : cellsO (.v (.sc (.slice p l c))) = some [.v (.sc (.slice p l c))] := rfl
theorem cellsO_nf  : cellsO (.v (.sc .nilFunc)) = some [.v (.sc .nilFunc)] := rfl
theorem cellsO_ptr {n o : Nat} : cellsO (.v (.ptr n o)) = some [.v (.ptr n o)] := rfl
theorem cellsO_vec {es : List (List AV)} : cellsO (.v (.vec es)) = some [.v (.vec es)] := rfl
theorem cellsO_sl {a b c d : Nat} : cellsO (.v (.sl a b c d)) = some [.v (.sl a b c d)] := rfl
theorem cellsO_fn {f : Fn} {a b : List AV} : cellsO (.v (.fn f a b)) = some [.v (.fn f a b)] := rfl
theorem cellsO_lp {s v o : Nat} : cellsO (.lp s v o) = some [.lp s v o] := rfl
theorem cellsO_ls {s v o n : Nat} : cellsO (.ls s v o n) = some [.ls s v o n] := rfl
theorem cellsO_vp {cs : List AV} : cellsO (.vp cs) = some [.vp cs] := rfl
theorem resA_nil {t : Nat → TV} {m : Mem}  : resA t m [] = some ([], m) := rfl
theorem resA_t {t : Nat → TV} {m : Mem} {n : Nat} {r : List RV} : resA t m (.t n :: r) = (fz m (t n)).bind fun (a, m1) => (resA t m1 r).map fun (as, m2) => (a :: as, m2) := rfl
theorem resA_c {t : Nat → TV} {m : Mem} {n sz : Nat} {r : List RV} : resA t m (.c n sz :: r) = (ldnT sz m (t n)).bind fun (x, m1) => (fz m1 x).bind fun (a, m1) => (resA t m1 r).map fun (as, m2) => (a :: as, m2) := rfl
theorem resA_d {t : Nat → TV} {m : Mem} {n : Nat} {r : List RV} : resA t m (.d n :: r) = (ld1 m (t n)).bind fun x => (fz m x).bind fun (a, m1) => (resA t m1 r).map fun (as, m2) => (a :: as, m2) := rfl
theorem tupA_1 {a : AV} : tupA [a] = a := rfl
theorem tupA_2 {a b : AV} {r : List AV} : tupA (a :: b :: r) = .tup (a :: b :: r) := rfl
theorem tupA_0  : tupA [] = .tup [] := rfl
theorem callF_fn {P : Program} {f : Nat} {fi ca as : List AV} {h : Heap} {R : AV → Heap → Prop} : callF P (.v (.fn (.func f) fi ca)) as h R = ACalls P f (fi ++ (as ++ ca)) h R := rfl
theorem newL_eq {d : Nat} {m : Mem} {cs : List TV} : newL d m cs = ⟨upd m.l d (.mu m.c cs), m.c + 1, m.h⟩ := rfl
theorem newH_eq {m : Mem} {cs : List AV} : newH m cs = ⟨m.l, m.c, ⟨upd m.h.m m.h.nx (some cs), m.h.nx + 1⟩⟩ := rfl
theorem bnd_none {df : Int} {t : Nat → TV} : bnd df t none = some df := rfl
theorem ssT_s {t : Nat → TV} {s : ByteArray} {lo hi : Option Opd} : ssT t (.v (.sc (.string s))) lo hi = ((bnd 0 t lo).bind fun l => (bnd s.size t hi).bind fun h => if 0 ≤ l ∧ l ≤ h ∧ h ≤ (s.size : Int) then some (.sc (.string (s.extract l.toNat h.toNat))) else none) := rfl
theorem slT_nil {t : Nat → TV} {m : Mem} {sz : Nat} {lo hi : Option Opd} : slT sz t m (.v (.sc (.slice none 0 0))) lo hi = ((bnd 0 t lo).bind fun l => (bnd 0 t hi).bind fun h => if l = 0 ∧ h = 0 then some (.v (.sc (.slice none 0 0)), m) else none) := rfl
theorem slT_vec {t : Nat → TV} {m : Mem} {sz : Nat} {es : List (List AV)} {lo hi : Option Opd} : slT sz t m (.v (.vec es)) lo hi = ((bnd 0 t lo).bind fun l => (bnd es.length t hi).bind fun h => if 0 ≤ l ∧ l ≤ h ∧ h ≤ (es.length : Int) ∧ es.all (fun e => e.length == sz) = true then some (.v (.vec ((es.drop l.toNat).take (h.toNat - l.toNat))), m) else none) := rfl
theorem slT_ls {t : Nat → TV} {m : Mem} {sz s ver sz' len : Nat} {lo hi : Option Opd} : slT sz t m (.ls s ver sz' len) lo hi = ((bnd 0 t lo).bind fun l => (bnd len t hi).bind fun h => if sz' = sz ∧ l = 0 ∧ 0 ≤ h ∧ h ≤ (len : Int) then some (.ls s ver sz h.toNat, m) else none) := rfl
theorem srcT_nil {m : Mem} {sz : Nat} : srcT sz m (.v (.sc (.slice none 0 0))) = some (0, []) := rfl
theorem srcT_vec {m : Mem} {sz : Nat} {es : List (List AV)} : srcT sz m (.v (.vec es)) = some (es.length, es.flatten.map TV.v) := rfl
theorem srcT_str {m : Mem} {sz : Nat} {s : ByteArray} : srcT sz m (.v (.sc (.string s))) = some (s.size, s.data.toList.map fun b => TV.v (.sc (.int .u8 b.toNat))) := rfl
theorem srcT_ls {m : Mem} {sz s ver sz' len : Nat} : srcT sz m (.ls s ver sz' len) = (((m.l s).get ver).bind fun cs => if sz' = sz ∧ len * sz ≤ cs.length then some (len, cs.take (len * sz)) else none) := rfl
theorem srcT_sl {m : Mem} {sz n sz' off len : Nat} : srcT sz m (.v (.sl n sz' off len)) = ((m.h.m n).bind fun cs => if sz' = sz ∧ off + len * sz ≤ cs.length then some (len, ((cs.drop off).take (len * sz)).map TV.v) else none) := rfl
theorem apT_eq {m : Mem} {p d sz bytes : Nat} {x y : TV} : apT p d sz bytes m x y = ((srcT sz m y).bind fun r => if r.2.length = r.1 * sz ∧ r.2.all cellT = true ∧ 0 < sz then apK p d sz bytes m r.1 r.2 x else none) := by
  unfold apT apK
  rfl
theorem apK_nil {m : Mem} {p d sz bytes n : Nat} {news : List TV} : apK p d sz bytes m n news (.v (.sc (.slice none 0 0))) = if n * bytes ≤ 140737488355328 ∧ n ≤ 9223372036854775807 then (if n = 0 then some (.v (.sc (.slice none 0 0)), m) else newSlT p d sz n m news) else none := rfl
theorem apK_ls {m : Mem} {p d sz bytes n s ver sz' len : Nat} {news : List TV} : apK p d sz bytes m n news (.ls s ver sz' len) = apL d sz bytes m n news s ver sz' len (m.l s) := rfl
theorem apL_mu {m : Mem} {d sz bytes n s ver v sz' len : Nat} {news cs : List TV} : apL d sz bytes m n news s ver sz' len (.mu v cs) = if v = ver ∧ sz' = sz ∧ len * sz ≤ cs.length ∧ (len + n) * bytes ≤ 140737488355328 ∧ len + n ≤ 9223372036854775807 then some (.ls d m.c sz (len + n), newL d ⟨upd m.l s .no, m.c, m.h⟩ (cs.take (len * sz) ++ news)) else none := rfl
theorem apK_sl {m : Mem} {p d sz bytes n b sz' off len : Nat} {news : List TV} : apK p d sz bytes m n news (.v (.sl b sz' off len)) = ((fzs m news).bind fun (as, m1) => (m1.h.m b).bind fun cs => if off = 0 ∧ sz' = sz ∧ len * sz ≤ cs.length ∧ (len + n) * bytes ≤ 140737488355328 ∧ len + n ≤ 9223372036854775807 then some (.v (.sl m1.h.nx sz 0 (len + n)), newH ⟨m1.l, m1.c, ⟨upd m1.h.m b none, m1.h.nx⟩⟩ (cs.take (len * sz) ++ as)) else none) := rfl
theorem msT_int {m : Mem} {p d sz bytes : Nat} {z : List Value} {k k' : IntKind} {l c : Int} : msT p d sz bytes z m (.v (.sc (.int k l))) (.v (.sc (.int k' c))) = if 0 ≤ l ∧ l ≤ c ∧ (bytes : Int) * c ≤ 281474976710656 ∧ c ≤ 9223372036854775807 ∧ z.length = sz then newSlT p d sz l.toNat m ((List.replicate l.toNat (z.map fun v => TV.v (.sc v))).flatten) else none := rfl
theorem bsC_nil {sz : Nat} : bsC sz [] = some [] := rfl
theorem bsC_cons {sz : Nat} {x : TV} {r : List TV} : bsC sz (x :: r) = ((cellsO x).bind fun ys => if ys.length = sz then (bsC sz r).map fun cs => ys ++ cs else none) := rfl
theorem fzP_nil {m : Mem}  : fzP m [] = some ([], m) := rfl
theorem fzP_cons {m : Mem} {o s : Nat} {x : TV} {r : List (Nat × Nat × TV)} : fzP m ((o, s, x) :: r) = ((fz m x).bind fun (a, m1) => (fzP m1 r).map fun (as, m2) => ((o, s, .v a) :: as, m2)) := rfl
theorem fillT_nil {cs : List AV} : fillT cs [] = some cs := rfl
theorem fillT_int {k : IntKind} {n : Int} {cs : List AV} {off sz : Nat} {r : List (Nat × Nat × TV)} : fillT cs ((off, sz, .v (.sc (.int k n))) :: r) = if sz = 1 ∧ off < cs.length then fillT (cs.set off (.sc (.int k n))) r else none := by simp [fillT, cellA]
theorem fillT_bool {b : Bool} {cs : List AV} {off sz : Nat} {r : List (Nat × Nat × TV)} : fillT cs ((off, sz, .v (.sc (.bool b))) :: r) = if sz = 1 ∧ off < cs.length then fillT (cs.set off (.sc (.bool b))) r else none := by simp [fillT, cellA]
theorem fillT_str {s : ByteArray} {cs : List AV} {off sz : Nat} {r : List (Nat × Nat × TV)} : fillT cs ((off, sz, .v (.sc (.string s))) :: r) = if sz = 1 ∧ off < cs.length then fillT (cs.set off (.sc (.string s))) r else none := by simp [fillT, cellA]
theorem fillT_pt {p : Option Addr} {cs : List AV} {off sz : Nat} {r : List (Nat × Nat × TV)} : fillT cs ((off, sz, .v (.sc (.pointer p))) :: r) = if sz = 1 ∧ off < cs.length then fillT (cs.set off (.sc (.pointer p))) r else none := by simp [fillT, cellA]
theorem fillT_slc {p : Option Addr} {l c : Nat} {cs : List AV} {off sz : Nat} {r : List (Nat × Nat × TV)} : fillT cs ((off, sz, .v (.sc (.slice p l c))) :: r) = if sz = 1 ∧ off < cs.length then fillT (cs.set off (.sc (.slice p l c))) r else none := by simp [fillT, cellA]
theorem fillT_ptr {n o : Nat} {cs : List AV} {off sz : Nat} {r : List (Nat × Nat × TV)} : fillT cs ((off, sz, .v (.ptr n o)) :: r) = if sz = 1 ∧ off < cs.length then fillT (cs.set off (.ptr n o)) r else none := by simp [fillT, cellA]
theorem fillT_vec {es : List (List AV)} {cs : List AV} {off sz : Nat} {r : List (Nat × Nat × TV)} : fillT cs ((off, sz, .v (.vec es)) :: r) = if sz = 1 ∧ off < cs.length then fillT (cs.set off (.vec es)) r else none := by simp [fillT, cellA]
theorem fillT_sl {a b c d : Nat} {cs : List AV} {off sz : Nat} {r : List (Nat × Nat × TV)} : fillT cs ((off, sz, .v (.sl a b c d)) :: r) = if sz = 1 ∧ off < cs.length then fillT (cs.set off (.sl a b c d)) r else none := by simp [fillT, cellA]
theorem fillT_agg {as cs : List AV} {off sz : Nat} {r : List (Nat × Nat × TV)} : fillT cs ((off, sz, .v (.agg as)) :: r) = if as.length = sz ∧ off + sz ≤ cs.length then fillT (splice off as cs) r else none := rfl
theorem plainP_nil  : plainP [] = true := rfl
theorem plainP_cons {o s : Nat} {a : AV} {r : List (Nat × Nat × TV)} : plainP ((o, s, .v a) :: r) = plainP r := rfl
theorem bnd_some {df : Int} {t : Nat → TV} {o : Opd} : bnd df t (some o) = bndV (ev t o) := by
  simp only [bnd, bndV]
  split <;> simp_all
theorem bndV_int {k : IntKind} {i : Int} : bndV (.v (.sc (.int k i))) = some i := rfl
theorem mmT_int {mx : Bool} {k k' : IntKind} {x y : Int} : mmT mx (.v (.sc (.int k x))) (.v (.sc (.int k' y))) = some (.sc (.int k (if mx then (if y > x then y else x) else (if y < x then y else x)))) := rfl

attribute [push_cast] aev_mv aev_pk aev_bi aev_bq aev_ni aev_un aev_cv aev_s2b aev_b2s aev_ln aev_sn aev_ex aev_ld aev_ldn aev_so aev_son aev_fa aev_fl aev_fln aev_ix aev_ia aev_xs aev_xa aev_nc aev_al aev_bx aev_bd aev_bs aev_ms aev_sl aev_ss aev_ap aev_cp aev_mf aev_mi aev_mm qv_mv qv_pk qv_bi qv_bq qv_ni qv_un qv_cv qv_b2s qv_ln qv_sn qv_ex qv_ld qv_ldn qv_fa qv_fl qv_fln qv_ix qv_ia qv_xs qv_xa qv_nc qv_bs qv_bd qv_ss qv_mm qv_mi miQ_v miT_v qvO_o qvO_g qgK_bool qgK_undef dsO_o dsO_g getO_some rechk_nil rechk_cons ev_t ev_k ev_f biT_add biT_sub biT_mul biT_and biT_or biT_xor biT_eql biT_neq biT_lss biT_leq biT_gtr biT_geq biT_quo biT_rem biT_shl biT_shr biT_sadd biT_seql biT_sneq bqT_ne bqT_eq isNil_p isNil_ptr isNil_lp isNil_vp isNil_i isNil_ifc isNil_f isNil_fn unT_not unT_neg pkT_bool cvT_int snT_s lnT_nil lnT_vec lnT_sl lnT_ls exT_tup get_mu get_fr rdT_ptr rdT_lp rdT_vp ld1_ptr ld1_lp ld1_vp fz_v fzs_nil fzs_cons fzs_ls avs_nil avs_cons cellA_int cellA_bool cellA_str cellA_pt cellA_slc cellA_ptr cellA_vec cellA_sl cellA_nf cellA_ni cellA_fn cellA_ifc cellT_v cellT_lp cellT_ls ldnQ_lp ldnQ_ptr ldnT_lp ldnT_ptr soT_lp soK_mu soT_ptr sonT_lp sonK_mu sonT_ptr faT_ptr faT_lp faT_vp flT_agg flnT_agg ixT_sl ixT_ls iaT_int xsT_s xaT_agg ncT_ptr ncT_lp ncT_vp newVarT_0 newVarT_1 newSlT_1 newSlT_2 cellsO_agg cellsO_int cellsO_bool cellsO_str cellsO_pt cellsO_slc cellsO_nf cellsO_ptr cellsO_vec cellsO_sl cellsO_fn cellsO_lp cellsO_ls cellsO_vp resA_nil resA_t resA_c resA_d tupA_1 tupA_2 tupA_0 callF_fn newL_eq newH_eq bnd_none ssT_s slT_nil slT_vec slT_ls srcT_nil srcT_vec srcT_str srcT_ls srcT_sl apK_nil apK_ls apL_mu apK_sl msT_int bsC_nil bsC_cons fzP_nil fzP_cons fillT_nil fillT_int fillT_bool fillT_str fillT_pt fillT_slc fillT_ptr fillT_vec fillT_sl fillT_agg plainP_nil plainP_cons bnd_some bndV_int mmT_int
attribute [push_cast] if_true if_false ite_true ite_false and_true true_and List.map_cons List.map_nil List.cons_append List.nil_append Bool.false_eq_true decide_eq_true_eq List.getElem?_cons_zero List.getElem?_cons_succ List.set_cons_zero List.set_cons_succ List.length_cons List.length_nil List.length_map List.take_succ_cons List.take_zero List.drop_succ_cons List.drop_zero splice List.all_cons List.all_nil List.append_nil and_self and_false false_and Int.toNat_natCast Nat.zero_add Nat.add_zero not_true not_false_iff ne_eq decide_true decide_false Bool.not_true Bool.not_false Bool.not_not Bool.true_beq Bool.false_beq beq_true beq_false not_true_eq_false not_false_eq_true Bool.true_and Bool.false_and Bool.and_true Bool.and_false Bool.true_or Bool.false_or Bool.or_true Bool.or_false

end SL
