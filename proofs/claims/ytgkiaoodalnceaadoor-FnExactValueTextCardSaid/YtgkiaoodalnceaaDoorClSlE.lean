import Derived.Test.YtgkiaoodalnceaaDoorClSlD
import Derived.Laws.Small
import Derived.Laws.Pointers
import Derived.Laws.StructEq
/- The simulation logic, part E: the program's operations become abstract ones, and the machine does what these say. -/
namespace SL
open Go
set_option linter.unusedVariables false
set_option linter.unusedSimpArgs false

def compX : Operand → Opd
  | .tmp n => .t n
  | .const v => .k v
  | .global g => .k (.pointer (some ⟨g, 0, none⟩))
  | .func f => .f f

/-- What the machine does at an operation that calls nothing. -/
def Runs (P : Program) (o : Oper) (a : Act) (w : World) (v : Value) (w' : World) : Prop :=
  (execOp a.eval o).run P w = .ok (.value v) w' ∨ ((execOp a.eval o).run P w = .ok .skip w' ∧ v = undef)

structure Out (P : Program) (k : K) (g : G) (la : La) (w : World) (o : Oper) (a : Act) (x : TV) (m' : Mem) : Prop where
  out : ∃ v w' g' la', Runs P o a w v w' ∧ RepT g' la' w' x v ∧ SimC k g' la' m' w' ∧ GLe g w g' w' ∧ LLe la la'

section
variable {P : Program} {k : K} {g : G} {la : La} {m m' : Mem} {w : World} {a : Act} {t : Nat → TV} {o : Oper} {d : Nat} {x : TV}

theorem repSc (g : G) (w : World) : ∀ vs : List Value, RepL g w (vs.map AV.sc) vs
  | [] => by simp [RepL]
  | v :: vs => by
    simp only [List.map_cons, RepL]
    exact ⟨v, vs, rfl, by simp [RepA], repSc g w vs⟩

theorem ofV_sound (g : G) (w : World) (v : Value) : RepA g w (ofV v) v := by
  cases v <;> simp only [ofV, RepA]
  rename_i cs
  exact ⟨cs.toList, by simp, repSc g w _⟩

theorem ev_sound (ht : ∀ i, RepT g la w (t i) (a.tmps.getD i undef)) (x : Operand) : RepT g la w (ev t (compX x)) (a.eval x) := by
  cases x with
  | tmp n => exact ht n
  | const v => exact ofV_sound g w v
  | global n => simp [compX, ev, RepT, ofV, RepA, Act.eval]
  | func f => simp only [compX, ev, RepT, RepA, Act.eval]; exact ⟨[], [], rfl, by simp [RepL], by simp [RepL]⟩

theorem evs_sound (ht : ∀ i, RepT g la w (t i) (a.tmps.getD i undef)) : ∀ xs : List Operand, RepTL g la w ((xs.map compX).map (ev t)) (xs.map a.eval)
  | [] => by simp [RepTL]
  | x :: xs => ⟨_, _, rfl, ev_sound ht x, evs_sound ht xs⟩

theorem Out.same {v : Value} (S : SimC k g la m w) (hr : Runs P o a w v w) (hx : RepT g la w x v) : Out P k g la w o a x m :=
  ⟨v, w, g, la, hr, hx, S, GLe.refl _ _, LLe.refl _⟩

theorem intBin_sound {op : BinOp} {kk : IntKind} {p q : Int} {u : Value} (xt : TypeId) (hs : isSh op = false) (h : intBin op kk p q = some u) (w : World) :
    (binOp op xt (.int kk p) (.int kk q)).run P w = .ok u w := by
  cases op <;> simp [isSh] at hs <;> simp only [intBin] at h <;> first
    | (cases h; done)
    | (split at h
       · cases h
       · rename_i hq
         cases h
         simp [binOp, Op.intDiv, hq])
    | (cases h
       simp [binOp, Op.intArith, Op.intBits, Op.intCmp])

theorem shBin_sound {op : BinOp} {kk yk : IntKind} {p q : Int} {u : Value} (xt : TypeId) (hs : isSh op = true) (h : shBin op kk p q = some u) (w : World) :
    (binOp op xt (.int kk p) (.int yk q)).run P w = .ok u w := by
  unfold shBin at h
  split at h
  · cases h
  · rename_i hq
    cases op <;> simp [isSh] at hs <;> cases h <;> simp [binOp, Op.shift, hq]

theorem strBin_sound {op : BinOp} {p q : ByteArray} {u : Value} (xt : TypeId) (h : strBin op p q = some u) (w : World) :
    (binOp op xt (.string p) (.string q)).run P w = .ok u w := by
  cases op <;> simp only [strBin] at h <;> first
    | (cases h; done)
    | (split at h
       · rename_i hq
         cases h
         have : ¬ (9223372036854775807 : Int) < ((p.size + q.size : Nat) : Int) := by omega
         simp only [binOp, Op.stringOp]
         rw [if_neg (by simpa [IntKind.max, IntKind.bits, IntKind.signed] using this)]
         rfl
       · cases h)
    | (cases h
       simp [binOp, Op.stringOp])

theorem eqGuard_int (op : BinOp) (xt : TypeId) (x y : Operand) (kk yk : IntKind) (p q : Int) (w : World) : (eqGuard op xt x y (.int kk p) (.int yk q)).run P w = .ok () w := by
  unfold eqGuard
  split <;> simp
theorem eqGuard_str (op : BinOp) (xt : TypeId) (x y : Operand) (p q : ByteArray) (w : World) : (eqGuard op xt x y (.string p) (.string q)).run P w = .ok () w := by
  unfold eqGuard
  split <;> simp
theorem eqGuard_bool (op : BinOp) (xt : TypeId) (x y : Operand) (p q : Bool) (w : World) : (eqGuard op xt x y (.bool p) (.bool q)).run P w = .ok () w := by
  unfold eqGuard
  split <;> simp

theorem op_bi (S : SimC k g la m w) (ht : ∀ i, RepT g la w (t i) (a.tmps.getD i undef)) {op : BinOp} {xt yt : TypeId} {p q : Operand} (ho : o.op = .binOp op xt p q yt)
    (he : aev d t m (.bi op (compX p) (compX q)) = some (x, m')) : Out P k g la w o a x m' := by
  simp only [aev, Option.map_eq_some_iff, Prod.mk.injEq] at he
  obtain ⟨u, hu, rfl, rfl⟩ := he
  have hp := ev_sound ht p
  have hq := ev_sound ht q
  unfold biT at hu
  split at hu
  · rename_i pv qv e1 e2
    rw [e1] at hp; rw [e2] at hq
    simp only [RepT, RepA] at hp hq
    simp only [Option.map_eq_some_iff] at hu
    obtain ⟨z, hz, rfl⟩ := hu
    refine Out.same S (v := z) (.inl ?_) (by simp [RepT, RepA])
    subst hp; subst hq
    simp only [execOp, ho]
    unfold scBin at hz
    split at hz
    · rename_i kk p' yk q' e3 e4
      rw [e3, e4]
      split at hz
      · rename_i hs
        simp [eqGuard_int, shBin_sound xt hs hz w]
      · rename_i hs
        split at hz
        · rename_i hk
          subst hk
          simp [eqGuard_int, intBin_sound xt (by simpa using hs) hz w]
        · cases hz
    · rename_i p' q' e3 e4
      rw [e3, e4]
      simp [eqGuard_str, strBin_sound xt hz w]
    · cases hz
  · cases hu

theorem op_bq (S : SimC k g la m w) (ht : ∀ i, RepT g la w (t i) (a.tmps.getD i undef)) {op : BinOp} {xt yt : TypeId} {p q : Operand} (ho : o.op = .binOp op xt p q yt) (hty : P.underlying xt = some .bool)
    (neq : Bool) (hop : op = if neq then .neq else .eql) (he : aev d t m (.bq neq (compX p) (compX q)) = some (x, m')) : Out P k g la w o a x m' := by
  simp only [aev, Option.map_eq_some_iff, Prod.mk.injEq] at he
  obtain ⟨u, hu, rfl, rfl⟩ := he
  have hp := ev_sound ht p
  have hq := ev_sound ht q
  unfold bqT at hu
  split at hu
  · rename_i pv qv e1 e2
    rw [e1] at hp; rw [e2] at hq
    simp only [RepT, RepA] at hp hq
    cases hu
    refine Out.same S (v := .bool ((pv == qv) != neq)) (.inl ?_) (by simp [RepT, RepA])
    simp only [execOp, ho, hp, hq]
    have e3 : binOp .eql xt (.bool pv) (.bool qv) = (do pure (.bool (← Op.equal xt (.bool pv) (.bool qv)))) := rfl
    have e4 : binOp .neq xt (.bool pv) (.bool qv) = (do pure (.bool (!(← Op.equal xt (.bool pv) (.bool qv))))) := rfl
    cases neq <;> simp at hop <;> subst hop
    · simp only [e3, Sem.run_bind, Sem.run_pure, eqGuard_bool, Result.andThen_ok, run_equal_bool w xt pv qv hty]
      simp
    · simp only [e4, Sem.run_bind, Sem.run_pure, eqGuard_bool, Result.andThen_ok, run_equal_bool w xt pv qv hty]
      simp
  · cases hu

theorem op_mv (S : SimC k g la m w) (ht : ∀ i, RepT g la w (t i) (a.tmps.getD i undef)) {p : Operand} (ho : o.op = .move p ∨ o.op = .assign p)
    (he : aev d t m (.mv (compX p)) = some (x, m')) : Out P k g la w o a x m' := by
  simp only [aev, Option.some.injEq, Prod.mk.injEq] at he
  obtain ⟨rfl, rfl⟩ := he
  refine Out.same S (v := a.eval p) (.inl ?_) (ev_sound ht p)
  rcases ho with ho | ho <;> simp [execOp, ho]

theorem op_pk (S : SimC k g la m w) (ht : ∀ i, RepT g la w (t i) (a.tmps.getD i undef)) {c p q : Operand} (ho : o.op = .pick c p q)
    (he : aev d t m (.pk (compX c) (compX p) (compX q)) = some (x, m')) : Out P k g la w o a x m' := by
  simp only [aev, Option.map_eq_some_iff, Prod.mk.injEq] at he
  obtain ⟨u, hu, rfl, rfl⟩ := he
  have hc := ev_sound ht c
  have hp := ev_sound ht p
  have hq := ev_sound ht q
  unfold pkT at hu
  split at hu
  · rename_i y z b e1
    rw [e1] at hc
    simp only [RepT, RepA] at hc
    cases hu
    refine Out.same S (v := if b then a.eval p else a.eval q) (.inl ?_) ?_
    · simp only [execOp, ho, hc]
      simp [asBool]
    · cases b <;> simp [hp, hq]
  · cases hu

theorem op_un (S : SimC k g la m w) (ht : ∀ i, RepT g la w (t i) (a.tmps.getD i undef)) {op : UnOp} {xt : TypeId} {p : Operand} (ho : o.op = .unOp op xt p)
    (he : aev d t m (.un op (compX p)) = some (x, m')) : Out P k g la w o a x m' := by
  simp only [aev, Option.map_eq_some_iff, Prod.mk.injEq] at he
  obtain ⟨u, hu, rfl, rfl⟩ := he
  have hp := ev_sound ht p
  unfold unT at hu
  split at hu
  · rename_i kk n e1
    rw [e1] at hp
    simp only [RepT, RepA] at hp
    cases op <;> simp only [Option.some.injEq, reduceCtorEq] at hu <;> subst hu <;> refine Out.same S (.inl ?_) (by simp only [RepT, RepA]; rfl) <;> simp only [execOp, ho, hp] <;> simp [Op.unary, Op.intArith, Op.intBits]
  · rename_i b e1
    rw [e1] at hp
    simp only [RepT, RepA] at hp
    cases op <;> simp only [Option.some.injEq, reduceCtorEq] at hu <;> subst hu <;> refine Out.same S (.inl ?_) (by simp only [RepT, RepA]; rfl) <;> simp only [execOp, ho, hp] <;> simp [Op.unary]
  · cases hu

theorem op_cv (S : SimC k g la m w) (ht : ∀ i, RepT g la w (t i) (a.tmps.getD i undef)) {src dst : TypeId} {p : Operand} {k1 kk : IntKind} (ho : o.op = .convert src dst p)
    (h1 : P.underlying src = some (.int k1)) (h2 : P.underlying dst = some (.int kk)) (he : aev d t m (.cv kk (compX p)) = some (x, m')) : Out P k g la w o a x m' := by
  simp only [aev, Option.map_eq_some_iff, Prod.mk.injEq] at he
  obtain ⟨u, hu, rfl, rfl⟩ := he
  have hp := ev_sound ht p
  unfold cvT at hu
  split at hu
  · rename_i k2 n e1
    rw [e1] at hp
    simp only [RepT, RepA] at hp
    cases hu
    refine Out.same S (v := .int kk (kk.wrap n)) (.inl ?_) (by simp [RepT, RepA])
    simp only [execOp, ho, hp]
    simp [convert, run_underlying h1, run_underlying h2, Conv.intToInt]
  · cases hu

theorem op_sn (S : SimC k g la m w) (ht : ∀ i, RepT g la w (t i) (a.tmps.getD i undef)) {p : Operand} {ty : TypeId} (ho : o.op = .call { callee := .builtin .len, args := #[p], argTypes := #[ty] })
    (hty : P.underlying ty = some .string) (he : aev d t m (.sn (compX p)) = some (x, m')) : Out P k g la w o a x m' := by
  simp only [aev, Option.map_eq_some_iff, Prod.mk.injEq] at he
  obtain ⟨u, hu, rfl, rfl⟩ := he
  have hp := ev_sound ht p
  unfold snT at hu
  split at hu
  · rename_i s e1
    rw [e1] at hp
    simp only [RepT, RepA] at hp
    cases hu
    refine Out.same S (v := .int .i64 s.size) (.inl ?_) (by simp [RepT, RepA, goI])
    simp only [execOp, ho]
    simp [resolve, invoke, builtin, Builtin.len_, hp, run_underlying hty, goInt]
  · cases hu

/-- The value of a slice, as the machine has it. -/
theorem lnT_slice {y : TV} {v : Value} {u : AV} (hp : RepT g la w y v) (hu : lnT y = some u) : ∃ c ln cap, v = .slice c ln cap ∧ u = goI ln := by
  unfold lnT at hu
  split at hu
  · simp only [RepT, RepA] at hp
    cases hu
    exact ⟨none, 0, 0, hp, rfl⟩
  · simp only [RepT, RepA] at hp
    cases hu
    obtain ⟨ad, ln, cap, e, e2, _⟩ := hp
    exact ⟨ad, ln, cap, e, by rw [e2]⟩
  · simp only [RepT, RepA] at hp
    cases hu
    obtain ⟨b, cap, _, e, _⟩ := hp
    exact ⟨_, _, _, e, rfl⟩
  · cases hu
    obtain ⟨b, cap, _, e, _⟩ := hp
    exact ⟨_, _, _, e, rfl⟩
  · cases hu

theorem op_ln (S : SimC k g la m w) (ht : ∀ i, RepT g la w (t i) (a.tmps.getD i undef)) {p : Operand} {ty e : TypeId} (ho : o.op = .call { callee := .builtin .len, args := #[p], argTypes := #[ty] })
    (hty : P.underlying ty = some (.slice e)) (he : aev d t m (.ln (compX p)) = some (x, m')) : Out P k g la w o a x m' := by
  simp only [aev, Option.map_eq_some_iff, Prod.mk.injEq] at he
  obtain ⟨u, hu, rfl, rfl⟩ := he
  obtain ⟨c, ln, cap, e1, rfl⟩ := lnT_slice (ev_sound ht p) hu
  refine Out.same S (v := .int .i64 ln) (.inl ?_) (by simp [RepT, RepA, goI])
  simp only [execOp, ho]
  simp [resolve, invoke, builtin, Builtin.len_, e1, run_underlying hty, goInt]

theorem isNil_spec {kd : Nat} {y : TV} {v : Value} {u : Bool} (hp : RepT g la w y v) (hu : isNil kd y = some u) :
    (kd = 0 ∧ ∃ z, v = .pointer z ∧ z.isNone = u) ∨ (kd = 1 ∧ ((v = .nilIface ∧ u = true) ∨ ∃ q z, v = .iface q z ∧ u = false)) ∨ (kd = 2 ∧ ((v = .nilFunc ∧ u = true) ∨ ∃ q z s, v = .func q z s ∧ u = false)) := by
  unfold isNil at hu
  split at hu
  · split at hu
    · rename_i hk; cases hu; simp only [RepT, RepA] at hp; exact .inl ⟨hk, none, hp, rfl⟩
    · cases hu
  · split at hu
    · rename_i hk; cases hu; simp only [RepT, RepA] at hp; exact .inr (.inl ⟨hk, .inl ⟨hp, rfl⟩⟩)
    · cases hu
  · split at hu
    · rename_i hk; cases hu; simp only [RepT, RepA] at hp; exact .inr (.inr ⟨hk, .inl ⟨hp, rfl⟩⟩)
    · cases hu
  · split at hu
    · rename_i hk; cases hu; simp only [RepT, RepA] at hp; obtain ⟨b, _, hp⟩ := hp; exact .inl ⟨hk, _, hp, rfl⟩
    · cases hu
  · split at hu
    · rename_i hk; cases hu; obtain ⟨b, _, hp⟩ := hp; exact .inl ⟨hk, _, hp, rfl⟩
    · cases hu
  · split at hu
    · rename_i hk; cases hu; obtain ⟨b, _, _, hp, _⟩ := hp; exact .inl ⟨hk, _, hp, rfl⟩
    · cases hu
  · split at hu
    · rename_i hk; cases hu; simp only [RepT, RepA] at hp; obtain ⟨b, hp, _⟩ := hp; exact .inr (.inl ⟨hk, .inr ⟨_, _, hp, rfl⟩⟩)
    · cases hu
  · split at hu
    · rename_i hk; cases hu; simp only [RepT, RepA] at hp; obtain ⟨b, _, hp, _⟩ := hp; exact .inr (.inr ⟨hk, .inr ⟨_, _, _, hp, rfl⟩⟩)
    · cases hu
  · cases hu

theorem op_ni (S : SimC k g la m w) (ht : ∀ i, RepT g la w (t i) (a.tmps.getD i undef)) {op : BinOp} {xt yt : TypeId} {p : Operand} {kd : Nat} {nv : Value} {neq : Bool} (ho : o.op = .binOp op xt p (.const nv) yt) (hop : op = if neq then .neq else .eql)
    (hty : (kd = 0 ∧ nv = .pointer none ∧ ∃ e, P.underlying xt = some (.pointer e)) ∨ (kd = 1 ∧ nv = .nilIface ∧ ∃ ms, P.underlying xt = some (.interface ms)) ∨ (kd = 2 ∧ nv = .nilFunc ∧ ∃ x y z, P.underlying xt = some (.func x y z)))
    (he : aev d t m (.ni kd neq (compX p)) = some (x, m')) : Out P k g la w o a x m' := by
  simp only [aev, Option.map_eq_some_iff, Prod.mk.injEq] at he
  obtain ⟨u, hu, rfl, rfl⟩ := he
  have hs := isNil_spec (ev_sound ht p) hu
  refine Out.same S (v := .bool (u != neq)) (.inl ?_) (by simp [RepT, RepA])
  have key : ∀ (v : Value), a.eval p = v → (eqGuard op xt p (.const nv) v nv).run P w = .ok () w → binOp .eql xt v nv = (do pure (.bool (← Op.equal xt v nv))) → binOp .neq xt v nv = (do pure (.bool (!(← Op.equal xt v nv)))) →
      (Op.equal xt v nv).run P w = .ok u w → (execOp a.eval o).run P w = .ok (.value (.bool (u != neq))) w := by
    intro v e h1 h2 h3 h4
    simp only [execOp, ho, e]
    have e5 : a.eval (.const nv) = nv := rfl
    cases neq <;> simp at hop <;> subst hop
    · simp only [e5, h2, Sem.run_bind, Sem.run_pure, h1, Result.andThen_ok, h4]
      simp
    · simp only [e5, h3, Sem.run_bind, Sem.run_pure, h1, Result.andThen_ok, h4]
      simp
  rcases hty with ⟨rfl, rfl, e, hty⟩ | ⟨rfl, rfl, ms, hty⟩ | ⟨rfl, rfl, x, y, z, hty⟩
  · simp only [true_and, false_and, or_false, reduceCtorEq, Nat.reduceEqDiff, show ¬ (0 = 1) from by decide, show ¬ (0 = 2) from by decide] at hs
    obtain ⟨z, hz, hu⟩ := hs
    refine key _ hz ?_ rfl rfl ?_
    · unfold eqGuard; split <;> simp
    · have r := run_underlying hty w
      have : ∀ dd, (Op.equalIn (dd + 1) xt (.pointer z) (.pointer none)).run P w = .ok z.isNone w := by
        intro dd
        cases z <;> simp [Op.equalIn, r]
      rw [← hu]
      exact this 9999
  · have eqi : (Op.equal xt .nilIface .nilIface).run P w = .ok true w ∧ ∀ q z, (Op.equal xt (.iface q z) .nilIface).run P w = .ok false w := by
      have r := run_underlying hty w
      have : ∀ dd, (Op.equalIn (dd + 1) xt .nilIface .nilIface).run P w = .ok true w ∧ ∀ q z, (Op.equalIn (dd + 1) xt (.iface q z) .nilIface).run P w = .ok false w := by
        intro dd
        simp [Op.equalIn, r]
      exact this 9999
    simp only [true_and, false_and, or_false, false_or, show ¬ (1 = 0) from by decide, show ¬ (1 = 2) from by decide] at hs
    rcases hs with ⟨hz, rfl⟩ | ⟨q, z, hz, rfl⟩
    · refine key _ hz ?_ rfl rfl eqi.1
      cases neq <;> simp at hop <;> subst hop <;> simp [eqGuard]
    · refine key _ hz ?_ rfl rfl (eqi.2 _ _)
      unfold eqGuard
      split <;> simp
  · have eqi : (Op.equal xt .nilFunc .nilFunc).run P w = .ok true w ∧ ∀ q z u, (Op.equal xt (.func q z u) .nilFunc).run P w = .ok false w := by
      have r := run_underlying hty w
      have : ∀ dd, (Op.equalIn (dd + 1) xt .nilFunc .nilFunc).run P w = .ok true w ∧ ∀ q z u, (Op.equalIn (dd + 1) xt (.func q z u) .nilFunc).run P w = .ok false w := by
        intro dd
        simp [Op.equalIn, r]
      exact this 9999
    simp only [true_and, false_and, or_false, false_or, show ¬ (2 = 0) from by decide, show ¬ (2 = 1) from by decide] at hs
    rcases hs with ⟨hz, rfl⟩ | ⟨q, z, s, hz, rfl⟩
    · refine key _ hz ?_ rfl rfl eqi.1
      unfold eqGuard
      split <;> simp
    · refine key _ hz ?_ rfl rfl (eqi.2 _ _ _)
      unfold eqGuard
      split <;> simp

end
end SL
