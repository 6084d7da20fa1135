import Derived.Test.YtgkiaoodalnceaaDoorClSlR
import Derived.LoopN
/- The simulation logic, part M: regions in order, statements, loops, and the contract of a body. -/
namespace SL
open Go
set_option linter.unusedVariables false
set_option linter.unusedSimpArgs false

theorem Sim.drawn {k : K} {n : Nat} {st : St} {a : Act} {w : World} (h : Sim k n st a w) (d : Nat) : Sim k n st a { w with drawn := d } := by
  obtain ⟨h1, h2, g, la, S, ht⟩ := h
  have T : Turn w { w with drawn := d } none := ⟨rfl, rfl, rfl, Nat.le_refl _, fun _ _ _ => rfl, fun _ _ h => h⟩
  have gl : GLe g w g { w with drawn := d } := T.gle S.hs.pin (by simp) (fun _ _ h => h) (fun _ h => h)
  exact ⟨h1, h2, g, la, S.turn0 T, fun i => (ht i).mono gl (LLe.refl _)⟩

def compC (P : Program) (pol : Pol) (n : Nat) : Code → Option AC
  | .skip => some .sk
  | .label _ => some .sk
  | .region _ ops false => (compOs P pol n ops ops.toList).map .rg
  | .region _ ops true => compD P pol n ops
  | .seq a b => (compC P pol n a).bind fun x => (compC P pol n b).map fun y => .sq x y
  | .cond c a b => (compC P pol n a).bind fun x => (compC P pol n b).map fun y => .cd (compX c) x y
  | .block id a => (compC P pol n a).map (.bk id)
  | .loop a => (compC P pol n a).map .lp
  | .exit id => some (.ex id)
  | .scope a => (compC P pol n a).map .sp
  | .ret => some .rt
  | _ => none

section
variable {P : Program} {k : K} {n : Nat} {pol : Pol}

theorem doOs_sound (hk : HSim k.g k.h k.w ∧ Glob P k.g k.w) {ops : Array Oper} : ∀ {l : List Nat} {os : List Oper} {aos : List AOp} {st : St} {a : Act} {w : World} {C : St → Prop} {Q : Exit → Act → World → Prop}, All2 (fun i o => ops[i]? = some o) l os → compOs P pol n ops os = some aos → Sim k n st a w → doOs P aos C st →
    (∀ st a w, C st → Sim k n st a w → Q .normal a w) → wpOps P ops Q l a w
  | _, [], aos, st, a, w, C, Q, .nil, hc, hs, h, hn => by
    simp only [compOs, Option.some.injEq] at hc
    subst hc
    exact hn _ _ _ h hs
  | _, o :: os, aos, st, a, w, C, Q, .cons ho hl, hc, hs, h, hn => by
    simp only [compOs, Option.bind_eq_some_iff, Option.map_eq_some_iff] at hc
    obtain ⟨ao, h1, aos', h2, rfl⟩ := hc
    simp only [wpOps, ho]
    have := doO_sound hk (Q := Q) hs h1 h (fun st a w hC hs' => doOs_sound hk hl h2 hs' hC hn)
    split
    · rename_i hw; simp only [hw, if_true] at this; exact .inl this
    · rename_i hw; simp only [hw] at this; exact this

theorem rangeAll {ops : Array Oper} : All2 (fun i o => ops[i]? = some o) (List.range ops.size) ops.toList := by
  have : ∀ (l : List Oper) (j : Nat), (∀ i o, l[i]? = some o → ops[j + i]? = some o) → All2 (fun i o => ops[i]? = some o) (List.range' j l.length) l := by
    intro l
    induction l with
    | nil => intro j _; exact .nil
    | cons o l ih =>
      intro j h
      refine .cons (h 0 o rfl) (ih (j + 1) (fun i o' hi => ?_))
      have := h (i + 1) o' (by simpa using hi)
      rwa [show j + 1 + i = j + (i + 1) by omega]
  have h := this ops.toList 0 (fun i o hi => by simpa using hi)
  simpa [List.range_eq_range'] using h

/-- What a statement's end may be. -/
def lift (k : K) (n : Nat) (Q : Exit → St → Prop) : Exit → Act → World → Prop := fun e a w => ∃ st, Q e st ∧ Sim k n st a w

theorem thenK_lift {C : St → Prop} {Q : Exit → St → Prop} {next : Act → World → Prop} (hn : ∀ st a w, C st → Sim k n st a w → next a w) : ∀ e a w, lift k n (thenK C Q) e a w → Exit.then next (lift k n Q) e a w := by
  rintro e a w ⟨st, hq, hs⟩
  cases e with
  | normal => exact hn _ _ _ hq hs
  | _ => exact ⟨st, hq, hs⟩

theorem awp_sound (hk : HSim k.g k.h k.w ∧ Glob P k.g k.w) : ∀ {c : Code} {ac : AC} {Q : Exit → St → Prop} {st : St} {a : Act} {w : World}, compC P pol n c = some ac → awp P ac Q st → Sim k n st a w → c.wp P (lift k n Q) a w
  | .skip, ac, Q, st, a, w, hc, h, hs => by
    simp only [compC, Option.some.injEq] at hc; subst hc
    exact wp_skip ⟨st, h, hs⟩
  | .label l, ac, Q, st, a, w, hc, h, hs => by
    simp only [compC, Option.some.injEq] at hc; subst hc
    exact wp_label ⟨st, h, hs⟩
  | .region id ops draw, ac, Q, st, a, w, hc, h, hs => by
    cases draw with
    | true =>
      simp only [compC] at hc
      have hd : ∃ p, ac = .dr p := by
        unfold compD at hc
        split at hc
        · simp only [Option.bind_eq_some_iff] at hc
          obtain ⟨aops, ha, hc⟩ := hc
          split at hc
          · cases hc; exact ⟨_, rfl⟩
          · cases hc
        · cases hc
      obtain ⟨p, rfl⟩ := hd
      refine draw_sound hk (C := Q .normal) hc hs (fun p' e => by cases e; exact h) (fun st a w hC hs' => ⟨st, hC, hs'⟩) ?_
      rintro w' rfl
      exact hs.drawn _
    | false =>
      simp only [compC, Option.map_eq_some_iff] at hc
      obtain ⟨aos, ha, rfl⟩ := hc
      exact wp_region (doOs_sound hk rangeAll ha hs h (fun st a w hC hs' => ⟨st, hC, hs'⟩))
  | .seq x y, ac, Q, st, a, w, hc, h, hs => by
    simp only [compC, Option.bind_eq_some_iff, Option.map_eq_some_iff] at hc
    obtain ⟨ax, hx, ay, hy, rfl⟩ := hc
    refine wp_seq (wp_mono (awp_sound hk hx h hs) (thenK_lift (fun st a w hC hs' => awp_sound hk hy hC hs')))
  | .cond c x y, ac, Q, st, a, w, hc, h, hs => by
    simp only [compC, Option.bind_eq_some_iff, Option.map_eq_some_iff] at hc
    obtain ⟨ax, hx, ay, hy, rfl⟩ := hc
    simp only [awp, caseT] at h
    split at h
    · rename_i q e1
      have hv : a.eval c = .bool q := by
        obtain ⟨_, _, g, la, _, ht⟩ := hs
        have := ev_sound ht c
        rw [e1] at this
        simpa only [RepT, RepA] using this
      refine wp_cond hv ?_
      cases q <;> simp only [caseB] at h
      · exact awp_sound hk hy h hs
      · exact awp_sound hk hx h hs
    · exact h.elim
  | .block id x, ac, Q, st, a, w, hc, h, hs => by
    simp only [compC, Option.map_eq_some_iff] at hc
    obtain ⟨ax, hx, rfl⟩ := hc
    refine wp_block (wp_mono (awp_sound hk hx h hs) ?_)
    rintro e a w ⟨st, hq, hs⟩
    cases e with
    | exit id' =>
      simp only [blockK] at hq
      simp only [Exit.inBlock]
      split at hq
      · rename_i e; simp only [e, if_true]; exact ⟨st, hq, hs⟩
      · rename_i e; simp only [e, if_false]; exact ⟨st, hq, hs⟩
    | _ => exact ⟨st, hq, hs⟩
  | .loop x, ac, Q, st, a, w, hc, h, hs => by
    simp only [compC, Option.map_eq_some_iff] at hc
    obtain ⟨ax, hx, rfl⟩ := hc
    obtain ⟨r, hr⟩ := h
    refine wp_loop_rounds r ?_
    have key : ∀ r st a w, iterK (awp P ax) Q r st → Sim k n st a w → Code.rounds P x (lift k n Q) r a w := by
      intro r
      induction r with
      | zero => intro st a w h _; exact h.elim
      | succ r ih =>
        intro st a w h hs
        exact wp_mono (awp_sound hk hx h hs) (thenK_lift (fun st a w hC hs' => ih st a w hC hs'))
    exact key r st a w hr hs
  | .exit id, ac, Q, st, a, w, hc, h, hs => by
    simp only [compC, Option.some.injEq] at hc; subst hc
    exact wp_exit ⟨st, h, hs⟩
  | .scope x, ac, Q, st, a, w, hc, h, hs => by
    simp only [compC, Option.map_eq_some_iff] at hc
    obtain ⟨ax, hx, rfl⟩ := hc
    refine wp_scope_straight (wp_mono (awp_sound hk hx h hs) ?_)
    rintro e a w ⟨st, hq, hs⟩
    cases e with
    | goto l => exact hq.elim
    | _ => exact ⟨st, hq, hs⟩
  | .ret, ac, Q, st, a, w, hc, h, hs => by
    simp only [compC, Option.some.injEq] at hc; subst hc
    exact wp_ret ⟨st, h, hs⟩
  | .rangeFunc _ _ _ _, ac, Q, st, a, w, hc, h, hs => by simp [compC] at hc
  | .goto _, ac, Q, st, a, w, hc, h, hs => by simp [compC] at hc
  | .refuse _, ac, Q, st, a, w, hc, h, hs => by simp [compC] at hc

end
end SL
