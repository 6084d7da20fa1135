import Derived.Test.YtgkiaoodalnceaaDoorClVm
/- Whether a value fits a type: the program, what has no parts. -/
namespace Go.Proofs.YtgkiaoodalnceaaDoor
open Go SL VM
set_option maxRecDepth 100000
set_option linter.unusedVariables false
set_option linter.unusedSimpArgs false
attribute [local irreducible] SL.awp

theorem chosen_ok {t : Ty} {a : AV} {h : Heap} {R : AV → Heap → Prop} (hw : HW h) (hT : TyAt h t a) (hR : R (.sc (.bool (decide (t.kind = 15 ∨ t.kind = 17 ∨ t.kind = 18)))) h) :
    ACalls Tryd.prog 49 [a] h R := by
  obtain ⟨b, o, cs, ps, rfl, f1, f2, f3, f4, f5, f6⟩ := hT.facts hw
  have g1 := f1 h (HX.refl h)
  refine acalls_body c_impl_shape_chosen (by simp) ?_
  unfold a_impl_shape_chosen
  repeat' first
                                                            | (simp -implicitDefEqProofs (disch := omega) only [push_cast, ↓reduceIte, Nat.reduceEqDiff, reduceCtorEq, Nat.reduceAdd, Nat.reduceMul, Nat.reduceSub, Nat.reduceLT, Nat.reduceLeDiff, Int.reduceLT, Int.reduceLE, Int.reduceEq, Int.reduceNe, Int.reduceNeg, Int.reduceAdd, Int.reduceSub, Int.reduceMul, Int.reduceToNat, Nat.reducePow, Int.reducePow, Nat.reduceDiv, Nat.reduceMod, awp_dr, awp_bk, g1, f2]; done)
                                                            | simp -implicitDefEqProofs (disch := omega) only [push_cast, ↓reduceIte, Nat.reduceEqDiff, reduceCtorEq, Nat.reduceAdd, Nat.reduceMul, Nat.reduceSub, Nat.reduceLT, Nat.reduceLeDiff, Int.reduceLT, Int.reduceLE, Int.reduceEq, Int.reduceNe, Int.reduceNeg, Int.reduceAdd, Int.reduceSub, Int.reduceMul, Int.reduceToNat, Nat.reducePow, Int.reducePow, Nat.reduceDiv, Nat.reduceMod, awp_dr, awp_bk, g1, f2]
                                                            | (with_reducible refine cdB_dec (fun hp hq => ?_) (fun hp hq => ?_) <;> first | (clear hq; refine False.elim ?_; omega) | (simp only [hq]; clear hq) | clear hq)
                                                            | (with_reducible refine gB_dec (fun hp hq => ?_) (fun hp hq => ?_) <;> first | (clear hq; refine False.elim ?_; omega) | (simp only [hq]; clear hq) | clear hq)
                                                            | (with_reducible refine gB_ndec (fun hp hq => ?_) (fun hp hq => ?_) <;> first | (clear hq; refine False.elim ?_; omega) | (simp only [hq]; clear hq) | clear hq)
                                                            | (with_reducible refine And.intro ?_ ?_; omega)
  all_goals (refine cast (congrArg (fun b => R (.sc (.bool b)) h) ?_) hR; clear hR; rw [Bool.eq_iff_iff]; simp [*])
theorem part_ok {t : Ty} {a : AV} {n : Int} {h : Heap} {R : AV → Heap → Prop} (hw : HW h) (hT : TyAt h t a) (hk1 : t.kind = 17 → t.kids.length = 1)
    (h0 : t.kind = 17 → n = 0 → R (.tup [.sc (.pointer none), .sc (.bool true)]) h)
    (h1 : t.kind = 17 → n ≠ 0 → ∀ pb po k, t.kids[0]? = some k → TyAt h k (.ptr pb po) → R (.tup [.ptr pb po, .sc (.bool (decide (n = 1)))]) h)
    (h2 : t.kind ≠ 17 → (n < 0 ∨ (t.kids.length : Int) ≤ n) → R (.tup [.sc (.pointer none), .sc (.bool false)]) h)
    (h3 : t.kind ≠ 17 → 0 ≤ n → n < (t.kids.length : Int) → ∀ pb po k, t.kids[n.toNat]? = some k → TyAt h k (.ptr pb po) → R (.tup [.ptr pb po, .sc (.bool true)]) h) :
    ACalls Tryd.prog 50 [a, .sc (.int .i64 n)] h R := by
  obtain ⟨b, o, cs, ps, rfl, f1, f2, f3, f4, f5, f6⟩ := hT.facts hw
  have g1 := f1 h (HX.refl h)
  refine acalls_body c_impl_shape_part (by simp) ?_
  unfold a_impl_shape_part
  by_cases h17 : t.kind = 17
  · obtain ⟨k, hk⟩ : ∃ k, t.kids[0]? = some k := ⟨_, List.getElem?_eq_getElem (by rw [hk1 h17]; decide)⟩
    obtain ⟨p, ⟨pn, po, pc, i1, i2, i3⟩, hTp⟩ := f6 0 k hk
    have i2' := i2 h (HX.refl h)
    obtain ⟨pb, pp, rfl⟩ := hTp.ptr
    replace i1 : ∀ k m, ixT 1 m (.v ps) (.v (.sc (.int k 0))) = some (.v (.ptr pn po)) := i1
    repeat' first
                                                            | (simp -implicitDefEqProofs (disch := omega) only [push_cast, ↓reduceIte, Nat.reduceEqDiff, reduceCtorEq, Nat.reduceAdd, Nat.reduceMul, Nat.reduceSub, Nat.reduceLT, Nat.reduceLeDiff, Int.reduceLT, Int.reduceLE, Int.reduceEq, Int.reduceNe, Int.reduceNeg, Int.reduceAdd, Int.reduceSub, Int.reduceMul, Int.reduceToNat, Nat.reducePow, Int.reducePow, Nat.reduceDiv, Nat.reduceMod, awp_dr, awp_bk, g1, f2, f4, f5, i1, i2', i3]; done)
                                                            | simp -implicitDefEqProofs (disch := omega) only [push_cast, ↓reduceIte, Nat.reduceEqDiff, reduceCtorEq, Nat.reduceAdd, Nat.reduceMul, Nat.reduceSub, Nat.reduceLT, Nat.reduceLeDiff, Int.reduceLT, Int.reduceLE, Int.reduceEq, Int.reduceNe, Int.reduceNeg, Int.reduceAdd, Int.reduceSub, Int.reduceMul, Int.reduceToNat, Nat.reducePow, Int.reducePow, Nat.reduceDiv, Nat.reduceMod, awp_dr, awp_bk, g1, f2, f4, f5, i1, i2', i3]
                                                            | (with_reducible refine cdB_dec (fun hp hq => ?_) (fun hp hq => ?_) <;> first | (clear hq; refine False.elim ?_; omega) | (simp only [hq]; clear hq) | clear hq)
                                                            | (with_reducible refine gB_dec (fun hp hq => ?_) (fun hp hq => ?_) <;> first | (clear hq; refine False.elim ?_; omega) | (simp only [hq]; clear hq) | clear hq)
                                                            | (with_reducible refine gB_ndec (fun hp hq => ?_) (fun hp hq => ?_) <;> first | (clear hq; refine False.elim ?_; omega) | (simp only [hq]; clear hq) | clear hq)
                                                            | (with_reducible refine And.intro ?_ ?_; omega)
    · exact h0 h17 hp
    · exact h1 h17 (by assumption) _ _ k hk hTp
  · by_cases hn : 0 ≤ n ∧ n < (t.kids.length : Int)
    · obtain ⟨k, hk⟩ : ∃ k, t.kids[n.toNat]? = some k := ⟨_, List.getElem?_eq_getElem (by omega)⟩
      obtain ⟨p, ⟨pn, po, pc, i1, i2, i3⟩, hTp⟩ := f6 _ k hk
      rw [show ((n.toNat : Nat) : Int) = n by omega] at i1
      have i2' := i2 h (HX.refl h)
      obtain ⟨pb, pp, rfl⟩ := hTp.ptr
      repeat' first
                                                            | (simp -implicitDefEqProofs (disch := omega) only [push_cast, ↓reduceIte, Nat.reduceEqDiff, reduceCtorEq, Nat.reduceAdd, Nat.reduceMul, Nat.reduceSub, Nat.reduceLT, Nat.reduceLeDiff, Int.reduceLT, Int.reduceLE, Int.reduceEq, Int.reduceNe, Int.reduceNeg, Int.reduceAdd, Int.reduceSub, Int.reduceMul, Int.reduceToNat, Nat.reducePow, Int.reducePow, Nat.reduceDiv, Nat.reduceMod, awp_dr, awp_bk, g1, f2, f4, f5, i1, i2', i3]; done)
                                                            | simp -implicitDefEqProofs (disch := omega) only [push_cast, ↓reduceIte, Nat.reduceEqDiff, reduceCtorEq, Nat.reduceAdd, Nat.reduceMul, Nat.reduceSub, Nat.reduceLT, Nat.reduceLeDiff, Int.reduceLT, Int.reduceLE, Int.reduceEq, Int.reduceNe, Int.reduceNeg, Int.reduceAdd, Int.reduceSub, Int.reduceMul, Int.reduceToNat, Nat.reducePow, Int.reducePow, Nat.reduceDiv, Nat.reduceMod, awp_dr, awp_bk, g1, f2, f4, f5, i1, i2', i3]
                                                            | (with_reducible refine cdB_dec (fun hp hq => ?_) (fun hp hq => ?_) <;> first | (clear hq; refine False.elim ?_; omega) | (simp only [hq]; clear hq) | clear hq)
                                                            | (with_reducible refine gB_dec (fun hp hq => ?_) (fun hp hq => ?_) <;> first | (clear hq; refine False.elim ?_; omega) | (simp only [hq]; clear hq) | clear hq)
                                                            | (with_reducible refine gB_ndec (fun hp hq => ?_) (fun hp hq => ?_) <;> first | (clear hq; refine False.elim ?_; omega) | (simp only [hq]; clear hq) | clear hq)
                                                            | (with_reducible refine And.intro ?_ ?_; omega)
      exact h3 h17 hn.1 hn.2 _ _ k hk hTp
    · repeat' first
                                                            | (simp -implicitDefEqProofs (disch := omega) only [push_cast, ↓reduceIte, Nat.reduceEqDiff, reduceCtorEq, Nat.reduceAdd, Nat.reduceMul, Nat.reduceSub, Nat.reduceLT, Nat.reduceLeDiff, Int.reduceLT, Int.reduceLE, Int.reduceEq, Int.reduceNe, Int.reduceNeg, Int.reduceAdd, Int.reduceSub, Int.reduceMul, Int.reduceToNat, Nat.reducePow, Int.reducePow, Nat.reduceDiv, Nat.reduceMod, awp_dr, awp_bk, g1, f2, f4, f5]; done)
                                                            | simp -implicitDefEqProofs (disch := omega) only [push_cast, ↓reduceIte, Nat.reduceEqDiff, reduceCtorEq, Nat.reduceAdd, Nat.reduceMul, Nat.reduceSub, Nat.reduceLT, Nat.reduceLeDiff, Int.reduceLT, Int.reduceLE, Int.reduceEq, Int.reduceNe, Int.reduceNeg, Int.reduceAdd, Int.reduceSub, Int.reduceMul, Int.reduceToNat, Nat.reducePow, Int.reducePow, Nat.reduceDiv, Nat.reduceMod, awp_dr, awp_bk, g1, f2, f4, f5]
                                                            | (with_reducible refine cdB_dec (fun hp hq => ?_) (fun hp hq => ?_) <;> first | (clear hq; refine False.elim ?_; omega) | (simp only [hq]; clear hq) | clear hq)
                                                            | (with_reducible refine gB_dec (fun hp hq => ?_) (fun hp hq => ?_) <;> first | (clear hq; refine False.elim ?_; omega) | (simp only [hq]; clear hq) | clear hq)
                                                            | (with_reducible refine gB_ndec (fun hp hq => ?_) (fun hp hq => ?_) <;> first | (clear hq; refine False.elim ?_; omega) | (simp only [hq]; clear hq) | clear hq)
                                                            | (with_reducible refine And.intro ?_ ?_; omega)
      · exact h2 h17 (.inl hp)
      · exact h2 h17 (.inr hp)
/-- What a number must be. -/
def numB (t : Ty) (n : Int) : Bool := decide ((boundsT t).1 ≤ n ∧ n ≤ (boundsT t).2) && (if t.kind = 10 then canonOk n else if t.kind = 11 then !decide (55296 ≤ n ∧ n ≤ 57343) else true)
theorem numberOk_ok {t : Ty} {a : AV} {n : Int} {h : Heap} {R : AV → Heap → Prop} (hw : HW h) (hT : TyAt h t a) (hn : i64Ok n) (h16 : t.kind = 16 → 1 ≤ t.n ∧ t.n ≤ 32) (hk : 1 ≤ t.kind ∧ t.kind ≤ 21 ∧ t.kind ≠ 15 ∧ t.kind ≠ 17 ∧ t.kind ≠ 18)
    (hR : R (.sc (.bool (numB t n))) h) : ACalls Tryd.prog 53 [a, .sc (.int .i64 n)] h R := by
  obtain ⟨b, o, cs, ps, rfl, f1, f2, f3, f4, f5, f6⟩ := hT.facts hw
  have g1 := f1 h (HX.refl h)
  refine acalls_body c_impl_shape_numberOk (by simp) ?_
  unfold a_impl_shape_numberOk
  repeat' first
                                                            | (simp -implicitDefEqProofs (disch := omega) only [push_cast, ↓reduceIte, Nat.reduceEqDiff, reduceCtorEq, Nat.reduceAdd, Nat.reduceMul, Nat.reduceSub, Nat.reduceLT, Nat.reduceLeDiff, Int.reduceLT, Int.reduceLE, Int.reduceEq, Int.reduceNe, Int.reduceNeg, Int.reduceAdd, Int.reduceSub, Int.reduceMul, Int.reduceToNat, Nat.reducePow, Int.reducePow, Nat.reduceDiv, Nat.reduceMod, awp_dr, awp_bk, g1, f2, f3]; done)
                                                            | simp -implicitDefEqProofs (disch := omega) only [push_cast, ↓reduceIte, Nat.reduceEqDiff, reduceCtorEq, Nat.reduceAdd, Nat.reduceMul, Nat.reduceSub, Nat.reduceLT, Nat.reduceLeDiff, Int.reduceLT, Int.reduceLE, Int.reduceEq, Int.reduceNe, Int.reduceNeg, Int.reduceAdd, Int.reduceSub, Int.reduceMul, Int.reduceToNat, Nat.reducePow, Int.reducePow, Nat.reduceDiv, Nat.reduceMod, awp_dr, awp_bk, g1, f2, f3]
                                                            | refine canonical_ok (by omega) ?_
                                                            | refine goodPoint_ok ?_
                                                            | (with_reducible refine cdB_dec (fun hp hq => ?_) (fun hp hq => ?_) <;> first | (clear hq; refine False.elim ?_; omega) | (simp only [hq]; clear hq) | clear hq)
                                                            | (with_reducible refine gB_dec (fun hp hq => ?_) (fun hp hq => ?_) <;> first | (clear hq; refine False.elim ?_; omega) | (simp only [hq]; clear hq) | clear hq)
                                                            | (with_reducible refine gB_ndec (fun hp hq => ?_) (fun hp hq => ?_) <;> first | (clear hq; refine False.elim ?_; omega) | (simp only [hq]; clear hq) | clear hq)
                                                            | (with_reducible refine And.intro ?_ ?_; omega)
  all_goals first
    | (refine cast (congrArg (fun b => R (.sc (.bool b)) h) ?_) hR; clear hR; rw [Bool.eq_iff_iff]; unfold i64Ok at hn; simp [numB, boundsT, *]; done)
    | (refine cast (congrArg (fun b => R (.sc (.bool b)) h) ?_) hR; clear hR; rw [Bool.eq_iff_iff]; unfold i64Ok at hn; simp [numB, boundsT, *]; omega)
    | skip
  · refine cast (congrArg (fun b => R (.sc (.bool b)) h) ?_) hR
    have e : numB t n = canonOk n := by
      have hk10 : t.kind = 10 := by assumption
      have hb : decide ((boundsT t).1 ≤ n ∧ n ≤ (boundsT t).2) = true := by simp [boundsT, hk10]; omega
      simp only [numB, hb, Bool.true_and, if_pos hk10]
    rw [e, Bool.eq_iff_iff]
    cases hx : nan32 n
    · simp [canonOk, hx]
    · simp [canonOk, hx]; omega
  · have hk16 : t.kind = 16 := by assumption
    have hb := h16 hk16
    have hlt : (2 : Int) ^ t.n.toNat ≤ 4294967296 := by
      have h2 : (2 : Nat) ^ t.n.toNat ≤ 2 ^ 32 := Nat.pow_le_pow_right (by omega) (by omega)
      have h3 : ((2 ^ t.n.toNat : Nat) : Int) ≤ ((2 ^ 32 : Nat) : Int) := Int.ofNat_le.2 h2
      simpa using h3
    have hpos : (0 : Int) < 2 ^ t.n.toNat := Int.pow_pos (by omega)
    have e1 : IntKind.i64.wrap (1 * 2 ^ t.n.toNat) = 2 ^ t.n.toNat := by
      rw [Int.one_mul]; exact IntWalk.i64_in _ (by omega)
    rw [e1]
    refine cast (congrArg (fun b => R (.sc (.bool b)) h) ?_) hR
    rw [Bool.eq_iff_iff]
    simp [numB, boundsT, hk16]
    omega
end Go.Proofs.YtgkiaoodalnceaaDoor
