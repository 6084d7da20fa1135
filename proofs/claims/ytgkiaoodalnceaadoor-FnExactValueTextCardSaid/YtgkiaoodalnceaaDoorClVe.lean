import Derived.Test.YtgkiaoodalnceaaDoorClVd
/- The bounds of a value's number: the reference. -/
namespace Go.Proofs.YtgkiaoodalnceaaDoor
open Go SL VM
set_option maxRecDepth 100000
set_option linter.unusedVariables false
set_option linter.unusedSimpArgs false
attribute [local irreducible] SL.awp

theorem l12Bounds_ok {t : Ty} {h : Heap} {R : AV → Heap → Prop} (hl : t.kids.length ≤ 1048576) (h16 : t.kind = 16 → 0 ≤ t.n ∧ t.n ≤ 32) (h19 : t.kind = 19 → 0 ≤ t.n ∧ t.n ≤ 300)
    (hR : R (.tup [.sc (.int .i64 (boundsT t).1), .sc (.int .i64 (boundsT t).2)]) h) : ACalls Tryd.prog 42 [.agg (tyE t)] h R := by
  refine acalls_body c_spec_l12Bounds (by simp) ?_
  unfold a_spec_l12Bounds
  repeat' first
                                                            | (simp -implicitDefEqProofs (disch := omega) only [push_cast, ↓reduceIte, Nat.reduceEqDiff, reduceCtorEq, Nat.reduceAdd, Nat.reduceMul, Nat.reduceSub, Nat.reduceLT, Nat.reduceLeDiff, Int.reduceLT, Int.reduceLE, Int.reduceEq, Int.reduceNe, Int.reduceNeg, Int.reduceAdd, Int.reduceSub, Int.reduceMul, Int.reduceToNat, Nat.reducePow, Int.reducePow, Nat.reduceDiv, Nat.reduceMod, awp_dr, awp_bk]; done)
                                                            | simp -implicitDefEqProofs (disch := omega) only [push_cast, ↓reduceIte, Nat.reduceEqDiff, reduceCtorEq, Nat.reduceAdd, Nat.reduceMul, Nat.reduceSub, Nat.reduceLT, Nat.reduceLeDiff, Int.reduceLT, Int.reduceLE, Int.reduceEq, Int.reduceNe, Int.reduceNeg, Int.reduceAdd, Int.reduceSub, Int.reduceMul, Int.reduceToNat, Nat.reducePow, Int.reducePow, Nat.reduceDiv, Nat.reduceMod, awp_dr, awp_bk]
                                                            | (with_reducible refine cdB_dec (fun hp hq => ?_) (fun hp hq => ?_) <;> first | (clear hq; refine False.elim ?_; omega) | (simp only [hq]; clear hq) | clear hq)
                                                            | (with_reducible refine gB_dec (fun hp hq => ?_) (fun hp hq => ?_) <;> first | (clear hq; refine False.elim ?_; omega) | (simp only [hq]; clear hq) | clear hq)
                                                            | (with_reducible refine gB_ndec (fun hp hq => ?_) (fun hp hq => ?_) <;> first | (clear hq; refine False.elim ?_; omega) | (simp only [hq]; clear hq) | clear hq)
  all_goals first | (simp_all [boundsT]; done) | skip
  have hb := h16 hp
  have e : boundsT t = (0, 2 ^ t.n.toNat - 1) := by simp_all [boundsT]
  have hm : min t.n.toNat IntKind.i64.bits = t.n.toNat := by
    simp only [IntKind.bits]; omega
  have hlt : (2 : Int) ^ t.n.toNat ≤ 4294967296 := by
    have h2 : (2 : Nat) ^ t.n.toNat ≤ 2 ^ 32 := Nat.pow_le_pow_right (by omega) (by omega)
    have h3 : ((2 ^ t.n.toNat : Nat) : Int) ≤ ((2 ^ 32 : Nat) : Int) := Int.ofNat_le.2 h2
    simpa using h3
  have hpos : (0 : Int) < 2 ^ t.n.toNat := Int.pow_pos (by omega)
  rw [e] at hR
  refine ⟨hb.1, ?_⟩
  rw [Int.one_mul, IntWalk.i64_in (2 ^ t.n.toNat) (by omega), IntWalk.i64_in _ (by omega)]
  exact hR

/-- The format of the shorter floats. -/
abbrev k32 : AV := .agg [.sc (.int .u64 8), .sc (.int .u64 23)]

theorem l4Kind_ok {h : Heap} {R : AV → Heap → Prop} (hR : R (.tup [k32, .sc (.bool true)]) h) : ACalls Tryd.prog 57 [.sc (.int .i64 32)] h R := by
  refine acalls_body c_spec_l4Kind (by simp) ?_
  unfold a_spec_l4Kind
  repeat' first
                                                            | (simp -implicitDefEqProofs (disch := omega) only [push_cast, ↓reduceIte, Nat.reduceEqDiff, reduceCtorEq, Nat.reduceAdd, Nat.reduceMul, Nat.reduceSub, Nat.reduceLT, Nat.reduceLeDiff, Int.reduceLT, Int.reduceLE, Int.reduceEq, Int.reduceNe, Int.reduceNeg, Int.reduceAdd, Int.reduceSub, Int.reduceMul, Int.reduceToNat, Nat.reducePow, Int.reducePow, Nat.reduceDiv, Nat.reduceMod, awp_dr, awp_bk]; done)
                                                            | simp -implicitDefEqProofs (disch := omega) only [push_cast, ↓reduceIte, Nat.reduceEqDiff, reduceCtorEq, Nat.reduceAdd, Nat.reduceMul, Nat.reduceSub, Nat.reduceLT, Nat.reduceLeDiff, Int.reduceLT, Int.reduceLE, Int.reduceEq, Int.reduceNe, Int.reduceNeg, Int.reduceAdd, Int.reduceSub, Int.reduceMul, Int.reduceToNat, Nat.reducePow, Int.reducePow, Nat.reduceDiv, Nat.reduceMod, awp_dr, awp_bk]
                                                            | (with_reducible refine cdB_dec (fun hp hq => ?_) (fun hp hq => ?_) <;> first | (clear hq; refine False.elim ?_; omega) | (simp only [hq]; clear hq) | clear hq)
                                                            | (with_reducible refine gB_dec (fun hp hq => ?_) (fun hp hq => ?_) <;> first | (clear hq; refine False.elim ?_; omega) | (simp only [hq]; clear hq) | clear hq)
                                                            | (with_reducible refine gB_ndec (fun hp hq => ?_) (fun hp hq => ?_) <;> first | (clear hq; refine False.elim ?_; omega) | (simp only [hq]; clear hq) | clear hq)
  exact hR

theorem l4nan_ok {h : Heap} {R : AV → Heap → Prop} (hR : R (.sc (.int .u32 2143289344)) h) : ACalls Tryd.prog 59 [k32] h R := by
  refine acalls_body c_spec_l4K_nan (by simp) ?_
  unfold a_spec_l4K_nan k32
  repeat' first
                                                            | (simp -implicitDefEqProofs (disch := omega) only [push_cast, ↓reduceIte, Nat.reduceEqDiff, reduceCtorEq, Nat.reduceAdd, Nat.reduceMul, Nat.reduceSub, Nat.reduceLT, Nat.reduceLeDiff, Int.reduceLT, Int.reduceLE, Int.reduceEq, Int.reduceNe, Int.reduceNeg, Int.reduceAdd, Int.reduceSub, Int.reduceMul, Int.reduceToNat, Nat.reducePow, Int.reducePow, Nat.reduceDiv, Nat.reduceMod, awp_dr, awp_bk]; done)
                                                            | simp -implicitDefEqProofs (disch := omega) only [push_cast, ↓reduceIte, Nat.reduceEqDiff, reduceCtorEq, Nat.reduceAdd, Nat.reduceMul, Nat.reduceSub, Nat.reduceLT, Nat.reduceLeDiff, Int.reduceLT, Int.reduceLE, Int.reduceEq, Int.reduceNe, Int.reduceNeg, Int.reduceAdd, Int.reduceSub, Int.reduceMul, Int.reduceToNat, Nat.reducePow, Int.reducePow, Nat.reduceDiv, Nat.reduceMod, awp_dr, awp_bk]
                                                            | (with_reducible refine cdB_dec (fun hp hq => ?_) (fun hp hq => ?_) <;> first | (clear hq; refine False.elim ?_; omega) | (simp only [hq]; clear hq) | clear hq)
                                                            | (with_reducible refine gB_dec (fun hp hq => ?_) (fun hp hq => ?_) <;> first | (clear hq; refine False.elim ?_; omega) | (simp only [hq]; clear hq) | clear hq)
                                                            | (with_reducible refine gB_ndec (fun hp hq => ?_) (fun hp hq => ?_) <;> first | (clear hq; refine False.elim ?_; omega) | (simp only [hq]; clear hq) | clear hq)
  refine cast (congrArg (fun n => R (.sc (.int .u32 n)) h) ?_) hR
  decide +kernel

theorem l4mask_ok {h : Heap} {R : AV → Heap → Prop} (hR : R (.sc (.int .u32 4294967295)) h) : ACalls Tryd.prog 74 [k32] h R := by
  refine acalls_body c_spec_l4K_mask (by simp) ?_
  unfold a_spec_l4K_mask k32
  repeat' first
                                                            | (simp -implicitDefEqProofs (disch := omega) only [push_cast, ↓reduceIte, Nat.reduceEqDiff, reduceCtorEq, Nat.reduceAdd, Nat.reduceMul, Nat.reduceSub, Nat.reduceLT, Nat.reduceLeDiff, Int.reduceLT, Int.reduceLE, Int.reduceEq, Int.reduceNe, Int.reduceNeg, Int.reduceAdd, Int.reduceSub, Int.reduceMul, Int.reduceToNat, Nat.reducePow, Int.reducePow, Nat.reduceDiv, Nat.reduceMod, awp_dr, awp_bk]; done)
                                                            | simp -implicitDefEqProofs (disch := omega) only [push_cast, ↓reduceIte, Nat.reduceEqDiff, reduceCtorEq, Nat.reduceAdd, Nat.reduceMul, Nat.reduceSub, Nat.reduceLT, Nat.reduceLeDiff, Int.reduceLT, Int.reduceLE, Int.reduceEq, Int.reduceNe, Int.reduceNeg, Int.reduceAdd, Int.reduceSub, Int.reduceMul, Int.reduceToNat, Nat.reducePow, Int.reducePow, Nat.reduceDiv, Nat.reduceMod, awp_dr, awp_bk]
                                                            | (with_reducible refine cdB_dec (fun hp hq => ?_) (fun hp hq => ?_) <;> first | (clear hq; refine False.elim ?_; omega) | (simp only [hq]; clear hq) | clear hq)
                                                            | (with_reducible refine gB_dec (fun hp hq => ?_) (fun hp hq => ?_) <;> first | (clear hq; refine False.elim ?_; omega) | (simp only [hq]; clear hq) | clear hq)
                                                            | (with_reducible refine gB_ndec (fun hp hq => ?_) (fun hp hq => ?_) <;> first | (clear hq; refine False.elim ?_; omega) | (simp only [hq]; clear hq) | clear hq)
  refine cast (congrArg (fun n => R (.sc (.int .u32 n)) h) ?_) hR
  decide +kernel

theorem l4least_ok {h : Heap} {R : AV → Heap → Prop} (hR : R (.sc (.int .i64 (-149))) h) : ACalls Tryd.prog 75 [k32] h R := by
  refine acalls_body c_spec_l4K_least (by simp) ?_
  unfold a_spec_l4K_least k32
  repeat' first
                                                            | (simp -implicitDefEqProofs (disch := omega) only [push_cast, ↓reduceIte, Nat.reduceEqDiff, reduceCtorEq, Nat.reduceAdd, Nat.reduceMul, Nat.reduceSub, Nat.reduceLT, Nat.reduceLeDiff, Int.reduceLT, Int.reduceLE, Int.reduceEq, Int.reduceNe, Int.reduceNeg, Int.reduceAdd, Int.reduceSub, Int.reduceMul, Int.reduceToNat, Nat.reducePow, Int.reducePow, Nat.reduceDiv, Nat.reduceMod, awp_dr, awp_bk]; done)
                                                            | simp -implicitDefEqProofs (disch := omega) only [push_cast, ↓reduceIte, Nat.reduceEqDiff, reduceCtorEq, Nat.reduceAdd, Nat.reduceMul, Nat.reduceSub, Nat.reduceLT, Nat.reduceLeDiff, Int.reduceLT, Int.reduceLE, Int.reduceEq, Int.reduceNe, Int.reduceNeg, Int.reduceAdd, Int.reduceSub, Int.reduceMul, Int.reduceToNat, Nat.reducePow, Int.reducePow, Nat.reduceDiv, Nat.reduceMod, awp_dr, awp_bk]
                                                            | (with_reducible refine cdB_dec (fun hp hq => ?_) (fun hp hq => ?_) <;> first | (clear hq; refine False.elim ?_; omega) | (simp only [hq]; clear hq) | clear hq)
                                                            | (with_reducible refine gB_dec (fun hp hq => ?_) (fun hp hq => ?_) <;> first | (clear hq; refine False.elim ?_; omega) | (simp only [hq]; clear hq) | clear hq)
                                                            | (with_reducible refine gB_ndec (fun hp hq => ?_) (fun hp hq => ?_) <;> first | (clear hq; refine False.elim ?_; omega) | (simp only [hq]; clear hq) | clear hq)
  refine cast (congrArg (fun n => R (.sc (.int .i64 n)) h) ?_) hR
  decide +kernel

end Go.Proofs.YtgkiaoodalnceaaDoor
