import Derived.Test.YtgkiaoodalnceaaDoorClVk
import Derived.Test.YtgkiaoodalnceaaDoorClVmH
import Derived.Test.YtgkiaoodalnceaaDoorClVmD
/- Types and values as trees: the program. -/
namespace Go.Proofs.YtgkiaoodalnceaaDoor
open Go SL VM
set_option maxRecDepth 100000
set_option linter.unusedVariables false
set_option linter.unusedSimpArgs false
attribute [local irreducible] SL.awp

def tyCell (lt : List TN) (k : Nat) : AV × AV := match lt[k]? with
  | some x => (.sc (.int .i64 x.kind), .sc (.int .i64 x.n))
  | none => (nilS, nilS)
theorem goodT_bad {lt : List TN} (h1 : 1 ≤ lt.length ∧ lt.length ≤ 40) {k : Nat} (hk : k < lt.length) (hb : okAt lt k = false) : goodT lt = false := by
  cases h : goodT lt
  · rfl
  · simp only [goodT, Bool.and_eq_true, List.all_eq_true, List.mem_range] at h
    rw [h.2 k hk] at hb; cases hb
theorem shapeOf_ok {lt : List TN} {h : Heap} {R : AV → Heap → Prop}
    (hR : ∀ h' a, HW h' → HX h h' → goodT lt = true → TyAt h' (treeF lt.length lt 0) a → R (.tup [a, .sc (.bool true)]) h')
    (hF : ∀ h', HW h' → HX h h' → goodT lt = false → R (.tup [.sc (.pointer none), .sc (.bool false)]) h') :
    ACalls Tryd.prog 31 [.vec (lt.map tnC)] h R := by
  refine acalls_hw (by kernel_rfl) fun hw => ?_
  refine acalls_body c_impl_shapeOf (by simp) ?_
  unfold a_impl_shapeOf
  repeat' first
                                                            | (simp -implicitDefEqProofs (disch := omega) only [push_cast, ↓reduceIte, Nat.reduceEqDiff, reduceCtorEq, Nat.reduceAdd, Nat.reduceMul, Nat.reduceSub, Nat.reduceLT, Nat.reduceLeDiff, Int.reduceLT, Int.reduceLE, Int.reduceEq, Int.reduceNe, Int.reduceNeg, Int.reduceAdd, Int.reduceSub, Int.reduceMul, Int.reduceToNat, Nat.reducePow, Int.reducePow, Nat.reduceDiv, Nat.reduceMod, awp_dr]; done)
                                                            | simp -implicitDefEqProofs (disch := omega) only [push_cast, ↓reduceIte, Nat.reduceEqDiff, reduceCtorEq, Nat.reduceAdd, Nat.reduceMul, Nat.reduceSub, Nat.reduceLT, Nat.reduceLeDiff, Int.reduceLT, Int.reduceLE, Int.reduceEq, Int.reduceNe, Int.reduceNeg, Int.reduceAdd, Int.reduceSub, Int.reduceMul, Int.reduceToNat, Nat.reducePow, Int.reducePow, Nat.reduceDiv, Nat.reduceMod, awp_dr]
                                                            | (with_reducible refine cdB_dec (fun hp hq => ?_) (fun hp hq => ?_) <;> first | (clear hq; refine False.elim ?_; omega) | (simp only [hq]; clear hq) | clear hq)
                                                            | (with_reducible refine gB_dec (fun hp hq => ?_) (fun hp hq => ?_) <;> first | (clear hq; refine False.elim ?_; omega) | (simp only [hq]; clear hq) | clear hq)
                                                            | (with_reducible refine gB_ndec (fun hp hq => ?_) (fun hp hq => ?_) <;> first | (clear hq; refine False.elim ?_; omega) | (simp only [hq]; clear hq) | clear hq)
                                                            | (with_reducible refine And.intro ?_ ?_; omega)
  · exact hF h hw (HX.refl h) (by simp [goodT]; omega)
  · exact hF h hw (HX.refl h) (by simp [goodT]; omega)
  have hn : 1 ≤ lt.length ∧ lt.length ≤ 40 := by omega
  refine bind_make (D := [25]) [.sc (.int .i64 0)] (by simp) rfl rfl fun x m hx hh hk => ?_
  repeat' first
                                                            | (simp -implicitDefEqProofs (disch := omega) only [push_cast, ↓reduceIte, Nat.reduceEqDiff, reduceCtorEq, Nat.reduceAdd, Nat.reduceMul, Nat.reduceSub, Nat.reduceLT, Nat.reduceLeDiff, Int.reduceLT, Int.reduceLE, Int.reduceEq, Int.reduceNe, Int.reduceNeg, Int.reduceAdd, Int.reduceSub, Int.reduceMul, Int.reduceToNat, Nat.reducePow, Int.reducePow, Nat.reduceDiv, Nat.reduceMod, awp_dr]; done)
                                                            | simp -implicitDefEqProofs (disch := omega) only [push_cast, ↓reduceIte, Nat.reduceEqDiff, reduceCtorEq, Nat.reduceAdd, Nat.reduceMul, Nat.reduceSub, Nat.reduceLT, Nat.reduceLeDiff, Int.reduceLT, Int.reduceLE, Int.reduceEq, Int.reduceNe, Int.reduceNeg, Int.reduceAdd, Int.reduceSub, Int.reduceMul, Int.reduceToNat, Nat.reducePow, Int.reducePow, Nat.reduceDiv, Nat.reduceMod, awp_dr]
                                                            | (with_reducible refine cdB_dec (fun hp hq => ?_) (fun hp hq => ?_) <;> first | (clear hq; refine False.elim ?_; omega) | (simp only [hq]; clear hq) | clear hq)
                                                            | (with_reducible refine gB_dec (fun hp hq => ?_) (fun hp hq => ?_) <;> first | (clear hq; refine False.elim ?_; omega) | (simp only [hq]; clear hq) | clear hq)
                                                            | (with_reducible refine gB_ndec (fun hp hq => ?_) (fun hp hq => ?_) <;> first | (clear hq; refine False.elim ?_; omega) | (simp only [hq]; clear hq) | clear hq)
                                                            | (with_reducible refine And.intro ?_ ?_; omega)
  rw [awp_bk]
  refine awp_lpW 549487378528 (fun d t m => ∃ (i : Nat), i ≤ lt.length ∧ d = lt.length - i ∧ t 28 = .v (.sc (.int .i64 i)) ∧ m.h = h ∧ LsE [25] m x 1 ((lt.take i).map (fun y => intC y.up) ++ List.replicate (lt.length - i) (intC 0))) lt.length (by kernel_rfl) ?_ ?_
  · exact ⟨0, Nat.zero_le _, rfl, rfl, hh, by simpa [intC] using hx⟩
  rintro d t ⟨ml, mc, mh⟩ ⟨i, hi, rfl, h28, rfl, hx'⟩
  by_cases hlt : i < lt.length
  · obtain ⟨y, hy, hg⟩ := vget (k := .i64) tnC_len hlt
    have hx2 : LsE [25] ⟨upd (upd ml 6 (.mu mc [.v (.sc (.int .i64 0)), .v (.sc (.int .i64 0)), .v (.sc (.int .i64 0))])) 6 (.mu mc [.v (.sc (.int .i64 y.kind)), .v (.sc (.int .i64 y.n)), .v (.sc (.int .i64 y.up))]), mc + 1, mh⟩ x 1 ((lt.take i).map (fun y => intC y.up) ++ List.replicate (lt.length - i) (intC 0)) := hx'.keep (by simp [upd])
    obtain ⟨q, ml2, hs1, hs2, hs3, hs4⟩ := hx2.set1 (k := .i64) (i := i) (a := .sc (.int .i64 y.up)) (by simp; omega) rfl
    simp only at hs2 hs3
    repeat' first
                                                            | (simp -implicitDefEqProofs (disch := omega) only [push_cast, ↓reduceIte, Nat.reduceEqDiff, reduceCtorEq, Nat.reduceAdd, Nat.reduceMul, Nat.reduceSub, Nat.reduceLT, Nat.reduceLeDiff, Int.reduceLT, Int.reduceLE, Int.reduceEq, Int.reduceNe, Int.reduceNeg, Int.reduceAdd, Int.reduceSub, Int.reduceMul, Int.reduceToNat, Nat.reducePow, Int.reducePow, Nat.reduceDiv, Nat.reduceMod, awp_dr, h28, hg, tnC, newVarT_0, newL_eq, hs1, hs2]; done)
                                                            | simp -implicitDefEqProofs (disch := omega) only [push_cast, ↓reduceIte, Nat.reduceEqDiff, reduceCtorEq, Nat.reduceAdd, Nat.reduceMul, Nat.reduceSub, Nat.reduceLT, Nat.reduceLeDiff, Int.reduceLT, Int.reduceLE, Int.reduceEq, Int.reduceNe, Int.reduceNeg, Int.reduceAdd, Int.reduceSub, Int.reduceMul, Int.reduceToNat, Nat.reducePow, Int.reducePow, Nat.reduceDiv, Nat.reduceMod, awp_dr, h28, hg, tnC, newVarT_0, newL_eq, hs1, hs2]
                                                            | (with_reducible refine cdB_dec (fun hp hq => ?_) (fun hp hq => ?_) <;> first | (clear hq; refine False.elim ?_; omega) | (simp only [hq]; clear hq) | clear hq)
                                                            | (with_reducible refine gB_dec (fun hp hq => ?_) (fun hp hq => ?_) <;> first | (clear hq; refine False.elim ?_; omega) | (simp only [hq]; clear hq) | clear hq)
                                                            | (with_reducible refine gB_ndec (fun hp hq => ?_) (fun hp hq => ?_) <;> first | (clear hq; refine False.elim ?_; omega) | (simp only [hq]; clear hq) | clear hq)
                                                            | (with_reducible refine And.intro ?_ ?_; omega)
    rw [awp_bk]
    repeat' first
                                                            | (simp -implicitDefEqProofs (disch := omega) only [push_cast, ↓reduceIte, Nat.reduceEqDiff, reduceCtorEq, Nat.reduceAdd, Nat.reduceMul, Nat.reduceSub, Nat.reduceLT, Nat.reduceLeDiff, Int.reduceLT, Int.reduceLE, Int.reduceEq, Int.reduceNe, Int.reduceNeg, Int.reduceAdd, Int.reduceSub, Int.reduceMul, Int.reduceToNat, Nat.reducePow, Int.reducePow, Nat.reduceDiv, Nat.reduceMod, awp_dr, h28, hg, tnC, newVarT_0, newL_eq, hs1, hs2]; done)
                                                            | simp -implicitDefEqProofs (disch := omega) only [push_cast, ↓reduceIte, Nat.reduceEqDiff, reduceCtorEq, Nat.reduceAdd, Nat.reduceMul, Nat.reduceSub, Nat.reduceLT, Nat.reduceLeDiff, Int.reduceLT, Int.reduceLE, Int.reduceEq, Int.reduceNe, Int.reduceNeg, Int.reduceAdd, Int.reduceSub, Int.reduceMul, Int.reduceToNat, Nat.reducePow, Int.reducePow, Nat.reduceDiv, Nat.reduceMod, awp_dr, h28, hg, tnC, newVarT_0, newL_eq, hs1, hs2]
                                                            | (with_reducible refine cdB_dec (fun hp hq => ?_) (fun hp hq => ?_) <;> first | (clear hq; refine False.elim ?_; omega) | (simp only [hq]; clear hq) | clear hq)
                                                            | (with_reducible refine gB_dec (fun hp hq => ?_) (fun hp hq => ?_) <;> first | (clear hq; refine False.elim ?_; omega) | (simp only [hq]; clear hq) | clear hq)
                                                            | (with_reducible refine gB_ndec (fun hp hq => ?_) (fun hp hq => ?_) <;> first | (clear hq; refine False.elim ?_; omega) | (simp only [hq]; clear hq) | clear hq)
                                                            | (with_reducible refine And.intro ?_ ?_; omega)
    have e : List.map (fun y => intC y.up) (List.take i lt) ++ List.replicate (lt.length - i) (intC 0) = List.map (fun y => intC y.up) (List.take i lt) ++ List.replicate (lt.length - i) (intC 0) := rfl
    exact ⟨_, by omega, i + 1, by omega, rfl, by simp, by rw [← fillc_step hy]; exact hs3 _⟩
  · have hi : i = lt.length := by omega
    subst hi
    replace hx' : LsE [25] ⟨ml, mc, mh⟩ x 1 ((lt.map TN.up).map intC) := by
      rw [List.take_length, Nat.sub_self, List.replicate_zero, List.append_nil] at hx'
      rw [List.map_map]; exact hx'
    obtain ⟨a, ml', mc', e1, e2, e3, e4, e5, _⟩ := hx'.fz2
    repeat' first
                                                            | (simp -implicitDefEqProofs (disch := omega) only [push_cast, ↓reduceIte, Nat.reduceEqDiff, reduceCtorEq, Nat.reduceAdd, Nat.reduceMul, Nat.reduceSub, Nat.reduceLT, Nat.reduceLeDiff, Int.reduceLT, Int.reduceLE, Int.reduceEq, Int.reduceNe, Int.reduceNeg, Int.reduceAdd, Int.reduceSub, Int.reduceMul, Int.reduceToNat, Nat.reducePow, Int.reducePow, Nat.reduceDiv, Nat.reduceMod, h28, hx'.ln, fzs_gen, e1, e5]; done)
                                                            | simp -implicitDefEqProofs (disch := omega) only [push_cast, ↓reduceIte, Nat.reduceEqDiff, reduceCtorEq, Nat.reduceAdd, Nat.reduceMul, Nat.reduceSub, Nat.reduceLT, Nat.reduceLeDiff, Int.reduceLT, Int.reduceLE, Int.reduceEq, Int.reduceNe, Int.reduceNeg, Int.reduceAdd, Int.reduceSub, Int.reduceMul, Int.reduceToNat, Nat.reducePow, Int.reducePow, Nat.reduceDiv, Nat.reduceMod, h28, hx'.ln, fzs_gen, e1, e5]
                                                            | refine ACalls.suba (SubL.cons e2 SubL.nil) (kin_ok (by simp; omega) (fun es h2 hw2 hx2 hst hkn => ?_) (fun h2 hw2 hx2 hbad => ?_))
                                                            | (with_reducible refine cdB_dec (fun hp hq => ?_) (fun hp hq => ?_) <;> first | (clear hq; refine False.elim ?_; omega) | (simp only [hq]; clear hq) | clear hq)
                                                            | (with_reducible refine gB_dec (fun hp hq => ?_) (fun hp hq => ?_) <;> first | (clear hq; refine False.elim ?_; omega) | (simp only [hq]; clear hq) | clear hq)
                                                            | (with_reducible refine gB_ndec (fun hp hq => ?_) (fun hp hq => ?_) <;> first | (clear hq; refine False.elim ?_; omega) | (simp only [hq]; clear hq) | clear hq)
                                                            | (with_reducible refine And.intro ?_ ?_; omega)
    · refine awp_cutW 4433230883194368 (fun e t m => e = .normal ∧ ∃ y, t 9 = .v (.sl h2.nx 3 0 lt.length) ∧ t 10 = y ∧ LsE [51] m y 1 (List.replicate lt.length [.sc (.int .i64 0)]) ∧
        m.h = ⟨upd h2.m h2.nx (some (List.replicate lt.length [.sc (.int .i64 0), .sc (.int .i64 0), nilS]).flatten), h2.nx + 1⟩) (by kernel_rfl) ?_ ?_
      · repeat' first
                                                            | (simp -implicitDefEqProofs (disch := omega) only [push_cast, ↓reduceIte, Nat.reduceEqDiff, reduceCtorEq, Nat.reduceAdd, Nat.reduceMul, Nat.reduceSub, Nat.reduceLT, Nat.reduceLeDiff, Int.reduceLT, Int.reduceLE, Int.reduceEq, Int.reduceNe, Int.reduceNeg, Int.reduceAdd, Int.reduceSub, Int.reduceMul, Int.reduceToNat, Nat.reducePow, Int.reducePow, Nat.reduceDiv, Nat.reduceMod, awp_dr]; done)
                                                            | simp -implicitDefEqProofs (disch := omega) only [push_cast, ↓reduceIte, Nat.reduceEqDiff, reduceCtorEq, Nat.reduceAdd, Nat.reduceMul, Nat.reduceSub, Nat.reduceLT, Nat.reduceLeDiff, Int.reduceLT, Int.reduceLE, Int.reduceEq, Int.reduceNe, Int.reduceNeg, Int.reduceAdd, Int.reduceSub, Int.reduceMul, Int.reduceToNat, Nat.reducePow, Int.reducePow, Nat.reduceDiv, Nat.reduceMod, awp_dr]
                                                            | refine bind_make (D := [51]) [.sc (.int .i64 0)] (by simp) rfl rfl fun y m2 hy hhy hky => ?_
                                                            | (with_reducible refine cdB_dec (fun hp hq => ?_) (fun hp hq => ?_) <;> first | (clear hq; refine False.elim ?_; omega) | (simp only [hq]; clear hq) | clear hq)
                                                            | (with_reducible refine gB_dec (fun hp hq => ?_) (fun hp hq => ?_) <;> first | (clear hq; refine False.elim ?_; omega) | (simp only [hq]; clear hq) | clear hq)
                                                            | (with_reducible refine gB_ndec (fun hp hq => ?_) (fun hp hq => ?_) <;> first | (clear hq; refine False.elim ?_; omega) | (simp only [hq]; clear hq) | clear hq)
                                                            | (with_reducible refine And.intro ?_ ?_; omega)
        refine ⟨⟨by omega, ?_⟩, ⟨by omega, ?_⟩⟩
        · repeat' first
                                                            | (simp -implicitDefEqProofs (disch := omega) only [push_cast, ↓reduceIte, Nat.reduceEqDiff, reduceCtorEq, Nat.reduceAdd, Nat.reduceMul, Nat.reduceSub, Nat.reduceLT, Nat.reduceLeDiff, Int.reduceLT, Int.reduceLE, Int.reduceEq, Int.reduceNe, Int.reduceNeg, Int.reduceAdd, Int.reduceSub, Int.reduceMul, Int.reduceToNat, Nat.reducePow, Int.reducePow, Nat.reduceDiv, Nat.reduceMod, awp_dr, fzs_rep3, newH_eq]; done)
                                                            | simp -implicitDefEqProofs (disch := omega) only [push_cast, ↓reduceIte, Nat.reduceEqDiff, reduceCtorEq, Nat.reduceAdd, Nat.reduceMul, Nat.reduceSub, Nat.reduceLT, Nat.reduceLeDiff, Int.reduceLT, Int.reduceLE, Int.reduceEq, Int.reduceNe, Int.reduceNeg, Int.reduceAdd, Int.reduceSub, Int.reduceMul, Int.reduceToNat, Nat.reducePow, Int.reducePow, Nat.reduceDiv, Nat.reduceMod, awp_dr, fzs_rep3, newH_eq]
                                                            | (with_reducible refine cdB_dec (fun hp hq => ?_) (fun hp hq => ?_) <;> first | (clear hq; refine False.elim ?_; omega) | (simp only [hq]; clear hq) | clear hq)
                                                            | (with_reducible refine gB_dec (fun hp hq => ?_) (fun hp hq => ?_) <;> first | (clear hq; refine False.elim ?_; omega) | (simp only [hq]; clear hq) | clear hq)
                                                            | (with_reducible refine gB_ndec (fun hp hq => ?_) (fun hp hq => ?_) <;> first | (clear hq; refine False.elim ?_; omega) | (simp only [hq]; clear hq) | clear hq)
                                                            | (with_reducible refine And.intro ?_ ?_; omega)
          refine bind_make (D := [51]) [.sc (.int .i64 0)] (by simp) rfl rfl fun y m2 hy hhy hky => ?_
          repeat' first
                                                            | (simp -implicitDefEqProofs (disch := omega) only [push_cast, ↓reduceIte, Nat.reduceEqDiff, reduceCtorEq, Nat.reduceAdd, Nat.reduceMul, Nat.reduceSub, Nat.reduceLT, Nat.reduceLeDiff, Int.reduceLT, Int.reduceLE, Int.reduceEq, Int.reduceNe, Int.reduceNeg, Int.reduceAdd, Int.reduceSub, Int.reduceMul, Int.reduceToNat, Nat.reducePow, Int.reducePow, Nat.reduceDiv, Nat.reduceMod, awp_dr, hhy]; done)
                                                            | simp -implicitDefEqProofs (disch := omega) only [push_cast, ↓reduceIte, Nat.reduceEqDiff, reduceCtorEq, Nat.reduceAdd, Nat.reduceMul, Nat.reduceSub, Nat.reduceLT, Nat.reduceLeDiff, Int.reduceLT, Int.reduceLE, Int.reduceEq, Int.reduceNe, Int.reduceNeg, Int.reduceAdd, Int.reduceSub, Int.reduceMul, Int.reduceToNat, Nat.reducePow, Int.reducePow, Nat.reduceDiv, Nat.reduceMod, awp_dr, hhy]
                                                            | (with_reducible refine cdB_dec (fun hp hq => ?_) (fun hp hq => ?_) <;> first | (clear hq; refine False.elim ?_; omega) | (simp only [hq]; clear hq) | clear hq)
                                                            | (with_reducible refine gB_dec (fun hp hq => ?_) (fun hp hq => ?_) <;> first | (clear hq; refine False.elim ?_; omega) | (simp only [hq]; clear hq) | clear hq)
                                                            | (with_reducible refine gB_ndec (fun hp hq => ?_) (fun hp hq => ?_) <;> first | (clear hq; refine False.elim ?_; omega) | (simp only [hq]; clear hq) | clear hq)
                                                            | (with_reducible refine And.intro ?_ ?_; omega)
          exact ⟨_, rfl, hy, by simp [hhy, nilS]⟩
        · refine bind_make (D := [51]) [.sc (.int .i64 0)] (by simp) rfl rfl fun y m2 hy hhy hky => ?_
          repeat' first
                                                            | (simp -implicitDefEqProofs (disch := omega) only [push_cast, ↓reduceIte, Nat.reduceEqDiff, reduceCtorEq, Nat.reduceAdd, Nat.reduceMul, Nat.reduceSub, Nat.reduceLT, Nat.reduceLeDiff, Int.reduceLT, Int.reduceLE, Int.reduceEq, Int.reduceNe, Int.reduceNeg, Int.reduceAdd, Int.reduceSub, Int.reduceMul, Int.reduceToNat, Nat.reducePow, Int.reducePow, Nat.reduceDiv, Nat.reduceMod, awp_dr, fzs_rep3, newH_eq, hhy]; done)
                                                            | simp -implicitDefEqProofs (disch := omega) only [push_cast, ↓reduceIte, Nat.reduceEqDiff, reduceCtorEq, Nat.reduceAdd, Nat.reduceMul, Nat.reduceSub, Nat.reduceLT, Nat.reduceLeDiff, Int.reduceLT, Int.reduceLE, Int.reduceEq, Int.reduceNe, Int.reduceNeg, Int.reduceAdd, Int.reduceSub, Int.reduceMul, Int.reduceToNat, Nat.reducePow, Int.reducePow, Nat.reduceDiv, Nat.reduceMod, awp_dr, fzs_rep3, newH_eq, hhy]
                                                            | (with_reducible refine cdB_dec (fun hp hq => ?_) (fun hp hq => ?_) <;> first | (clear hq; refine False.elim ?_; omega) | (simp only [hq]; clear hq) | clear hq)
                                                            | (with_reducible refine gB_dec (fun hp hq => ?_) (fun hp hq => ?_) <;> first | (clear hq; refine False.elim ?_; omega) | (simp only [hq]; clear hq) | clear hq)
                                                            | (with_reducible refine gB_ndec (fun hp hq => ?_) (fun hp hq => ?_) <;> first | (clear hq; refine False.elim ?_; omega) | (simp only [hq]; clear hq) | clear hq)
                                                            | (with_reducible refine And.intro ?_ ?_; omega)
          exact ⟨_, rfl, hy.keep fun _ _ => rfl, rfl⟩
      · rintro e t3 ⟨ml3, mc3, mh3⟩ ⟨rfl, y, h9, h10, hy, hh3⟩
        simp only at hh3
        have hS0 := StH.start (N := lt.length) (c := tyCell lt) (f := fun k => (under (lt.map TN.up) k).map (ptA h2.nx)) hw2 (HX.refl h2) (cells := (List.replicate lt.length [.sc (.int .i64 0), .sc (.int .i64 0), nilS]).flatten) (by simp)
        rw [← hh3] at hS0
        repeat' first
                                                            | (simp -implicitDefEqProofs (disch := omega) only [push_cast, ↓reduceIte, Nat.reduceEqDiff, reduceCtorEq, Nat.reduceAdd, Nat.reduceMul, Nat.reduceSub, Nat.reduceLT, Nat.reduceLeDiff, Int.reduceLT, Int.reduceLE, Int.reduceEq, Int.reduceNe, Int.reduceNeg, Int.reduceAdd, Int.reduceSub, Int.reduceMul, Int.reduceToNat, Nat.reducePow, Int.reducePow, Nat.reduceDiv, Nat.reduceMod, awp_dr, h9, h10]; done)
                                                            | simp -implicitDefEqProofs (disch := omega) only [push_cast, ↓reduceIte, Nat.reduceEqDiff, reduceCtorEq, Nat.reduceAdd, Nat.reduceMul, Nat.reduceSub, Nat.reduceLT, Nat.reduceLeDiff, Int.reduceLT, Int.reduceLE, Int.reduceEq, Int.reduceNe, Int.reduceNeg, Int.reduceAdd, Int.reduceSub, Int.reduceMul, Int.reduceToNat, Nat.reducePow, Int.reducePow, Nat.reduceDiv, Nat.reduceMod, awp_dr, h9, h10]
                                                            | (with_reducible refine cdB_dec (fun hp hq => ?_) (fun hp hq => ?_) <;> first | (clear hq; refine False.elim ?_; omega) | (simp only [hq]; clear hq) | clear hq)
                                                            | (with_reducible refine gB_dec (fun hp hq => ?_) (fun hp hq => ?_) <;> first | (clear hq; refine False.elim ?_; omega) | (simp only [hq]; clear hq) | clear hq)
                                                            | (with_reducible refine gB_ndec (fun hp hq => ?_) (fun hp hq => ?_) <;> first | (clear hq; refine False.elim ?_; omega) | (simp only [hq]; clear hq) | clear hq)
                                                            | (with_reducible refine And.intro ?_ ?_; omega)
        rw [awp_bk]
        refine awp_lpW 2658455991569831745789599722051229708 (fun d t m => ∃ (i : Nat) (cells : List AV) (ds : List (List AV)), i ≤ lt.length ∧ d = lt.length - i ∧ t 54 = .v (.sc (.int .i64 i)) ∧ StH h2 m.h h2.nx lt.length i (tyCell lt) (fun k => (under (lt.map TN.up) k).map (ptA h2.nx)) cells ∧
          LsE [51] m y 1 ds ∧ ds.length = lt.length ∧ (∀ j, j < i → ds[j]? = some [.sc (.int .i64 (deepOf (lt.map TN.up) (j + 1) j))]) ∧ ∀ j, j < i → okAt lt j = true) lt.length (by kernel_rfl) ?_ ?_
        · exact ⟨0, _, _, Nat.zero_le _, rfl, rfl, hS0, hy, by simp, fun j hj => absurd hj (Nat.not_lt_zero _), fun j hj => absurd hj (Nat.not_lt_zero _)⟩
        rintro d t4 ⟨ml4, mc4, mh4⟩ ⟨i, cells, ds, hi, rfl, h54, hS, hds, hdl, hdd, hok⟩
        simp only at hS
        by_cases hlt : i < lt.length
        · obtain ⟨z, hz, hg⟩ := vget (k := .i64) tnC_len hlt
          repeat' first
                                                            | (simp -implicitDefEqProofs (disch := omega) only [push_cast, ↓reduceIte, Nat.reduceEqDiff, reduceCtorEq, Nat.reduceAdd, Nat.reduceMul, Nat.reduceSub, Nat.reduceLT, Nat.reduceLeDiff, Int.reduceLT, Int.reduceLE, Int.reduceEq, Int.reduceNe, Int.reduceNeg, Int.reduceAdd, Int.reduceSub, Int.reduceMul, Int.reduceToNat, Nat.reducePow, Int.reducePow, Nat.reduceDiv, Nat.reduceMod, awp_dr, h54]; done)
                                                            | simp -implicitDefEqProofs (disch := omega) only [push_cast, ↓reduceIte, Nat.reduceEqDiff, reduceCtorEq, Nat.reduceAdd, Nat.reduceMul, Nat.reduceSub, Nat.reduceLT, Nat.reduceLeDiff, Int.reduceLT, Int.reduceLE, Int.reduceEq, Int.reduceNe, Int.reduceNeg, Int.reduceAdd, Int.reduceSub, Int.reduceMul, Int.reduceToNat, Nat.reducePow, Int.reducePow, Nat.reduceDiv, Nat.reduceMod, awp_dr, h54]
                                                            | (with_reducible refine cdB_dec (fun hp hq => ?_) (fun hp hq => ?_) <;> first | (clear hq; refine False.elim ?_; omega) | (simp only [hq]; clear hq) | clear hq)
                                                            | (with_reducible refine gB_dec (fun hp hq => ?_) (fun hp hq => ?_) <;> first | (clear hq; refine False.elim ?_; omega) | (simp only [hq]; clear hq) | clear hq)
                                                            | (with_reducible refine gB_ndec (fun hp hq => ?_) (fun hp hq => ?_) <;> first | (clear hq; refine False.elim ?_; omega) | (simp only [hq]; clear hq) | clear hq)
                                                            | (with_reducible refine And.intro ?_ ?_; omega)
          rw [awp_bk]
          obtain ⟨mlA, hmA⟩ : ∃ mlA, mlA = upd (upd ml4 12 (.mu mc4 [.v (.sc (.int .i64 0)), .v (.sc (.int .i64 0)), .v (.sc (.int .i64 0))])) 12 (.mu mc4 [.v (.sc (.int .i64 z.kind)), .v (.sc (.int .i64 z.n)), .v (.sc (.int .i64 z.up))]) := ⟨_, rfl⟩
          have hA12 : mlA 12 = .mu mc4 [.v (.sc (.int .i64 z.kind)), .v (.sc (.int .i64 z.n)), .v (.sc (.int .i64 z.up))] := by rw [hmA]; simp [upd]
          have hds2 : LsE [51] ⟨mlA, mc4 + 1, mh4⟩ y 1 ds := hds.keep (by rw [hmA]; simp [upd])
          obtain ⟨q, ml5, hs1, hs2, hs3, hs4⟩ := hds2.set1 (k := .i64) (i := i) (a := .sc (.int .i64 1)) (by omega) rfl
          simp only at hs2 hs3
          have hB12 : ml5 12 = .mu mc4 [.v (.sc (.int .i64 z.kind)), .v (.sc (.int .i64 z.n)), .v (.sc (.int .i64 z.up))] := by rw [hs4 12 (by simp)]; exact hA12
          have hup : upAt (lt.map TN.up) i = z.up := by simp [upAt, hz]
          have hzi := hst i (by simpa using hlt)
          simp -implicitDefEqProofs (disch := omega) only [push_cast, ↓reduceIte, Nat.reduceEqDiff, reduceCtorEq, Nat.reduceAdd, Nat.reduceMul, Nat.reduceSub, Nat.reduceLT, Nat.reduceLeDiff, Int.reduceLT, Int.reduceLE, Int.reduceEq, Int.reduceNe, Int.reduceNeg, Int.reduceAdd, Int.reduceSub, Int.reduceMul, Int.reduceToNat, Nat.reducePow, Int.reducePow, Nat.reduceDiv, Nat.reduceMod, awp_dr, h54, h9, h10, hg, tnC, newVarT_0, newL_eq, ← hmA, hs1, hs2]
          refine cdB_join 9426286221665580875776 (fun e t m => e = .normal ∧ ∃ ml6, m = ⟨ml6, mc4 + 1, mh4⟩ ∧ ml6 12 = .mu mc4 [.v (.sc (.int .i64 z.kind)), .v (.sc (.int .i64 z.n)), .v (.sc (.int .i64 z.up))] ∧
            LsE [51] ⟨ml6, mc4 + 1, mh4⟩ y 1 (ds.set i [.sc (.int .i64 (deepOf (lt.map TN.up) (i + 1) i))])) (by kernel_rfl) (by kernel_rfl) ?_ ?_ ?_
          · intro hi0
            obtain ⟨hu1, hu2, _⟩ := Stand.upk hst (k := i) (by omega) (by simpa using hlt)
            obtain ⟨u, hu⟩ : ∃ u : Nat, z.up = (u : Int) := ⟨z.up.toNat, by omega⟩
            have hui : u < i := by omega
            have hdm := deep_mono (f := i + 1) hst (by simpa using hlt) (hup.trans hu) hui (by omega)
            obtain ⟨q5, hq1, hq2⟩ := (hs3 mh4).get1 (k := .i64) (i := u) (a := .sc (.int .i64 (deepOf (lt.map TN.up) (u + 1) u))) (by rw [List.getElem?_set_ne (by omega)]; exact hdd u hui)
            obtain ⟨q6, ml6, ht1, ht2, ht3, ht4⟩ := (hs3 mh4).set1 (k := .i64) (i := i) (a := .sc (.int .i64 ((deepOf (lt.map TN.up) (u + 1) u : Nat) + 1))) (by simp; omega) rfl
            have hC12 : ml6 12 = .mu mc4 [.v (.sc (.int .i64 z.kind)), .v (.sc (.int .i64 z.n)), .v (.sc (.int .i64 z.up))] := by rw [ht4 12 (by simp)]; exact hB12
            have hdu : deepOf (lt.map TN.up) (u + 1) u ≤ 40 := by
              have := hok u hui
              have eu : lt[u]? = some lt[u] := List.getElem?_eq_getElem (by omega)
              simp only [okAt, eu, okN, Bool.and_eq_true, decide_eq_true_eq] at this
              omega
            simp only at ht2 hq2
            rw [hu] at hB12
            repeat' first
                                                            | (simp -implicitDefEqProofs (disch := omega) only [push_cast, ↓reduceIte, Nat.reduceEqDiff, reduceCtorEq, Nat.reduceAdd, Nat.reduceMul, Nat.reduceSub, Nat.reduceLT, Nat.reduceLeDiff, Int.reduceLT, Int.reduceLE, Int.reduceEq, Int.reduceNe, Int.reduceNeg, Int.reduceAdd, Int.reduceSub, Int.reduceMul, Int.reduceToNat, Nat.reducePow, Int.reducePow, Nat.reduceDiv, Nat.reduceMod, awp_dr, h54, h9, h10, hB12, hq1, hq2, ht1, ht2]; done)
                                                            | simp -implicitDefEqProofs (disch := omega) only [push_cast, ↓reduceIte, Nat.reduceEqDiff, reduceCtorEq, Nat.reduceAdd, Nat.reduceMul, Nat.reduceSub, Nat.reduceLT, Nat.reduceLeDiff, Int.reduceLT, Int.reduceLE, Int.reduceEq, Int.reduceNe, Int.reduceNeg, Int.reduceAdd, Int.reduceSub, Int.reduceMul, Int.reduceToNat, Nat.reducePow, Int.reducePow, Nat.reduceDiv, Nat.reduceMod, awp_dr, h54, h9, h10, hB12, hq1, hq2, ht1, ht2]
                                                            | (with_reducible refine cdB_dec (fun hp hq => ?_) (fun hp hq => ?_) <;> first | (clear hq; refine False.elim ?_; omega) | (simp only [hq]; clear hq) | clear hq)
                                                            | (with_reducible refine gB_dec (fun hp hq => ?_) (fun hp hq => ?_) <;> first | (clear hq; refine False.elim ?_; omega) | (simp only [hq]; clear hq) | clear hq)
                                                            | (with_reducible refine gB_ndec (fun hp hq => ?_) (fun hp hq => ?_) <;> first | (clear hq; refine False.elim ?_; omega) | (simp only [hq]; clear hq) | clear hq)
                                                            | (with_reducible refine And.intro ?_ ?_; omega)
            refine ⟨ml6, rfl, hC12, ?_⟩
            rw [hdm]
            simpa [List.set_set] using ht3 mh4
          · intro hi0
            have e0 : i = 0 := by omega
            subst e0
            repeat' first
                                                            | (simp -implicitDefEqProofs (disch := omega) only [push_cast, ↓reduceIte, Nat.reduceEqDiff, reduceCtorEq, Nat.reduceAdd, Nat.reduceMul, Nat.reduceSub, Nat.reduceLT, Nat.reduceLeDiff, Int.reduceLT, Int.reduceLE, Int.reduceEq, Int.reduceNe, Int.reduceNeg, Int.reduceAdd, Int.reduceSub, Int.reduceMul, Int.reduceToNat, Nat.reducePow, Int.reducePow, Nat.reduceDiv, Nat.reduceMod, awp_dr]; done)
                                                            | simp -implicitDefEqProofs (disch := omega) only [push_cast, ↓reduceIte, Nat.reduceEqDiff, reduceCtorEq, Nat.reduceAdd, Nat.reduceMul, Nat.reduceSub, Nat.reduceLT, Nat.reduceLeDiff, Int.reduceLT, Int.reduceLE, Int.reduceEq, Int.reduceNe, Int.reduceNeg, Int.reduceAdd, Int.reduceSub, Int.reduceMul, Int.reduceToNat, Nat.reducePow, Int.reducePow, Nat.reduceDiv, Nat.reduceMod, awp_dr]
                                                            | (with_reducible refine cdB_dec (fun hp hq => ?_) (fun hp hq => ?_) <;> first | (clear hq; refine False.elim ?_; omega) | (simp only [hq]; clear hq) | clear hq)
                                                            | (with_reducible refine gB_dec (fun hp hq => ?_) (fun hp hq => ?_) <;> first | (clear hq; refine False.elim ?_; omega) | (simp only [hq]; clear hq) | clear hq)
                                                            | (with_reducible refine gB_ndec (fun hp hq => ?_) (fun hp hq => ?_) <;> first | (clear hq; refine False.elim ?_; omega) | (simp only [hq]; clear hq) | clear hq)
                                                            | (with_reducible refine And.intro ?_ ?_; omega)
            refine ⟨ml5, rfl, hB12, ?_⟩
            simpa [deepOf] using hs3 mh4
          · rintro e t5 m5 ⟨rfl, ml6, rfl, h12, hd6⟩
            have hes1 : ∀ e ∈ es, e.length = 1 := fun e he => by
              obtain ⟨k, hk1, hk2⟩ := List.getElem_of_mem he
              obtain ⟨a, ha, _⟩ := hkn.2.1 k (by rw [← hkn.1]; exact hk1)
              rw [List.getElem?_eq_getElem hk1, hk2] at ha
              injection ha with ha; rw [ha]; rfl
            obtain ⟨a7, ha7, hs7⟩ := hkn.2.1 i (by simpa using hlt)
            replace hs7 : SlH h2 a7 ((under (lt.map TN.up) i).map natA) := hs7
            have hk7 : ∀ m, ixT 1 m (.v (.vec es)) (.v (.sc (.int .i64 i))) = some (.vp [a7]) := fun m => vec_get hes1 ha7
            have hn7 := SlH.ln hs7
            rw [List.length_map] at hn7
            obtain ⟨q7, hq1, hq2⟩ := hd6.get1 (k := .i64) (i := i) (a := .sc (.int .i64 (deepOf (lt.map TN.up) (i + 1) i))) (by rw [List.getElem?_set_self (by omega)])
            simp only at hq2
            have hokE : okAt lt i = (decide (deepOf (lt.map TN.up) (i + 1) i ≤ 8) && (decide (1 ≤ z.kind ∧ z.kind ≤ 21) && (decide ((shapeK z.kind).1 ≤ ((under (lt.map TN.up) i).length : Int) ∧ ((under (lt.map TN.up) i).length : Int) ≤ (shapeK z.kind).2.1) && decide ((shapeK z.kind).2.2.1 ≤ z.n ∧ z.n ≤ (shapeK z.kind).2.2.2)))) := by
              simp only [okAt, hz, okN, hzi, Bool.true_and]
              rw [← Bool.and_assoc, ← Bool.and_assoc, Bool.and_comm (decide (1 ≤ z.kind ∧ z.kind ≤ 21))]
              simp only [Bool.and_assoc]
            repeat' first
                                                            | (simp -implicitDefEqProofs (disch := omega) only [push_cast, ↓reduceIte, Nat.reduceEqDiff, reduceCtorEq, Nat.reduceAdd, Nat.reduceMul, Nat.reduceSub, Nat.reduceLT, Nat.reduceLeDiff, Int.reduceLT, Int.reduceLE, Int.reduceEq, Int.reduceNe, Int.reduceNeg, Int.reduceAdd, Int.reduceSub, Int.reduceMul, Int.reduceToNat, Nat.reducePow, Int.reducePow, Nat.reduceDiv, Nat.reduceMod]; done)
                                                            | simp -implicitDefEqProofs (disch := omega) only [push_cast, ↓reduceIte, Nat.reduceEqDiff, reduceCtorEq, Nat.reduceAdd, Nat.reduceMul, Nat.reduceSub, Nat.reduceLT, Nat.reduceLeDiff, Int.reduceLT, Int.reduceLE, Int.reduceEq, Int.reduceNe, Int.reduceNeg, Int.reduceAdd, Int.reduceSub, Int.reduceMul, Int.reduceToNat, Nat.reducePow, Int.reducePow, Nat.reduceDiv, Nat.reduceMod]
                                                            | (with_reducible refine cdB_dec (fun hp hq => ?_) (fun hp hq => ?_) <;> first | (clear hq; refine False.elim ?_; omega) | (simp only [hq]; clear hq) | clear hq)
                                                            | (with_reducible refine gB_dec (fun hp hq => ?_) (fun hp hq => ?_) <;> first | (clear hq; refine False.elim ?_; omega) | (simp only [hq]; clear hq) | clear hq)
                                                            | (with_reducible refine gB_ndec (fun hp hq => ?_) (fun hp hq => ?_) <;> first | (clear hq; refine False.elim ?_; omega) | (simp only [hq]; clear hq) | clear hq)
                                                            | (with_reducible refine And.intro ?_ ?_; omega)
            refine awp_cutW 309475565088379329434353664 (fun e t m => e = .normal ∧ m = ⟨ml6, mc4 + 1, mh4⟩ ∧ t 87 = .v (.sc (.bool (!okAt lt i)))) (by kernel_rfl) ?_ ?_
            · rw [hokE]
              by_cases hd8 : deepOf (lt.map TN.up) (i + 1) i ≤ 8
              · have hdq : decide ((8 : Int) < ((deepOf (lt.map TN.up) (i + 1) i : Nat) : Int)) = false := by simp; omega
                have hdr : decide (deepOf (lt.map TN.up) (i + 1) i ≤ 8) = true := by simp; omega
                repeat' first
                                                            | (simp -implicitDefEqProofs (disch := omega) only [push_cast, ↓reduceIte, Nat.reduceEqDiff, reduceCtorEq, Nat.reduceAdd, Nat.reduceMul, Nat.reduceSub, Nat.reduceLT, Nat.reduceLeDiff, Int.reduceLT, Int.reduceLE, Int.reduceEq, Int.reduceNe, Int.reduceNeg, Int.reduceAdd, Int.reduceSub, Int.reduceMul, Int.reduceToNat, Nat.reducePow, Int.reducePow, Nat.reduceDiv, Nat.reduceMod, awp_dr, h9, h10, h12, hk7, hn7, hq1, hq2, hdq]; done)
                                                            | simp -implicitDefEqProofs (disch := omega) only [push_cast, ↓reduceIte, Nat.reduceEqDiff, reduceCtorEq, Nat.reduceAdd, Nat.reduceMul, Nat.reduceSub, Nat.reduceLT, Nat.reduceLeDiff, Int.reduceLT, Int.reduceLE, Int.reduceEq, Int.reduceNe, Int.reduceNeg, Int.reduceAdd, Int.reduceSub, Int.reduceMul, Int.reduceToNat, Nat.reducePow, Int.reducePow, Nat.reduceDiv, Nat.reduceMod, awp_dr, h9, h10, h12, hk7, hn7, hq1, hq2, hdq]
                                                            | refine nodeOk_ok (x := z) (p := (under (lt.map TN.up) i).length) ?_
                                                            | (with_reducible refine cdB_dec (fun hp hq => ?_) (fun hp hq => ?_) <;> first | (clear hq; refine False.elim ?_; omega) | (simp only [hq]; clear hq) | clear hq)
                                                            | (with_reducible refine gB_dec (fun hp hq => ?_) (fun hp hq => ?_) <;> first | (clear hq; refine False.elim ?_; omega) | (simp only [hq]; clear hq) | clear hq)
                                                            | (with_reducible refine gB_ndec (fun hp hq => ?_) (fun hp hq => ?_) <;> first | (clear hq; refine False.elim ?_; omega) | (simp only [hq]; clear hq) | clear hq)
                                                            | (with_reducible refine And.intro ?_ ?_; omega)
                simp [hdr]
              · have hdq : decide ((8 : Int) < ((deepOf (lt.map TN.up) (i + 1) i : Nat) : Int)) = true := by simp; omega
                have hdr : decide (deepOf (lt.map TN.up) (i + 1) i ≤ 8) = false := by simp; omega
                repeat' first
                                                            | (simp -implicitDefEqProofs (disch := omega) only [push_cast, ↓reduceIte, Nat.reduceEqDiff, reduceCtorEq, Nat.reduceAdd, Nat.reduceMul, Nat.reduceSub, Nat.reduceLT, Nat.reduceLeDiff, Int.reduceLT, Int.reduceLE, Int.reduceEq, Int.reduceNe, Int.reduceNeg, Int.reduceAdd, Int.reduceSub, Int.reduceMul, Int.reduceToNat, Nat.reducePow, Int.reducePow, Nat.reduceDiv, Nat.reduceMod, awp_dr, h9, h10, h12, hk7, hn7, hq1, hq2, hdq]; done)
                                                            | simp -implicitDefEqProofs (disch := omega) only [push_cast, ↓reduceIte, Nat.reduceEqDiff, reduceCtorEq, Nat.reduceAdd, Nat.reduceMul, Nat.reduceSub, Nat.reduceLT, Nat.reduceLeDiff, Int.reduceLT, Int.reduceLE, Int.reduceEq, Int.reduceNe, Int.reduceNeg, Int.reduceAdd, Int.reduceSub, Int.reduceMul, Int.reduceToNat, Nat.reducePow, Int.reducePow, Nat.reduceDiv, Nat.reduceMod, awp_dr, h9, h10, h12, hk7, hn7, hq1, hq2, hdq]
                                                            | (with_reducible refine cdB_dec (fun hp hq => ?_) (fun hp hq => ?_) <;> first | (clear hq; refine False.elim ?_; omega) | (simp only [hq]; clear hq) | clear hq)
                                                            | (with_reducible refine gB_dec (fun hp hq => ?_) (fun hp hq => ?_) <;> first | (clear hq; refine False.elim ?_; omega) | (simp only [hq]; clear hq) | clear hq)
                                                            | (with_reducible refine gB_ndec (fun hp hq => ?_) (fun hp hq => ?_) <;> first | (clear hq; refine False.elim ?_; omega) | (simp only [hq]; clear hq) | clear hq)
                                                            | (with_reducible refine And.intro ?_ ?_; omega)
                simp [hdr]
            · rintro e t6 m6 ⟨rfl, rfl, h87⟩
              cases hoi : okAt lt i
              · rw [hoi] at h87
                repeat' first
                                                            | (simp -implicitDefEqProofs (disch := omega) only [push_cast, ↓reduceIte, Nat.reduceEqDiff, reduceCtorEq, Nat.reduceAdd, Nat.reduceMul, Nat.reduceSub, Nat.reduceLT, Nat.reduceLeDiff, Int.reduceLT, Int.reduceLE, Int.reduceEq, Int.reduceNe, Int.reduceNeg, Int.reduceAdd, Int.reduceSub, Int.reduceMul, Int.reduceToNat, Nat.reducePow, Int.reducePow, Nat.reduceDiv, Nat.reduceMod, awp_dr, h87]; done)
                                                            | simp -implicitDefEqProofs (disch := omega) only [push_cast, ↓reduceIte, Nat.reduceEqDiff, reduceCtorEq, Nat.reduceAdd, Nat.reduceMul, Nat.reduceSub, Nat.reduceLT, Nat.reduceLeDiff, Int.reduceLT, Int.reduceLE, Int.reduceEq, Int.reduceNe, Int.reduceNeg, Int.reduceAdd, Int.reduceSub, Int.reduceMul, Int.reduceToNat, Nat.reducePow, Int.reducePow, Nat.reduceDiv, Nat.reduceMod, awp_dr, h87]
                                                            | (with_reducible refine cdB_dec (fun hp hq => ?_) (fun hp hq => ?_) <;> first | (clear hq; refine False.elim ?_; omega) | (simp only [hq]; clear hq) | clear hq)
                                                            | (with_reducible refine gB_dec (fun hp hq => ?_) (fun hp hq => ?_) <;> first | (clear hq; refine False.elim ?_; omega) | (simp only [hq]; clear hq) | clear hq)
                                                            | (with_reducible refine gB_ndec (fun hp hq => ?_) (fun hp hq => ?_) <;> first | (clear hq; refine False.elim ?_; omega) | (simp only [hq]; clear hq) | clear hq)
                                                            | (with_reducible refine And.intro ?_ ?_; omega)
                exact hF mh4 hS.1 (hx2.trans hS.2.1) (goodT_bad hn hlt hoi)
              · rw [hoi] at h87
                have hm4 := hS.2.2.2.2.1
                have hcl := hS.2.2.2.2.2.1
                have hSI := hS.node hlt
                have htc : tyCell lt i = (.sc (.int .i64 z.kind), .sc (.int .i64 z.n)) := by simp [tyCell, hz]
                rw [htc] at hSI
                obtain ⟨ks, hks⟩ : ∃ ks, ks = under (lt.map TN.up) i := ⟨_, rfl⟩
                rw [← hks] at hs7 hn7
                repeat' first
                                                            | (simp -implicitDefEqProofs (disch := omega) only [push_cast, ↓reduceIte, Nat.reduceEqDiff, reduceCtorEq, Nat.reduceAdd, Nat.reduceMul, Nat.reduceSub, Nat.reduceLT, Nat.reduceLeDiff, Int.reduceLT, Int.reduceLE, Int.reduceEq, Int.reduceNe, Int.reduceNeg, Int.reduceAdd, Int.reduceSub, Int.reduceMul, Int.reduceToNat, Nat.reducePow, Int.reducePow, Nat.reduceDiv, Nat.reduceMod, awp_dr, h87, h9, h12, hk7, hn7, hm4]; done)
                                                            | simp -implicitDefEqProofs (disch := omega) only [push_cast, ↓reduceIte, Nat.reduceEqDiff, reduceCtorEq, Nat.reduceAdd, Nat.reduceMul, Nat.reduceSub, Nat.reduceLT, Nat.reduceLeDiff, Int.reduceLT, Int.reduceLE, Int.reduceEq, Int.reduceNe, Int.reduceNeg, Int.reduceAdd, Int.reduceSub, Int.reduceMul, Int.reduceToNat, Nat.reducePow, Int.reducePow, Nat.reduceDiv, Nat.reduceMod, awp_dr, h87, h9, h12, hk7, hn7, hm4]
                                                            | (with_reducible refine cdB_dec (fun hp hq => ?_) (fun hp hq => ?_) <;> first | (clear hq; refine False.elim ?_; omega) | (simp only [hq]; clear hq) | clear hq)
                                                            | (with_reducible refine gB_dec (fun hp hq => ?_) (fun hp hq => ?_) <;> first | (clear hq; refine False.elim ?_; omega) | (simp only [hq]; clear hq) | clear hq)
                                                            | (with_reducible refine gB_ndec (fun hp hq => ?_) (fun hp hq => ?_) <;> first | (clear hq; refine False.elim ?_; omega) | (simp only [hq]; clear hq) | clear hq)
                                                            | (with_reducible refine And.intro ?_ ?_; omega)
                rw [awp_bk]
                refine awp_lpW 1329225460483715416445004066873950208 (fun d t m => ∃ (q : Nat) (cells : List AV) (a : AV), q ≤ ks.length ∧ d = ks.length - q ∧ t 101 = .v (.sc (.int .i64 q)) ∧ m.l = ml6 ∧ m.c = mc4 + 1 ∧
                  StI h2 m.h h2.nx lt.length i (tyCell lt) (fun k => (under (lt.map TN.up) k).map (ptA h2.nx)) ((ks.take q).map (ptA h2.nx)) cells a) ks.length (by kernel_rfl) ?_ ?_
                · exact ⟨0, _, _, Nat.zero_le _, rfl, rfl, rfl, rfl, hSI⟩
                rintro d t7 ⟨ml7, mc7, mh7⟩ ⟨q, cells7, a, hq, rfl, h101, rfl, rfl, hSI7⟩
                simp only at hSI7
                by_cases hqlt : q < ks.length
                · have hkq : ks[q]? = some ks[q] := List.getElem?_eq_getElem hqlt
                  obtain ⟨k, hk⟩ : ∃ k, k = ks[q] := ⟨_, rfl⟩
                  rw [← hk] at hkq
                  have hkl := under_lt (show k ∈ under (lt.map TN.up) i by rw [← hks, hk]; exact List.getElem_mem _)
                  rw [List.length_map] at hkl
                  obtain ⟨n, o, g1, cs, g2, g3⟩ := (SlH.hx hs7 hw2 hSI7.2.1).get (k := .i64) (i := q) (v := natA k) (by rw [List.getElem?_map, hkq]; rfl)
                  have hm7 := hSI7.2.2.2.2.1
                  have hcl7 := hSI7.2.2.2.2.2.1
                  have hr7 := hSI7.2.2.2.2.2.2.1.2.2
                  have hlq : ((ks.take q).map (ptA h2.nx)).length = q := by simp; omega
                  have hkn40 : ks.length ≤ lt.length := by rw [hks]; exact (by have := underTo_le (lt.map TN.up) i (lt.map TN.up).length; rw [underTo_len, List.length_map] at this; exact this)
                  have hap : ∀ ml mc, apT 1 116 1 8 ⟨ml, mc, mh7⟩ (.v a) (.v (.vec [[.ptr h2.nx (k * 3)]])) = some (.v (.sl mh7.nx 1 0 (q + 1)), ⟨ml, mc, growH mh7 a ((ks.take q).map (ptA h2.nx)) (ptA h2.nx k)⟩) := fun ml mc => by
                    have := SlH.app (v := ptA h2.nx k) (d := 116) (bytes := 8) hSI7.2.2.2.2.2.2.2.1 rfl (by omega) (by omega) ml mc
                    rw [hlq] at this
                    exact this
                  have hgr := hSI7.grow (ptA h2.nx k)
                  have hpt := hSI7.part hlt (ptA h2.nx k)
                  unfold natA at g3
                  repeat' first
                                                            | (simp -implicitDefEqProofs (disch := omega) only [push_cast, ↓reduceIte, Nat.reduceEqDiff, reduceCtorEq, Nat.reduceAdd, Nat.reduceMul, Nat.reduceSub, Nat.reduceLT, Nat.reduceLeDiff, Int.reduceLT, Int.reduceLE, Int.reduceEq, Int.reduceNe, Int.reduceNeg, Int.reduceAdd, Int.reduceSub, Int.reduceMul, Int.reduceToNat, Nat.reducePow, Int.reducePow, Nat.reduceDiv, Nat.reduceMod, awp_dr, h101, h9, hn7, g1, g2, g3, hm7, hr7, hap, hgr]; done)
                                                            | simp -implicitDefEqProofs (disch := omega) only [push_cast, ↓reduceIte, Nat.reduceEqDiff, reduceCtorEq, Nat.reduceAdd, Nat.reduceMul, Nat.reduceSub, Nat.reduceLT, Nat.reduceLeDiff, Int.reduceLT, Int.reduceLE, Int.reduceEq, Int.reduceNe, Int.reduceNeg, Int.reduceAdd, Int.reduceSub, Int.reduceMul, Int.reduceToNat, Nat.reducePow, Int.reducePow, Nat.reduceDiv, Nat.reduceMod, awp_dr, h101, h9, hn7, g1, g2, g3, hm7, hr7, hap, hgr]
                                                            | (with_reducible refine cdB_dec (fun hp hq => ?_) (fun hp hq => ?_) <;> first | (clear hq; refine False.elim ?_; omega) | (simp only [hq]; clear hq) | clear hq)
                                                            | (with_reducible refine gB_dec (fun hp hq => ?_) (fun hp hq => ?_) <;> first | (clear hq; refine False.elim ?_; omega) | (simp only [hq]; clear hq) | clear hq)
                                                            | (with_reducible refine gB_ndec (fun hp hq => ?_) (fun hp hq => ?_) <;> first | (clear hq; refine False.elim ?_; omega) | (simp only [hq]; clear hq) | clear hq)
                                                            | (with_reducible refine And.intro ?_ ?_; omega)
                  rw [awp_bk]
                  repeat' first
                                                            | (simp -implicitDefEqProofs (disch := omega) only [push_cast, ↓reduceIte, Nat.reduceEqDiff, reduceCtorEq, Nat.reduceAdd, Nat.reduceMul, Nat.reduceSub, Nat.reduceLT, Nat.reduceLeDiff, Int.reduceLT, Int.reduceLE, Int.reduceEq, Int.reduceNe, Int.reduceNeg, Int.reduceAdd, Int.reduceSub, Int.reduceMul, Int.reduceToNat, Nat.reducePow, Int.reducePow, Nat.reduceDiv, Nat.reduceMod, awp_dr, h101, h9, hn7, g1, g2, g3, hm7, hr7, hap, hgr]; done)
                                                            | simp -implicitDefEqProofs (disch := omega) only [push_cast, ↓reduceIte, Nat.reduceEqDiff, reduceCtorEq, Nat.reduceAdd, Nat.reduceMul, Nat.reduceSub, Nat.reduceLT, Nat.reduceLeDiff, Int.reduceLT, Int.reduceLE, Int.reduceEq, Int.reduceNe, Int.reduceNeg, Int.reduceAdd, Int.reduceSub, Int.reduceMul, Int.reduceToNat, Nat.reducePow, Int.reducePow, Nat.reduceDiv, Nat.reduceMod, awp_dr, h101, h9, hn7, g1, g2, g3, hm7, hr7, hap, hgr]
                                                            | (with_reducible refine cdB_dec (fun hp hq => ?_) (fun hp hq => ?_) <;> first | (clear hq; refine False.elim ?_; omega) | (simp only [hq]; clear hq) | clear hq)
                                                            | (with_reducible refine gB_dec (fun hp hq => ?_) (fun hp hq => ?_) <;> first | (clear hq; refine False.elim ?_; omega) | (simp only [hq]; clear hq) | clear hq)
                                                            | (with_reducible refine gB_ndec (fun hp hq => ?_) (fun hp hq => ?_) <;> first | (clear hq; refine False.elim ?_; omega) | (simp only [hq]; clear hq) | clear hq)
                                                            | (with_reducible refine And.intro ?_ ?_; omega)
                  have e1 : (ks.take (q + 1)).map (ptA h2.nx) = (ks.take q).map (ptA h2.nx) ++ [ptA h2.nx k] := by
                    rw [List.take_add_one, hkq]; simp
                  unfold partH at hpt
                  rw [hlq, ← e1] at hpt
                  exact ⟨_, by omega, q + 1, _, _, by omega, rfl, by simp, hpt⟩
                · have hqe : q = ks.length := by omega
                  subst hqe
                  repeat' first
                                                            | (simp -implicitDefEqProofs (disch := omega) only [push_cast, ↓reduceIte, Nat.reduceEqDiff, reduceCtorEq, Nat.reduceAdd, Nat.reduceMul, Nat.reduceSub, Nat.reduceLT, Nat.reduceLeDiff, Int.reduceLT, Int.reduceLE, Int.reduceEq, Int.reduceNe, Int.reduceNeg, Int.reduceAdd, Int.reduceSub, Int.reduceMul, Int.reduceToNat, Nat.reducePow, Int.reducePow, Nat.reduceDiv, Nat.reduceMod, awp_dr, h101, h9, hn7, h54]; done)
                                                            | simp -implicitDefEqProofs (disch := omega) only [push_cast, ↓reduceIte, Nat.reduceEqDiff, reduceCtorEq, Nat.reduceAdd, Nat.reduceMul, Nat.reduceSub, Nat.reduceLT, Nat.reduceLeDiff, Int.reduceLT, Int.reduceLE, Int.reduceEq, Int.reduceNe, Int.reduceNeg, Int.reduceAdd, Int.reduceSub, Int.reduceMul, Int.reduceToNat, Nat.reducePow, Int.reducePow, Nat.reduceDiv, Nat.reduceMod, awp_dr, h101, h9, hn7, h54]
                                                            | (with_reducible refine cdB_dec (fun hp hq => ?_) (fun hp hq => ?_) <;> first | (clear hq; refine False.elim ?_; omega) | (simp only [hq]; clear hq) | clear hq)
                                                            | (with_reducible refine gB_dec (fun hp hq => ?_) (fun hp hq => ?_) <;> first | (clear hq; refine False.elim ?_; omega) | (simp only [hq]; clear hq) | clear hq)
                                                            | (with_reducible refine gB_ndec (fun hp hq => ?_) (fun hp hq => ?_) <;> first | (clear hq; refine False.elim ?_; omega) | (simp only [hq]; clear hq) | clear hq)
                                                            | (with_reducible refine And.intro ?_ ?_; omega)
                  refine ⟨_, by omega, i + 1, cells7, _, by omega, rfl, by simp, hSI7.done (by rw [List.take_length, hks]), hd6.keep fun _ _ => rfl, by simpa using hdl, fun j hj => ?_, fun j hj => ?_⟩
                  · by_cases e : j = i
                    · subst e; rw [List.getElem?_set_self (by omega)]
                    · rw [List.getElem?_set_ne (by omega)]; exact hdd j (by omega)
                  · by_cases e : j = i
                    · subst e; exact hoi
                    · exact hok j (by omega)
        · have hi : i = lt.length := by omega
          subst hi
          repeat' first
                                                            | (simp -implicitDefEqProofs (disch := omega) only [push_cast, ↓reduceIte, Nat.reduceEqDiff, reduceCtorEq, Nat.reduceAdd, Nat.reduceMul, Nat.reduceSub, Nat.reduceLT, Nat.reduceLeDiff, Int.reduceLT, Int.reduceLE, Int.reduceEq, Int.reduceNe, Int.reduceNeg, Int.reduceAdd, Int.reduceSub, Int.reduceMul, Int.reduceToNat, Nat.reducePow, Int.reducePow, Nat.reduceDiv, Nat.reduceMod, awp_dr, h54, h9, h10]; done)
                                                            | simp -implicitDefEqProofs (disch := omega) only [push_cast, ↓reduceIte, Nat.reduceEqDiff, reduceCtorEq, Nat.reduceAdd, Nat.reduceMul, Nat.reduceSub, Nat.reduceLT, Nat.reduceLeDiff, Int.reduceLT, Int.reduceLE, Int.reduceEq, Int.reduceNe, Int.reduceNeg, Int.reduceAdd, Int.reduceSub, Int.reduceMul, Int.reduceToNat, Nat.reducePow, Int.reducePow, Nat.reduceDiv, Nat.reduceMod, awp_dr, h54, h9, h10]
                                                            | (with_reducible refine cdB_dec (fun hp hq => ?_) (fun hp hq => ?_) <;> first | (clear hq; refine False.elim ?_; omega) | (simp only [hq]; clear hq) | clear hq)
                                                            | (with_reducible refine gB_dec (fun hp hq => ?_) (fun hp hq => ?_) <;> first | (clear hq; refine False.elim ?_; omega) | (simp only [hq]; clear hq) | clear hq)
                                                            | (with_reducible refine gB_ndec (fun hp hq => ?_) (fun hp hq => ?_) <;> first | (clear hq; refine False.elim ?_; omega) | (simp only [hq]; clear hq) | clear hq)
                                                            | (with_reducible refine And.intro ?_ ?_; omega)
          refine hR mh4 _ hS.1 (hx2.trans hS.2.1) ?_ (hS.ty (fun k x e => by simp [tyCell, e]) lt.length 0 (by omega) (by omega))
          simp only [goodT, Bool.and_eq_true, decide_eq_true_eq, List.all_eq_true, List.mem_range]
          exact ⟨hn, hok⟩
    · refine hF _ hw2 hx2 ?_
      obtain ⟨k, hk1, hk2⟩ := hbad
      rw [List.length_map] at hk1
      refine goodT_bad hn hk1 ?_
      simp [okAt, List.getElem?_eq_getElem hk1, okN, hk2]
end Go.Proofs.YtgkiaoodalnceaaDoor
