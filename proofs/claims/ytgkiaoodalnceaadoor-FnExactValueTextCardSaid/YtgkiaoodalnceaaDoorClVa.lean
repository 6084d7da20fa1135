import Derived.Test.YtgkiaoodalnceaaDoorClGen
import Derived.Test.YtgkiaoodalnceaaDoorClVmA
/- What the laws' own helpers compute: copies, sizes, comparisons. -/
namespace Go.Proofs.YtgkiaoodalnceaaDoor
open Go SL VM
set_option maxRecDepth 100000
set_option linter.unusedVariables false
set_option linter.unusedSimpArgs false
attribute [local irreducible] SL.awp

theorem vp_tn {m : Mem} {y : TN} : ldnT 3 m (.vp (tnC y)) = some (.v (.agg (tnC y)), m) := vp_ldn rfl
theorem vq_tn {m : Mem} {y : TN} : ldnQ 3 m (.vp (tnC y)) = some (.v (.agg (tnC y))) := vp_ldq rfl
theorem vq_vn {m : Mem} {y : VN} : ldnQ 3 m (.vp (vnC y)) = some (.v (.agg (vnC y))) := vp_ldq rfl
theorem vp_vn {m : Mem} {y : VN} : ldnT 3 m (.vp (vnC y)) = some (.v (.agg (vnC y)), m) := vp_ldn rfl

theorem toTypeNode_ok {x : TN} {h : Heap} {R : AV → Heap → Prop} (hR : R (.agg (tnC x)) h) : ACalls Tryd.prog 17 [.agg (tnC x)] h R := by
  refine acalls_body c_laws_toTypeNode (by simp) ?_
  unfold a_laws_toTypeNode
  repeat' first
                                                            | (simp -implicitDefEqProofs (disch := omega) only [push_cast, ↓reduceIte, Nat.reduceEqDiff, reduceCtorEq, Nat.reduceAdd, Nat.reduceMul, Nat.reduceSub, Nat.reduceLT, Nat.reduceLeDiff, Int.reduceLT, Int.reduceLE, Int.reduceEq, Int.reduceNe, Int.reduceNeg, Int.reduceAdd, Int.reduceSub, Int.reduceMul, Int.reduceToNat, Nat.reducePow, Int.reducePow, Nat.reduceDiv, Nat.reduceMod, awp_dr, awp_bk, tnC]; done)
                                                            | simp -implicitDefEqProofs (disch := omega) only [push_cast, ↓reduceIte, Nat.reduceEqDiff, reduceCtorEq, Nat.reduceAdd, Nat.reduceMul, Nat.reduceSub, Nat.reduceLT, Nat.reduceLeDiff, Int.reduceLT, Int.reduceLE, Int.reduceEq, Int.reduceNe, Int.reduceNeg, Int.reduceAdd, Int.reduceSub, Int.reduceMul, Int.reduceToNat, Nat.reducePow, Int.reducePow, Nat.reduceDiv, Nat.reduceMod, awp_dr, awp_bk, tnC]
                                                            | (with_reducible refine cdB_dec (fun hp hq => ?_) (fun hp hq => ?_) <;> first | (clear hq; refine False.elim ?_; omega) | (simp only [hq]; clear hq) | clear hq)
                                                            | (with_reducible refine gB_dec (fun hp hq => ?_) (fun hp hq => ?_) <;> first | (clear hq; refine False.elim ?_; omega) | (simp only [hq]; clear hq) | clear hq)
                                                            | (with_reducible refine gB_ndec (fun hp hq => ?_) (fun hp hq => ?_) <;> first | (clear hq; refine False.elim ?_; omega) | (simp only [hq]; clear hq) | clear hq)
  exact hR

theorem toTypeNodeS_ok {l : List TN} {h : Heap} {R : AV → Heap → Prop} (hl : l.length ≤ 1048576) (hR : R (.vec (l.map tnC)) h) : ACalls Tryd.prog 7 [.vec (l.map tnC)] h R := by
  refine ACalls.sub (acalls_body c_laws_toTypeNodeS (by simp) ?_)
  unfold a_laws_toTypeNodeS
  repeat' first
                                                            | (simp -implicitDefEqProofs (disch := omega) only [push_cast, ↓reduceIte, Nat.reduceEqDiff, reduceCtorEq, Nat.reduceAdd, Nat.reduceMul, Nat.reduceSub, Nat.reduceLT, Nat.reduceLeDiff, Int.reduceLT, Int.reduceLE, Int.reduceEq, Int.reduceNe, Int.reduceNeg, Int.reduceAdd, Int.reduceSub, Int.reduceMul, Int.reduceToNat, Nat.reducePow, Int.reducePow, Nat.reduceDiv, Nat.reduceMod, awp_dr, awp_bk]; done)
                                                            | simp -implicitDefEqProofs (disch := omega) only [push_cast, ↓reduceIte, Nat.reduceEqDiff, reduceCtorEq, Nat.reduceAdd, Nat.reduceMul, Nat.reduceSub, Nat.reduceLT, Nat.reduceLeDiff, Int.reduceLT, Int.reduceLE, Int.reduceEq, Int.reduceNe, Int.reduceNeg, Int.reduceAdd, Int.reduceSub, Int.reduceMul, Int.reduceToNat, Nat.reducePow, Int.reducePow, Nat.reduceDiv, Nat.reduceMod, awp_dr, awp_bk]
                                                            | (with_reducible refine cdB_dec (fun hp hq => ?_) (fun hp hq => ?_) <;> first | (clear hq; refine False.elim ?_; omega) | (simp only [hq]; clear hq) | clear hq)
                                                            | (with_reducible refine gB_dec (fun hp hq => ?_) (fun hp hq => ?_) <;> first | (clear hq; refine False.elim ?_; omega) | (simp only [hq]; clear hq) | clear hq)
                                                            | (with_reducible refine gB_ndec (fun hp hq => ?_) (fun hp hq => ?_) <;> first | (clear hq; refine False.elim ?_; omega) | (simp only [hq]; clear hq) | clear hq)
  refine ⟨by simp; omega, ?_⟩
  refine bind_make (D := [7]) [.sc (.int .i64 0), .sc (.int .i64 0), .sc (.int .i64 0)] (by simp) rfl rfl fun x m hx hh hk => ?_
  repeat' first
                                                            | (simp -implicitDefEqProofs (disch := omega) only [push_cast, ↓reduceIte, Nat.reduceEqDiff, reduceCtorEq, Nat.reduceAdd, Nat.reduceMul, Nat.reduceSub, Nat.reduceLT, Nat.reduceLeDiff, Int.reduceLT, Int.reduceLE, Int.reduceEq, Int.reduceNe, Int.reduceNeg, Int.reduceAdd, Int.reduceSub, Int.reduceMul, Int.reduceToNat, Nat.reducePow, Int.reducePow, Nat.reduceDiv, Nat.reduceMod, awp_dr, awp_bk]; done)
                                                            | simp -implicitDefEqProofs (disch := omega) only [push_cast, ↓reduceIte, Nat.reduceEqDiff, reduceCtorEq, Nat.reduceAdd, Nat.reduceMul, Nat.reduceSub, Nat.reduceLT, Nat.reduceLeDiff, Int.reduceLT, Int.reduceLE, Int.reduceEq, Int.reduceNe, Int.reduceNeg, Int.reduceAdd, Int.reduceSub, Int.reduceMul, Int.reduceToNat, Nat.reducePow, Int.reducePow, Nat.reduceDiv, Nat.reduceMod, awp_dr, awp_bk]
                                                            | (with_reducible refine cdB_dec (fun hp hq => ?_) (fun hp hq => ?_) <;> first | (clear hq; refine False.elim ?_; omega) | (simp only [hq]; clear hq) | clear hq)
                                                            | (with_reducible refine gB_dec (fun hp hq => ?_) (fun hp hq => ?_) <;> first | (clear hq; refine False.elim ?_; omega) | (simp only [hq]; clear hq) | clear hq)
                                                            | (with_reducible refine gB_ndec (fun hp hq => ?_) (fun hp hq => ?_) <;> first | (clear hq; refine False.elim ?_; omega) | (simp only [hq]; clear hq) | clear hq)
  refine awp_lp (fun d st => ∃ i : Nat, i ≤ l.length ∧ d = l.length - i ∧ st.t 0 = .v (.vec (l.map tnC)) ∧ st.t 4 = .v (.sc (.int .i64 i)) ∧ st.m.h = h ∧
    LsE [7] st.m (st.t 3) 3 ((l.take i).map tnC ++ List.replicate (l.length - i) [.sc (.int .i64 0), .sc (.int .i64 0), .sc (.int .i64 0)])) l.length ?_ ?_
  · exact ⟨0, Nat.zero_le _, rfl, rfl, rfl, hh, by simpa [upd_app] using hx⟩
  · clear hk hh hx
    rintro d ⟨t, ml, mc, mh⟩ ⟨i, hi, rfl, h0, h4, hh, hx⟩
    simp only at h0 h4 hh hx
    subst hh
    by_cases hlt : i < l.length
    · obtain ⟨y, hy⟩ : ∃ y, l[i]? = some y := ⟨_, List.getElem?_eq_getElem hlt⟩
      have hg : ∀ m, ixT 3 m (.v (.vec (l.map tnC))) (.v (.sc (.int .i64 i))) = some (.vp (tnC y)) := fun m => vec_get tnC_len (by simp [hy])
      obtain ⟨p, m', e1, e2, e3, e4, e5⟩ := hx.set (k := .i64) (i := i) (e := tnC y) (by simp; omega) rfl rfl
      repeat' first
                                                            | (simp -implicitDefEqProofs (disch := omega) only [push_cast, ↓reduceIte, Nat.reduceEqDiff, reduceCtorEq, Nat.reduceAdd, Nat.reduceMul, Nat.reduceSub, Nat.reduceLT, Nat.reduceLeDiff, Int.reduceLT, Int.reduceLE, Int.reduceEq, Int.reduceNe, Int.reduceNeg, Int.reduceAdd, Int.reduceSub, Int.reduceMul, Int.reduceToNat, Nat.reducePow, Int.reducePow, Nat.reduceDiv, Nat.reduceMod, awp_dr, awp_bk, h0, h4, hg, e1, e2, e4, vp_ldn (show (tnC y).length = 3 from rfl)]; done)
                                                            | simp -implicitDefEqProofs (disch := omega) only [push_cast, ↓reduceIte, Nat.reduceEqDiff, reduceCtorEq, Nat.reduceAdd, Nat.reduceMul, Nat.reduceSub, Nat.reduceLT, Nat.reduceLeDiff, Int.reduceLT, Int.reduceLE, Int.reduceEq, Int.reduceNe, Int.reduceNeg, Int.reduceAdd, Int.reduceSub, Int.reduceMul, Int.reduceToNat, Nat.reducePow, Int.reducePow, Nat.reduceDiv, Nat.reduceMod, awp_dr, awp_bk, h0, h4, hg, e1, e2, e4, vp_ldn (show (tnC y).length = 3 from rfl)]
                                                            | refine toTypeNode_ok ?_
                                                            | (with_reducible refine cdB_dec (fun hp hq => ?_) (fun hp hq => ?_) <;> first | (clear hq; refine False.elim ?_; omega) | (simp only [hq]; clear hq) | clear hq)
                                                            | (with_reducible refine gB_dec (fun hp hq => ?_) (fun hp hq => ?_) <;> first | (clear hq; refine False.elim ?_; omega) | (simp only [hq]; clear hq) | clear hq)
                                                            | (with_reducible refine gB_ndec (fun hp hq => ?_) (fun hp hq => ?_) <;> first | (clear hq; refine False.elim ?_; omega) | (simp only [hq]; clear hq) | clear hq)
      exact ⟨l.length - (i + 1), by omega, i + 1, hlt, rfl, by simp, by rw [← fillc_step hy]; exact e3⟩
    · have hi : i = l.length := by omega
      subst hi
      repeat' first
                                                            | (simp -implicitDefEqProofs (disch := omega) only [push_cast, ↓reduceIte, Nat.reduceEqDiff, reduceCtorEq, Nat.reduceAdd, Nat.reduceMul, Nat.reduceSub, Nat.reduceLT, Nat.reduceLeDiff, Int.reduceLT, Int.reduceLE, Int.reduceEq, Int.reduceNe, Int.reduceNeg, Int.reduceAdd, Int.reduceSub, Int.reduceMul, Int.reduceToNat, Nat.reducePow, Int.reducePow, Nat.reduceDiv, Nat.reduceMod, awp_dr, awp_bk, h0, h4]; done)
                                                            | simp -implicitDefEqProofs (disch := omega) only [push_cast, ↓reduceIte, Nat.reduceEqDiff, reduceCtorEq, Nat.reduceAdd, Nat.reduceMul, Nat.reduceSub, Nat.reduceLT, Nat.reduceLeDiff, Int.reduceLT, Int.reduceLE, Int.reduceEq, Int.reduceNe, Int.reduceNeg, Int.reduceAdd, Int.reduceSub, Int.reduceMul, Int.reduceToNat, Nat.reducePow, Int.reducePow, Nat.reduceDiv, Nat.reduceMod, awp_dr, awp_bk, h0, h4]
                                                            | (with_reducible refine cdB_dec (fun hp hq => ?_) (fun hp hq => ?_) <;> first | (clear hq; refine False.elim ?_; omega) | (simp only [hq]; clear hq) | clear hq)
                                                            | (with_reducible refine gB_dec (fun hp hq => ?_) (fun hp hq => ?_) <;> first | (clear hq; refine False.elim ?_; omega) | (simp only [hq]; clear hq) | clear hq)
                                                            | (with_reducible refine gB_ndec (fun hp hq => ?_) (fun hp hq => ?_) <;> first | (clear hq; refine False.elim ?_; omega) | (simp only [hq]; clear hq) | clear hq)
      exact end_ls (by simpa using hx) hR
theorem toValue_ok {x : VN} {h : Heap} {R : AV → Heap → Prop} (hR : R (.agg (vnC x)) h) : ACalls Tryd.prog 18 [.agg (vnC x)] h R := by
  refine acalls_body c_laws_toValue (by simp) ?_
  unfold a_laws_toValue
  repeat' first
                                                            | (simp -implicitDefEqProofs (disch := omega) only [push_cast, ↓reduceIte, Nat.reduceEqDiff, reduceCtorEq, Nat.reduceAdd, Nat.reduceMul, Nat.reduceSub, Nat.reduceLT, Nat.reduceLeDiff, Int.reduceLT, Int.reduceLE, Int.reduceEq, Int.reduceNe, Int.reduceNeg, Int.reduceAdd, Int.reduceSub, Int.reduceMul, Int.reduceToNat, Nat.reducePow, Int.reducePow, Nat.reduceDiv, Nat.reduceMod, awp_dr, awp_bk, vnC]; done)
                                                            | simp -implicitDefEqProofs (disch := omega) only [push_cast, ↓reduceIte, Nat.reduceEqDiff, reduceCtorEq, Nat.reduceAdd, Nat.reduceMul, Nat.reduceSub, Nat.reduceLT, Nat.reduceLeDiff, Int.reduceLT, Int.reduceLE, Int.reduceEq, Int.reduceNe, Int.reduceNeg, Int.reduceAdd, Int.reduceSub, Int.reduceMul, Int.reduceToNat, Nat.reducePow, Int.reducePow, Nat.reduceDiv, Nat.reduceMod, awp_dr, awp_bk, vnC]
                                                            | (with_reducible refine cdB_dec (fun hp hq => ?_) (fun hp hq => ?_) <;> first | (clear hq; refine False.elim ?_; omega) | (simp only [hq]; clear hq) | clear hq)
                                                            | (with_reducible refine gB_dec (fun hp hq => ?_) (fun hp hq => ?_) <;> first | (clear hq; refine False.elim ?_; omega) | (simp only [hq]; clear hq) | clear hq)
                                                            | (with_reducible refine gB_ndec (fun hp hq => ?_) (fun hp hq => ?_) <;> first | (clear hq; refine False.elim ?_; omega) | (simp only [hq]; clear hq) | clear hq)
  exact hR

theorem toValueS_ok {l : List VN} {h : Heap} {R : AV → Heap → Prop} (hl : l.length ≤ 1048576) (hR : R (.vec (l.map vnC)) h) : ACalls Tryd.prog 8 [.vec (l.map vnC)] h R := by
  refine ACalls.sub (acalls_body c_laws_toValueS (by simp) ?_)
  unfold a_laws_toValueS
  repeat' first
                                                            | (simp -implicitDefEqProofs (disch := omega) only [push_cast, ↓reduceIte, Nat.reduceEqDiff, reduceCtorEq, Nat.reduceAdd, Nat.reduceMul, Nat.reduceSub, Nat.reduceLT, Nat.reduceLeDiff, Int.reduceLT, Int.reduceLE, Int.reduceEq, Int.reduceNe, Int.reduceNeg, Int.reduceAdd, Int.reduceSub, Int.reduceMul, Int.reduceToNat, Nat.reducePow, Int.reducePow, Nat.reduceDiv, Nat.reduceMod, awp_dr, awp_bk]; done)
                                                            | simp -implicitDefEqProofs (disch := omega) only [push_cast, ↓reduceIte, Nat.reduceEqDiff, reduceCtorEq, Nat.reduceAdd, Nat.reduceMul, Nat.reduceSub, Nat.reduceLT, Nat.reduceLeDiff, Int.reduceLT, Int.reduceLE, Int.reduceEq, Int.reduceNe, Int.reduceNeg, Int.reduceAdd, Int.reduceSub, Int.reduceMul, Int.reduceToNat, Nat.reducePow, Int.reducePow, Nat.reduceDiv, Nat.reduceMod, awp_dr, awp_bk]
                                                            | (with_reducible refine cdB_dec (fun hp hq => ?_) (fun hp hq => ?_) <;> first | (clear hq; refine False.elim ?_; omega) | (simp only [hq]; clear hq) | clear hq)
                                                            | (with_reducible refine gB_dec (fun hp hq => ?_) (fun hp hq => ?_) <;> first | (clear hq; refine False.elim ?_; omega) | (simp only [hq]; clear hq) | clear hq)
                                                            | (with_reducible refine gB_ndec (fun hp hq => ?_) (fun hp hq => ?_) <;> first | (clear hq; refine False.elim ?_; omega) | (simp only [hq]; clear hq) | clear hq)
  refine ⟨by simp; omega, ?_⟩
  refine bind_make (D := [7]) [.sc (.int .i64 0), .sc (.string (bs [])), .sc (.int .i64 0)] (by simp) rfl rfl fun x m hx hh hk => ?_
  repeat' first
                                                            | (simp -implicitDefEqProofs (disch := omega) only [push_cast, ↓reduceIte, Nat.reduceEqDiff, reduceCtorEq, Nat.reduceAdd, Nat.reduceMul, Nat.reduceSub, Nat.reduceLT, Nat.reduceLeDiff, Int.reduceLT, Int.reduceLE, Int.reduceEq, Int.reduceNe, Int.reduceNeg, Int.reduceAdd, Int.reduceSub, Int.reduceMul, Int.reduceToNat, Nat.reducePow, Int.reducePow, Nat.reduceDiv, Nat.reduceMod, awp_dr, awp_bk]; done)
                                                            | simp -implicitDefEqProofs (disch := omega) only [push_cast, ↓reduceIte, Nat.reduceEqDiff, reduceCtorEq, Nat.reduceAdd, Nat.reduceMul, Nat.reduceSub, Nat.reduceLT, Nat.reduceLeDiff, Int.reduceLT, Int.reduceLE, Int.reduceEq, Int.reduceNe, Int.reduceNeg, Int.reduceAdd, Int.reduceSub, Int.reduceMul, Int.reduceToNat, Nat.reducePow, Int.reducePow, Nat.reduceDiv, Nat.reduceMod, awp_dr, awp_bk]
                                                            | (with_reducible refine cdB_dec (fun hp hq => ?_) (fun hp hq => ?_) <;> first | (clear hq; refine False.elim ?_; omega) | (simp only [hq]; clear hq) | clear hq)
                                                            | (with_reducible refine gB_dec (fun hp hq => ?_) (fun hp hq => ?_) <;> first | (clear hq; refine False.elim ?_; omega) | (simp only [hq]; clear hq) | clear hq)
                                                            | (with_reducible refine gB_ndec (fun hp hq => ?_) (fun hp hq => ?_) <;> first | (clear hq; refine False.elim ?_; omega) | (simp only [hq]; clear hq) | clear hq)
  refine awp_lp (fun d st => ∃ i : Nat, i ≤ l.length ∧ d = l.length - i ∧ st.t 0 = .v (.vec (l.map vnC)) ∧ st.t 4 = .v (.sc (.int .i64 i)) ∧ st.m.h = h ∧
    LsE [7] st.m (st.t 3) 3 ((l.take i).map vnC ++ List.replicate (l.length - i) [.sc (.int .i64 0), .sc (.string (bs [])), .sc (.int .i64 0)])) l.length ?_ ?_
  · exact ⟨0, Nat.zero_le _, rfl, rfl, rfl, hh, by simpa [upd_app] using hx⟩
  · clear hk hh hx
    rintro d ⟨t, ml, mc, mh⟩ ⟨i, hi, rfl, h0, h4, hh, hx⟩
    simp only at h0 h4 hh hx
    subst hh
    by_cases hlt : i < l.length
    · obtain ⟨y, hy⟩ : ∃ y, l[i]? = some y := ⟨_, List.getElem?_eq_getElem hlt⟩
      have hg : ∀ m, ixT 3 m (.v (.vec (l.map vnC))) (.v (.sc (.int .i64 i))) = some (.vp (vnC y)) := fun m => vec_get vnC_len (by simp [hy])
      obtain ⟨p, m', e1, e2, e3, e4, e5⟩ := hx.set (k := .i64) (i := i) (e := vnC y) (by simp; omega) rfl rfl
      repeat' first
                                                            | (simp -implicitDefEqProofs (disch := omega) only [push_cast, ↓reduceIte, Nat.reduceEqDiff, reduceCtorEq, Nat.reduceAdd, Nat.reduceMul, Nat.reduceSub, Nat.reduceLT, Nat.reduceLeDiff, Int.reduceLT, Int.reduceLE, Int.reduceEq, Int.reduceNe, Int.reduceNeg, Int.reduceAdd, Int.reduceSub, Int.reduceMul, Int.reduceToNat, Nat.reducePow, Int.reducePow, Nat.reduceDiv, Nat.reduceMod, awp_dr, awp_bk, h0, h4, hg, e1, e2, e4, vp_ldn (show (vnC y).length = 3 from rfl)]; done)
                                                            | simp -implicitDefEqProofs (disch := omega) only [push_cast, ↓reduceIte, Nat.reduceEqDiff, reduceCtorEq, Nat.reduceAdd, Nat.reduceMul, Nat.reduceSub, Nat.reduceLT, Nat.reduceLeDiff, Int.reduceLT, Int.reduceLE, Int.reduceEq, Int.reduceNe, Int.reduceNeg, Int.reduceAdd, Int.reduceSub, Int.reduceMul, Int.reduceToNat, Nat.reducePow, Int.reducePow, Nat.reduceDiv, Nat.reduceMod, awp_dr, awp_bk, h0, h4, hg, e1, e2, e4, vp_ldn (show (vnC y).length = 3 from rfl)]
                                                            | refine toValue_ok ?_
                                                            | (with_reducible refine cdB_dec (fun hp hq => ?_) (fun hp hq => ?_) <;> first | (clear hq; refine False.elim ?_; omega) | (simp only [hq]; clear hq) | clear hq)
                                                            | (with_reducible refine gB_dec (fun hp hq => ?_) (fun hp hq => ?_) <;> first | (clear hq; refine False.elim ?_; omega) | (simp only [hq]; clear hq) | clear hq)
                                                            | (with_reducible refine gB_ndec (fun hp hq => ?_) (fun hp hq => ?_) <;> first | (clear hq; refine False.elim ?_; omega) | (simp only [hq]; clear hq) | clear hq)
      exact ⟨l.length - (i + 1), by omega, i + 1, hlt, rfl, by simp, by rw [← fillc_step hy]; exact e3⟩
    · have hi : i = l.length := by omega
      subst hi
      repeat' first
                                                            | (simp -implicitDefEqProofs (disch := omega) only [push_cast, ↓reduceIte, Nat.reduceEqDiff, reduceCtorEq, Nat.reduceAdd, Nat.reduceMul, Nat.reduceSub, Nat.reduceLT, Nat.reduceLeDiff, Int.reduceLT, Int.reduceLE, Int.reduceEq, Int.reduceNe, Int.reduceNeg, Int.reduceAdd, Int.reduceSub, Int.reduceMul, Int.reduceToNat, Nat.reducePow, Int.reducePow, Nat.reduceDiv, Nat.reduceMod, awp_dr, awp_bk, h0, h4]; done)
                                                            | simp -implicitDefEqProofs (disch := omega) only [push_cast, ↓reduceIte, Nat.reduceEqDiff, reduceCtorEq, Nat.reduceAdd, Nat.reduceMul, Nat.reduceSub, Nat.reduceLT, Nat.reduceLeDiff, Int.reduceLT, Int.reduceLE, Int.reduceEq, Int.reduceNe, Int.reduceNeg, Int.reduceAdd, Int.reduceSub, Int.reduceMul, Int.reduceToNat, Nat.reducePow, Int.reducePow, Nat.reduceDiv, Nat.reduceMod, awp_dr, awp_bk, h0, h4]
                                                            | (with_reducible refine cdB_dec (fun hp hq => ?_) (fun hp hq => ?_) <;> first | (clear hq; refine False.elim ?_; omega) | (simp only [hq]; clear hq) | clear hq)
                                                            | (with_reducible refine gB_dec (fun hp hq => ?_) (fun hp hq => ?_) <;> first | (clear hq; refine False.elim ?_; omega) | (simp only [hq]; clear hq) | clear hq)
                                                            | (with_reducible refine gB_ndec (fun hp hq => ?_) (fun hp hq => ?_) <;> first | (clear hq; refine False.elim ?_; omega) | (simp only [hq]; clear hq) | clear hq)
      exact end_ls (by simpa using hx) hR

theorem szTypeNodeS_ok {l : List TN} {n : Int} {h : Heap} {R : AV → Heap → Prop} (hn : 0 ≤ n ∧ n ≤ 1048576) (hl : l.length ≤ 9223372036854775807) (hR : R (.sc (.int .i64 (if n - l.length < 0 then -1 else n - l.length))) h) :
    ACalls Tryd.prog 4 [.vec (l.map tnC), .sc (.int .i64 n)] h R := by
  refine acalls_body c_laws_szTypeNodeS (by simp) ?_
  unfold a_laws_szTypeNodeS
  repeat' first
                                                            | (simp -implicitDefEqProofs (disch := omega) only [push_cast, ↓reduceIte, Nat.reduceEqDiff, reduceCtorEq, Nat.reduceAdd, Nat.reduceMul, Nat.reduceSub, Nat.reduceLT, Nat.reduceLeDiff, Int.reduceLT, Int.reduceLE, Int.reduceEq, Int.reduceNe, Int.reduceNeg, Int.reduceAdd, Int.reduceSub, Int.reduceMul, Int.reduceToNat, Nat.reducePow, Int.reducePow, Nat.reduceDiv, Nat.reduceMod, awp_dr, awp_bk]; done)
                                                            | simp -implicitDefEqProofs (disch := omega) only [push_cast, ↓reduceIte, Nat.reduceEqDiff, reduceCtorEq, Nat.reduceAdd, Nat.reduceMul, Nat.reduceSub, Nat.reduceLT, Nat.reduceLeDiff, Int.reduceLT, Int.reduceLE, Int.reduceEq, Int.reduceNe, Int.reduceNeg, Int.reduceAdd, Int.reduceSub, Int.reduceMul, Int.reduceToNat, Nat.reducePow, Int.reducePow, Nat.reduceDiv, Nat.reduceMod, awp_dr, awp_bk]
                                                            | (with_reducible refine cdB_dec (fun hp hq => ?_) (fun hp hq => ?_) <;> first | (clear hq; refine False.elim ?_; omega) | (simp only [hq]; clear hq) | clear hq)
                                                            | (with_reducible refine gB_dec (fun hp hq => ?_) (fun hp hq => ?_) <;> first | (clear hq; refine False.elim ?_; omega) | (simp only [hq]; clear hq) | clear hq)
                                                            | (with_reducible refine gB_ndec (fun hp hq => ?_) (fun hp hq => ?_) <;> first | (clear hq; refine False.elim ?_; omega) | (simp only [hq]; clear hq) | clear hq)
  · rw [if_pos (by assumption)] at hR; exact hR
  · rw [if_neg (by assumption)] at hR; exact hR

theorem szValue_ok {x : VN} {n : Int} {h : Heap} {R : AV → Heap → Prop} (hn : 0 ≤ n ∧ n ≤ 1048576) (hl : x.text.length ≤ 9223372036854775807) (hR : R (.sc (.int .i64 (if n - x.text.length < 0 then -1 else n - x.text.length))) h) :
    ACalls Tryd.prog 12 [.agg (vnC x), .sc (.int .i64 n)] h R := by
  refine acalls_body c_laws_szValue (by simp) ?_
  unfold a_laws_szValue
  repeat' first
                                                            | (simp -implicitDefEqProofs (disch := omega) only [push_cast, ↓reduceIte, Nat.reduceEqDiff, reduceCtorEq, Nat.reduceAdd, Nat.reduceMul, Nat.reduceSub, Nat.reduceLT, Nat.reduceLeDiff, Int.reduceLT, Int.reduceLE, Int.reduceEq, Int.reduceNe, Int.reduceNeg, Int.reduceAdd, Int.reduceSub, Int.reduceMul, Int.reduceToNat, Nat.reducePow, Int.reducePow, Nat.reduceDiv, Nat.reduceMod, awp_dr, awp_bk, vnC]; done)
                                                            | simp -implicitDefEqProofs (disch := omega) only [push_cast, ↓reduceIte, Nat.reduceEqDiff, reduceCtorEq, Nat.reduceAdd, Nat.reduceMul, Nat.reduceSub, Nat.reduceLT, Nat.reduceLeDiff, Int.reduceLT, Int.reduceLE, Int.reduceEq, Int.reduceNe, Int.reduceNeg, Int.reduceAdd, Int.reduceSub, Int.reduceMul, Int.reduceToNat, Nat.reducePow, Int.reducePow, Nat.reduceDiv, Nat.reduceMod, awp_dr, awp_bk, vnC]
                                                            | (with_reducible refine cdB_dec (fun hp hq => ?_) (fun hp hq => ?_) <;> first | (clear hq; refine False.elim ?_; omega) | (simp only [hq]; clear hq) | clear hq)
                                                            | (with_reducible refine gB_dec (fun hp hq => ?_) (fun hp hq => ?_) <;> first | (clear hq; refine False.elim ?_; omega) | (simp only [hq]; clear hq) | clear hq)
                                                            | (with_reducible refine gB_ndec (fun hp hq => ?_) (fun hp hq => ?_) <;> first | (clear hq; refine False.elim ?_; omega) | (simp only [hq]; clear hq) | clear hq)
  · rw [if_pos (by assumption)] at hR; exact hR
  · rw [if_neg (by assumption)] at hR; exact hR

/-- What is left behind so many values. -/
def leftV : List VN → Int → Int
  | [], n => n
  | x :: r, n => if n - x.text.length < 0 then -1 else leftV r (n - x.text.length)

theorem leftV_le : ∀ {l : List VN} {n : Int}, 0 ≤ leftV l n → leftV l n ≤ n ∧ ∀ x ∈ l, (x.text.length : Int) ≤ n
  | [], n, h => by simp [leftV]
  | x :: r, n, h => by
    simp only [leftV] at h ⊢
    split at h
    · omega
    · rename_i hx
      rw [if_neg hx]
      have := leftV_le h
      refine ⟨by omega, fun y hy => ?_⟩
      rcases List.mem_cons.1 hy with rfl | hy
      · omega
      · have := this.2 y hy; omega

theorem szValueS_ok {l : List VN} {n : Int} {h : Heap} {R : AV → Heap → Prop} (hn : 0 ≤ n ∧ n ≤ 1048576) (hl : l.length ≤ 9223372036854775807) (ht : ∀ x ∈ l, x.text.length ≤ 9223372036854775807)
    (hR : R (.sc (.int .i64 (if n - l.length < 0 then -1 else leftV l (n - l.length)))) h) :
    ACalls Tryd.prog 5 [.vec (l.map vnC), .sc (.int .i64 n)] h R := by
  refine acalls_body c_laws_szValueS (by simp) ?_
  unfold a_laws_szValueS
  repeat' first
                                                            | (simp -implicitDefEqProofs (disch := omega) only [push_cast, ↓reduceIte, Nat.reduceEqDiff, reduceCtorEq, Nat.reduceAdd, Nat.reduceMul, Nat.reduceSub, Nat.reduceLT, Nat.reduceLeDiff, Int.reduceLT, Int.reduceLE, Int.reduceEq, Int.reduceNe, Int.reduceNeg, Int.reduceAdd, Int.reduceSub, Int.reduceMul, Int.reduceToNat, Nat.reducePow, Int.reducePow, Nat.reduceDiv, Nat.reduceMod, awp_dr, awp_bk]; done)
                                                            | simp -implicitDefEqProofs (disch := omega) only [push_cast, ↓reduceIte, Nat.reduceEqDiff, reduceCtorEq, Nat.reduceAdd, Nat.reduceMul, Nat.reduceSub, Nat.reduceLT, Nat.reduceLeDiff, Int.reduceLT, Int.reduceLE, Int.reduceEq, Int.reduceNe, Int.reduceNeg, Int.reduceAdd, Int.reduceSub, Int.reduceMul, Int.reduceToNat, Nat.reducePow, Int.reducePow, Nat.reduceDiv, Nat.reduceMod, awp_dr, awp_bk]
                                                            | (with_reducible refine cdB_dec (fun hp hq => ?_) (fun hp hq => ?_) <;> first | (clear hq; refine False.elim ?_; omega) | (simp only [hq]; clear hq) | clear hq)
                                                            | (with_reducible refine gB_dec (fun hp hq => ?_) (fun hp hq => ?_) <;> first | (clear hq; refine False.elim ?_; omega) | (simp only [hq]; clear hq) | clear hq)
                                                            | (with_reducible refine gB_ndec (fun hp hq => ?_) (fun hp hq => ?_) <;> first | (clear hq; refine False.elim ?_; omega) | (simp only [hq]; clear hq) | clear hq)
  · rw [if_pos (by assumption)] at hR; exact hR
  rw [if_neg hp] at hR
  refine awp_lp (fun d st => ∃ (i : Nat) (k : Int), i ≤ l.length ∧ d = l.length - i ∧ st.t 0 = .v (.vec (l.map vnC)) ∧ st.t 5 = .v (.sc (.int .i64 i)) ∧ st.m.h = h ∧ st.t 1 = .v (.sc (.int .i64 k)) ∧ 0 ≤ k ∧ k ≤ 1048576 ∧ leftV (l.drop i) k = leftV l (n - l.length)) l.length ?_ ?_
  · exact ⟨0, n - l.length, Nat.zero_le _, rfl, rfl, rfl, rfl, rfl, by omega, by omega, rfl⟩
  · rintro d ⟨t, ml, mc, mh⟩ ⟨i, k, hi, rfl, h0, h5, hh, h1, hk0, hk1, hk⟩
    simp only at h0 h5 hh h1
    subst hh
    by_cases hlt : i < l.length
    · obtain ⟨y, hy⟩ : ∃ y, l[i]? = some y := ⟨_, List.getElem?_eq_getElem hlt⟩
      have hg : ∀ m, ixT 3 m (.v (.vec (l.map vnC))) (.v (.sc (.int .i64 i))) = some (.vp (vnC y)) := fun m => vec_get vnC_len (by simp [hy])
      have hd : l.drop i = y :: l.drop (i + 1) := by
        rw [List.drop_eq_getElem_cons hlt]
        rw [List.getElem?_eq_getElem hlt] at hy
        rw [Option.some.inj hy]
      rw [hd, leftV] at hk
      have hy2 := ht y (List.mem_of_getElem? hy)
      repeat' first
                                                            | (simp -implicitDefEqProofs (disch := omega) only [push_cast, ↓reduceIte, Nat.reduceEqDiff, reduceCtorEq, Nat.reduceAdd, Nat.reduceMul, Nat.reduceSub, Nat.reduceLT, Nat.reduceLeDiff, Int.reduceLT, Int.reduceLE, Int.reduceEq, Int.reduceNe, Int.reduceNeg, Int.reduceAdd, Int.reduceSub, Int.reduceMul, Int.reduceToNat, Nat.reducePow, Int.reducePow, Nat.reduceDiv, Nat.reduceMod, awp_dr, awp_bk, h0, h1, h5, hg, vp_ldn (show (vnC y).length = 3 from rfl)]; done)
                                                            | simp -implicitDefEqProofs (disch := omega) only [push_cast, ↓reduceIte, Nat.reduceEqDiff, reduceCtorEq, Nat.reduceAdd, Nat.reduceMul, Nat.reduceSub, Nat.reduceLT, Nat.reduceLeDiff, Int.reduceLT, Int.reduceLE, Int.reduceEq, Int.reduceNe, Int.reduceNeg, Int.reduceAdd, Int.reduceSub, Int.reduceMul, Int.reduceToNat, Nat.reducePow, Int.reducePow, Nat.reduceDiv, Nat.reduceMod, awp_dr, awp_bk, h0, h1, h5, hg, vp_ldn (show (vnC y).length = 3 from rfl)]
                                                            | refine szValue_ok ⟨hk0, hk1⟩ hy2 ?_
                                                            | (with_reducible refine cdB_dec (fun hp hq => ?_) (fun hp hq => ?_) <;> first | (clear hq; refine False.elim ?_; omega) | (simp only [hq]; clear hq) | clear hq)
                                                            | (with_reducible refine gB_dec (fun hp hq => ?_) (fun hp hq => ?_) <;> first | (clear hq; refine False.elim ?_; omega) | (simp only [hq]; clear hq) | clear hq)
                                                            | (with_reducible refine gB_ndec (fun hp hq => ?_) (fun hp hq => ?_) <;> first | (clear hq; refine False.elim ?_; omega) | (simp only [hq]; clear hq) | clear hq)
      · have hx := hp
        have h2 : k - y.text.length < 0 := by
          split at hx
          · assumption
          · exact hx
        rw [if_pos h2] at hk
        rw [hk]; exact hR
      · have hx := hp
        have h2 : ¬ k - y.text.length < 0 := by
          split at hx
          · omega
          · exact hx
        rw [if_neg h2] at hk
        exact ⟨l.length - (i + 1), by omega, i + 1, k - y.text.length, hlt, rfl, by simp, by rw [if_neg h2], by omega, by omega, hk⟩
    · have hi : i = l.length := by omega
      subst hi
      repeat' first
                                                            | (simp -implicitDefEqProofs (disch := omega) only [push_cast, ↓reduceIte, Nat.reduceEqDiff, reduceCtorEq, Nat.reduceAdd, Nat.reduceMul, Nat.reduceSub, Nat.reduceLT, Nat.reduceLeDiff, Int.reduceLT, Int.reduceLE, Int.reduceEq, Int.reduceNe, Int.reduceNeg, Int.reduceAdd, Int.reduceSub, Int.reduceMul, Int.reduceToNat, Nat.reducePow, Int.reducePow, Nat.reduceDiv, Nat.reduceMod, awp_dr, awp_bk, h0, h1, h5]; done)
                                                            | simp -implicitDefEqProofs (disch := omega) only [push_cast, ↓reduceIte, Nat.reduceEqDiff, reduceCtorEq, Nat.reduceAdd, Nat.reduceMul, Nat.reduceSub, Nat.reduceLT, Nat.reduceLeDiff, Int.reduceLT, Int.reduceLE, Int.reduceEq, Int.reduceNe, Int.reduceNeg, Int.reduceAdd, Int.reduceSub, Int.reduceMul, Int.reduceToNat, Nat.reducePow, Int.reducePow, Nat.reduceDiv, Nat.reduceMod, awp_dr, awp_bk, h0, h1, h5]
                                                            | (with_reducible refine cdB_dec (fun hp hq => ?_) (fun hp hq => ?_) <;> first | (clear hq; refine False.elim ?_; omega) | (simp only [hq]; clear hq) | clear hq)
                                                            | (with_reducible refine gB_dec (fun hp hq => ?_) (fun hp hq => ?_) <;> first | (clear hq; refine False.elim ?_; omega) | (simp only [hq]; clear hq) | clear hq)
                                                            | (with_reducible refine gB_ndec (fun hp hq => ?_) (fun hp hq => ?_) <;> first | (clear hq; refine False.elim ?_; omega) | (simp only [hq]; clear hq) | clear hq)
      simp [leftV] at hk
      rw [hk]; exact hR

theorem eqTypeNode_ok {x : TN} {h : Heap} {R : AV → Heap → Prop} (hR : R (.sc (.bool true)) h) : ACalls Tryd.prog 21 [.agg (tnC x), .agg (tnC x)] h R := by
  refine acalls_body c_laws_eqTypeNode (by simp) ?_
  unfold a_laws_eqTypeNode
  repeat' first
                                                            | (simp -implicitDefEqProofs (disch := omega) only [push_cast, ↓reduceIte, Nat.reduceEqDiff, reduceCtorEq, Nat.reduceAdd, Nat.reduceMul, Nat.reduceSub, Nat.reduceLT, Nat.reduceLeDiff, Int.reduceLT, Int.reduceLE, Int.reduceEq, Int.reduceNe, Int.reduceNeg, Int.reduceAdd, Int.reduceSub, Int.reduceMul, Int.reduceToNat, Nat.reducePow, Int.reducePow, Nat.reduceDiv, Nat.reduceMod, awp_dr, awp_bk, tnC]; done)
                                                            | simp -implicitDefEqProofs (disch := omega) only [push_cast, ↓reduceIte, Nat.reduceEqDiff, reduceCtorEq, Nat.reduceAdd, Nat.reduceMul, Nat.reduceSub, Nat.reduceLT, Nat.reduceLeDiff, Int.reduceLT, Int.reduceLE, Int.reduceEq, Int.reduceNe, Int.reduceNeg, Int.reduceAdd, Int.reduceSub, Int.reduceMul, Int.reduceToNat, Nat.reducePow, Int.reducePow, Nat.reduceDiv, Nat.reduceMod, awp_dr, awp_bk, tnC]
                                                            | (with_reducible refine cdB_dec (fun hp hq => ?_) (fun hp hq => ?_) <;> first | (clear hq; refine False.elim ?_; omega) | (simp only [hq]; clear hq) | clear hq)
                                                            | (with_reducible refine gB_dec (fun hp hq => ?_) (fun hp hq => ?_) <;> first | (clear hq; refine False.elim ?_; omega) | (simp only [hq]; clear hq) | clear hq)
                                                            | (with_reducible refine gB_ndec (fun hp hq => ?_) (fun hp hq => ?_) <;> first | (clear hq; refine False.elim ?_; omega) | (simp only [hq]; clear hq) | clear hq)
  exact hR

theorem eqValue_ok {x : VN} {h : Heap} {R : AV → Heap → Prop} (hR : R (.sc (.bool true)) h) : ACalls Tryd.prog 22 [.agg (vnC x), .agg (vnC x)] h R := by
  refine acalls_body c_laws_eqValue (by simp) ?_
  unfold a_laws_eqValue
  repeat' first
                                                            | (simp -implicitDefEqProofs (disch := omega) only [push_cast, ↓reduceIte, Nat.reduceEqDiff, reduceCtorEq, Nat.reduceAdd, Nat.reduceMul, Nat.reduceSub, Nat.reduceLT, Nat.reduceLeDiff, Int.reduceLT, Int.reduceLE, Int.reduceEq, Int.reduceNe, Int.reduceNeg, Int.reduceAdd, Int.reduceSub, Int.reduceMul, Int.reduceToNat, Nat.reducePow, Int.reducePow, Nat.reduceDiv, Nat.reduceMod, awp_dr, awp_bk, vnC]; done)
                                                            | simp -implicitDefEqProofs (disch := omega) only [push_cast, ↓reduceIte, Nat.reduceEqDiff, reduceCtorEq, Nat.reduceAdd, Nat.reduceMul, Nat.reduceSub, Nat.reduceLT, Nat.reduceLeDiff, Int.reduceLT, Int.reduceLE, Int.reduceEq, Int.reduceNe, Int.reduceNeg, Int.reduceAdd, Int.reduceSub, Int.reduceMul, Int.reduceToNat, Nat.reducePow, Int.reducePow, Nat.reduceDiv, Nat.reduceMod, awp_dr, awp_bk, vnC]
                                                            | (with_reducible refine cdB_dec (fun hp hq => ?_) (fun hp hq => ?_) <;> first | (clear hq; refine False.elim ?_; omega) | (simp only [hq]; clear hq) | clear hq)
                                                            | (with_reducible refine gB_dec (fun hp hq => ?_) (fun hp hq => ?_) <;> first | (clear hq; refine False.elim ?_; omega) | (simp only [hq]; clear hq) | clear hq)
                                                            | (with_reducible refine gB_ndec (fun hp hq => ?_) (fun hp hq => ?_) <;> first | (clear hq; refine False.elim ?_; omega) | (simp only [hq]; clear hq) | clear hq)
  exact hR

theorem eqTypeNodeS_ok {l : List TN} {h : Heap} {R : AV → Heap → Prop} (hl : l.length ≤ 140737488355328) (hR : R (.sc (.bool true)) h) :
    ACalls Tryd.prog 10 [.vec (l.map tnC), .vec (l.map tnC)] h R := by
  refine acalls_body c_laws_eqTypeNodeS (by simp) ?_
  unfold a_laws_eqTypeNodeS
  repeat' first
                                                            | (simp -implicitDefEqProofs (disch := omega) only [push_cast, ↓reduceIte, Nat.reduceEqDiff, reduceCtorEq, Nat.reduceAdd, Nat.reduceMul, Nat.reduceSub, Nat.reduceLT, Nat.reduceLeDiff, Int.reduceLT, Int.reduceLE, Int.reduceEq, Int.reduceNe, Int.reduceNeg, Int.reduceAdd, Int.reduceSub, Int.reduceMul, Int.reduceToNat, Nat.reducePow, Int.reducePow, Nat.reduceDiv, Nat.reduceMod, awp_dr, awp_bk]; done)
                                                            | simp -implicitDefEqProofs (disch := omega) only [push_cast, ↓reduceIte, Nat.reduceEqDiff, reduceCtorEq, Nat.reduceAdd, Nat.reduceMul, Nat.reduceSub, Nat.reduceLT, Nat.reduceLeDiff, Int.reduceLT, Int.reduceLE, Int.reduceEq, Int.reduceNe, Int.reduceNeg, Int.reduceAdd, Int.reduceSub, Int.reduceMul, Int.reduceToNat, Nat.reducePow, Int.reducePow, Nat.reduceDiv, Nat.reduceMod, awp_dr, awp_bk]
                                                            | (with_reducible refine cdB_dec (fun hp hq => ?_) (fun hp hq => ?_) <;> first | (clear hq; refine False.elim ?_; omega) | (simp only [hq]; clear hq) | clear hq)
                                                            | (with_reducible refine gB_dec (fun hp hq => ?_) (fun hp hq => ?_) <;> first | (clear hq; refine False.elim ?_; omega) | (simp only [hq]; clear hq) | clear hq)
                                                            | (with_reducible refine gB_ndec (fun hp hq => ?_) (fun hp hq => ?_) <;> first | (clear hq; refine False.elim ?_; omega) | (simp only [hq]; clear hq) | clear hq)
  refine awp_lp (fun d st => ∃ i : Nat, i ≤ l.length ∧ d = l.length - i ∧ st.t 0 = .v (.vec (l.map tnC)) ∧ st.t 1 = .v (.vec (l.map tnC)) ∧ st.t 5 = .v (.sc (.int .i64 i)) ∧ st.m.h = h) l.length ?_ ?_
  · exact ⟨0, Nat.zero_le _, rfl, rfl, rfl, rfl, rfl⟩
  · rintro d ⟨t, ml, mc, mh⟩ ⟨i, hi, rfl, h0, h1, h5, hh⟩
    simp only at h0 h1 h5 hh
    subst hh
    by_cases hlt : i < l.length
    · obtain ⟨y, hy⟩ : ∃ y, l[i]? = some y := ⟨_, List.getElem?_eq_getElem hlt⟩
      have hg : ∀ m, ixT 3 m (.v (.vec (l.map tnC))) (.v (.sc (.int .i64 i))) = some (.vp (tnC y)) := fun m => vec_get tnC_len (by simp [hy])
      repeat' first
                                                            | (simp -implicitDefEqProofs (disch := omega) only [push_cast, ↓reduceIte, Nat.reduceEqDiff, reduceCtorEq, Nat.reduceAdd, Nat.reduceMul, Nat.reduceSub, Nat.reduceLT, Nat.reduceLeDiff, Int.reduceLT, Int.reduceLE, Int.reduceEq, Int.reduceNe, Int.reduceNeg, Int.reduceAdd, Int.reduceSub, Int.reduceMul, Int.reduceToNat, Nat.reducePow, Int.reducePow, Nat.reduceDiv, Nat.reduceMod, awp_dr, awp_bk, h0, h1, h5, hg, vp_tn, vq_tn]; done)
                                                            | simp -implicitDefEqProofs (disch := omega) only [push_cast, ↓reduceIte, Nat.reduceEqDiff, reduceCtorEq, Nat.reduceAdd, Nat.reduceMul, Nat.reduceSub, Nat.reduceLT, Nat.reduceLeDiff, Int.reduceLT, Int.reduceLE, Int.reduceEq, Int.reduceNe, Int.reduceNeg, Int.reduceAdd, Int.reduceSub, Int.reduceMul, Int.reduceToNat, Nat.reducePow, Int.reducePow, Nat.reduceDiv, Nat.reduceMod, awp_dr, awp_bk, h0, h1, h5, hg, vp_tn, vq_tn]
                                                            | refine eqTypeNode_ok ?_
                                                            | (with_reducible refine cdB_dec (fun hp hq => ?_) (fun hp hq => ?_) <;> first | (clear hq; refine False.elim ?_; omega) | (simp only [hq]; clear hq) | clear hq)
                                                            | (with_reducible refine gB_dec (fun hp hq => ?_) (fun hp hq => ?_) <;> first | (clear hq; refine False.elim ?_; omega) | (simp only [hq]; clear hq) | clear hq)
                                                            | (with_reducible refine gB_ndec (fun hp hq => ?_) (fun hp hq => ?_) <;> first | (clear hq; refine False.elim ?_; omega) | (simp only [hq]; clear hq) | clear hq)
      exact ⟨l.length - (i + 1), by omega, i + 1, hlt, rfl, by simp⟩
    · have hi : i = l.length := by omega
      subst hi
      repeat' first
                                                            | (simp -implicitDefEqProofs (disch := omega) only [push_cast, ↓reduceIte, Nat.reduceEqDiff, reduceCtorEq, Nat.reduceAdd, Nat.reduceMul, Nat.reduceSub, Nat.reduceLT, Nat.reduceLeDiff, Int.reduceLT, Int.reduceLE, Int.reduceEq, Int.reduceNe, Int.reduceNeg, Int.reduceAdd, Int.reduceSub, Int.reduceMul, Int.reduceToNat, Nat.reducePow, Int.reducePow, Nat.reduceDiv, Nat.reduceMod, awp_dr, awp_bk, h0, h1, h5]; done)
                                                            | simp -implicitDefEqProofs (disch := omega) only [push_cast, ↓reduceIte, Nat.reduceEqDiff, reduceCtorEq, Nat.reduceAdd, Nat.reduceMul, Nat.reduceSub, Nat.reduceLT, Nat.reduceLeDiff, Int.reduceLT, Int.reduceLE, Int.reduceEq, Int.reduceNe, Int.reduceNeg, Int.reduceAdd, Int.reduceSub, Int.reduceMul, Int.reduceToNat, Nat.reducePow, Int.reducePow, Nat.reduceDiv, Nat.reduceMod, awp_dr, awp_bk, h0, h1, h5]
                                                            | (with_reducible refine cdB_dec (fun hp hq => ?_) (fun hp hq => ?_) <;> first | (clear hq; refine False.elim ?_; omega) | (simp only [hq]; clear hq) | clear hq)
                                                            | (with_reducible refine gB_dec (fun hp hq => ?_) (fun hp hq => ?_) <;> first | (clear hq; refine False.elim ?_; omega) | (simp only [hq]; clear hq) | clear hq)
                                                            | (with_reducible refine gB_ndec (fun hp hq => ?_) (fun hp hq => ?_) <;> first | (clear hq; refine False.elim ?_; omega) | (simp only [hq]; clear hq) | clear hq)
      exact hR

theorem eqValueS_ok {l : List VN} {h : Heap} {R : AV → Heap → Prop} (hl : l.length ≤ 140737488355328) (hR : R (.sc (.bool true)) h) :
    ACalls Tryd.prog 11 [.vec (l.map vnC), .vec (l.map vnC)] h R := by
  refine acalls_body c_laws_eqValueS (by simp) ?_
  unfold a_laws_eqValueS
  repeat' first
                                                            | (simp -implicitDefEqProofs (disch := omega) only [push_cast, ↓reduceIte, Nat.reduceEqDiff, reduceCtorEq, Nat.reduceAdd, Nat.reduceMul, Nat.reduceSub, Nat.reduceLT, Nat.reduceLeDiff, Int.reduceLT, Int.reduceLE, Int.reduceEq, Int.reduceNe, Int.reduceNeg, Int.reduceAdd, Int.reduceSub, Int.reduceMul, Int.reduceToNat, Nat.reducePow, Int.reducePow, Nat.reduceDiv, Nat.reduceMod, awp_dr, awp_bk]; done)
                                                            | simp -implicitDefEqProofs (disch := omega) only [push_cast, ↓reduceIte, Nat.reduceEqDiff, reduceCtorEq, Nat.reduceAdd, Nat.reduceMul, Nat.reduceSub, Nat.reduceLT, Nat.reduceLeDiff, Int.reduceLT, Int.reduceLE, Int.reduceEq, Int.reduceNe, Int.reduceNeg, Int.reduceAdd, Int.reduceSub, Int.reduceMul, Int.reduceToNat, Nat.reducePow, Int.reducePow, Nat.reduceDiv, Nat.reduceMod, awp_dr, awp_bk]
                                                            | (with_reducible refine cdB_dec (fun hp hq => ?_) (fun hp hq => ?_) <;> first | (clear hq; refine False.elim ?_; omega) | (simp only [hq]; clear hq) | clear hq)
                                                            | (with_reducible refine gB_dec (fun hp hq => ?_) (fun hp hq => ?_) <;> first | (clear hq; refine False.elim ?_; omega) | (simp only [hq]; clear hq) | clear hq)
                                                            | (with_reducible refine gB_ndec (fun hp hq => ?_) (fun hp hq => ?_) <;> first | (clear hq; refine False.elim ?_; omega) | (simp only [hq]; clear hq) | clear hq)
  refine awp_lp (fun d st => ∃ i : Nat, i ≤ l.length ∧ d = l.length - i ∧ st.t 0 = .v (.vec (l.map vnC)) ∧ st.t 1 = .v (.vec (l.map vnC)) ∧ st.t 5 = .v (.sc (.int .i64 i)) ∧ st.m.h = h) l.length ?_ ?_
  · exact ⟨0, Nat.zero_le _, rfl, rfl, rfl, rfl, rfl⟩
  · rintro d ⟨t, ml, mc, mh⟩ ⟨i, hi, rfl, h0, h1, h5, hh⟩
    simp only at h0 h1 h5 hh
    subst hh
    by_cases hlt : i < l.length
    · obtain ⟨y, hy⟩ : ∃ y, l[i]? = some y := ⟨_, List.getElem?_eq_getElem hlt⟩
      have hg : ∀ m, ixT 3 m (.v (.vec (l.map vnC))) (.v (.sc (.int .i64 i))) = some (.vp (vnC y)) := fun m => vec_get vnC_len (by simp [hy])
      repeat' first
                                                            | (simp -implicitDefEqProofs (disch := omega) only [push_cast, ↓reduceIte, Nat.reduceEqDiff, reduceCtorEq, Nat.reduceAdd, Nat.reduceMul, Nat.reduceSub, Nat.reduceLT, Nat.reduceLeDiff, Int.reduceLT, Int.reduceLE, Int.reduceEq, Int.reduceNe, Int.reduceNeg, Int.reduceAdd, Int.reduceSub, Int.reduceMul, Int.reduceToNat, Nat.reducePow, Int.reducePow, Nat.reduceDiv, Nat.reduceMod, awp_dr, awp_bk, h0, h1, h5, hg, vp_vn, vq_vn]; done)
                                                            | simp -implicitDefEqProofs (disch := omega) only [push_cast, ↓reduceIte, Nat.reduceEqDiff, reduceCtorEq, Nat.reduceAdd, Nat.reduceMul, Nat.reduceSub, Nat.reduceLT, Nat.reduceLeDiff, Int.reduceLT, Int.reduceLE, Int.reduceEq, Int.reduceNe, Int.reduceNeg, Int.reduceAdd, Int.reduceSub, Int.reduceMul, Int.reduceToNat, Nat.reducePow, Int.reducePow, Nat.reduceDiv, Nat.reduceMod, awp_dr, awp_bk, h0, h1, h5, hg, vp_vn, vq_vn]
                                                            | refine eqValue_ok ?_
                                                            | (with_reducible refine cdB_dec (fun hp hq => ?_) (fun hp hq => ?_) <;> first | (clear hq; refine False.elim ?_; omega) | (simp only [hq]; clear hq) | clear hq)
                                                            | (with_reducible refine gB_dec (fun hp hq => ?_) (fun hp hq => ?_) <;> first | (clear hq; refine False.elim ?_; omega) | (simp only [hq]; clear hq) | clear hq)
                                                            | (with_reducible refine gB_ndec (fun hp hq => ?_) (fun hp hq => ?_) <;> first | (clear hq; refine False.elim ?_; omega) | (simp only [hq]; clear hq) | clear hq)
      exact ⟨l.length - (i + 1), by omega, i + 1, hlt, rfl, by simp⟩
    · have hi : i = l.length := by omega
      subst hi
      repeat' first
                                                            | (simp -implicitDefEqProofs (disch := omega) only [push_cast, ↓reduceIte, Nat.reduceEqDiff, reduceCtorEq, Nat.reduceAdd, Nat.reduceMul, Nat.reduceSub, Nat.reduceLT, Nat.reduceLeDiff, Int.reduceLT, Int.reduceLE, Int.reduceEq, Int.reduceNe, Int.reduceNeg, Int.reduceAdd, Int.reduceSub, Int.reduceMul, Int.reduceToNat, Nat.reducePow, Int.reducePow, Nat.reduceDiv, Nat.reduceMod, awp_dr, awp_bk, h0, h1, h5]; done)
                                                            | simp -implicitDefEqProofs (disch := omega) only [push_cast, ↓reduceIte, Nat.reduceEqDiff, reduceCtorEq, Nat.reduceAdd, Nat.reduceMul, Nat.reduceSub, Nat.reduceLT, Nat.reduceLeDiff, Int.reduceLT, Int.reduceLE, Int.reduceEq, Int.reduceNe, Int.reduceNeg, Int.reduceAdd, Int.reduceSub, Int.reduceMul, Int.reduceToNat, Nat.reducePow, Int.reducePow, Nat.reduceDiv, Nat.reduceMod, awp_dr, awp_bk, h0, h1, h5]
                                                            | (with_reducible refine cdB_dec (fun hp hq => ?_) (fun hp hq => ?_) <;> first | (clear hq; refine False.elim ?_; omega) | (simp only [hq]; clear hq) | clear hq)
                                                            | (with_reducible refine gB_dec (fun hp hq => ?_) (fun hp hq => ?_) <;> first | (clear hq; refine False.elim ?_; omega) | (simp only [hq]; clear hq) | clear hq)
                                                            | (with_reducible refine gB_ndec (fun hp hq => ?_) (fun hp hq => ?_) <;> first | (clear hq; refine False.elim ?_; omega) | (simp only [hq]; clear hq) | clear hq)
      exact hR

end Go.Proofs.YtgkiaoodalnceaaDoor
