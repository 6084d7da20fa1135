import Derived.Test.YtgkiaoodalnceaaDoorClVa
/- The trees that the reference makes of lists of nodes. -/
namespace Go.Proofs.YtgkiaoodalnceaaDoor
open Go SL VM
set_option maxRecDepth 100000
set_option linter.unusedVariables false
set_option linter.unusedSimpArgs false
attribute [local irreducible] SL.awp

theorem l1In_ok {n lo hi : Int} {h : Heap} {R : AV → Heap → Prop} (hR : R (.sc (.bool (decide (lo ≤ n ∧ n ≤ hi)))) h) : ACalls Tryd.prog 40 [.sc (.int .i64 n), .sc (.int .i64 lo), .sc (.int .i64 hi)] h R := by
  refine acalls_body c_spec_l1In (by simp) ?_
  unfold a_spec_l1In
  repeat' first
                                                            | (simp -implicitDefEqProofs (disch := omega) only [push_cast, ↓reduceIte, Nat.reduceEqDiff, reduceCtorEq, Nat.reduceAdd, Nat.reduceMul, Nat.reduceSub, Nat.reduceLT, Nat.reduceLeDiff, Int.reduceLT, Int.reduceLE, Int.reduceEq, Int.reduceNe, Int.reduceNeg, Int.reduceAdd, Int.reduceSub, Int.reduceMul, Int.reduceToNat, Nat.reducePow, Int.reducePow, Nat.reduceDiv, Nat.reduceMod, awp_dr, awp_bk]; done)
                                                            | simp -implicitDefEqProofs (disch := omega) only [push_cast, ↓reduceIte, Nat.reduceEqDiff, reduceCtorEq, Nat.reduceAdd, Nat.reduceMul, Nat.reduceSub, Nat.reduceLT, Nat.reduceLeDiff, Int.reduceLT, Int.reduceLE, Int.reduceEq, Int.reduceNe, Int.reduceNeg, Int.reduceAdd, Int.reduceSub, Int.reduceMul, Int.reduceToNat, Nat.reducePow, Int.reducePow, Nat.reduceDiv, Nat.reduceMod, awp_dr, awp_bk]
                                                            | (with_reducible refine cdB_dec (fun hp hq => ?_) (fun hp hq => ?_) <;> first | (clear hq; refine False.elim ?_; omega) | (simp only [hq]; clear hq) | clear hq)
                                                            | (with_reducible refine gB_dec (fun hp hq => ?_) (fun hp hq => ?_) <;> first | (clear hq; refine False.elim ?_; omega) | (simp only [hq]; clear hq) | clear hq)
                                                            | (with_reducible refine gB_ndec (fun hp hq => ?_) (fun hp hq => ?_) <;> first | (clear hq; refine False.elim ?_; omega) | (simp only [hq]; clear hq) | clear hq)
  · have e : decide (n ≤ hi) = decide (lo ≤ n ∧ n ≤ hi) := by simp [hp]
    rw [e]; exact hR
  · have e : decide (lo ≤ n ∧ n ≤ hi) = false := by simp; omega
    rw [e] at hR; exact hR

theorem l11Parts_ok {l : List TN} {k : Nat} {h : Heap} {R : AV → Heap → Prop} (hl : l.length ≤ 1048576) (hk : k < l.length) (hR : R (.vec ((under (l.map TN.up) k).map natC)) h) :
    ACalls Tryd.prog 30 [.vec (l.map tnC), .sc (.int .i64 k)] h R := by
  refine ACalls.sub (acalls_body c_spec_l11Parts (by simp) ?_)
  unfold a_spec_l11Parts
  repeat' first
                                                            | (simp -implicitDefEqProofs (disch := omega) only [push_cast, ↓reduceIte, Nat.reduceEqDiff, reduceCtorEq, Nat.reduceAdd, Nat.reduceMul, Nat.reduceSub, Nat.reduceLT, Nat.reduceLeDiff, Int.reduceLT, Int.reduceLE, Int.reduceEq, Int.reduceNe, Int.reduceNeg, Int.reduceAdd, Int.reduceSub, Int.reduceMul, Int.reduceToNat, Nat.reducePow, Int.reducePow, Nat.reduceDiv, Nat.reduceMod, awp_dr, awp_bk]; done)
                                                            | simp -implicitDefEqProofs (disch := omega) only [push_cast, ↓reduceIte, Nat.reduceEqDiff, reduceCtorEq, Nat.reduceAdd, Nat.reduceMul, Nat.reduceSub, Nat.reduceLT, Nat.reduceLeDiff, Int.reduceLT, Int.reduceLE, Int.reduceEq, Int.reduceNe, Int.reduceNeg, Int.reduceAdd, Int.reduceSub, Int.reduceMul, Int.reduceToNat, Nat.reducePow, Int.reducePow, Nat.reduceDiv, Nat.reduceMod, awp_dr, awp_bk]
                                                            | (with_reducible refine cdB_dec (fun hp hq => ?_) (fun hp hq => ?_) <;> first | (clear hq; refine False.elim ?_; omega) | (simp only [hq]; clear hq) | clear hq)
                                                            | (with_reducible refine gB_dec (fun hp hq => ?_) (fun hp hq => ?_) <;> first | (clear hq; refine False.elim ?_; omega) | (simp only [hq]; clear hq) | clear hq)
                                                            | (with_reducible refine gB_ndec (fun hp hq => ?_) (fun hp hq => ?_) <;> first | (clear hq; refine False.elim ?_; omega) | (simp only [hq]; clear hq) | clear hq)
  refine awp_lp (fun d st => ∃ i : Nat, k + 1 ≤ i ∧ i ≤ l.length ∧ d = l.length - i ∧ st.t 0 = .v (.vec (l.map tnC)) ∧ st.t 1 = .v (.sc (.int .i64 k)) ∧ st.t 6 = .v (.sc (.int .i64 i)) ∧ st.m.h = h ∧
    LsE [25] st.m (st.t 5) 1 ((underTo (l.map TN.up) k i).map natC)) (l.length - (k + 1)) ?_ ?_
  · exact ⟨k + 1, by omega, by omega, rfl, rfl, rfl, by simp [upd_app], rfl, by rw [underTo_start]; exact LsE.nil⟩
  · rintro d ⟨t, ml, mc, mh⟩ ⟨i, hi0, hi, rfl, h0, h1, h6, hh, hx⟩
    simp only at h0 h1 h6 hh hx
    subst hh
    by_cases hlt : i < l.length
    · obtain ⟨y, hy⟩ : ∃ y, l[i]? = some y := ⟨_, List.getElem?_eq_getElem hlt⟩
      have hg : ∀ m, ixT 3 m (.v (.vec (l.map tnC))) (.v (.sc (.int .i64 i))) = some (.vp (tnC y)) := fun m => vec_get tnC_len (by simp [hy])
      have hstep := underTo_step (l.map TN.up) k i
      rw [List.getElem?_map, hy, Option.map_some] at hstep
      repeat' first
                                                            | (simp -implicitDefEqProofs (disch := omega) only [push_cast, ↓reduceIte, Nat.reduceEqDiff, reduceCtorEq, Nat.reduceAdd, Nat.reduceMul, Nat.reduceSub, Nat.reduceLT, Nat.reduceLeDiff, Int.reduceLT, Int.reduceLE, Int.reduceEq, Int.reduceNe, Int.reduceNeg, Int.reduceAdd, Int.reduceSub, Int.reduceMul, Int.reduceToNat, Nat.reducePow, Int.reducePow, Nat.reduceDiv, Nat.reduceMod, awp_dr, awp_bk, h0, h1, h6, hg, tnC]; done)
                                                            | simp -implicitDefEqProofs (disch := omega) only [push_cast, ↓reduceIte, Nat.reduceEqDiff, reduceCtorEq, Nat.reduceAdd, Nat.reduceMul, Nat.reduceSub, Nat.reduceLT, Nat.reduceLeDiff, Int.reduceLT, Int.reduceLE, Int.reduceEq, Int.reduceNe, Int.reduceNeg, Int.reduceAdd, Int.reduceSub, Int.reduceMul, Int.reduceToNat, Nat.reducePow, Int.reducePow, Nat.reduceDiv, Nat.reduceMod, awp_dr, awp_bk, h0, h1, h6, hg, tnC]
                                                            | (with_reducible refine cdB_dec (fun hp hq => ?_) (fun hp hq => ?_) <;> first | (clear hq; refine False.elim ?_; omega) | (simp only [hq]; clear hq) | clear hq)
                                                            | (with_reducible refine gB_dec (fun hp hq => ?_) (fun hp hq => ?_) <;> first | (clear hq; refine False.elim ?_; omega) | (simp only [hq]; clear hq) | clear hq)
                                                            | (with_reducible refine gB_ndec (fun hp hq => ?_) (fun hp hq => ?_) <;> first | (clear hq; refine False.elim ?_; omega) | (simp only [hq]; clear hq) | clear hq)
      · have he := hp
        rw [if_pos ⟨by omega, by rw [he]⟩] at hstep
        refine bind_app (fs := [natC i]) hx (by simp) (by simp) (by simp [srcT, natC]) (by simp [natC]) (by simp [natC, cellA]) (by have := underTo_le (l.map TN.up) k i; simp; omega) (by have := underTo_le (l.map TN.up) k i; simp; omega) fun x' m' hx' hh' hk' => ?_
        repeat' first
                                                            | (simp -implicitDefEqProofs (disch := omega) only [push_cast, ↓reduceIte, Nat.reduceEqDiff, reduceCtorEq, Nat.reduceAdd, Nat.reduceMul, Nat.reduceSub, Nat.reduceLT, Nat.reduceLeDiff, Int.reduceLT, Int.reduceLE, Int.reduceEq, Int.reduceNe, Int.reduceNeg, Int.reduceAdd, Int.reduceSub, Int.reduceMul, Int.reduceToNat, Nat.reducePow, Int.reducePow, Nat.reduceDiv, Nat.reduceMod, awp_dr, awp_bk, h0, h1, h6]; done)
                                                            | simp -implicitDefEqProofs (disch := omega) only [push_cast, ↓reduceIte, Nat.reduceEqDiff, reduceCtorEq, Nat.reduceAdd, Nat.reduceMul, Nat.reduceSub, Nat.reduceLT, Nat.reduceLeDiff, Int.reduceLT, Int.reduceLE, Int.reduceEq, Int.reduceNe, Int.reduceNeg, Int.reduceAdd, Int.reduceSub, Int.reduceMul, Int.reduceToNat, Nat.reducePow, Int.reducePow, Nat.reduceDiv, Nat.reduceMod, awp_dr, awp_bk, h0, h1, h6]
                                                            | (with_reducible refine cdB_dec (fun hp hq => ?_) (fun hp hq => ?_) <;> first | (clear hq; refine False.elim ?_; omega) | (simp only [hq]; clear hq) | clear hq)
                                                            | (with_reducible refine gB_dec (fun hp hq => ?_) (fun hp hq => ?_) <;> first | (clear hq; refine False.elim ?_; omega) | (simp only [hq]; clear hq) | clear hq)
                                                            | (with_reducible refine gB_ndec (fun hp hq => ?_) (fun hp hq => ?_) <;> first | (clear hq; refine False.elim ?_; omega) | (simp only [hq]; clear hq) | clear hq)
        exact ⟨l.length - (i + 1), by omega, i + 1, by omega, hlt, rfl, by simp, hh', by rw [hstep, List.map_append]; exact hx'⟩
      · have he := hp
        rw [if_neg (fun hc => he (Option.some.inj hc.2))] at hstep
        exact ⟨l.length - (i + 1), by omega, i + 1, by omega, hlt, rfl, by simp, by rw [hstep, List.append_nil]; exact hx⟩
    · have hi : i = l.length := by omega
      subst hi
      repeat' first
                                                            | (simp -implicitDefEqProofs (disch := omega) only [push_cast, ↓reduceIte, Nat.reduceEqDiff, reduceCtorEq, Nat.reduceAdd, Nat.reduceMul, Nat.reduceSub, Nat.reduceLT, Nat.reduceLeDiff, Int.reduceLT, Int.reduceLE, Int.reduceEq, Int.reduceNe, Int.reduceNeg, Int.reduceAdd, Int.reduceSub, Int.reduceMul, Int.reduceToNat, Nat.reducePow, Int.reducePow, Nat.reduceDiv, Nat.reduceMod, awp_dr, awp_bk, h0, h1, h6]; done)
                                                            | simp -implicitDefEqProofs (disch := omega) only [push_cast, ↓reduceIte, Nat.reduceEqDiff, reduceCtorEq, Nat.reduceAdd, Nat.reduceMul, Nat.reduceSub, Nat.reduceLT, Nat.reduceLeDiff, Int.reduceLT, Int.reduceLE, Int.reduceEq, Int.reduceNe, Int.reduceNeg, Int.reduceAdd, Int.reduceSub, Int.reduceMul, Int.reduceToNat, Nat.reducePow, Int.reducePow, Nat.reduceDiv, Nat.reduceMod, awp_dr, awp_bk, h0, h1, h6]
                                                            | (with_reducible refine cdB_dec (fun hp hq => ?_) (fun hp hq => ?_) <;> first | (clear hq; refine False.elim ?_; omega) | (simp only [hq]; clear hq) | clear hq)
                                                            | (with_reducible refine gB_dec (fun hp hq => ?_) (fun hp hq => ?_) <;> first | (clear hq; refine False.elim ?_; omega) | (simp only [hq]; clear hq) | clear hq)
                                                            | (with_reducible refine gB_ndec (fun hp hq => ?_) (fun hp hq => ?_) <;> first | (clear hq; refine False.elim ?_; omega) | (simp only [hq]; clear hq) | clear hq)
      exact end_ls hx (by rw [← under_map]; exact hR)

theorem l11Tree_ok : ∀ {f : Nat} {l : List TN} {k : Nat} {h : Heap} {R : AV → Heap → Prop}, l.length ≤ 1048576 → k < l.length → l.length - k ≤ f → R (.agg (tyC (treeF f l k))) h →
    ACalls Tryd.prog 15 [.vec (l.map tnC), .sc (.int .i64 k)] h R := by
  intro f
  induction f with
  | zero => intro l k h R hl hk hf hR; omega
  | succ f ih =>
    intro l k h R hl hk hf hR
    obtain ⟨x, hx⟩ : ∃ x, l[k]? = some x := ⟨_, List.getElem?_eq_getElem hk⟩
    have hg : ∀ m, ixT 3 m (.v (.vec (l.map tnC))) (.v (.sc (.int .i64 k))) = some (.vp (tnC x)) := fun m => vec_get tnC_len (by simp [hx])
    simp only [treeF, hx] at hR
    refine ACalls.sub (acalls_body c_spec_l11Tree (by simp) ?_)
    unfold a_spec_l11Tree
    repeat' first
                                                            | (simp -implicitDefEqProofs (disch := omega) only [push_cast, ↓reduceIte, Nat.reduceEqDiff, reduceCtorEq, Nat.reduceAdd, Nat.reduceMul, Nat.reduceSub, Nat.reduceLT, Nat.reduceLeDiff, Int.reduceLT, Int.reduceLE, Int.reduceEq, Int.reduceNe, Int.reduceNeg, Int.reduceAdd, Int.reduceSub, Int.reduceMul, Int.reduceToNat, Nat.reducePow, Int.reducePow, Nat.reduceDiv, Nat.reduceMod, awp_dr, awp_bk, hg, tnC]; done)
                                                            | simp -implicitDefEqProofs (disch := omega) only [push_cast, ↓reduceIte, Nat.reduceEqDiff, reduceCtorEq, Nat.reduceAdd, Nat.reduceMul, Nat.reduceSub, Nat.reduceLT, Nat.reduceLeDiff, Int.reduceLT, Int.reduceLE, Int.reduceEq, Int.reduceNe, Int.reduceNeg, Int.reduceAdd, Int.reduceSub, Int.reduceMul, Int.reduceToNat, Nat.reducePow, Int.reducePow, Nat.reduceDiv, Nat.reduceMod, awp_dr, awp_bk, hg, tnC]
                                                            | refine l11Parts_ok hl hk ?_
                                                            | (with_reducible refine cdB_dec (fun hp hq => ?_) (fun hp hq => ?_) <;> first | (clear hq; refine False.elim ?_; omega) | (simp only [hq]; clear hq) | clear hq)
                                                            | (with_reducible refine gB_dec (fun hp hq => ?_) (fun hp hq => ?_) <;> first | (clear hq; refine False.elim ?_; omega) | (simp only [hq]; clear hq) | clear hq)
                                                            | (with_reducible refine gB_ndec (fun hp hq => ?_) (fun hp hq => ?_) <;> first | (clear hq; refine False.elim ?_; omega) | (simp only [hq]; clear hq) | clear hq)
    refine awp_lp (fun d st => ∃ (i : Nat) (y : TV), i ≤ (under (l.map TN.up) k).length ∧ d = (under (l.map TN.up) k).length - i ∧ st.t 0 = .v (.vec (l.map tnC)) ∧ st.t 23 = .v (.sc (.int .i64 i)) ∧
      st.t 21 = .v (.vec ((under (l.map TN.up) k).map natC)) ∧ st.t 22 = .v (.sc (.int .i64 (under (l.map TN.up) k).length)) ∧ st.t 4 = .lp 4 0 0 ∧ st.t 5 = .lp 5 1 0 ∧ st.m.h = h ∧
      (∃ a b c, st.m.l 4 = .mu 0 [a, b, c]) ∧ st.m.l 5 = .mu 1 [.v (.sc (.int .i64 x.kind)), .v (.sc (.int .i64 x.n)), y] ∧
      LsE [33] st.m y 3 ((((under (l.map TN.up) k).take i).map (treeF f l)).map tyC)) (under (l.map TN.up) k).length ?_ ?_
    · exact ⟨0, _, Nat.zero_le _, rfl, rfl, rfl, rfl, rfl, rfl, rfl, rfl, ⟨_, _, _, rfl⟩, rfl, LsE.nil⟩
    · rintro d ⟨t, ml, mc, mh⟩ ⟨i, y, hi, rfl, h0, h23, h21, h22, h4, h5, hh, ⟨a, b, c, m4⟩, m5, hy⟩
      simp only at h0 h23 h21 h22 h4 h5 hh m4 m5 hy
      subst hh
      have hul : (under (l.map TN.up) k).length ≤ 1048576 := by
        rw [under_map]; exact Nat.le_trans (underTo_le _ _ _) hl
      by_cases hlt : i < (under (l.map TN.up) k).length
      · obtain ⟨p, hpu⟩ : ∃ p, (under (l.map TN.up) k)[i]? = some p := ⟨_, List.getElem?_eq_getElem hlt⟩
        have hpm := under_lt (List.mem_of_getElem? hpu)
        rw [List.length_map] at hpm
        have hg2 : ∀ m, ixT 1 m (.v (.vec ((under (l.map TN.up) k).map natC))) (.v (.sc (.int .i64 i))) = some (.vp (natC p)) := fun m => vec_get natC_len (by simp [hpu])
        repeat' first
                                                            | (simp -implicitDefEqProofs (disch := omega) only [push_cast, ↓reduceIte, Nat.reduceEqDiff, reduceCtorEq, Nat.reduceAdd, Nat.reduceMul, Nat.reduceSub, Nat.reduceLT, Nat.reduceLeDiff, Int.reduceLT, Int.reduceLE, Int.reduceEq, Int.reduceNe, Int.reduceNeg, Int.reduceAdd, Int.reduceSub, Int.reduceMul, Int.reduceToNat, Nat.reducePow, Int.reducePow, Nat.reduceDiv, Nat.reduceMod, awp_dr, awp_bk, h0, h23, h21, h22, h4, h5, m4, m5, hg2, natC, tyC_length, tyC_take]; done)
                                                            | simp -implicitDefEqProofs (disch := omega) only [push_cast, ↓reduceIte, Nat.reduceEqDiff, reduceCtorEq, Nat.reduceAdd, Nat.reduceMul, Nat.reduceSub, Nat.reduceLT, Nat.reduceLeDiff, Int.reduceLT, Int.reduceLE, Int.reduceEq, Int.reduceNe, Int.reduceNeg, Int.reduceAdd, Int.reduceSub, Int.reduceMul, Int.reduceToNat, Nat.reducePow, Int.reducePow, Nat.reduceDiv, Nat.reduceMod, awp_dr, awp_bk, h0, h23, h21, h22, h4, h5, m4, m5, hg2, natC, tyC_length, tyC_take]
                                                            | refine ih hl hpm.2.1 (by omega) ?_
                                                            | (with_reducible refine cdB_dec (fun hp hq => ?_) (fun hp hq => ?_) <;> first | (clear hq; refine False.elim ?_; omega) | (simp only [hq]; clear hq) | clear hq)
                                                            | (with_reducible refine gB_dec (fun hp hq => ?_) (fun hp hq => ?_) <;> first | (clear hq; refine False.elim ?_; omega) | (simp only [hq]; clear hq) | clear hq)
                                                            | (with_reducible refine gB_ndec (fun hp hq => ?_) (fun hp hq => ?_) <;> first | (clear hq; refine False.elim ?_; omega) | (simp only [hq]; clear hq) | clear hq)
        refine bind_app (fs := [tyC (treeF f l p)]) hy (by simp) (by simp) (by simp [srcT]) (by simp [tyC_length]) (by simpa using tyC_cells) (by simp; omega) (by simp; omega) fun x' m' hx' hh' hk' => ?_
        have k4 : m'.l 4 = ml 4 := hk' 4 (by simp)
        have k5 : m'.l 5 = ml 5 := hk' 5 (by simp)
        repeat' first
                                                            | (simp -implicitDefEqProofs (disch := omega) only [push_cast, ↓reduceIte, Nat.reduceEqDiff, reduceCtorEq, Nat.reduceAdd, Nat.reduceMul, Nat.reduceSub, Nat.reduceLT, Nat.reduceLeDiff, Int.reduceLT, Int.reduceLE, Int.reduceEq, Int.reduceNe, Int.reduceNeg, Int.reduceAdd, Int.reduceSub, Int.reduceMul, Int.reduceToNat, Nat.reducePow, Int.reducePow, Nat.reduceDiv, Nat.reduceMod, awp_dr, awp_bk, h0, h23, h21, h22, h4, h5, m4, m5, k4, k5, hx'.cell]; done)
                                                            | simp -implicitDefEqProofs (disch := omega) only [push_cast, ↓reduceIte, Nat.reduceEqDiff, reduceCtorEq, Nat.reduceAdd, Nat.reduceMul, Nat.reduceSub, Nat.reduceLT, Nat.reduceLeDiff, Int.reduceLT, Int.reduceLE, Int.reduceEq, Int.reduceNe, Int.reduceNeg, Int.reduceAdd, Int.reduceSub, Int.reduceMul, Int.reduceToNat, Nat.reducePow, Int.reducePow, Nat.reduceDiv, Nat.reduceMod, awp_dr, awp_bk, h0, h23, h21, h22, h4, h5, m4, m5, k4, k5, hx'.cell]
                                                            | (with_reducible refine cdB_dec (fun hp hq => ?_) (fun hp hq => ?_) <;> first | (clear hq; refine False.elim ?_; omega) | (simp only [hq]; clear hq) | clear hq)
                                                            | (with_reducible refine gB_dec (fun hp hq => ?_) (fun hp hq => ?_) <;> first | (clear hq; refine False.elim ?_; omega) | (simp only [hq]; clear hq) | clear hq)
                                                            | (with_reducible refine gB_ndec (fun hp hq => ?_) (fun hp hq => ?_) <;> first | (clear hq; refine False.elim ?_; omega) | (simp only [hq]; clear hq) | clear hq)
        refine ⟨_, by omega, i + 1, x', hlt, rfl, by simp, hh', ⟨_, _, _, rfl⟩, rfl, LsE.keep (m := m') ?_ (fun d hd => ?_)⟩
        · rw [List.take_add_one, hpu]; simpa using hx'
        · simp at hd; subst hd; simp [upd]
      · have hi : i = (under (l.map TN.up) k).length := by omega
        obtain ⟨u, m', e1, e2, e3, e4, e5, e6⟩ := hy.fz
        have k4 : m'.l 4 = ml 4 := e5 4 (by simp)
        have k5 : m'.l 5 = ml 5 := e5 5 (by simp)
        repeat' first
                                                            | (simp -implicitDefEqProofs (disch := omega) only [push_cast, ↓reduceIte, Nat.reduceEqDiff, reduceCtorEq, Nat.reduceAdd, Nat.reduceMul, Nat.reduceSub, Nat.reduceLT, Nat.reduceLeDiff, Int.reduceLT, Int.reduceLE, Int.reduceEq, Int.reduceNe, Int.reduceNeg, Int.reduceAdd, Int.reduceSub, Int.reduceMul, Int.reduceToNat, Nat.reducePow, Int.reducePow, Nat.reduceDiv, Nat.reduceMod, awp_dr, awp_bk, h0, h23, h21, h22, h4, h5, m4, m5, fzs_gen, e1, e6, k4, k5]; done)
                                                            | simp -implicitDefEqProofs (disch := omega) only [push_cast, ↓reduceIte, Nat.reduceEqDiff, reduceCtorEq, Nat.reduceAdd, Nat.reduceMul, Nat.reduceSub, Nat.reduceLT, Nat.reduceLeDiff, Int.reduceLT, Int.reduceLE, Int.reduceEq, Int.reduceNe, Int.reduceNeg, Int.reduceAdd, Int.reduceSub, Int.reduceMul, Int.reduceToNat, Nat.reducePow, Int.reducePow, Nat.reduceDiv, Nat.reduceMod, awp_dr, awp_bk, h0, h23, h21, h22, h4, h5, m4, m5, fzs_gen, e1, e6, k4, k5]
                                                            | (with_reducible refine cdB_dec (fun hp hq => ?_) (fun hp hq => ?_) <;> first | (clear hq; refine False.elim ?_; omega) | (simp only [hq]; clear hq) | clear hq)
                                                            | (with_reducible refine gB_dec (fun hp hq => ?_) (fun hp hq => ?_) <;> first | (clear hq; refine False.elim ?_; omega) | (simp only [hq]; clear hq) | clear hq)
                                                            | (with_reducible refine gB_ndec (fun hp hq => ?_) (fun hp hq => ?_) <;> first | (clear hq; refine False.elim ?_; omega) | (simp only [hq]; clear hq) | clear hq)
        refine ⟨_, Sub.agg (SubL.cons (Sub.refl _) (SubL.cons (Sub.refl _) (SubL.cons e2 SubL.nil))), ?_⟩
        rw [tyC_eq] at hR
        rw [e3, hi, List.take_length]
        exact hR

theorem l12Tree_ok : ∀ {f : Nat} {l : List VN} {k : Nat} {h : Heap} {R : AV → Heap → Prop}, l.length ≤ 1048576 → k < l.length → l.length - k ≤ f → R (.agg (vlC (vtreeF f l k))) h →
    ACalls Tryd.prog 16 [.vec (l.map vnC), .sc (.int .i64 k)] h R := by
  intro f
  induction f with
  | zero => intro l k h R hl hk hf hR; omega
  | succ f ih =>
    intro l k h R hl hk hf hR
    obtain ⟨x, hx⟩ : ∃ x, l[k]? = some x := ⟨_, List.getElem?_eq_getElem hk⟩
    have hg : ∀ m, ixT 3 m (.v (.vec (l.map vnC))) (.v (.sc (.int .i64 k))) = some (.vp (vnC x)) := fun m => vec_get vnC_len (by simp [hx])
    simp only [vtreeF, hx] at hR
    refine ACalls.sub (acalls_body c_spec_l12Tree (by simp) ?_)
    unfold a_spec_l12Tree
    repeat' first
                                                            | (simp -implicitDefEqProofs (disch := omega) only [push_cast, ↓reduceIte, Nat.reduceEqDiff, reduceCtorEq, Nat.reduceAdd, Nat.reduceMul, Nat.reduceSub, Nat.reduceLT, Nat.reduceLeDiff, Int.reduceLT, Int.reduceLE, Int.reduceEq, Int.reduceNe, Int.reduceNeg, Int.reduceAdd, Int.reduceSub, Int.reduceMul, Int.reduceToNat, Nat.reducePow, Int.reducePow, Nat.reduceDiv, Nat.reduceMod, awp_dr, awp_bk, hg, vnC]; done)
                                                            | simp -implicitDefEqProofs (disch := omega) only [push_cast, ↓reduceIte, Nat.reduceEqDiff, reduceCtorEq, Nat.reduceAdd, Nat.reduceMul, Nat.reduceSub, Nat.reduceLT, Nat.reduceLeDiff, Int.reduceLT, Int.reduceLE, Int.reduceEq, Int.reduceNe, Int.reduceNeg, Int.reduceAdd, Int.reduceSub, Int.reduceMul, Int.reduceToNat, Nat.reducePow, Int.reducePow, Nat.reduceDiv, Nat.reduceMod, awp_dr, awp_bk, hg, vnC]
                                                            | (with_reducible refine cdB_dec (fun hp hq => ?_) (fun hp hq => ?_) <;> first | (clear hq; refine False.elim ?_; omega) | (simp only [hq]; clear hq) | clear hq)
                                                            | (with_reducible refine gB_dec (fun hp hq => ?_) (fun hp hq => ?_) <;> first | (clear hq; refine False.elim ?_; omega) | (simp only [hq]; clear hq) | clear hq)
                                                            | (with_reducible refine gB_ndec (fun hp hq => ?_) (fun hp hq => ?_) <;> first | (clear hq; refine False.elim ?_; omega) | (simp only [hq]; clear hq) | clear hq)
    refine awp_lp (fun d st => ∃ (i : Nat) (y : TV), k + 1 ≤ i ∧ i ≤ l.length ∧ d = l.length - i ∧ st.t 0 = .v (.vec (l.map vnC)) ∧ st.t 1 = .v (.sc (.int .i64 k)) ∧ st.t 6 = .v (.sc (.int .i64 i)) ∧
      st.t 4 = .lp 4 0 0 ∧ st.t 5 = .lp 5 1 0 ∧ st.m.h = h ∧
      (∃ a b c, st.m.l 4 = .mu 0 [a, b, c]) ∧ st.m.l 5 = .mu 1 [.v (.sc (.int .i64 x.n)), .v (.sc (.string (bs x.text))), y] ∧
      LsE [39] st.m y 3 (((underTo (l.map VN.up) k i).map (vtreeF f l)).map vlC)) (l.length - (k + 1)) ?_ ?_
    · exact ⟨k + 1, _, by omega, by omega, rfl, rfl, rfl, by simp [upd_app], rfl, rfl, rfl, ⟨_, _, _, rfl⟩, rfl, by rw [underTo_start]; exact LsE.nil⟩
    · rintro d ⟨t, ml, mc, mh⟩ ⟨i, y, hi0, hi, rfl, h0, h1, h6, h4, h5, hh, ⟨a, b, c, m4⟩, m5, hy⟩
      simp only at h0 h1 h6 h4 h5 hh m4 m5 hy
      subst hh
      by_cases hlt : i < l.length
      · obtain ⟨z, hz⟩ : ∃ z, l[i]? = some z := ⟨_, List.getElem?_eq_getElem hlt⟩
        have hg2 : ∀ m, ixT 3 m (.v (.vec (l.map vnC))) (.v (.sc (.int .i64 i))) = some (.vp (vnC z)) := fun m => vec_get vnC_len (by simp [hz])
        have hul := underTo_le (l.map VN.up) k i
        have hstep := underTo_step (l.map VN.up) k i
        rw [List.getElem?_map, hz, Option.map_some] at hstep
        repeat' first
                                                            | (simp -implicitDefEqProofs (disch := omega) only [push_cast, ↓reduceIte, Nat.reduceEqDiff, reduceCtorEq, Nat.reduceAdd, Nat.reduceMul, Nat.reduceSub, Nat.reduceLT, Nat.reduceLeDiff, Int.reduceLT, Int.reduceLE, Int.reduceEq, Int.reduceNe, Int.reduceNeg, Int.reduceAdd, Int.reduceSub, Int.reduceMul, Int.reduceToNat, Nat.reducePow, Int.reducePow, Nat.reduceDiv, Nat.reduceMod, awp_dr, awp_bk, h0, h1, h6, h4, h5, m4, m5, hg2, vnC, vlC_length, vlC_take]; done)
                                                            | simp -implicitDefEqProofs (disch := omega) only [push_cast, ↓reduceIte, Nat.reduceEqDiff, reduceCtorEq, Nat.reduceAdd, Nat.reduceMul, Nat.reduceSub, Nat.reduceLT, Nat.reduceLeDiff, Int.reduceLT, Int.reduceLE, Int.reduceEq, Int.reduceNe, Int.reduceNeg, Int.reduceAdd, Int.reduceSub, Int.reduceMul, Int.reduceToNat, Nat.reducePow, Int.reducePow, Nat.reduceDiv, Nat.reduceMod, awp_dr, awp_bk, h0, h1, h6, h4, h5, m4, m5, hg2, vnC, vlC_length, vlC_take]
                                                            | refine ih hl hlt (by omega) ?_
                                                            | (with_reducible refine cdB_dec (fun hp hq => ?_) (fun hp hq => ?_) <;> first | (clear hq; refine False.elim ?_; omega) | (simp only [hq]; clear hq) | clear hq)
                                                            | (with_reducible refine gB_dec (fun hp hq => ?_) (fun hp hq => ?_) <;> first | (clear hq; refine False.elim ?_; omega) | (simp only [hq]; clear hq) | clear hq)
                                                            | (with_reducible refine gB_ndec (fun hp hq => ?_) (fun hp hq => ?_) <;> first | (clear hq; refine False.elim ?_; omega) | (simp only [hq]; clear hq) | clear hq)
        · have he := hp
          rw [if_pos ⟨by omega, by rw [he]⟩] at hstep
          refine bind_app (fs := [vlC (vtreeF f l i)]) hy (by simp) (by simp) (by simp [srcT]) (by simp [vlC_length]) (by simpa using vlC_cells) (by simp; omega) (by simp; omega) fun x' m' hx' hh' hk' => ?_
          have k4 : m'.l 4 = ml 4 := hk' 4 (by simp)
          have k5 : m'.l 5 = ml 5 := hk' 5 (by simp)
          repeat' first
                                                            | (simp -implicitDefEqProofs (disch := omega) only [push_cast, ↓reduceIte, Nat.reduceEqDiff, reduceCtorEq, Nat.reduceAdd, Nat.reduceMul, Nat.reduceSub, Nat.reduceLT, Nat.reduceLeDiff, Int.reduceLT, Int.reduceLE, Int.reduceEq, Int.reduceNe, Int.reduceNeg, Int.reduceAdd, Int.reduceSub, Int.reduceMul, Int.reduceToNat, Nat.reducePow, Int.reducePow, Nat.reduceDiv, Nat.reduceMod, awp_dr, awp_bk, h0, h1, h6, h4, h5, m4, m5, k4, k5, hx'.cell]; done)
                                                            | simp -implicitDefEqProofs (disch := omega) only [push_cast, ↓reduceIte, Nat.reduceEqDiff, reduceCtorEq, Nat.reduceAdd, Nat.reduceMul, Nat.reduceSub, Nat.reduceLT, Nat.reduceLeDiff, Int.reduceLT, Int.reduceLE, Int.reduceEq, Int.reduceNe, Int.reduceNeg, Int.reduceAdd, Int.reduceSub, Int.reduceMul, Int.reduceToNat, Nat.reducePow, Int.reducePow, Nat.reduceDiv, Nat.reduceMod, awp_dr, awp_bk, h0, h1, h6, h4, h5, m4, m5, k4, k5, hx'.cell]
                                                            | (with_reducible refine cdB_dec (fun hp hq => ?_) (fun hp hq => ?_) <;> first | (clear hq; refine False.elim ?_; omega) | (simp only [hq]; clear hq) | clear hq)
                                                            | (with_reducible refine gB_dec (fun hp hq => ?_) (fun hp hq => ?_) <;> first | (clear hq; refine False.elim ?_; omega) | (simp only [hq]; clear hq) | clear hq)
                                                            | (with_reducible refine gB_ndec (fun hp hq => ?_) (fun hp hq => ?_) <;> first | (clear hq; refine False.elim ?_; omega) | (simp only [hq]; clear hq) | clear hq)
          refine ⟨_, by omega, i + 1, x', by omega, hlt, rfl, by simp, hh', ⟨_, _, _, rfl⟩, rfl, LsE.keep (m := m') ?_ (fun d hd => ?_)⟩
          · rw [hstep]; simpa using hx'
          · simp at hd; subst hd; simp [upd]
        · have he := hp
          rw [if_neg (fun hc => he (Option.some.inj hc.2)), List.append_nil] at hstep
          exact ⟨_, by omega, i + 1, y, by omega, hlt, rfl, by simp, ⟨_, _, _, rfl⟩, rfl, by rw [hstep]; exact hy⟩
      · have hi : i = l.length := by omega
        obtain ⟨u, m', e1, e2, e3, e4, e5, e6⟩ := hy.fz
        have k4 : m'.l 4 = ml 4 := e5 4 (by simp)
        have k5 : m'.l 5 = ml 5 := e5 5 (by simp)
        repeat' first
                                                            | (simp -implicitDefEqProofs (disch := omega) only [push_cast, ↓reduceIte, Nat.reduceEqDiff, reduceCtorEq, Nat.reduceAdd, Nat.reduceMul, Nat.reduceSub, Nat.reduceLT, Nat.reduceLeDiff, Int.reduceLT, Int.reduceLE, Int.reduceEq, Int.reduceNe, Int.reduceNeg, Int.reduceAdd, Int.reduceSub, Int.reduceMul, Int.reduceToNat, Nat.reducePow, Int.reducePow, Nat.reduceDiv, Nat.reduceMod, awp_dr, awp_bk, h0, h1, h6, h4, h5, m4, m5, fzs_gen, e1, e6, k4, k5]; done)
                                                            | simp -implicitDefEqProofs (disch := omega) only [push_cast, ↓reduceIte, Nat.reduceEqDiff, reduceCtorEq, Nat.reduceAdd, Nat.reduceMul, Nat.reduceSub, Nat.reduceLT, Nat.reduceLeDiff, Int.reduceLT, Int.reduceLE, Int.reduceEq, Int.reduceNe, Int.reduceNeg, Int.reduceAdd, Int.reduceSub, Int.reduceMul, Int.reduceToNat, Nat.reducePow, Int.reducePow, Nat.reduceDiv, Nat.reduceMod, awp_dr, awp_bk, h0, h1, h6, h4, h5, m4, m5, fzs_gen, e1, e6, k4, k5]
                                                            | (with_reducible refine cdB_dec (fun hp hq => ?_) (fun hp hq => ?_) <;> first | (clear hq; refine False.elim ?_; omega) | (simp only [hq]; clear hq) | clear hq)
                                                            | (with_reducible refine gB_dec (fun hp hq => ?_) (fun hp hq => ?_) <;> first | (clear hq; refine False.elim ?_; omega) | (simp only [hq]; clear hq) | clear hq)
                                                            | (with_reducible refine gB_ndec (fun hp hq => ?_) (fun hp hq => ?_) <;> first | (clear hq; refine False.elim ?_; omega) | (simp only [hq]; clear hq) | clear hq)
        refine ⟨_, Sub.agg (SubL.cons (Sub.refl _) (SubL.cons (Sub.refl _) (SubL.cons e2 SubL.nil))), ?_⟩
        rw [vlC_eq] at hR
        rw [e3, hi, ← under_map]
        exact hR

theorem l11Shape_ok {k : Int} {h : Heap} {R : AV → Heap → Prop} (hR : R (.tup [.sc (.int .i64 (shapeK k).1), .sc (.int .i64 (shapeK k).2.1), .sc (.int .i64 (shapeK k).2.2.1), .sc (.int .i64 (shapeK k).2.2.2)]) h) :
    ACalls Tryd.prog 41 [.sc (.int .i64 k)] h R := by
  refine acalls_body c_spec_l11Shape (by simp) ?_
  unfold a_spec_l11Shape
  repeat' first
                                                            | (simp -implicitDefEqProofs (disch := omega) only [push_cast, ↓reduceIte, Nat.reduceEqDiff, reduceCtorEq, Nat.reduceAdd, Nat.reduceMul, Nat.reduceSub, Nat.reduceLT, Nat.reduceLeDiff, Int.reduceLT, Int.reduceLE, Int.reduceEq, Int.reduceNe, Int.reduceNeg, Int.reduceAdd, Int.reduceSub, Int.reduceMul, Int.reduceToNat, Nat.reducePow, Int.reducePow, Nat.reduceDiv, Nat.reduceMod, awp_dr, awp_bk]; done)
                                                            | simp -implicitDefEqProofs (disch := omega) only [push_cast, ↓reduceIte, Nat.reduceEqDiff, reduceCtorEq, Nat.reduceAdd, Nat.reduceMul, Nat.reduceSub, Nat.reduceLT, Nat.reduceLeDiff, Int.reduceLT, Int.reduceLE, Int.reduceEq, Int.reduceNe, Int.reduceNeg, Int.reduceAdd, Int.reduceSub, Int.reduceMul, Int.reduceToNat, Nat.reducePow, Int.reducePow, Nat.reduceDiv, Nat.reduceMod, awp_dr, awp_bk]
                                                            | (with_reducible refine cdB_dec (fun hp hq => ?_) (fun hp hq => ?_) <;> first | (clear hq; refine False.elim ?_; omega) | (simp only [hq]; clear hq) | clear hq)
                                                            | (with_reducible refine gB_dec (fun hp hq => ?_) (fun hp hq => ?_) <;> first | (clear hq; refine False.elim ?_; omega) | (simp only [hq]; clear hq) | clear hq)
                                                            | (with_reducible refine gB_ndec (fun hp hq => ?_) (fun hp hq => ?_) <;> first | (clear hq; refine False.elim ?_; omega) | (simp only [hq]; clear hq) | clear hq)
  all_goals (simp_all [shapeK]; done)

end Go.Proofs.YtgkiaoodalnceaaDoor
