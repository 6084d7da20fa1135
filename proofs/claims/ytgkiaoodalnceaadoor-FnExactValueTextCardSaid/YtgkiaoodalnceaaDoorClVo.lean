import Derived.Test.YtgkiaoodalnceaaDoorClVn
import Derived.Test.YtgkiaoodalnceaaDoorClVj
/- Whether a value fits a type: the program. -/
namespace Go.Proofs.YtgkiaoodalnceaaDoor
open Go SL VM
set_option maxRecDepth 100000
set_option linter.unusedVariables false
set_option linter.unusedSimpArgs false
attribute [local irreducible] SL.awp

theorem zipAll_nil {f : Ty → Vl → Bool} {vs : List Vl} : zipAll f [] vs = decide (vs.length = 0) := by
  cases vs <;> simp [zipAll]
theorem zipAll_one {f : Ty → Vl → Bool} {t : Ty} {vs : List Vl} {v : Vl} (hv : vs[0]? = some v) : zipAll f [t] vs = (decide (vs.length = 1) && f t v) := by
  cases vs with
  | nil => simp at hv
  | cons a r =>
    simp at hv; subst hv
    cases r <;> simp [zipAll]
/-- Is one of them so? -/
theorem index_ok {h1 : Heap} {pv cap : AV} {vs : List Vl} {q : Vl → Bool} {R : AV → Heap → Prop} (hl : vs.length ≤ 1048576) (hw1 : HW h1) (hln : lnT (.v pv) = some (.sc (.int .i64 vs.length)))
    (h6 : ∀ i k, vs[i]? = some k → ∃ p, PartAt h1 pv i p ∧ VlAt h1 k p)
    (hc : ∀ z ∈ vs, ∀ b' h' R', HW h' → HX h1 h' → VlAt h' z b' → (∀ h'', HW h'' → HX h' h'' → R' (.sc (.bool (q z))) h'') → ACalls Tryd.prog 52 [b', cap] h' R')
    (hT : ∀ (r : Int) h', 0 ≤ r → vs.any q = true → HW h' → HX h1 h' → R (.sc (.int .i64 r)) h')
    (hF : ∀ h', vs.any q = false → HW h' → HX h1 h' → R (.sc (.int .i64 (-1))) h') : ACalls Tryd.prog 63 [pv, .fn (.func 52) [] [cap]] h1 R := by
  refine acalls_body c_impl_datum_1 (by simp) ?_
  unfold a_impl_datum_1
  repeat' first
                                                            | (simp -implicitDefEqProofs (disch := omega) only [push_cast, ↓reduceIte, Nat.reduceEqDiff, reduceCtorEq, Nat.reduceAdd, Nat.reduceMul, Nat.reduceSub, Nat.reduceLT, Nat.reduceLeDiff, Int.reduceLT, Int.reduceLE, Int.reduceEq, Int.reduceNe, Int.reduceNeg, Int.reduceAdd, Int.reduceSub, Int.reduceMul, Int.reduceToNat, Nat.reducePow, Int.reducePow, Nat.reduceDiv, Nat.reduceMod, awp_dr, hln]; done)
                                                            | simp -implicitDefEqProofs (disch := omega) only [push_cast, ↓reduceIte, Nat.reduceEqDiff, reduceCtorEq, Nat.reduceAdd, Nat.reduceMul, Nat.reduceSub, Nat.reduceLT, Nat.reduceLeDiff, Int.reduceLT, Int.reduceLE, Int.reduceEq, Int.reduceNe, Int.reduceNeg, Int.reduceAdd, Int.reduceSub, Int.reduceMul, Int.reduceToNat, Nat.reducePow, Int.reducePow, Nat.reduceDiv, Nat.reduceMod, awp_dr, hln]
                                                            | (with_reducible refine cdB_dec (fun hp hq => ?_) (fun hp hq => ?_) <;> first | (clear hq; refine False.elim ?_; omega) | (simp only [hq]; clear hq) | clear hq)
                                                            | (with_reducible refine gB_dec (fun hp hq => ?_) (fun hp hq => ?_) <;> first | (clear hq; refine False.elim ?_; omega) | (simp only [hq]; clear hq) | clear hq)
                                                            | (with_reducible refine gB_ndec (fun hp hq => ?_) (fun hp hq => ?_) <;> first | (clear hq; refine False.elim ?_; omega) | (simp only [hq]; clear hq) | clear hq)
                                                            | (with_reducible refine And.intro ?_ ?_; omega)
  rw [awp_bk]
  refine awp_lpW 524080 (fun d t m => ∃ i : Nat, i ≤ vs.length ∧ d = vs.length - i ∧ t 8 = .v (.sc (.int .i64 i)) ∧ m.l = (fun _ => .no) ∧ HW m.h ∧ HX h1 m.h ∧ (∀ j z, j < i → vs[j]? = some z → q z = false)) vs.length (by kernel_rfl) ?_ ?_
  · exact ⟨0, Nat.zero_le _, rfl, rfl, rfl, hw1, HX.refl _, fun j z hj => absurd hj (Nat.not_lt_zero _)⟩
  rintro d t ⟨ml, mc, mh⟩ ⟨i, hi, rfl, h8, hml, hw2, hx2, hno⟩
  simp only at hml hw2 hx2
  by_cases hlt : i < vs.length
  · have hk : vs[i]? = some vs[i] := List.getElem?_eq_getElem hlt
    obtain ⟨p, ⟨n, o, cs, i1, i2, i3⟩, hVp⟩ := h6 i _ hk
    have i2' := i2 mh hx2
    obtain ⟨pb, po, rfl⟩ := hVp.ptr
    cases hq : q vs[i]
    · repeat' first
                                                            | (simp -implicitDefEqProofs (disch := omega) only [push_cast, ↓reduceIte, Nat.reduceEqDiff, reduceCtorEq, Nat.reduceAdd, Nat.reduceMul, Nat.reduceSub, Nat.reduceLT, Nat.reduceLeDiff, Int.reduceLT, Int.reduceLE, Int.reduceEq, Int.reduceNe, Int.reduceNeg, Int.reduceAdd, Int.reduceSub, Int.reduceMul, Int.reduceToNat, Nat.reducePow, Int.reducePow, Nat.reduceDiv, Nat.reduceMod, awp_dr, h8, hln, i1, i2', i3]; done)
                                                            | simp -implicitDefEqProofs (disch := omega) only [push_cast, ↓reduceIte, Nat.reduceEqDiff, reduceCtorEq, Nat.reduceAdd, Nat.reduceMul, Nat.reduceSub, Nat.reduceLT, Nat.reduceLeDiff, Int.reduceLT, Int.reduceLE, Int.reduceEq, Int.reduceNe, Int.reduceNeg, Int.reduceAdd, Int.reduceSub, Int.reduceMul, Int.reduceToNat, Nat.reducePow, Int.reducePow, Nat.reduceDiv, Nat.reduceMod, awp_dr, h8, hln, i1, i2', i3]
                                                            | (with_reducible refine cdB_dec (fun hp hq => ?_) (fun hp hq => ?_) <;> first | (clear hq; refine False.elim ?_; omega) | (simp only [hq]; clear hq) | clear hq)
                                                            | (with_reducible refine gB_dec (fun hp hq => ?_) (fun hp hq => ?_) <;> first | (clear hq; refine False.elim ?_; omega) | (simp only [hq]; clear hq) | clear hq)
                                                            | (with_reducible refine gB_ndec (fun hp hq => ?_) (fun hp hq => ?_) <;> first | (clear hq; refine False.elim ?_; omega) | (simp only [hq]; clear hq) | clear hq)
                                                            | (with_reducible refine And.intro ?_ ?_; omega)
      rw [awp_bk]
      repeat' first
                                                            | (simp -implicitDefEqProofs (disch := omega) only [push_cast, ↓reduceIte, Nat.reduceEqDiff, reduceCtorEq, Nat.reduceAdd, Nat.reduceMul, Nat.reduceSub, Nat.reduceLT, Nat.reduceLeDiff, Int.reduceLT, Int.reduceLE, Int.reduceEq, Int.reduceNe, Int.reduceNeg, Int.reduceAdd, Int.reduceSub, Int.reduceMul, Int.reduceToNat, Nat.reducePow, Int.reducePow, Nat.reduceDiv, Nat.reduceMod, awp_dr, h8, hln, i1, i2', i3]; done)
                                                            | simp -implicitDefEqProofs (disch := omega) only [push_cast, ↓reduceIte, Nat.reduceEqDiff, reduceCtorEq, Nat.reduceAdd, Nat.reduceMul, Nat.reduceSub, Nat.reduceLT, Nat.reduceLeDiff, Int.reduceLT, Int.reduceLE, Int.reduceEq, Int.reduceNe, Int.reduceNeg, Int.reduceAdd, Int.reduceSub, Int.reduceMul, Int.reduceToNat, Nat.reducePow, Int.reducePow, Nat.reduceDiv, Nat.reduceMod, awp_dr, h8, hln, i1, i2', i3]
                                                            | refine hc _ (List.getElem_mem hlt) _ _ _ hw2 hx2 (hVp.hx hw1 hx2) (fun h3 hw3 hx3 => ?_)
                                                            | simp only [hq]
                                                            | (with_reducible refine cdB_dec (fun hp hq => ?_) (fun hp hq => ?_) <;> first | (clear hq; refine False.elim ?_; omega) | (simp only [hq]; clear hq) | clear hq)
                                                            | (with_reducible refine gB_dec (fun hp hq => ?_) (fun hp hq => ?_) <;> first | (clear hq; refine False.elim ?_; omega) | (simp only [hq]; clear hq) | clear hq)
                                                            | (with_reducible refine gB_ndec (fun hp hq => ?_) (fun hp hq => ?_) <;> first | (clear hq; refine False.elim ?_; omega) | (simp only [hq]; clear hq) | clear hq)
                                                            | (with_reducible refine And.intro ?_ ?_; omega)
      refine ⟨_, by omega, i + 1, by omega, rfl, by simp, hml, hw3, hx2.trans hx3, fun j z hj hz => ?_⟩
      by_cases e : j = i
      · subst e; rw [hk] at hz; injection hz with hz; rw [← hz]; exact hq
      · exact hno j z (by omega) hz
    · repeat' first
                                                            | (simp -implicitDefEqProofs (disch := omega) only [push_cast, ↓reduceIte, Nat.reduceEqDiff, reduceCtorEq, Nat.reduceAdd, Nat.reduceMul, Nat.reduceSub, Nat.reduceLT, Nat.reduceLeDiff, Int.reduceLT, Int.reduceLE, Int.reduceEq, Int.reduceNe, Int.reduceNeg, Int.reduceAdd, Int.reduceSub, Int.reduceMul, Int.reduceToNat, Nat.reducePow, Int.reducePow, Nat.reduceDiv, Nat.reduceMod, awp_dr, h8, hln, i1, i2', i3]; done)
                                                            | simp -implicitDefEqProofs (disch := omega) only [push_cast, ↓reduceIte, Nat.reduceEqDiff, reduceCtorEq, Nat.reduceAdd, Nat.reduceMul, Nat.reduceSub, Nat.reduceLT, Nat.reduceLeDiff, Int.reduceLT, Int.reduceLE, Int.reduceEq, Int.reduceNe, Int.reduceNeg, Int.reduceAdd, Int.reduceSub, Int.reduceMul, Int.reduceToNat, Nat.reducePow, Int.reducePow, Nat.reduceDiv, Nat.reduceMod, awp_dr, h8, hln, i1, i2', i3]
                                                            | (with_reducible refine cdB_dec (fun hp hq => ?_) (fun hp hq => ?_) <;> first | (clear hq; refine False.elim ?_; omega) | (simp only [hq]; clear hq) | clear hq)
                                                            | (with_reducible refine gB_dec (fun hp hq => ?_) (fun hp hq => ?_) <;> first | (clear hq; refine False.elim ?_; omega) | (simp only [hq]; clear hq) | clear hq)
                                                            | (with_reducible refine gB_ndec (fun hp hq => ?_) (fun hp hq => ?_) <;> first | (clear hq; refine False.elim ?_; omega) | (simp only [hq]; clear hq) | clear hq)
                                                            | (with_reducible refine And.intro ?_ ?_; omega)
      rw [awp_bk]
      repeat' first
                                                            | (simp -implicitDefEqProofs (disch := omega) only [push_cast, ↓reduceIte, Nat.reduceEqDiff, reduceCtorEq, Nat.reduceAdd, Nat.reduceMul, Nat.reduceSub, Nat.reduceLT, Nat.reduceLeDiff, Int.reduceLT, Int.reduceLE, Int.reduceEq, Int.reduceNe, Int.reduceNeg, Int.reduceAdd, Int.reduceSub, Int.reduceMul, Int.reduceToNat, Nat.reducePow, Int.reducePow, Nat.reduceDiv, Nat.reduceMod, awp_dr, h8, hln, i1, i2', i3]; done)
                                                            | simp -implicitDefEqProofs (disch := omega) only [push_cast, ↓reduceIte, Nat.reduceEqDiff, reduceCtorEq, Nat.reduceAdd, Nat.reduceMul, Nat.reduceSub, Nat.reduceLT, Nat.reduceLeDiff, Int.reduceLT, Int.reduceLE, Int.reduceEq, Int.reduceNe, Int.reduceNeg, Int.reduceAdd, Int.reduceSub, Int.reduceMul, Int.reduceToNat, Nat.reducePow, Int.reducePow, Nat.reduceDiv, Nat.reduceMod, awp_dr, h8, hln, i1, i2', i3]
                                                            | refine hc _ (List.getElem_mem hlt) _ _ _ hw2 hx2 (hVp.hx hw1 hx2) (fun h3 hw3 hx3 => ?_)
                                                            | simp only [hq]
                                                            | (with_reducible refine cdB_dec (fun hp hq => ?_) (fun hp hq => ?_) <;> first | (clear hq; refine False.elim ?_; omega) | (simp only [hq]; clear hq) | clear hq)
                                                            | (with_reducible refine gB_dec (fun hp hq => ?_) (fun hp hq => ?_) <;> first | (clear hq; refine False.elim ?_; omega) | (simp only [hq]; clear hq) | clear hq)
                                                            | (with_reducible refine gB_ndec (fun hp hq => ?_) (fun hp hq => ?_) <;> first | (clear hq; refine False.elim ?_; omega) | (simp only [hq]; clear hq) | clear hq)
                                                            | (with_reducible refine And.intro ?_ ?_; omega)
      exact hT _ _ (by omega) (List.any_eq_true.2 ⟨_, List.getElem_mem hlt, hq⟩) hw3 (hx2.trans hx3)
  · repeat' first
                                                            | (simp -implicitDefEqProofs (disch := omega) only [push_cast, ↓reduceIte, Nat.reduceEqDiff, reduceCtorEq, Nat.reduceAdd, Nat.reduceMul, Nat.reduceSub, Nat.reduceLT, Nat.reduceLeDiff, Int.reduceLT, Int.reduceLE, Int.reduceEq, Int.reduceNe, Int.reduceNeg, Int.reduceAdd, Int.reduceSub, Int.reduceMul, Int.reduceToNat, Nat.reducePow, Int.reducePow, Nat.reduceDiv, Nat.reduceMod, awp_dr, h8, hln]; done)
                                                            | simp -implicitDefEqProofs (disch := omega) only [push_cast, ↓reduceIte, Nat.reduceEqDiff, reduceCtorEq, Nat.reduceAdd, Nat.reduceMul, Nat.reduceSub, Nat.reduceLT, Nat.reduceLeDiff, Int.reduceLT, Int.reduceLE, Int.reduceEq, Int.reduceNe, Int.reduceNeg, Int.reduceAdd, Int.reduceSub, Int.reduceMul, Int.reduceToNat, Nat.reducePow, Int.reducePow, Nat.reduceDiv, Nat.reduceMod, awp_dr, h8, hln]
                                                            | (with_reducible refine cdB_dec (fun hp hq => ?_) (fun hp hq => ?_) <;> first | (clear hq; refine False.elim ?_; omega) | (simp only [hq]; clear hq) | clear hq)
                                                            | (with_reducible refine gB_dec (fun hp hq => ?_) (fun hp hq => ?_) <;> first | (clear hq; refine False.elim ?_; omega) | (simp only [hq]; clear hq) | clear hq)
                                                            | (with_reducible refine gB_ndec (fun hp hq => ?_) (fun hp hq => ?_) <;> first | (clear hq; refine False.elim ?_; omega) | (simp only [hq]; clear hq) | clear hq)
                                                            | (with_reducible refine And.intro ?_ ?_; omega)
    have hi : i = vs.length := by omega
    subst hi
    refine hF _ ?_ hw2 hx2
    cases ha : vs.any q
    · rfl
    · obtain ⟨z, hz, hqz⟩ := List.any_eq_true.1 ha
      obtain ⟨j, hj, rfl⟩ := List.getElem_of_mem hz
      rw [hno j _ hj (List.getElem?_eq_getElem hj)] at hqz; cases hqz
theorem contains_ok {h1 : Heap} {pv cap : AV} {vs : List Vl} {q : Vl → Bool} {R : AV → Heap → Prop} (hl : vs.length ≤ 1048576) (hw1 : HW h1) (hln : lnT (.v pv) = some (.sc (.int .i64 vs.length)))
    (h6 : ∀ i k, vs[i]? = some k → ∃ p, PartAt h1 pv i p ∧ VlAt h1 k p)
    (hc : ∀ z ∈ vs, ∀ b' h' R', HW h' → HX h1 h' → VlAt h' z b' → (∀ h'', HW h'' → HX h' h'' → R' (.sc (.bool (q z))) h'') → ACalls Tryd.prog 52 [b', cap] h' R')
    (hR : ∀ h', HW h' → HX h1 h' → R (.sc (.bool (vs.any q))) h') : ACalls Tryd.prog 51 [pv, .fn (.func 52) [] [cap]] h1 R := by
  refine acalls_body c_impl_datum_ (by simp) ?_
  unfold a_impl_datum_
  repeat' first
                                                            | (simp -implicitDefEqProofs (disch := omega) only [push_cast, ↓reduceIte, Nat.reduceEqDiff, reduceCtorEq, Nat.reduceAdd, Nat.reduceMul, Nat.reduceSub, Nat.reduceLT, Nat.reduceLeDiff, Int.reduceLT, Int.reduceLE, Int.reduceEq, Int.reduceNe, Int.reduceNeg, Int.reduceAdd, Int.reduceSub, Int.reduceMul, Int.reduceToNat, Nat.reducePow, Int.reducePow, Nat.reduceDiv, Nat.reduceMod, awp_dr]; done)
                                                            | simp -implicitDefEqProofs (disch := omega) only [push_cast, ↓reduceIte, Nat.reduceEqDiff, reduceCtorEq, Nat.reduceAdd, Nat.reduceMul, Nat.reduceSub, Nat.reduceLT, Nat.reduceLeDiff, Int.reduceLT, Int.reduceLE, Int.reduceEq, Int.reduceNe, Int.reduceNeg, Int.reduceAdd, Int.reduceSub, Int.reduceMul, Int.reduceToNat, Nat.reducePow, Int.reducePow, Nat.reduceDiv, Nat.reduceMod, awp_dr]
                                                            | refine index_ok hl hw1 hln h6 hc (fun r h' hr hq hw hx => ?_) (fun h' hq hw hx => ?_)
                                                            | (with_reducible refine cdB_dec (fun hp hq => ?_) (fun hp hq => ?_) <;> first | (clear hq; refine False.elim ?_; omega) | (simp only [hq]; clear hq) | clear hq)
                                                            | (with_reducible refine gB_dec (fun hp hq => ?_) (fun hp hq => ?_) <;> first | (clear hq; refine False.elim ?_; omega) | (simp only [hq]; clear hq) | clear hq)
                                                            | (with_reducible refine gB_ndec (fun hp hq => ?_) (fun hp hq => ?_) <;> first | (clear hq; refine False.elim ?_; omega) | (simp only [hq]; clear hq) | clear hq)
                                                            | (with_reducible refine And.intro ?_ ?_; omega)
  · have := hR h' hw hx
    rw [hq] at this
    simpa [hr] using this
  · have := hR h' hw hx
    rw [hq] at this
    exact this
theorem zipAll_rep {g : Ty → Vl → Bool} {t : Ty} : ∀ {vs : List Vl}, zipAll g (List.replicate vs.length t) vs = !vs.any (fun z => !g t z)
  | [] => rfl
  | v :: vs => by simp only [List.length_cons, List.replicate_succ, zipAll, zipAll_rep (vs := vs), List.any_cons]; cases g t v <;> simp
theorem drop_take1 {α : Type} {l : List α} {i : Nat} {k : α} (h : l[i]? = some k) : (l.drop i).take 1 = [k] := by
  have hlt := (List.getElem?_eq_some_iff.1 h).1
  rw [List.drop_eq_getElem_cons hlt]
  rw [List.getElem?_eq_getElem hlt] at h
  injection h with h
  simp [h]
theorem numB_bad {t : Ty} {n : Int} (h : ¬ ((boundsT t).1 ≤ n ∧ n ≤ (boundsT t).2)) : numB t n = false := by
  simp only [numB, decide_eq_false h, Bool.false_and]
theorem chosen_one {t : Ty} {n : Int} {L : Nat} {k : Ty} (h18 : t.kind = 18 → t.kids.length = 2) (hch : t.kind = 15 ∨ t.kind = 17 ∨ t.kind = 18)
    (h : (t.kind = 17 ∧ n = 1 ∧ t.kids[0]? = some k) ∨ (t.kind ≠ 17 ∧ 0 ≤ n ∧ n < (t.kids.length : Int) ∧ t.kids[n.toNat]? = some k)) : numB t n = true ∧ kidTs t n L = [k] := by
  rcases h with ⟨h17, rfl, hk⟩ | ⟨h17, h0, h1, hk⟩
  · refine ⟨by simp [numB, boundsT, h17], ?_⟩
    have := drop_take1 hk
    simpa [kidTs, h17] using this
  · have hc : t.kind = 15 ∨ t.kind = 18 := by omega
    have hd := drop_take1 hk
    rcases hc with hc | hc
    · refine ⟨by simp [numB, boundsT, hc]; omega, ?_⟩
      simpa [kidTs, hc] using hd
    · have := h18 hc
      refine ⟨by simp [numB, boundsT, hc]; omega, ?_⟩
      simpa [kidTs, hc] using hd
theorem chosen_none {t : Ty} {n : Int} (h18 : t.kind = 18 → t.kids.length = 2) (hch : t.kind = 15 ∨ t.kind = 17 ∨ t.kind = 18)
    (h : (t.kind = 17 ∧ n ≠ 0 ∧ n ≠ 1) ∨ (t.kind ≠ 17 ∧ (n < 0 ∨ (t.kids.length : Int) ≤ n))) : numB t n = false := by
  refine numB_bad fun hb => ?_
  rcases h with ⟨h17, h0, h1⟩ | ⟨h17, h0⟩
  · simp [boundsT, h17] at hb; omega
  · rcases (show t.kind = 15 ∨ t.kind = 18 by omega) with hc | hc
    · simp [boundsT, hc] at hb; omega
    · have := h18 hc
      simp [boundsT, hc] at hb; omega
theorem fits_ok : ∀ {f : Nat} {t : Ty} {v : Vl} {a b : AV} {h : Heap} {R : AV → Heap → Prop}, TyOk f t → VlB f v → TyAt h t a → VlAt h v b → (∀ h', HW h' → HX h h' → R (.sc (.bool (fitsF f t v))) h') →
    ACalls Tryd.prog 33 [a, b] h R := by
  intro f
  induction f with
  | zero => intro t v a b h R ht; exact ht.elim
  | succ f ih =>
    intro t v a b h R ht hv hT hV hR
    refine acalls_hw (by kernel_rfl) fun hw => ?_
    obtain ⟨bt, ot, ct, pt, rfl, t1, t2, t3, t4, t5, t6⟩ := hT.facts hw
    obtain ⟨bv, ov, cv, pv, rfl, v1, v2, v3, v4, v5, v6⟩ := hV.facts hw
    obtain ⟨h1, eh1⟩ : ∃ h1 : Heap, h1 = ⟨upd h.m h.nx (some [.ptr bt ot]), h.nx + 1⟩ := ⟨_, rfl⟩
    have hx1 : HX h h1 := eh1 ▸ HX.new h _
    have hw1 : HW h1 := eh1 ▸ hw.new _
    have m1 : h1.m h.nx = some [.ptr bt ot] := by rw [eh1]; exact upd_eq _ _ _
    have t1' := t1 h1 hx1
    have v1' := v1 h1 hx1
    refine acalls_body c_impl_shape_fits (by simp) ?_
    unfold a_impl_shape_fits
    repeat' first
                                                            | (simp -implicitDefEqProofs (disch := omega) only [push_cast, ↓reduceIte, Nat.reduceEqDiff, reduceCtorEq, Nat.reduceAdd, Nat.reduceMul, Nat.reduceSub, Nat.reduceLT, Nat.reduceLeDiff, Int.reduceLT, Int.reduceLE, Int.reduceEq, Int.reduceNe, Int.reduceNeg, Int.reduceAdd, Int.reduceSub, Int.reduceMul, Int.reduceToNat, Nat.reducePow, Int.reducePow, Nat.reduceDiv, Nat.reduceMod, awp_dr, newVarT_1, newH_eq, ← eh1, m1, t1', v1', t2, v2, v3, v4, v5]; done)
                                                            | simp -implicitDefEqProofs (disch := omega) only [push_cast, ↓reduceIte, Nat.reduceEqDiff, reduceCtorEq, Nat.reduceAdd, Nat.reduceMul, Nat.reduceSub, Nat.reduceLT, Nat.reduceLeDiff, Int.reduceLT, Int.reduceLE, Int.reduceEq, Int.reduceNe, Int.reduceNeg, Int.reduceAdd, Int.reduceSub, Int.reduceMul, Int.reduceToNat, Nat.reducePow, Int.reducePow, Nat.reduceDiv, Nat.reduceMod, awp_dr, newVarT_1, newH_eq, ← eh1, m1, t1', v1', t2, v2, v3, v4, v5]
                                                            | refine textOk_ok (by have := hv.2.1; omega) ?_
                                                            | refine chosen_ok hw1 (hT.hx hw hx1) ?_
                                                            | (with_reducible refine cdB_dec (fun hp hq => ?_) (fun hp hq => ?_) <;> first | (clear hq; refine False.elim ?_; omega) | (simp only [hq]; clear hq) | clear hq)
                                                            | (with_reducible refine gB_dec (fun hp hq => ?_) (fun hp hq => ?_) <;> first | (clear hq; refine False.elim ?_; omega) | (simp only [hq]; clear hq) | clear hq)
                                                            | (with_reducible refine gB_ndec (fun hp hq => ?_) (fun hp hq => ?_) <;> first | (clear hq; refine False.elim ?_; omega) | (simp only [hq]; clear hq) | clear hq)
                                                            | (with_reducible refine And.intro ?_ ?_; omega)
    · have e : fitsF (f + 1) t v = (okPts 1 v.text && decide (v.text.length ≤ 200)) := by
        have hk0 : v.kids.length = 0 := by omega
        have hk12 : t.kind = 12 := by assumption
        simp [fitsF, numOk, boundsT, kidTs, hk12, zipAll_nil, hk0, show v.n = 0 by assumption]
      rw [← e]; exact hR h1 hw1 hx1
    · have e : fitsF (f + 1) t v = false := by
        have hk0 : ¬ v.kids.length = 0 := by omega
        have hk12 : t.kind = 12 := by assumption
        simp [fitsF, kidTs, hk12, zipAll_nil, hk0]
      rw [← e]; exact hR h1 hw1 hx1
    · have e : fitsF (f + 1) t v = false := by
        have hk12 : t.kind = 12 := by assumption
        have : ¬ (0 ≤ v.n ∧ v.n ≤ 0) := by omega
        simp [fitsF, numOk, boundsT, hk12, this]
      rw [← e]; exact hR h1 hw1 hx1
    · have h12 : ¬ t.kind = 12 := by assumption
      have hfe : fitsF (f + 1) t v = (numB t v.n && zipAll (fitsF f) (kidTs t v.n v.kids.length) v.kids) := by
        simp [fitsF, numOk, numB, h12, hp]
      rw [hfe] at hR
      have hT1 := hT.hx hw hx1
      have hlen := ht.len
      have hrg := ht.range
      have hk17 : t.kind = 17 → t.kids.length = 1 := fun e => by rw [e] at hlen; simp [shapeK] at hlen; omega
      have hk13 : t.kind = 13 → t.kids.length = 1 := fun e => by rw [e] at hlen; simp [shapeK] at hlen; omega
      have hk18 : t.kind = 18 → t.kids.length = 2 := fun e => by rw [e] at hlen; simp [shapeK] at hlen; omega
      have hR1 : ∀ b, b = (numB t v.n && zipAll (fitsF f) (kidTs t v.n v.kids.length) v.kids) → R (.sc (.bool b)) h1 := fun b e => e ▸ hR h1 hw1 hx1
      have hR2 : ∀ b h2, b = (numB t v.n && zipAll (fitsF f) (kidTs t v.n v.kids.length) v.kids) → HW h2 → HX h1 h2 → R (.sc (.bool b)) h2 := fun b h2 e hw2 hx2 => e ▸ hR h2 hw2 (hx1.trans hx2)
      rw [awp_bk]
      by_cases hch : t.kind = 15 ∨ t.kind = 17 ∨ t.kind = 18
      · by_cases hk0 : v.kids.length = 0
        · repeat' first
                                                            | (simp -implicitDefEqProofs (disch := omega) only [push_cast, ↓reduceIte, Nat.reduceEqDiff, reduceCtorEq, Nat.reduceAdd, Nat.reduceMul, Nat.reduceSub, Nat.reduceLT, Nat.reduceLeDiff, Int.reduceLT, Int.reduceLE, Int.reduceEq, Int.reduceNe, Int.reduceNeg, Int.reduceAdd, Int.reduceSub, Int.reduceMul, Int.reduceToNat, Nat.reducePow, Int.reducePow, Nat.reduceDiv, Nat.reduceMod, awp_dr, Bool.bne_false, m1, t1', v1', t2, v2, v3, v4, v5]; done)
                                                            | simp -implicitDefEqProofs (disch := omega) only [push_cast, ↓reduceIte, Nat.reduceEqDiff, reduceCtorEq, Nat.reduceAdd, Nat.reduceMul, Nat.reduceSub, Nat.reduceLT, Nat.reduceLeDiff, Int.reduceLT, Int.reduceLE, Int.reduceEq, Int.reduceNe, Int.reduceNeg, Int.reduceAdd, Int.reduceSub, Int.reduceMul, Int.reduceToNat, Nat.reducePow, Int.reducePow, Nat.reduceDiv, Nat.reduceMod, awp_dr, Bool.bne_false, m1, t1', v1', t2, v2, v3, v4, v5]
                                                            | refine chosen_ok hw1 hT1 ?_
                                                            | refine part_ok hw1 hT1 hk17 (fun a1 a2 => ?_) (fun a1 a2 pb po k hk hTp => ?_) (fun a1 a2 => ?_) (fun a1 a2 a3 pb po k hk hTp => ?_)
                                                            | (with_reducible refine cdB_dec (fun hp hq => ?_) (fun hp hq => ?_) <;> first | (clear hq; refine False.elim ?_; omega) | (simp only [hq]; clear hq) | clear hq)
                                                            | (with_reducible refine gB_dec (fun hp hq => ?_) (fun hp hq => ?_) <;> first | (clear hq; refine False.elim ?_; omega) | (simp only [hq]; clear hq) | clear hq)
                                                            | (with_reducible refine gB_ndec (fun hp hq => ?_) (fun hp hq => ?_) <;> first | (clear hq; refine False.elim ?_; omega) | (simp only [hq]; clear hq) | clear hq)
                                                            | (with_reducible refine And.intro ?_ ?_; omega)
          · refine hR1 _ ?_
            rw [a2]; simp [numB, boundsT, kidTs, a1, zipAll_nil]
          · refine hR1 _ ?_
            obtain ⟨e1, e2⟩ := chosen_one (n := v.n) (L := v.kids.length) hk18 hch (.inl ⟨a1, by assumption, hk⟩)
            rw [e1, e2, zipAll_ne (by simp; omega), Bool.and_false]
          · refine hR1 _ ?_
            rw [chosen_none hk18 hch (.inl ⟨a1, a2, hp⟩), Bool.false_and]
          · refine hR1 _ ?_
            rw [chosen_none hk18 hch (.inr ⟨a1, a2⟩), Bool.false_and]
          · refine hR1 _ ?_
            obtain ⟨e1, e2⟩ := chosen_one (n := v.n) (L := v.kids.length) hk18 hch (.inr ⟨a1, a2, a3, hk⟩)
            rw [e1, e2, zipAll_ne (by simp; omega), Bool.and_false]
        · have hz0 : v.kids[0]? = some v.kids[0] := List.getElem?_eq_getElem (by omega)
          obtain ⟨pz, ⟨n, o, cs, i1, i2, i3⟩, hVz⟩ := v6 0 _ hz0
          replace i1 : ∀ k m, ixT 1 m (.v pv) (.v (.sc (.int k 0))) = some (.v (.ptr n o)) := i1
          have i2' := i2 h1 hx1
          obtain ⟨zb, zo, rfl⟩ := hVz.ptr
          repeat' first
                                                            | (simp -implicitDefEqProofs (disch := omega) only [push_cast, ↓reduceIte, Nat.reduceEqDiff, reduceCtorEq, Nat.reduceAdd, Nat.reduceMul, Nat.reduceSub, Nat.reduceLT, Nat.reduceLeDiff, Int.reduceLT, Int.reduceLE, Int.reduceEq, Int.reduceNe, Int.reduceNeg, Int.reduceAdd, Int.reduceSub, Int.reduceMul, Int.reduceToNat, Nat.reducePow, Int.reducePow, Nat.reduceDiv, Nat.reduceMod, awp_dr, Bool.bne_false, m1, t1', v1', t2, v2, v3, v4, v5, i1, i2', i3]; done)
                                                            | simp -implicitDefEqProofs (disch := omega) only [push_cast, ↓reduceIte, Nat.reduceEqDiff, reduceCtorEq, Nat.reduceAdd, Nat.reduceMul, Nat.reduceSub, Nat.reduceLT, Nat.reduceLeDiff, Int.reduceLT, Int.reduceLE, Int.reduceEq, Int.reduceNe, Int.reduceNeg, Int.reduceAdd, Int.reduceSub, Int.reduceMul, Int.reduceToNat, Nat.reducePow, Int.reducePow, Nat.reduceDiv, Nat.reduceMod, awp_dr, Bool.bne_false, m1, t1', v1', t2, v2, v3, v4, v5, i1, i2', i3]
                                                            | refine chosen_ok hw1 hT1 ?_
                                                            | refine part_ok hw1 hT1 hk17 (fun a1 a2 => ?_) (fun a1 a2 pb po k hk hTp => ?_) (fun a1 a2 => ?_) (fun a1 a2 a3 pb po k hk hTp => ?_)
                                                            | refine ih (ht.kid (List.mem_of_getElem? hk)) (hv.kid (List.mem_of_getElem? hz0)) hTp (hVz.hx hw hx1) (fun h2 hw2 hx2 => ?_)
                                                            | (with_reducible refine cdB_dec (fun hp hq => ?_) (fun hp hq => ?_) <;> first | (clear hq; refine False.elim ?_; omega) | (simp only [hq]; clear hq) | clear hq)
                                                            | (with_reducible refine gB_dec (fun hp hq => ?_) (fun hp hq => ?_) <;> first | (clear hq; refine False.elim ?_; omega) | (simp only [hq]; clear hq) | clear hq)
                                                            | (with_reducible refine gB_ndec (fun hp hq => ?_) (fun hp hq => ?_) <;> first | (clear hq; refine False.elim ?_; omega) | (simp only [hq]; clear hq) | clear hq)
                                                            | (with_reducible refine And.intro ?_ ?_; omega)
          · refine hR1 _ ?_
            rw [a2]; simp [numB, boundsT, kidTs, a1, zipAll_nil]
          · refine hR2 _ _ ?_ hw2 hx2
            obtain ⟨e1, e2⟩ := chosen_one (n := v.n) (L := v.kids.length) hk18 hch (.inl ⟨a1, by assumption, hk⟩)
            rw [e1, e2, zipAll_one hz0, Bool.true_and, show decide (v.kids.length = 1) = true by simp; omega, Bool.true_and]
          · refine hR1 _ ?_
            obtain ⟨e1, e2⟩ := chosen_one (n := v.n) (L := v.kids.length) hk18 hch (.inl ⟨a1, by assumption, hk⟩)
            rw [e1, e2, zipAll_ne (by simp; omega), Bool.and_false]
          · refine hR1 _ ?_
            rw [chosen_none hk18 hch (.inl ⟨a1, a2, hp⟩), Bool.false_and]
          · refine hR1 _ ?_
            rw [chosen_none hk18 hch (.inr ⟨a1, a2⟩), Bool.false_and]
          · refine hR2 _ _ ?_ hw2 hx2
            obtain ⟨e1, e2⟩ := chosen_one (n := v.n) (L := v.kids.length) hk18 hch (.inr ⟨a1, a2, a3, hk⟩)
            rw [e1, e2, zipAll_one hz0, Bool.true_and, show decide (v.kids.length = 1) = true by simp; omega, Bool.true_and]
          · refine hR1 _ ?_
            obtain ⟨e1, e2⟩ := chosen_one (n := v.n) (L := v.kids.length) hk18 hch (.inr ⟨a1, a2, a3, hk⟩)
            rw [e1, e2, zipAll_ne (by simp; omega), Bool.and_false]
      · have hd : decide (t.kind = 15 ∨ t.kind = 17 ∨ t.kind = 18) = false := by simp only [hch, decide_false]
        by_cases h13 : t.kind = 13
        · obtain ⟨k0, hk0⟩ : ∃ k0, t.kids[0]? = some k0 := ⟨_, List.getElem?_eq_getElem (by rw [hk13 h13]; decide)⟩
          obtain ⟨p0, ⟨n, o, cs, i1, i2, i3⟩, hTp⟩ := t6 0 _ hk0
          replace i1 : ∀ k m, ixT 1 m (.v pt) (.v (.sc (.int k 0))) = some (.v (.ptr n o)) := i1
          have hclo : ∀ z ∈ v.kids, ∀ b' h' R', HW h' → HX h1 h' → VlAt h' z b' → (∀ h'', HW h'' → HX h' h'' → R' (.sc (.bool (!fitsF f k0 z))) h'') → ACalls Tryd.prog 52 [b', .ptr h.nx 0] h' R' := by
            intro z hz b' h' R' hw' hx' hVz hR'
            have n1 := hx'.get hw1 m1
            have n2 := t1 h' (hx1.trans hx')
            have n3 := i2 h' (hx1.trans hx')
            refine acalls_body c_impl_shape_fits_1 (by simp) ?_
            unfold a_impl_shape_fits_1
            obtain ⟨zb, zo, rfl⟩ := hVz.ptr
            obtain ⟨pb, po, rfl⟩ := hTp.ptr
            repeat' first
                                                            | (simp -implicitDefEqProofs (disch := omega) only [push_cast, ↓reduceIte, Nat.reduceEqDiff, reduceCtorEq, Nat.reduceAdd, Nat.reduceMul, Nat.reduceSub, Nat.reduceLT, Nat.reduceLeDiff, Int.reduceLT, Int.reduceLE, Int.reduceEq, Int.reduceNe, Int.reduceNeg, Int.reduceAdd, Int.reduceSub, Int.reduceMul, Int.reduceToNat, Nat.reducePow, Int.reducePow, Nat.reduceDiv, Nat.reduceMod, awp_dr, n1, n2, n3, t4, i1, i3]; done)
                                                            | simp -implicitDefEqProofs (disch := omega) only [push_cast, ↓reduceIte, Nat.reduceEqDiff, reduceCtorEq, Nat.reduceAdd, Nat.reduceMul, Nat.reduceSub, Nat.reduceLT, Nat.reduceLeDiff, Int.reduceLT, Int.reduceLE, Int.reduceEq, Int.reduceNe, Int.reduceNeg, Int.reduceAdd, Int.reduceSub, Int.reduceMul, Int.reduceToNat, Nat.reducePow, Int.reducePow, Nat.reduceDiv, Nat.reduceMod, awp_dr, n1, n2, n3, t4, i1, i3]
                                                            | refine ih (ht.kid (List.mem_of_getElem? hk0)) (hv.kid hz) (hTp.hx hw (hx1.trans hx')) hVz (fun h2 hw2 hx2 => ?_)
                                                            | (with_reducible refine cdB_dec (fun hp hq => ?_) (fun hp hq => ?_) <;> first | (clear hq; refine False.elim ?_; omega) | (simp only [hq]; clear hq) | clear hq)
                                                            | (with_reducible refine gB_dec (fun hp hq => ?_) (fun hp hq => ?_) <;> first | (clear hq; refine False.elim ?_; omega) | (simp only [hq]; clear hq) | clear hq)
                                                            | (with_reducible refine gB_ndec (fun hp hq => ?_) (fun hp hq => ?_) <;> first | (clear hq; refine False.elim ?_; omega) | (simp only [hq]; clear hq) | clear hq)
                                                            | (with_reducible refine And.intro ?_ ?_; omega)
            exact hR' h2 hw2 hx2
          repeat' first
                                                            | (simp -implicitDefEqProofs (disch := omega) only [push_cast, ↓reduceIte, Nat.reduceEqDiff, reduceCtorEq, Nat.reduceAdd, Nat.reduceMul, Nat.reduceSub, Nat.reduceLT, Nat.reduceLeDiff, Int.reduceLT, Int.reduceLE, Int.reduceEq, Int.reduceNe, Int.reduceNeg, Int.reduceAdd, Int.reduceSub, Int.reduceMul, Int.reduceToNat, Nat.reducePow, Int.reducePow, Nat.reduceDiv, Nat.reduceMod, awp_dr, hd, m1, t1', v1', t2, v2, v3, v4, v5]; done)
                                                            | simp -implicitDefEqProofs (disch := omega) only [push_cast, ↓reduceIte, Nat.reduceEqDiff, reduceCtorEq, Nat.reduceAdd, Nat.reduceMul, Nat.reduceSub, Nat.reduceLT, Nat.reduceLeDiff, Int.reduceLT, Int.reduceLE, Int.reduceEq, Int.reduceNe, Int.reduceNeg, Int.reduceAdd, Int.reduceSub, Int.reduceMul, Int.reduceToNat, Nat.reducePow, Int.reducePow, Nat.reduceDiv, Nat.reduceMod, awp_dr, hd, m1, t1', v1', t2, v2, v3, v4, v5]
                                                            | refine chosen_ok hw1 hT1 ?_
                                                            | refine contains_ok (vs := v.kids) (q := fun z => !fitsF f k0 z) hv.1 hw1 v5 (fun i k e => by obtain ⟨p, hp1, hp2⟩ := v6 i k e; exact ⟨p, hp1.hx hx1, hp2.hx hw hx1⟩) hclo (fun h2 hw2 hx2 => ?_)
                                                            | (with_reducible refine cdB_dec (fun hp hq => ?_) (fun hp hq => ?_) <;> first | (clear hq; refine False.elim ?_; omega) | (simp only [hq]; clear hq) | clear hq)
                                                            | (with_reducible refine gB_dec (fun hp hq => ?_) (fun hp hq => ?_) <;> first | (clear hq; refine False.elim ?_; omega) | (simp only [hq]; clear hq) | clear hq)
                                                            | (with_reducible refine gB_ndec (fun hp hq => ?_) (fun hp hq => ?_) <;> first | (clear hq; refine False.elim ?_; omega) | (simp only [hq]; clear hq) | clear hq)
                                                            | (with_reducible refine And.intro ?_ ?_; omega)
          · refine hR2 _ _ ?_ hw2 hx2
            have e1 : kidTs t v.n v.kids.length = List.replicate v.kids.length k0 := by
              have : t.kids.headD default = k0 := by cases hh : t.kids with
                | nil => rw [hh] at hk0; cases hk0
                | cons a r => rw [hh] at hk0; simpa using hk0
              rw [kidTs, if_pos h13, this]
            rw [e1, zipAll_rep]
            simp [numB, boundsT, h13, hp]
          · refine hR1 _ ?_
            rw [numB_bad (by simp [boundsT, h13]; omega), Bool.false_and]
        by_cases h14 : t.kind = 14
        · have e1 : kidTs t v.n v.kids.length = t.kids := by simp [kidTs, h14]
          rw [e1] at hR1 hR2
          by_cases hn0 : v.n = 0
          · have hn0d : decide (v.n = 0) = true := decide_eq_true hn0
            have e2 : numB t v.n = true := by simp [numB, boundsT, h14, hn0]
            rw [e2] at hR1 hR2
            by_cases hl : v.kids.length = t.kids.length
            · have hld : decide ((v.kids.length : Int) = (t.kids.length : Int)) = true := by simp; omega
              repeat' first
                                                            | (simp -implicitDefEqProofs (disch := omega) only [push_cast, ↓reduceIte, Nat.reduceEqDiff, reduceCtorEq, Nat.reduceAdd, Nat.reduceMul, Nat.reduceSub, Nat.reduceLT, Nat.reduceLeDiff, Int.reduceLT, Int.reduceLE, Int.reduceEq, Int.reduceNe, Int.reduceNeg, Int.reduceAdd, Int.reduceSub, Int.reduceMul, Int.reduceToNat, Nat.reducePow, Int.reducePow, Nat.reduceDiv, Nat.reduceMod, awp_dr, hd, m1, t1', v1', t2, v2, v3, v4, v5, t4, t5, hn0d, hld, Bool.not_true]; done)
                                                            | simp -implicitDefEqProofs (disch := omega) only [push_cast, ↓reduceIte, Nat.reduceEqDiff, reduceCtorEq, Nat.reduceAdd, Nat.reduceMul, Nat.reduceSub, Nat.reduceLT, Nat.reduceLeDiff, Int.reduceLT, Int.reduceLE, Int.reduceEq, Int.reduceNe, Int.reduceNeg, Int.reduceAdd, Int.reduceSub, Int.reduceMul, Int.reduceToNat, Nat.reducePow, Int.reducePow, Nat.reduceDiv, Nat.reduceMod, awp_dr, hd, m1, t1', v1', t2, v2, v3, v4, v5, t4, t5, hn0d, hld, Bool.not_true]
                                                            | refine chosen_ok hw1 hT1 ?_
                                                            | (with_reducible refine cdB_dec (fun hp hq => ?_) (fun hp hq => ?_) <;> first | (clear hq; refine False.elim ?_; omega) | (simp only [hq]; clear hq) | clear hq)
                                                            | (with_reducible refine gB_dec (fun hp hq => ?_) (fun hp hq => ?_) <;> first | (clear hq; refine False.elim ?_; omega) | (simp only [hq]; clear hq) | clear hq)
                                                            | (with_reducible refine gB_ndec (fun hp hq => ?_) (fun hp hq => ?_) <;> first | (clear hq; refine False.elim ?_; omega) | (simp only [hq]; clear hq) | clear hq)
                                                            | (with_reducible refine And.intro ?_ ?_; omega)
              rw [awp_bk]
              refine awp_lpW 89201619664654808812289019592163718951076240 (fun d u m => ∃ i : Nat, i ≤ v.kids.length ∧ d = v.kids.length - i ∧ u 130 = .v (.sc (.int .i64 i)) ∧ HW m.h ∧ HX h1 m.h ∧
                zipAll (fitsF f) (t.kids.drop i) (v.kids.drop i) = zipAll (fitsF f) t.kids v.kids) v.kids.length (by kernel_rfl) ?_ ?_
              · exact ⟨0, Nat.zero_le _, rfl, rfl, hw1, HX.refl _, rfl⟩
              rintro d u ⟨ml', mc', mh'⟩ ⟨i, hi, rfl, h73, hw', hx', hz⟩
              simp only at hw' hx'
              have n1 := hx'.get hw1 m1
              have n2 := t1 mh' (hx1.trans hx')
              have n3 := v1 mh' (hx1.trans hx')
              have hkv8 := hv.1
              by_cases hlt : i < v.kids.length
              · have hy : t.kids[i]? = some t.kids[i] := List.getElem?_eq_getElem (by omega)
                have hzz : v.kids[i]? = some v.kids[i] := List.getElem?_eq_getElem hlt
                obtain ⟨pa, ⟨na, oa, ca, i1, i2, i3⟩, hTp⟩ := t6 i _ hy
                obtain ⟨pz, ⟨nz, oz, cz, j1, j2, j3⟩, hVz⟩ := v6 i _ hzz
                have i2' := i2 mh' (hx1.trans hx')
                have j2' := j2 mh' (hx1.trans hx')
                obtain ⟨zb, zo, rfl⟩ := hVz.ptr
                obtain ⟨pb, po, rfl⟩ := hTp.ptr
                rw [drop_get hy, drop_get hzz, zipAll] at hz
                repeat' first
                                                            | (simp -implicitDefEqProofs (disch := omega) only [push_cast, ↓reduceIte, Nat.reduceEqDiff, reduceCtorEq, Nat.reduceAdd, Nat.reduceMul, Nat.reduceSub, Nat.reduceLT, Nat.reduceLeDiff, Int.reduceLT, Int.reduceLE, Int.reduceEq, Int.reduceNe, Int.reduceNeg, Int.reduceAdd, Int.reduceSub, Int.reduceMul, Int.reduceToNat, Nat.reducePow, Int.reducePow, Nat.reduceDiv, Nat.reduceMod, awp_dr, h73, n1, n2, n3, t4, v4, v5, i1, i2', i3, j1, j2', j3]; done)
                                                            | simp -implicitDefEqProofs (disch := omega) only [push_cast, ↓reduceIte, Nat.reduceEqDiff, reduceCtorEq, Nat.reduceAdd, Nat.reduceMul, Nat.reduceSub, Nat.reduceLT, Nat.reduceLeDiff, Int.reduceLT, Int.reduceLE, Int.reduceEq, Int.reduceNe, Int.reduceNeg, Int.reduceAdd, Int.reduceSub, Int.reduceMul, Int.reduceToNat, Nat.reducePow, Int.reducePow, Nat.reduceDiv, Nat.reduceMod, awp_dr, h73, n1, n2, n3, t4, v4, v5, i1, i2', i3, j1, j2', j3]
                                                            | (with_reducible refine cdB_dec (fun hp hq => ?_) (fun hp hq => ?_) <;> first | (clear hq; refine False.elim ?_; omega) | (simp only [hq]; clear hq) | clear hq)
                                                            | (with_reducible refine gB_dec (fun hp hq => ?_) (fun hp hq => ?_) <;> first | (clear hq; refine False.elim ?_; omega) | (simp only [hq]; clear hq) | clear hq)
                                                            | (with_reducible refine gB_ndec (fun hp hq => ?_) (fun hp hq => ?_) <;> first | (clear hq; refine False.elim ?_; omega) | (simp only [hq]; clear hq) | clear hq)
                                                            | (with_reducible refine And.intro ?_ ?_; omega)
                rw [awp_bk]
                cases hf : fitsF f t.kids[i] v.kids[i]
                · rw [hf, Bool.false_and] at hz
                  repeat' first
                                                            | (simp -implicitDefEqProofs (disch := omega) only [push_cast, ↓reduceIte, Nat.reduceEqDiff, reduceCtorEq, Nat.reduceAdd, Nat.reduceMul, Nat.reduceSub, Nat.reduceLT, Nat.reduceLeDiff, Int.reduceLT, Int.reduceLE, Int.reduceEq, Int.reduceNe, Int.reduceNeg, Int.reduceAdd, Int.reduceSub, Int.reduceMul, Int.reduceToNat, Nat.reducePow, Int.reducePow, Nat.reduceDiv, Nat.reduceMod, awp_dr, h73, n1, n2, n3, t4, v4, v5, i1, i2', i3, j1, j2', j3, hf]; done)
                                                            | simp -implicitDefEqProofs (disch := omega) only [push_cast, ↓reduceIte, Nat.reduceEqDiff, reduceCtorEq, Nat.reduceAdd, Nat.reduceMul, Nat.reduceSub, Nat.reduceLT, Nat.reduceLeDiff, Int.reduceLT, Int.reduceLE, Int.reduceEq, Int.reduceNe, Int.reduceNeg, Int.reduceAdd, Int.reduceSub, Int.reduceMul, Int.reduceToNat, Nat.reducePow, Int.reducePow, Nat.reduceDiv, Nat.reduceMod, awp_dr, h73, n1, n2, n3, t4, v4, v5, i1, i2', i3, j1, j2', j3, hf]
                                                            | refine ih (ht.kid (List.mem_of_getElem? hy)) (hv.kid (List.mem_of_getElem? hzz)) (hTp.hx hw (hx1.trans hx')) (hVz.hx hw (hx1.trans hx')) (fun h2 hw2 hx2 => ?_)
                                                            | (with_reducible refine cdB_dec (fun hp hq => ?_) (fun hp hq => ?_) <;> first | (clear hq; refine False.elim ?_; omega) | (simp only [hq]; clear hq) | clear hq)
                                                            | (with_reducible refine gB_dec (fun hp hq => ?_) (fun hp hq => ?_) <;> first | (clear hq; refine False.elim ?_; omega) | (simp only [hq]; clear hq) | clear hq)
                                                            | (with_reducible refine gB_ndec (fun hp hq => ?_) (fun hp hq => ?_) <;> first | (clear hq; refine False.elim ?_; omega) | (simp only [hq]; clear hq) | clear hq)
                                                            | (with_reducible refine And.intro ?_ ?_; omega)
                  refine hR2 _ _ ?_ hw2 (hx'.trans hx2)
                  rw [← hz]; rfl
                · rw [hf, Bool.true_and] at hz
                  repeat' first
                                                            | (simp -implicitDefEqProofs (disch := omega) only [push_cast, ↓reduceIte, Nat.reduceEqDiff, reduceCtorEq, Nat.reduceAdd, Nat.reduceMul, Nat.reduceSub, Nat.reduceLT, Nat.reduceLeDiff, Int.reduceLT, Int.reduceLE, Int.reduceEq, Int.reduceNe, Int.reduceNeg, Int.reduceAdd, Int.reduceSub, Int.reduceMul, Int.reduceToNat, Nat.reducePow, Int.reducePow, Nat.reduceDiv, Nat.reduceMod, awp_dr, h73, n1, n2, n3, t4, v4, v5, i1, i2', i3, j1, j2', j3, hf]; done)
                                                            | simp -implicitDefEqProofs (disch := omega) only [push_cast, ↓reduceIte, Nat.reduceEqDiff, reduceCtorEq, Nat.reduceAdd, Nat.reduceMul, Nat.reduceSub, Nat.reduceLT, Nat.reduceLeDiff, Int.reduceLT, Int.reduceLE, Int.reduceEq, Int.reduceNe, Int.reduceNeg, Int.reduceAdd, Int.reduceSub, Int.reduceMul, Int.reduceToNat, Nat.reducePow, Int.reducePow, Nat.reduceDiv, Nat.reduceMod, awp_dr, h73, n1, n2, n3, t4, v4, v5, i1, i2', i3, j1, j2', j3, hf]
                                                            | refine ih (ht.kid (List.mem_of_getElem? hy)) (hv.kid (List.mem_of_getElem? hzz)) (hTp.hx hw (hx1.trans hx')) (hVz.hx hw (hx1.trans hx')) (fun h2 hw2 hx2 => ?_)
                                                            | (with_reducible refine cdB_dec (fun hp hq => ?_) (fun hp hq => ?_) <;> first | (clear hq; refine False.elim ?_; omega) | (simp only [hq]; clear hq) | clear hq)
                                                            | (with_reducible refine gB_dec (fun hp hq => ?_) (fun hp hq => ?_) <;> first | (clear hq; refine False.elim ?_; omega) | (simp only [hq]; clear hq) | clear hq)
                                                            | (with_reducible refine gB_ndec (fun hp hq => ?_) (fun hp hq => ?_) <;> first | (clear hq; refine False.elim ?_; omega) | (simp only [hq]; clear hq) | clear hq)
                                                            | (with_reducible refine And.intro ?_ ?_; omega)
                  exact ⟨_, by omega, i + 1, hlt, rfl, by simp, hw2, hx'.trans hx2, hz⟩
              · have hi : i = v.kids.length := by omega
                subst hi
                rw [List.drop_of_length_le (by omega), List.drop_length, zipAll] at hz
                repeat' first
                                                            | (simp -implicitDefEqProofs (disch := omega) only [push_cast, ↓reduceIte, Nat.reduceEqDiff, reduceCtorEq, Nat.reduceAdd, Nat.reduceMul, Nat.reduceSub, Nat.reduceLT, Nat.reduceLeDiff, Int.reduceLT, Int.reduceLE, Int.reduceEq, Int.reduceNe, Int.reduceNeg, Int.reduceAdd, Int.reduceSub, Int.reduceMul, Int.reduceToNat, Nat.reducePow, Int.reducePow, Nat.reduceDiv, Nat.reduceMod, awp_dr, h73, v5]; done)
                                                            | simp -implicitDefEqProofs (disch := omega) only [push_cast, ↓reduceIte, Nat.reduceEqDiff, reduceCtorEq, Nat.reduceAdd, Nat.reduceMul, Nat.reduceSub, Nat.reduceLT, Nat.reduceLeDiff, Int.reduceLT, Int.reduceLE, Int.reduceEq, Int.reduceNe, Int.reduceNeg, Int.reduceAdd, Int.reduceSub, Int.reduceMul, Int.reduceToNat, Nat.reducePow, Int.reducePow, Nat.reduceDiv, Nat.reduceMod, awp_dr, h73, v5]
                                                            | (with_reducible refine cdB_dec (fun hp hq => ?_) (fun hp hq => ?_) <;> first | (clear hq; refine False.elim ?_; omega) | (simp only [hq]; clear hq) | clear hq)
                                                            | (with_reducible refine gB_dec (fun hp hq => ?_) (fun hp hq => ?_) <;> first | (clear hq; refine False.elim ?_; omega) | (simp only [hq]; clear hq) | clear hq)
                                                            | (with_reducible refine gB_ndec (fun hp hq => ?_) (fun hp hq => ?_) <;> first | (clear hq; refine False.elim ?_; omega) | (simp only [hq]; clear hq) | clear hq)
                                                            | (with_reducible refine And.intro ?_ ?_; omega)
                refine hR2 _ _ ?_ hw' hx'
                rw [← hz]; rfl
            · have hld : decide ((v.kids.length : Int) = (t.kids.length : Int)) = false := by simp; omega
              repeat' first
                                                            | (simp -implicitDefEqProofs (disch := omega) only [push_cast, ↓reduceIte, Nat.reduceEqDiff, reduceCtorEq, Nat.reduceAdd, Nat.reduceMul, Nat.reduceSub, Nat.reduceLT, Nat.reduceLeDiff, Int.reduceLT, Int.reduceLE, Int.reduceEq, Int.reduceNe, Int.reduceNeg, Int.reduceAdd, Int.reduceSub, Int.reduceMul, Int.reduceToNat, Nat.reducePow, Int.reducePow, Nat.reduceDiv, Nat.reduceMod, awp_dr, hd, m1, t1', v1', t2, v2, v3, v4, v5, t4, t5, hn0d, hld, Bool.not_true, Bool.not_false]; done)
                                                            | simp -implicitDefEqProofs (disch := omega) only [push_cast, ↓reduceIte, Nat.reduceEqDiff, reduceCtorEq, Nat.reduceAdd, Nat.reduceMul, Nat.reduceSub, Nat.reduceLT, Nat.reduceLeDiff, Int.reduceLT, Int.reduceLE, Int.reduceEq, Int.reduceNe, Int.reduceNeg, Int.reduceAdd, Int.reduceSub, Int.reduceMul, Int.reduceToNat, Nat.reducePow, Int.reducePow, Nat.reduceDiv, Nat.reduceMod, awp_dr, hd, m1, t1', v1', t2, v2, v3, v4, v5, t4, t5, hn0d, hld, Bool.not_true, Bool.not_false]
                                                            | refine chosen_ok hw1 hT1 ?_
                                                            | (with_reducible refine cdB_dec (fun hp hq => ?_) (fun hp hq => ?_) <;> first | (clear hq; refine False.elim ?_; omega) | (simp only [hq]; clear hq) | clear hq)
                                                            | (with_reducible refine gB_dec (fun hp hq => ?_) (fun hp hq => ?_) <;> first | (clear hq; refine False.elim ?_; omega) | (simp only [hq]; clear hq) | clear hq)
                                                            | (with_reducible refine gB_ndec (fun hp hq => ?_) (fun hp hq => ?_) <;> first | (clear hq; refine False.elim ?_; omega) | (simp only [hq]; clear hq) | clear hq)
                                                            | (with_reducible refine And.intro ?_ ?_; omega)
              refine hR1 _ ?_
              rw [zipAll_ne (by omega), Bool.and_false]
          · have hn0d : decide (v.n = 0) = false := decide_eq_false hn0
            repeat' first
                                                            | (simp -implicitDefEqProofs (disch := omega) only [push_cast, ↓reduceIte, Nat.reduceEqDiff, reduceCtorEq, Nat.reduceAdd, Nat.reduceMul, Nat.reduceSub, Nat.reduceLT, Nat.reduceLeDiff, Int.reduceLT, Int.reduceLE, Int.reduceEq, Int.reduceNe, Int.reduceNeg, Int.reduceAdd, Int.reduceSub, Int.reduceMul, Int.reduceToNat, Nat.reducePow, Int.reducePow, Nat.reduceDiv, Nat.reduceMod, awp_dr, hd, m1, t1', v1', t2, v2, v3, v4, v5, t4, t5, hn0d, Bool.not_false]; done)
                                                            | simp -implicitDefEqProofs (disch := omega) only [push_cast, ↓reduceIte, Nat.reduceEqDiff, reduceCtorEq, Nat.reduceAdd, Nat.reduceMul, Nat.reduceSub, Nat.reduceLT, Nat.reduceLeDiff, Int.reduceLT, Int.reduceLE, Int.reduceEq, Int.reduceNe, Int.reduceNeg, Int.reduceAdd, Int.reduceSub, Int.reduceMul, Int.reduceToNat, Nat.reducePow, Int.reducePow, Nat.reduceDiv, Nat.reduceMod, awp_dr, hd, m1, t1', v1', t2, v2, v3, v4, v5, t4, t5, hn0d, Bool.not_false]
                                                            | refine chosen_ok hw1 hT1 ?_
                                                            | (with_reducible refine cdB_dec (fun hp hq => ?_) (fun hp hq => ?_) <;> first | (clear hq; refine False.elim ?_; omega) | (simp only [hq]; clear hq) | clear hq)
                                                            | (with_reducible refine gB_dec (fun hp hq => ?_) (fun hp hq => ?_) <;> first | (clear hq; refine False.elim ?_; omega) | (simp only [hq]; clear hq) | clear hq)
                                                            | (with_reducible refine gB_ndec (fun hp hq => ?_) (fun hp hq => ?_) <;> first | (clear hq; refine False.elim ?_; omega) | (simp only [hq]; clear hq) | clear hq)
                                                            | (with_reducible refine And.intro ?_ ?_; omega)
            refine hR1 _ ?_
            rw [numB_bad (by simp [boundsT, h14]; omega), Bool.false_and]
        · have e1 : kidTs t v.n v.kids.length = [] := by
            rw [kidTs, if_neg h13, if_neg h14, if_neg (by omega), if_neg (by omega)]
          rw [e1, zipAll_nil] at hR1 hR2
          by_cases hk0 : v.kids.length = 0
          · have hk0' : ((v.kids.length : Nat) : Int) = 0 := by omega
            repeat' first
                                                            | (simp -implicitDefEqProofs (disch := omega) only [push_cast, ↓reduceIte, Nat.reduceEqDiff, reduceCtorEq, Nat.reduceAdd, Nat.reduceMul, Nat.reduceSub, Nat.reduceLT, Nat.reduceLeDiff, Int.reduceLT, Int.reduceLE, Int.reduceEq, Int.reduceNe, Int.reduceNeg, Int.reduceAdd, Int.reduceSub, Int.reduceMul, Int.reduceToNat, Nat.reducePow, Int.reducePow, Nat.reduceDiv, Nat.reduceMod, awp_dr, hd, m1, t1', v1', t2, v2, v3, v4, v5, t4, t5, hk0']; done)
                                                            | simp -implicitDefEqProofs (disch := omega) only [push_cast, ↓reduceIte, Nat.reduceEqDiff, reduceCtorEq, Nat.reduceAdd, Nat.reduceMul, Nat.reduceSub, Nat.reduceLT, Nat.reduceLeDiff, Int.reduceLT, Int.reduceLE, Int.reduceEq, Int.reduceNe, Int.reduceNeg, Int.reduceAdd, Int.reduceSub, Int.reduceMul, Int.reduceToNat, Nat.reducePow, Int.reducePow, Nat.reduceDiv, Nat.reduceMod, awp_dr, hd, m1, t1', v1', t2, v2, v3, v4, v5, t4, t5, hk0']
                                                            | refine chosen_ok hw1 hT1 ?_
                                                            | refine numberOk_ok hw1 hT1 hv.2.2.1 (fun e => ht.n16 e) (by omega) ?_
                                                            | (with_reducible refine cdB_dec (fun hp hq => ?_) (fun hp hq => ?_) <;> first | (clear hq; refine False.elim ?_; omega) | (simp only [hq]; clear hq) | clear hq)
                                                            | (with_reducible refine gB_dec (fun hp hq => ?_) (fun hp hq => ?_) <;> first | (clear hq; refine False.elim ?_; omega) | (simp only [hq]; clear hq) | clear hq)
                                                            | (with_reducible refine gB_ndec (fun hp hq => ?_) (fun hp hq => ?_) <;> first | (clear hq; refine False.elim ?_; omega) | (simp only [hq]; clear hq) | clear hq)
                                                            | (with_reducible refine And.intro ?_ ?_; omega)
            refine hR1 _ ?_
            simp [hk0]
          · have hk0' : ¬ ((v.kids.length : Nat) : Int) = 0 := by omega
            have hk0d : decide (((v.kids.length : Nat) : Int) = 0) = false := decide_eq_false hk0'
            repeat' first
                                                            | (simp -implicitDefEqProofs (disch := omega) only [push_cast, ↓reduceIte, Nat.reduceEqDiff, reduceCtorEq, Nat.reduceAdd, Nat.reduceMul, Nat.reduceSub, Nat.reduceLT, Nat.reduceLeDiff, Int.reduceLT, Int.reduceLE, Int.reduceEq, Int.reduceNe, Int.reduceNeg, Int.reduceAdd, Int.reduceSub, Int.reduceMul, Int.reduceToNat, Nat.reducePow, Int.reducePow, Nat.reduceDiv, Nat.reduceMod, awp_dr, hd, m1, t1', v1', t2, v2, v3, v4, v5, t4, t5, hk0', hk0d]; done)
                                                            | simp -implicitDefEqProofs (disch := omega) only [push_cast, ↓reduceIte, Nat.reduceEqDiff, reduceCtorEq, Nat.reduceAdd, Nat.reduceMul, Nat.reduceSub, Nat.reduceLT, Nat.reduceLeDiff, Int.reduceLT, Int.reduceLE, Int.reduceEq, Int.reduceNe, Int.reduceNeg, Int.reduceAdd, Int.reduceSub, Int.reduceMul, Int.reduceToNat, Nat.reducePow, Int.reducePow, Nat.reduceDiv, Nat.reduceMod, awp_dr, hd, m1, t1', v1', t2, v2, v3, v4, v5, t4, t5, hk0', hk0d]
                                                            | refine chosen_ok hw1 hT1 ?_
                                                            | (with_reducible refine cdB_dec (fun hp hq => ?_) (fun hp hq => ?_) <;> first | (clear hq; refine False.elim ?_; omega) | (simp only [hq]; clear hq) | clear hq)
                                                            | (with_reducible refine gB_dec (fun hp hq => ?_) (fun hp hq => ?_) <;> first | (clear hq; refine False.elim ?_; omega) | (simp only [hq]; clear hq) | clear hq)
                                                            | (with_reducible refine gB_ndec (fun hp hq => ?_) (fun hp hq => ?_) <;> first | (clear hq; refine False.elim ?_; omega) | (simp only [hq]; clear hq) | clear hq)
                                                            | (with_reducible refine And.intro ?_ ?_; omega)
            refine hR1 _ ?_
            simp [hk0]
    · have e : fitsF (f + 1) t v = false := by
        have h12 : ¬ t.kind = 12 := by assumption
        simp [fitsF, numOk, h12, hp]
      rw [← e]; exact hR h1 hw1 hx1
end Go.Proofs.YtgkiaoodalnceaaDoor
