import Derived.Test.YtgkiaoodalnceaaDoorClVg
import Derived.Test.YtgkiaoodalnceaaDoorClVmE
/- Texts of values: the reference. -/
namespace Go.Proofs.YtgkiaoodalnceaaDoor
open Go SL VM
set_option maxRecDepth 100000
set_option linter.unusedVariables false
set_option linter.unusedSimpArgs false
attribute [local irreducible] SL.awp

theorem l12Text_ok : ∀ {f : Nat} {t : Ty} {v : Vl} {h : Heap} {R : AV → Heap → Prop}, TyOk f t → VlB f v → fitsF f t v = true → wtV v ≤ 1000000 → R (.sc (.string (bs (textF f t v)))) h →
    ACalls Tryd.prog 14 [.agg (tyE t), .agg (vlE v)] h R := by
  intro f
  induction f with
  | zero => intro t v h R ht; exact ht.elim
  | succ f ih =>
    intro t v h R ht hv hfit hw hR
    have hpart := fun i => textF_part hv hfit i
    have hall := textF_le hv hfit
    have hfit' := hfit
    simp only [fitsF, numOk, Bool.and_eq_true, decide_eq_true_eq] at hfit'
    obtain ⟨⟨hB, _, hC⟩, hZ⟩ := hfit'
    have hcan := ht.can hB
    have hlen := zipAll_len hZ
    have hkl := ht.kids_le
    have hkl1 := hv.1
    have hi64 := hv.2.2.1
    unfold i64Ok at hi64
    generalize hT : ((kidTs t v.n v.kids.length).zip v.kids).map (fun x => textF f x.1 x.2) = T at hpart
    have hTl : T.length = v.kids.length := by rw [← hT]; simp [hlen]
    refine acalls_body c_spec_l12Text (by simp) ?_
    unfold a_spec_l12Text
    repeat' first
                                                            | (simp -implicitDefEqProofs (disch := omega) only [push_cast, ↓reduceIte, Nat.reduceEqDiff, reduceCtorEq, Nat.reduceAdd, Nat.reduceMul, Nat.reduceSub, Nat.reduceLT, Nat.reduceLeDiff, Int.reduceLT, Int.reduceLE, Int.reduceEq, Int.reduceNe, Int.reduceNeg, Int.reduceAdd, Int.reduceSub, Int.reduceMul, Int.reduceToNat, Nat.reducePow, Int.reducePow, Nat.reduceDiv, Nat.reduceMod, awp_dr, tyC_eq, vlC_eq]; done)
                                                            | simp -implicitDefEqProofs (disch := omega) only [push_cast, ↓reduceIte, Nat.reduceEqDiff, reduceCtorEq, Nat.reduceAdd, Nat.reduceMul, Nat.reduceSub, Nat.reduceLT, Nat.reduceLeDiff, Int.reduceLT, Int.reduceLE, Int.reduceEq, Int.reduceNe, Int.reduceNeg, Int.reduceAdd, Int.reduceSub, Int.reduceMul, Int.reduceToNat, Nat.reducePow, Int.reducePow, Nat.reduceDiv, Nat.reduceMod, awp_dr, tyC_eq, vlC_eq]
                                                            | refine l12Kids_ok hcan hkl1 (by omega) ?_
                                                            | (with_reducible refine cdB_dec (fun hp hq => ?_) (fun hp hq => ?_) <;> first | (clear hq; refine False.elim ?_; omega) | (simp only [hq]; clear hq) | clear hq)
                                                            | (with_reducible refine gB_dec (fun hp hq => ?_) (fun hp hq => ?_) <;> first | (clear hq; refine False.elim ?_; omega) | (simp only [hq]; clear hq) | clear hq)
                                                            | (with_reducible refine gB_ndec (fun hp hq => ?_) (fun hp hq => ?_) <;> first | (clear hq; refine False.elim ?_; omega) | (simp only [hq]; clear hq) | clear hq)
                                                            | (with_reducible refine And.intro ?_ ?_; omega)
    rw [awp_bk]
    refine awp_lpW 8589918656 (fun d u m => ∃ i : Nat, i ≤ v.kids.length ∧ d = v.kids.length - i ∧ u 14 = .v (.sc (.int .i64 i)) ∧ u 6 = .v (.sc (.string (bs (Lib.join (T.take i) [44])))) ∧ m.h = h ∧
      m.l 2 = .mu 0 [.v (.sc (.int .i64 t.kind)), .v (.sc (.int .i64 t.n)), .v (.vec (t.kids.map tyC))] ∧ m.l 3 = .mu 1 [.v (.sc (.int .i64 v.n)), .v (.sc (.string (bs v.text))), .v (.vec (v.kids.map vlC))]) v.kids.length (by kernel_rfl) ?_ ?_
    · exact ⟨0, Nat.zero_le _, rfl, rfl, rfl, rfl, rfl, rfl⟩
    · rintro d u ⟨ml, mc, mh⟩ ⟨i, hi, rfl, h14, h6, hh, m2, m3⟩
      simp only at hh m2 m3
      subst hh
      by_cases hlt : i < v.kids.length
      · obtain ⟨y, hy, hgy⟩ := vget (k := .i64) tyC_len (l := kidTs t v.n v.kids.length) (i := i) (by omega)
        obtain ⟨z, hz, hgz⟩ := vget (k := .i64) vlC_len hlt
        have hty := ht.kid (kidTs_mem hcan (List.mem_of_getElem? hy))
        have hvz := hv.kid (List.mem_of_getElem? hz)
        have hf := (zipAll_iff hlen).1 hZ i y z hy hz
        have hw2 := wtVs_le (List.mem_of_getElem? hz)
        have hwv := wtV_eq v
        have hTi : T[i]? = some (textF f y z) := by
          rw [← hT, List.getElem?_map, (List.getElem?_zip_eq_some (z := (y, z))).2 ⟨hy, hz⟩]; rfl
        have hstep : T.take (i + 1) = T.take i ++ [textF f y z] := by rw [List.take_add_one, hTi]; rfl
        have hj := join_snoc (T.take i) (textF f y z) [44]
        rw [← hstep] at hj
        have hp1 := hpart i
        have hp2 := hpart (i + 1)
        have hxl := textF_le hvz hf
        by_cases h0 : i = 0
        · have he : T.take i = [] := by rw [h0, List.take_zero]
          rw [if_pos he] at hj
          rw [he, Lib.join_nil] at h6
          repeat' first
                                                            | (simp -implicitDefEqProofs (disch := omega) only [push_cast, ↓reduceIte, Nat.reduceEqDiff, reduceCtorEq, Nat.reduceAdd, Nat.reduceMul, Nat.reduceSub, Nat.reduceLT, Nat.reduceLeDiff, Int.reduceLT, Int.reduceLE, Int.reduceEq, Int.reduceNe, Int.reduceNeg, Int.reduceAdd, Int.reduceSub, Int.reduceMul, Int.reduceToNat, Nat.reducePow, Int.reducePow, Nat.reduceDiv, Nat.reduceMod, awp_dr, awp_bk, h14, h6, m2, m3, hgy, hgz, tyC_eq, vlC_eq]; done)
                                                            | simp -implicitDefEqProofs (disch := omega) only [push_cast, ↓reduceIte, Nat.reduceEqDiff, reduceCtorEq, Nat.reduceAdd, Nat.reduceMul, Nat.reduceSub, Nat.reduceLT, Nat.reduceLeDiff, Int.reduceLT, Int.reduceLE, Int.reduceEq, Int.reduceNe, Int.reduceNeg, Int.reduceAdd, Int.reduceSub, Int.reduceMul, Int.reduceToNat, Nat.reducePow, Int.reducePow, Nat.reduceDiv, Nat.reduceMod, awp_dr, awp_bk, h14, h6, m2, m3, hgy, hgz, tyC_eq, vlC_eq]
                                                            | refine ih hty hvz hf (by omega) ?_
                                                            | (with_reducible refine cdB_dec (fun hp hq => ?_) (fun hp hq => ?_) <;> first | (clear hq; refine False.elim ?_; omega) | (simp only [hq]; clear hq) | clear hq)
                                                            | (with_reducible refine gB_dec (fun hp hq => ?_) (fun hp hq => ?_) <;> first | (clear hq; refine False.elim ?_; omega) | (simp only [hq]; clear hq) | clear hq)
                                                            | (with_reducible refine gB_ndec (fun hp hq => ?_) (fun hp hq => ?_) <;> first | (clear hq; refine False.elim ?_; omega) | (simp only [hq]; clear hq) | clear hq)
                                                            | (with_reducible refine And.intro ?_ ?_; omega)
          exact ⟨_, by omega, i + 1, by omega, rfl, by simp, by rw [hj]⟩
        · have hne : T.take i ≠ [] := by
            intro he
            have := congrArg List.length he
            rw [List.length_take, List.length_nil] at this
            omega
          rw [if_neg hne] at hj
          have hsz : (Lib.join (T.take i) [44]).length + 1 + (textF f y z).length ≤ 140737488355328 := by omega
          repeat' first
                                                            | (simp -implicitDefEqProofs (disch := omega) only [push_cast, ↓reduceIte, Nat.reduceEqDiff, reduceCtorEq, Nat.reduceAdd, Nat.reduceMul, Nat.reduceSub, Nat.reduceLT, Nat.reduceLeDiff, Int.reduceLT, Int.reduceLE, Int.reduceEq, Int.reduceNe, Int.reduceNeg, Int.reduceAdd, Int.reduceSub, Int.reduceMul, Int.reduceToNat, Nat.reducePow, Int.reducePow, Nat.reduceDiv, Nat.reduceMod, awp_dr, awp_bk, h14, h6, m2, m3, hgy, hgz, tyC_eq, vlC_eq, List.length_append]; done)
                                                            | simp -implicitDefEqProofs (disch := omega) only [push_cast, ↓reduceIte, Nat.reduceEqDiff, reduceCtorEq, Nat.reduceAdd, Nat.reduceMul, Nat.reduceSub, Nat.reduceLT, Nat.reduceLeDiff, Int.reduceLT, Int.reduceLE, Int.reduceEq, Int.reduceNe, Int.reduceNeg, Int.reduceAdd, Int.reduceSub, Int.reduceMul, Int.reduceToNat, Nat.reducePow, Int.reducePow, Nat.reduceDiv, Nat.reduceMod, awp_dr, awp_bk, h14, h6, m2, m3, hgy, hgz, tyC_eq, vlC_eq, List.length_append]
                                                            | refine ih hty hvz hf (by omega) ?_
                                                            | (with_reducible refine cdB_dec (fun hp hq => ?_) (fun hp hq => ?_) <;> first | (clear hq; refine False.elim ?_; omega) | (simp only [hq]; clear hq) | clear hq)
                                                            | (with_reducible refine gB_dec (fun hp hq => ?_) (fun hp hq => ?_) <;> first | (clear hq; refine False.elim ?_; omega) | (simp only [hq]; clear hq) | clear hq)
                                                            | (with_reducible refine gB_ndec (fun hp hq => ?_) (fun hp hq => ?_) <;> first | (clear hq; refine False.elim ?_; omega) | (simp only [hq]; clear hq) | clear hq)
                                                            | (with_reducible refine And.intro ?_ ?_; omega)
          exact ⟨_, by omega, i + 1, by omega, rfl, by simp, by rw [hj]⟩
      · have hi : i = v.kids.length := by omega
        subst hi
        rw [← hTl, List.take_length] at h6
        have hpT := hpart T.length
        rw [List.take_length] at hpT
        simp only [textF, hT] at hR hall
        have hq := Lib.itoa_length_le v.n hi64.1 hi64.2
        repeat' first
                                                            | (simp -implicitDefEqProofs (disch := omega) only [push_cast, ↓reduceIte, Nat.reduceEqDiff, reduceCtorEq, Nat.reduceAdd, Nat.reduceMul, Nat.reduceSub, Nat.reduceLT, Nat.reduceLeDiff, Int.reduceLT, Int.reduceLE, Int.reduceEq, Int.reduceNe, Int.reduceNeg, Int.reduceAdd, Int.reduceSub, Int.reduceMul, Int.reduceToNat, Nat.reducePow, Int.reducePow, Nat.reduceDiv, Nat.reduceMod, awp_dr, awp_bk, h14, h6, m2, m3, hlen, List.length_append]; done)
                                                            | simp -implicitDefEqProofs (disch := omega) only [push_cast, ↓reduceIte, Nat.reduceEqDiff, reduceCtorEq, Nat.reduceAdd, Nat.reduceMul, Nat.reduceSub, Nat.reduceLT, Nat.reduceLeDiff, Int.reduceLT, Int.reduceLE, Int.reduceEq, Int.reduceNe, Int.reduceNeg, Int.reduceAdd, Int.reduceSub, Int.reduceMul, Int.reduceToNat, Nat.reducePow, Int.reducePow, Nat.reduceDiv, Nat.reduceMod, awp_dr, awp_bk, h14, h6, m2, m3, hlen, List.length_append]
                                                            | refine l12Unsigned_ok hi64.1 hi64.2 ?_
                                                            | refine l12Quote_ok hv.2.1 ?_
                                                            | refine l1Num_ok hi64.1 hi64.2 ?_
                                                            | (with_reducible refine cdB_dec (fun hp hq => ?_) (fun hp hq => ?_) <;> first | (clear hq; refine False.elim ?_; omega) | (simp only [hq]; clear hq) | clear hq)
                                                            | (with_reducible refine gB_dec (fun hp hq => ?_) (fun hp hq => ?_) <;> first | (clear hq; refine False.elim ?_; omega) | (simp only [hq]; clear hq) | clear hq)
                                                            | (with_reducible refine gB_ndec (fun hp hq => ?_) (fun hp hq => ?_) <;> first | (clear hq; refine False.elim ?_; omega) | (simp only [hq]; clear hq) | clear hq)
                                                            | (with_reducible refine And.intro ?_ ?_; omega)
        all_goals
          unfold nodeText at hR
          repeat' first | rw [if_pos (by assumption)] at hR | rw [if_neg (by assumption)] at hR
          first | exact hR | (rw [List.append_assoc]; exact hR)

theorem FitsType_ok {lt : List TN} {lv : List VN} {h : Heap} {R : AV → Heap → Prop} (h1 : lt.length ≤ 1048576) (h2 : lv.length ≤ 1048576) (h3 : ∀ x ∈ lv, x.text.length ≤ 1048576 ∧ i64Ok x.n)
    (hR : R (.sc (.bool (goodT lt && (goodV lv && fitsF 8 (treeF lt.length lt 0) (vtreeF lv.length lv 0))))) h) : ACalls Tryd.prog 13 [.vec (lt.map tnC), .vec (lv.map vnC)] h R := by
  refine acalls_body c_spec_FitsType (by simp) ?_
  unfold a_spec_FitsType
  cases hg : goodT lt
  · rw [hg] at hR
    repeat' first
                                                            | (simp -implicitDefEqProofs (disch := omega) only [push_cast, ↓reduceIte, Nat.reduceEqDiff, reduceCtorEq, Nat.reduceAdd, Nat.reduceMul, Nat.reduceSub, Nat.reduceLT, Nat.reduceLeDiff, Int.reduceLT, Int.reduceLE, Int.reduceEq, Int.reduceNe, Int.reduceNeg, Int.reduceAdd, Int.reduceSub, Int.reduceMul, Int.reduceToNat, Nat.reducePow, Int.reducePow, Nat.reduceDiv, Nat.reduceMod, awp_dr, awp_bk, hg]; done)
                                                            | simp -implicitDefEqProofs (disch := omega) only [push_cast, ↓reduceIte, Nat.reduceEqDiff, reduceCtorEq, Nat.reduceAdd, Nat.reduceMul, Nat.reduceSub, Nat.reduceLT, Nat.reduceLeDiff, Int.reduceLT, Int.reduceLE, Int.reduceEq, Int.reduceNe, Int.reduceNeg, Int.reduceAdd, Int.reduceSub, Int.reduceMul, Int.reduceToNat, Nat.reducePow, Int.reducePow, Nat.reduceDiv, Nat.reduceMod, awp_dr, awp_bk, hg]
                                                            | refine GoodType_ok h1 ?_
                                                            | (with_reducible refine cdB_dec (fun hp hq => ?_) (fun hp hq => ?_) <;> first | (clear hq; refine False.elim ?_; omega) | (simp only [hq]; clear hq) | clear hq)
                                                            | (with_reducible refine gB_dec (fun hp hq => ?_) (fun hp hq => ?_) <;> first | (clear hq; refine False.elim ?_; omega) | (simp only [hq]; clear hq) | clear hq)
                                                            | (with_reducible refine gB_ndec (fun hp hq => ?_) (fun hp hq => ?_) <;> first | (clear hq; refine False.elim ?_; omega) | (simp only [hq]; clear hq) | clear hq)
                                                            | (with_reducible refine And.intro ?_ ?_; omega)
    exact hR
  cases hv : goodV lv
  · rw [hg, hv] at hR
    repeat' first
                                                            | (simp -implicitDefEqProofs (disch := omega) only [push_cast, ↓reduceIte, Nat.reduceEqDiff, reduceCtorEq, Nat.reduceAdd, Nat.reduceMul, Nat.reduceSub, Nat.reduceLT, Nat.reduceLeDiff, Int.reduceLT, Int.reduceLE, Int.reduceEq, Int.reduceNe, Int.reduceNeg, Int.reduceAdd, Int.reduceSub, Int.reduceMul, Int.reduceToNat, Nat.reducePow, Int.reducePow, Nat.reduceDiv, Nat.reduceMod, awp_dr, awp_bk, hg, hv]; done)
                                                            | simp -implicitDefEqProofs (disch := omega) only [push_cast, ↓reduceIte, Nat.reduceEqDiff, reduceCtorEq, Nat.reduceAdd, Nat.reduceMul, Nat.reduceSub, Nat.reduceLT, Nat.reduceLeDiff, Int.reduceLT, Int.reduceLE, Int.reduceEq, Int.reduceNe, Int.reduceNeg, Int.reduceAdd, Int.reduceSub, Int.reduceMul, Int.reduceToNat, Nat.reducePow, Int.reducePow, Nat.reduceDiv, Nat.reduceMod, awp_dr, awp_bk, hg, hv]
                                                            | refine GoodType_ok h1 ?_
                                                            | refine l12Shape_ok h2 ?_
                                                            | (with_reducible refine cdB_dec (fun hp hq => ?_) (fun hp hq => ?_) <;> first | (clear hq; refine False.elim ?_; omega) | (simp only [hq]; clear hq) | clear hq)
                                                            | (with_reducible refine gB_dec (fun hp hq => ?_) (fun hp hq => ?_) <;> first | (clear hq; refine False.elim ?_; omega) | (simp only [hq]; clear hq) | clear hq)
                                                            | (with_reducible refine gB_ndec (fun hp hq => ?_) (fun hp hq => ?_) <;> first | (clear hq; refine False.elim ?_; omega) | (simp only [hq]; clear hq) | clear hq)
                                                            | (with_reducible refine And.intro ?_ ?_; omega)
    exact hR
  · rw [hg, hv] at hR
    have hl1 := goodT_len hg
    have hl2 := goodV_len hv
    repeat' first
                                                            | (simp -implicitDefEqProofs (disch := omega) only [push_cast, ↓reduceIte, Nat.reduceEqDiff, reduceCtorEq, Nat.reduceAdd, Nat.reduceMul, Nat.reduceSub, Nat.reduceLT, Nat.reduceLeDiff, Int.reduceLT, Int.reduceLE, Int.reduceEq, Int.reduceNe, Int.reduceNeg, Int.reduceAdd, Int.reduceSub, Int.reduceMul, Int.reduceToNat, Nat.reducePow, Int.reducePow, Nat.reduceDiv, Nat.reduceMod, awp_dr, awp_bk, hg, hv, tyC_eq, vlC_eq]; done)
                                                            | simp -implicitDefEqProofs (disch := omega) only [push_cast, ↓reduceIte, Nat.reduceEqDiff, reduceCtorEq, Nat.reduceAdd, Nat.reduceMul, Nat.reduceSub, Nat.reduceLT, Nat.reduceLeDiff, Int.reduceLT, Int.reduceLE, Int.reduceEq, Int.reduceNe, Int.reduceNeg, Int.reduceAdd, Int.reduceSub, Int.reduceMul, Int.reduceToNat, Nat.reducePow, Int.reducePow, Nat.reduceDiv, Nat.reduceMod, awp_dr, awp_bk, hg, hv, tyC_eq, vlC_eq]
                                                            | refine GoodType_ok h1 ?_
                                                            | refine l12Shape_ok h2 ?_
                                                            | refine l11Tree_ok (f := lt.length) h1 (k := 0) (by omega) (by omega) ?_
                                                            | refine l12Tree_ok (f := lv.length) h2 (k := 0) (by omega) (by omega) ?_
                                                            | refine l12Fits_ok (goodT_ok hg (Nat.le_refl _)) (vtree_b h2 h3 _ _ _) ?_
                                                            | (with_reducible refine cdB_dec (fun hp hq => ?_) (fun hp hq => ?_) <;> first | (clear hq; refine False.elim ?_; omega) | (simp only [hq]; clear hq) | clear hq)
                                                            | (with_reducible refine gB_dec (fun hp hq => ?_) (fun hp hq => ?_) <;> first | (clear hq; refine False.elim ?_; omega) | (simp only [hq]; clear hq) | clear hq)
                                                            | (with_reducible refine gB_ndec (fun hp hq => ?_) (fun hp hq => ?_) <;> first | (clear hq; refine False.elim ?_; omega) | (simp only [hq]; clear hq) | clear hq)
                                                            | (with_reducible refine And.intro ?_ ?_; omega)
    exact hR

/-- What ValueText tells. -/
def vText (lt : List TN) (lv : List VN) : Option (List UInt8) :=
  if goodT lt && (goodV lv && fitsF 8 (treeF lt.length lt 0) (vtreeF lv.length lv 0)) then some (textF 8 (treeF lt.length lt 0) (vtreeF lv.length lv 0)) else none
theorem ValueTextS_ok {lt : List TN} {lv : List VN} {h : Heap} {R : AV → Heap → Prop} (h1 : lt.length ≤ 1048576) (h2 : lv.length ≤ 1048576) (h3 : ∀ x ∈ lv, x.text.length ≤ 1048576 ∧ i64Ok x.n)
    (hR : R (.tup [.sc (.string (bs ((vText lt lv).getD []))), .sc (.bool (vText lt lv).isSome)]) h) : ACalls Tryd.prog 6 [.vec (lt.map tnC), .vec (lv.map vnC)] h R := by
  refine acalls_body c_spec_ValueText (by simp) ?_
  unfold a_spec_ValueText
  unfold vText at hR
  cases hg : (goodT lt && (goodV lv && fitsF 8 (treeF lt.length lt 0) (vtreeF lv.length lv 0)))
  · rw [hg] at hR
    repeat' first
                                                            | (simp -implicitDefEqProofs (disch := omega) only [push_cast, ↓reduceIte, Nat.reduceEqDiff, reduceCtorEq, Nat.reduceAdd, Nat.reduceMul, Nat.reduceSub, Nat.reduceLT, Nat.reduceLeDiff, Int.reduceLT, Int.reduceLE, Int.reduceEq, Int.reduceNe, Int.reduceNeg, Int.reduceAdd, Int.reduceSub, Int.reduceMul, Int.reduceToNat, Nat.reducePow, Int.reducePow, Nat.reduceDiv, Nat.reduceMod, awp_dr, awp_bk, hg]; done)
                                                            | simp -implicitDefEqProofs (disch := omega) only [push_cast, ↓reduceIte, Nat.reduceEqDiff, reduceCtorEq, Nat.reduceAdd, Nat.reduceMul, Nat.reduceSub, Nat.reduceLT, Nat.reduceLeDiff, Int.reduceLT, Int.reduceLE, Int.reduceEq, Int.reduceNe, Int.reduceNeg, Int.reduceAdd, Int.reduceSub, Int.reduceMul, Int.reduceToNat, Nat.reducePow, Int.reducePow, Nat.reduceDiv, Nat.reduceMod, awp_dr, awp_bk, hg]
                                                            | refine FitsType_ok h1 h2 h3 ?_
                                                            | (with_reducible refine cdB_dec (fun hp hq => ?_) (fun hp hq => ?_) <;> first | (clear hq; refine False.elim ?_; omega) | (simp only [hq]; clear hq) | clear hq)
                                                            | (with_reducible refine gB_dec (fun hp hq => ?_) (fun hp hq => ?_) <;> first | (clear hq; refine False.elim ?_; omega) | (simp only [hq]; clear hq) | clear hq)
                                                            | (with_reducible refine gB_ndec (fun hp hq => ?_) (fun hp hq => ?_) <;> first | (clear hq; refine False.elim ?_; omega) | (simp only [hq]; clear hq) | clear hq)
                                                            | (with_reducible refine And.intro ?_ ?_; omega)
    exact hR
  · rw [hg] at hR
    simp only [Bool.and_eq_true] at hg
    have hl1 := goodT_len hg.1
    have hl2 := goodV_len hg.2.1
    have hw := goodV_wt hg.2.1 (Nat.le_refl _)
    repeat' first
                                                            | (simp -implicitDefEqProofs (disch := omega) only [push_cast, ↓reduceIte, Nat.reduceEqDiff, reduceCtorEq, Nat.reduceAdd, Nat.reduceMul, Nat.reduceSub, Nat.reduceLT, Nat.reduceLeDiff, Int.reduceLT, Int.reduceLE, Int.reduceEq, Int.reduceNe, Int.reduceNeg, Int.reduceAdd, Int.reduceSub, Int.reduceMul, Int.reduceToNat, Nat.reducePow, Int.reducePow, Nat.reduceDiv, Nat.reduceMod, awp_dr, awp_bk, hg.1, hg.2.1, hg.2.2, Bool.and_true, tyC_eq, vlC_eq]; done)
                                                            | simp -implicitDefEqProofs (disch := omega) only [push_cast, ↓reduceIte, Nat.reduceEqDiff, reduceCtorEq, Nat.reduceAdd, Nat.reduceMul, Nat.reduceSub, Nat.reduceLT, Nat.reduceLeDiff, Int.reduceLT, Int.reduceLE, Int.reduceEq, Int.reduceNe, Int.reduceNeg, Int.reduceAdd, Int.reduceSub, Int.reduceMul, Int.reduceToNat, Nat.reducePow, Int.reducePow, Nat.reduceDiv, Nat.reduceMod, awp_dr, awp_bk, hg.1, hg.2.1, hg.2.2, Bool.and_true, tyC_eq, vlC_eq]
                                                            | refine FitsType_ok h1 h2 h3 ?_
                                                            | refine l11Tree_ok (f := lt.length) h1 (k := 0) (by omega) (by omega) ?_
                                                            | refine l12Tree_ok (f := lv.length) h2 (k := 0) (by omega) (by omega) ?_
                                                            | refine l12Text_ok (goodT_ok hg.1 (Nat.le_refl _)) (vtree_b h2 h3 _ _ _) hg.2.2 (by omega) ?_
                                                            | (with_reducible refine cdB_dec (fun hp hq => ?_) (fun hp hq => ?_) <;> first | (clear hq; refine False.elim ?_; omega) | (simp only [hq]; clear hq) | clear hq)
                                                            | (with_reducible refine gB_dec (fun hp hq => ?_) (fun hp hq => ?_) <;> first | (clear hq; refine False.elim ?_; omega) | (simp only [hq]; clear hq) | clear hq)
                                                            | (with_reducible refine gB_ndec (fun hp hq => ?_) (fun hp hq => ?_) <;> first | (clear hq; refine False.elim ?_; omega) | (simp only [hq]; clear hq) | clear hq)
                                                            | (with_reducible refine And.intro ?_ ?_; omega)
    exact hR

end Go.Proofs.YtgkiaoodalnceaaDoor
