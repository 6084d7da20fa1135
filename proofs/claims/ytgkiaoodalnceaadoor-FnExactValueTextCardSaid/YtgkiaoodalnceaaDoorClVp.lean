import Derived.Test.YtgkiaoodalnceaaDoorClVo
import Derived.Test.YtgkiaoodalnceaaDoorClVmE
/- Texts of values: the program, what has no parts. -/
namespace Go.Proofs.YtgkiaoodalnceaaDoor
open Go SL VM
set_option maxRecDepth 100000
set_option linter.unusedVariables false
set_option linter.unusedSimpArgs false
attribute [local irreducible] SL.awp

theorem itoa_ok {n : Int} {h : Heap} {R : AV → Heap → Prop} (hn : i64Ok n) (hR : R (.sc (.string (bs (Lib.itoa n)))) h) : ACalls Tryd.prog 39 [.sc (.int .i64 n)] h R :=
  ACalls_val (acalls_itoa (b := 0) (by kernel_rfl) (by kernel_rfl) (fun n h0 h1 w htab => Tryd.strconv_Itoa n h0 h1 w htab) hn.1 hn.2) hR
theorem join_ok {xs : List (List UInt8)} {h : Heap} {R : AV → Heap → Prop} (hN : xs.length ≤ 140737488355328) (hlen : (Lib.join xs [44]).length ≤ 140737488355328) (hR : R (.sc (.string (bs (Lib.join xs [44])))) h) :
    ACalls Tryd.prog 55 [.vec (xs.map fun s => [.sc (.string (bs s))]), .sc (.string (bs [44]))] h R := by
  have e1 : xs.map (fun s => [AV.sc (.string (bs s))]) = (xs.map bs).map (fun s => [AV.sc (.string s)]) := by rw [List.map_map]; rfl
  have e2 : (xs.map bs).map (fun s => s.data.toList) = xs := by rw [List.map_map]; conv => rhs; rw [← List.map_id xs]
                                                                exact List.map_congr_left fun a _ => bs_data
  rw [e1]
  refine ACalls_val (acalls_join (by kernel_rfl) (fun a c sep w => Tryd.strings_Join_none a c sep w) (fun bk o c xs sep w h1 h2 h3 h4 h5 => Tryd.strings_Join bk o c xs sep w h1 h2 h3 h4 h5) (by simpa using hN) (by rw [e2, bs_data]; exact hlen)) ?_
  rw [e2, bs_data]
  exact hR
theorem typed_ok {lt : List TN} {lv : List VN} {h : Heap} {R : AV → Heap → Prop} (h2 : lv.length ≤ 1048576) (h3 : ∀ x ∈ lv, x.text.length ≤ 1048576 ∧ i64Ok x.n)
    (hR : ∀ h' a b, HW h' → HX h h' → goodT lt = true → goodV lv = true → fitsF 8 (treeF lt.length lt 0) (vtreeF lv.length lv 0) = true → TyAt h' (treeF lt.length lt 0) a → VlAt h' (vtreeF lv.length lv 0) b → R (.tup [a, b, .sc (.bool true)]) h')
    (hF : ∀ h', HW h' → HX h h' → (goodT lt && (goodV lv && fitsF 8 (treeF lt.length lt 0) (vtreeF lv.length lv 0))) = false → R (.tup [.sc (.pointer none), .sc (.pointer none), .sc (.bool false)]) h') :
    ACalls Tryd.prog 19 [.vec (lt.map tnC), .vec (lv.map vnC)] h R := by
  refine acalls_body c_impl_typed (by simp) ?_
  unfold a_impl_typed
  cases hfit : fitsF 8 (treeF lt.length lt 0) (vtreeF lv.length lv 0)
  · repeat' first
                                                            | (simp -implicitDefEqProofs (disch := omega) only [push_cast, ↓reduceIte, Nat.reduceEqDiff, reduceCtorEq, Nat.reduceAdd, Nat.reduceMul, Nat.reduceSub, Nat.reduceLT, Nat.reduceLeDiff, Int.reduceLT, Int.reduceLE, Int.reduceEq, Int.reduceNe, Int.reduceNeg, Int.reduceAdd, Int.reduceSub, Int.reduceMul, Int.reduceToNat, Nat.reducePow, Int.reducePow, Nat.reduceDiv, Nat.reduceMod, awp_dr, hfit, Bool.not_false, Bool.not_true]; done)
                                                            | simp -implicitDefEqProofs (disch := omega) only [push_cast, ↓reduceIte, Nat.reduceEqDiff, reduceCtorEq, Nat.reduceAdd, Nat.reduceMul, Nat.reduceSub, Nat.reduceLT, Nat.reduceLeDiff, Int.reduceLT, Int.reduceLE, Int.reduceEq, Int.reduceNe, Int.reduceNeg, Int.reduceAdd, Int.reduceSub, Int.reduceMul, Int.reduceToNat, Nat.reducePow, Int.reducePow, Nat.reduceDiv, Nat.reduceMod, awp_dr, hfit, Bool.not_false, Bool.not_true]
                                                            | refine shapeOf_ok (fun h1 a hw1 hx1 hg hT => ?_) (fun h1 hw1 hx1 hg => ?_)
                                                            | refine datumOf_ok (fun h4 b hw4 hx4 hgv hV => ?_) (fun h4 hw4 hx4 hgv => ?_)
                                                            | refine fits_ok (goodT_ok hg (by omega)) (vtree_b h2 h3 8 _ _) (hT.hx hw1 hx4) hV (fun h5 hw5 hx5 => ?_)
                                                            | (with_reducible refine cdB_dec (fun hp hq => ?_) (fun hp hq => ?_) <;> first | (clear hq; refine False.elim ?_; omega) | (simp only [hq]; clear hq) | clear hq)
                                                            | (with_reducible refine gB_dec (fun hp hq => ?_) (fun hp hq => ?_) <;> first | (clear hq; refine False.elim ?_; omega) | (simp only [hq]; clear hq) | clear hq)
                                                            | (with_reducible refine gB_ndec (fun hp hq => ?_) (fun hp hq => ?_) <;> first | (clear hq; refine False.elim ?_; omega) | (simp only [hq]; clear hq) | clear hq)
                                                            | (with_reducible refine And.intro ?_ ?_; omega)
    · exact hF _ hw5 (hx1.trans (hx4.trans hx5)) (by rw [hfit, Bool.and_false, Bool.and_false])
    · exact hF _ hw4 (hx1.trans hx4) (by rw [hgv, Bool.false_and, Bool.and_false])
    · exact hF _ hw1 hx1 (by rw [hg, Bool.false_and])
  · repeat' first
                                                            | (simp -implicitDefEqProofs (disch := omega) only [push_cast, ↓reduceIte, Nat.reduceEqDiff, reduceCtorEq, Nat.reduceAdd, Nat.reduceMul, Nat.reduceSub, Nat.reduceLT, Nat.reduceLeDiff, Int.reduceLT, Int.reduceLE, Int.reduceEq, Int.reduceNe, Int.reduceNeg, Int.reduceAdd, Int.reduceSub, Int.reduceMul, Int.reduceToNat, Nat.reducePow, Int.reducePow, Nat.reduceDiv, Nat.reduceMod, awp_dr, hfit, Bool.not_false, Bool.not_true]; done)
                                                            | simp -implicitDefEqProofs (disch := omega) only [push_cast, ↓reduceIte, Nat.reduceEqDiff, reduceCtorEq, Nat.reduceAdd, Nat.reduceMul, Nat.reduceSub, Nat.reduceLT, Nat.reduceLeDiff, Int.reduceLT, Int.reduceLE, Int.reduceEq, Int.reduceNe, Int.reduceNeg, Int.reduceAdd, Int.reduceSub, Int.reduceMul, Int.reduceToNat, Nat.reducePow, Int.reducePow, Nat.reduceDiv, Nat.reduceMod, awp_dr, hfit, Bool.not_false, Bool.not_true]
                                                            | refine shapeOf_ok (fun h1 a hw1 hx1 hg hT => ?_) (fun h1 hw1 hx1 hg => ?_)
                                                            | refine datumOf_ok (fun h4 b hw4 hx4 hgv hV => ?_) (fun h4 hw4 hx4 hgv => ?_)
                                                            | refine fits_ok (goodT_ok hg (by omega)) (vtree_b h2 h3 8 _ _) (hT.hx hw1 hx4) hV (fun h5 hw5 hx5 => ?_)
                                                            | (with_reducible refine cdB_dec (fun hp hq => ?_) (fun hp hq => ?_) <;> first | (clear hq; refine False.elim ?_; omega) | (simp only [hq]; clear hq) | clear hq)
                                                            | (with_reducible refine gB_dec (fun hp hq => ?_) (fun hp hq => ?_) <;> first | (clear hq; refine False.elim ?_; omega) | (simp only [hq]; clear hq) | clear hq)
                                                            | (with_reducible refine gB_ndec (fun hp hq => ?_) (fun hp hq => ?_) <;> first | (clear hq; refine False.elim ?_; omega) | (simp only [hq]; clear hq) | clear hq)
                                                            | (with_reducible refine And.intro ?_ ?_; omega)
    · exact hR _ _ _ hw5 (hx1.trans (hx4.trans hx5)) hg hgv hfit (hT.hx hw1 (hx4.trans hx5)) (hV.hx hw4 hx5)
    · exact hF _ hw4 (hx1.trans hx4) (by rw [hgv, Bool.false_and, Bool.and_false])
    · exact hF _ hw1 hx1 (by rw [hg, Bool.false_and])
theorem quoted_ok {s : List UInt8} {h : Heap} {R : AV → Heap → Prop} (hl : s.length ≤ 1048576) (hR : R (.sc (.string (bs (34 :: (quoteL s ++ [34]))))) h) : ACalls Tryd.prog 35 [.sc (.string (bs s))] h R := by
  refine acalls_body c_impl_quoted (by simp) ?_
  unfold a_impl_quoted
  repeat' first
                                                            | (simp -implicitDefEqProofs (disch := omega) only [push_cast, ↓reduceIte, Nat.reduceEqDiff, reduceCtorEq, Nat.reduceAdd, Nat.reduceMul, Nat.reduceSub, Nat.reduceLT, Nat.reduceLeDiff, Int.reduceLT, Int.reduceLE, Int.reduceEq, Int.reduceNe, Int.reduceNeg, Int.reduceAdd, Int.reduceSub, Int.reduceMul, Int.reduceToNat, Nat.reducePow, Int.reducePow, Nat.reduceDiv, Nat.reduceMod, awp_dr, newSlT_0, newL_eq]; done)
                                                            | simp -implicitDefEqProofs (disch := omega) only [push_cast, ↓reduceIte, Nat.reduceEqDiff, reduceCtorEq, Nat.reduceAdd, Nat.reduceMul, Nat.reduceSub, Nat.reduceLT, Nat.reduceLeDiff, Int.reduceLT, Int.reduceLE, Int.reduceEq, Int.reduceNe, Int.reduceNeg, Int.reduceAdd, Int.reduceSub, Int.reduceMul, Int.reduceToNat, Nat.reducePow, Int.reducePow, Nat.reduceDiv, Nat.reduceMod, awp_dr, newSlT_0, newL_eq]
                                                            | (with_reducible refine cdB_dec (fun hp hq => ?_) (fun hp hq => ?_) <;> first | (clear hq; refine False.elim ?_; omega) | (simp only [hq]; clear hq) | clear hq)
                                                            | (with_reducible refine gB_dec (fun hp hq => ?_) (fun hp hq => ?_) <;> first | (clear hq; refine False.elim ?_; omega) | (simp only [hq]; clear hq) | clear hq)
                                                            | (with_reducible refine gB_ndec (fun hp hq => ?_) (fun hp hq => ?_) <;> first | (clear hq; refine False.elim ?_; omega) | (simp only [hq]; clear hq) | clear hq)
                                                            | (with_reducible refine And.intro ?_ ?_; omega)
  rw [awp_bk]
  refine awp_lpW 8796093022136 (fun d t m => ∃ (i : Nat) (x : TV), i ≤ s.length ∧ d = s.length - i ∧ m.h = h ∧ t 4 = .v (.sc (.int .i64 i)) ∧ t 3 = x ∧ LsE [6, 38, 42, 45] m x 1 ((34 :: quoteL (s.take i)).map byC)) s.length (by kernel_rfl) ?_ ?_
  · refine ⟨0, _, Nat.zero_le _, rfl, rfl, rfl, rfl, by simp [quoteL, byC], .inr ⟨6, 0, [.v (.sc (.int .u8 34))], by simp, rfl, by simp [upd], by simp [quoteL, byC], by simp [quoteL]⟩⟩
  rintro d t ⟨ml, mc, mh⟩ ⟨i, x, hi, rfl, hh, h4, h3, hx⟩
  simp only at hh
  subst hh
  have hq1 := quoteL_le (s.take i)
  have hq2 : (s.take i).length ≤ s.length := by rw [List.length_take]; omega
  by_cases hlt : i < s.length
  · obtain ⟨y, hy, hg⟩ := sget (k := .i64) hlt
    have hy2 := y.toNat_lt
    have hstep := quoteL_step hy
    repeat' first
                                                            | (simp -implicitDefEqProofs (disch := omega) only [push_cast, ↓reduceIte, Nat.reduceEqDiff, reduceCtorEq, Nat.reduceAdd, Nat.reduceMul, Nat.reduceSub, Nat.reduceLT, Nat.reduceLeDiff, Int.reduceLT, Int.reduceLE, Int.reduceEq, Int.reduceNe, Int.reduceNeg, Int.reduceAdd, Int.reduceSub, Int.reduceMul, Int.reduceToNat, Nat.reducePow, Int.reducePow, Nat.reduceDiv, Nat.reduceMod, awp_dr, h4, h3, hg]; done)
                                                            | simp -implicitDefEqProofs (disch := omega) only [push_cast, ↓reduceIte, Nat.reduceEqDiff, reduceCtorEq, Nat.reduceAdd, Nat.reduceMul, Nat.reduceSub, Nat.reduceLT, Nat.reduceLeDiff, Int.reduceLT, Int.reduceLE, Int.reduceEq, Int.reduceNe, Int.reduceNeg, Int.reduceAdd, Int.reduceSub, Int.reduceMul, Int.reduceToNat, Nat.reducePow, Int.reducePow, Nat.reduceDiv, Nat.reduceMod, awp_dr, h4, h3, hg]
                                                            | (with_reducible refine cdB_dec (fun hp hq => ?_) (fun hp hq => ?_) <;> first | (clear hq; refine False.elim ?_; omega) | (simp only [hq]; clear hq) | clear hq)
                                                            | (with_reducible refine gB_dec (fun hp hq => ?_) (fun hp hq => ?_) <;> first | (clear hq; refine False.elim ?_; omega) | (simp only [hq]; clear hq) | clear hq)
                                                            | (with_reducible refine gB_ndec (fun hp hq => ?_) (fun hp hq => ?_) <;> first | (clear hq; refine False.elim ?_; omega) | (simp only [hq]; clear hq) | clear hq)
                                                            | (with_reducible refine And.intro ?_ ?_; omega)
    rw [awp_bk]
    have hx1 : [48, 49, 50, 51, 52, 53, 54, 55, 56, 57, 97, 98, 99, 100, 101, 102][((y.toNat : Int) / 16).toNat]? = some (hexD (y.toNat / 16)) := by
      have e : ∀ n : Fin 16, ([48, 49, 50, 51, 52, 53, 54, 55, 56, 57, 97, 98, 99, 100, 101, 102] : List UInt8)[n.val]? = some (hexD n.val) := by decide
      rw [show ((y.toNat : Int) / 16).toNat = y.toNat / 16 by omega]; exact e ⟨y.toNat / 16, by omega⟩
    have hx2 : [48, 49, 50, 51, 52, 53, 54, 55, 56, 57, 97, 98, 99, 100, 101, 102][((y.toNat : Int) % 16).toNat]? = some (hexD (y.toNat % 16)) := by
      have e : ∀ n : Fin 16, ([48, 49, 50, 51, 52, 53, 54, 55, 56, 57, 97, 98, 99, 100, 101, 102] : List UInt8)[n.val]? = some (hexD n.val) := by decide
      rw [show ((y.toNat : Int) % 16).toNat = y.toNat % 16 by omega]; exact e ⟨y.toNat % 16, by omega⟩
    repeat' first
                                                            | (simp -implicitDefEqProofs (disch := omega) only [push_cast, ↓reduceIte, Nat.reduceEqDiff, reduceCtorEq, Nat.reduceAdd, Nat.reduceMul, Nat.reduceSub, Nat.reduceLT, Nat.reduceLeDiff, Int.reduceLT, Int.reduceLE, Int.reduceEq, Int.reduceNe, Int.reduceNeg, Int.reduceAdd, Int.reduceSub, Int.reduceMul, Int.reduceToNat, Nat.reducePow, Int.reducePow, Nat.reduceDiv, Nat.reduceMod, awp_dr, h4, h3, hg, hx1, hx2, Option.map_some]; done)
                                                            | simp -implicitDefEqProofs (disch := omega) only [push_cast, ↓reduceIte, Nat.reduceEqDiff, reduceCtorEq, Nat.reduceAdd, Nat.reduceMul, Nat.reduceSub, Nat.reduceLT, Nat.reduceLeDiff, Int.reduceLT, Int.reduceLE, Int.reduceEq, Int.reduceNe, Int.reduceNeg, Int.reduceAdd, Int.reduceSub, Int.reduceMul, Int.reduceToNat, Nat.reducePow, Int.reducePow, Nat.reduceDiv, Nat.reduceMod, awp_dr, h4, h3, hg, hx1, hx2, Option.map_some]
                                                            | (with_reducible refine cdB_dec (fun hp hq => ?_) (fun hp hq => ?_) <;> first | (clear hq; refine False.elim ?_; omega) | (simp only [hq]; clear hq) | clear hq)
                                                            | (with_reducible refine gB_dec (fun hp hq => ?_) (fun hp hq => ?_) <;> first | (clear hq; refine False.elim ?_; omega) | (simp only [hq]; clear hq) | clear hq)
                                                            | (with_reducible refine gB_ndec (fun hp hq => ?_) (fun hp hq => ?_) <;> first | (clear hq; refine False.elim ?_; omega) | (simp only [hq]; clear hq) | clear hq)
                                                            | (with_reducible refine And.intro ?_ ?_; omega)
    iterate 4
      · refine bind_app (fs := [92, hexD (y.toNat / 16), hexD (y.toNat % 16)].map byC) hx (by simp) (by simp) (by simp [srcT, byC]) (by simp [byC]) (by simp [byC, cellA]) (by simp; omega) (by simp; omega) fun x' m' hx' hh' hk' => ?_
        repeat' first
                                                            | (simp -implicitDefEqProofs (disch := omega) only [push_cast, ↓reduceIte, Nat.reduceEqDiff, reduceCtorEq, Nat.reduceAdd, Nat.reduceMul, Nat.reduceSub, Nat.reduceLT, Nat.reduceLeDiff, Int.reduceLT, Int.reduceLE, Int.reduceEq, Int.reduceNe, Int.reduceNeg, Int.reduceAdd, Int.reduceSub, Int.reduceMul, Int.reduceToNat, Nat.reducePow, Int.reducePow, Nat.reduceDiv, Nat.reduceMod, awp_dr, h4, h3]; done)
                                                            | simp -implicitDefEqProofs (disch := omega) only [push_cast, ↓reduceIte, Nat.reduceEqDiff, reduceCtorEq, Nat.reduceAdd, Nat.reduceMul, Nat.reduceSub, Nat.reduceLT, Nat.reduceLeDiff, Int.reduceLT, Int.reduceLE, Int.reduceEq, Int.reduceNe, Int.reduceNeg, Int.reduceAdd, Int.reduceSub, Int.reduceMul, Int.reduceToNat, Nat.reducePow, Int.reducePow, Nat.reduceDiv, Nat.reduceMod, awp_dr, h4, h3]
                                                            | (with_reducible refine cdB_dec (fun hp hq => ?_) (fun hp hq => ?_) <;> first | (clear hq; refine False.elim ?_; omega) | (simp only [hq]; clear hq) | clear hq)
                                                            | (with_reducible refine gB_dec (fun hp hq => ?_) (fun hp hq => ?_) <;> first | (clear hq; refine False.elim ?_; omega) | (simp only [hq]; clear hq) | clear hq)
                                                            | (with_reducible refine gB_ndec (fun hp hq => ?_) (fun hp hq => ?_) <;> first | (clear hq; refine False.elim ?_; omega) | (simp only [hq]; clear hq) | clear hq)
                                                            | (with_reducible refine And.intro ?_ ?_; omega)
        refine ⟨_, by omega, i + 1, _, by omega, rfl, hh', by simp, rfl, ?_⟩
        rw [hstep, quoteB, if_pos (by omega)]
        simpa using hx'
    · refine bind_app (fs := [byC y]) hx (by simp) (by simp) (by simp [srcT, byC]) (by simp [byC]) (by simp [byC, cellA]) (by simp; omega) (by simp; omega) fun x' m' hx' hh' hk' => ?_
      repeat' first
                                                            | (simp -implicitDefEqProofs (disch := omega) only [push_cast, ↓reduceIte, Nat.reduceEqDiff, reduceCtorEq, Nat.reduceAdd, Nat.reduceMul, Nat.reduceSub, Nat.reduceLT, Nat.reduceLeDiff, Int.reduceLT, Int.reduceLE, Int.reduceEq, Int.reduceNe, Int.reduceNeg, Int.reduceAdd, Int.reduceSub, Int.reduceMul, Int.reduceToNat, Nat.reducePow, Int.reducePow, Nat.reduceDiv, Nat.reduceMod, awp_dr, h4, h3]; done)
                                                            | simp -implicitDefEqProofs (disch := omega) only [push_cast, ↓reduceIte, Nat.reduceEqDiff, reduceCtorEq, Nat.reduceAdd, Nat.reduceMul, Nat.reduceSub, Nat.reduceLT, Nat.reduceLeDiff, Int.reduceLT, Int.reduceLE, Int.reduceEq, Int.reduceNe, Int.reduceNeg, Int.reduceAdd, Int.reduceSub, Int.reduceMul, Int.reduceToNat, Nat.reducePow, Int.reducePow, Nat.reduceDiv, Nat.reduceMod, awp_dr, h4, h3]
                                                            | (with_reducible refine cdB_dec (fun hp hq => ?_) (fun hp hq => ?_) <;> first | (clear hq; refine False.elim ?_; omega) | (simp only [hq]; clear hq) | clear hq)
                                                            | (with_reducible refine gB_dec (fun hp hq => ?_) (fun hp hq => ?_) <;> first | (clear hq; refine False.elim ?_; omega) | (simp only [hq]; clear hq) | clear hq)
                                                            | (with_reducible refine gB_ndec (fun hp hq => ?_) (fun hp hq => ?_) <;> first | (clear hq; refine False.elim ?_; omega) | (simp only [hq]; clear hq) | clear hq)
                                                            | (with_reducible refine And.intro ?_ ?_; omega)
      refine ⟨_, by omega, i + 1, _, by omega, rfl, hh', by simp, rfl, ?_⟩
      rw [hstep, quoteB, if_neg (by omega)]
      simpa using hx'
  · have hi : i = s.length := by omega
    subst hi
    rw [List.take_length] at hx hq1
    repeat' first
                                                            | (simp -implicitDefEqProofs (disch := omega) only [push_cast, ↓reduceIte, Nat.reduceEqDiff, reduceCtorEq, Nat.reduceAdd, Nat.reduceMul, Nat.reduceSub, Nat.reduceLT, Nat.reduceLeDiff, Int.reduceLT, Int.reduceLE, Int.reduceEq, Int.reduceNe, Int.reduceNeg, Int.reduceAdd, Int.reduceSub, Int.reduceMul, Int.reduceToNat, Nat.reducePow, Int.reducePow, Nat.reduceDiv, Nat.reduceMod, awp_dr, h4, h3]; done)
                                                            | simp -implicitDefEqProofs (disch := omega) only [push_cast, ↓reduceIte, Nat.reduceEqDiff, reduceCtorEq, Nat.reduceAdd, Nat.reduceMul, Nat.reduceSub, Nat.reduceLT, Nat.reduceLeDiff, Int.reduceLT, Int.reduceLE, Int.reduceEq, Int.reduceNe, Int.reduceNeg, Int.reduceAdd, Int.reduceSub, Int.reduceMul, Int.reduceToNat, Nat.reducePow, Int.reducePow, Nat.reduceDiv, Nat.reduceMod, awp_dr, h4, h3]
                                                            | (with_reducible refine cdB_dec (fun hp hq => ?_) (fun hp hq => ?_) <;> first | (clear hq; refine False.elim ?_; omega) | (simp only [hq]; clear hq) | clear hq)
                                                            | (with_reducible refine gB_dec (fun hp hq => ?_) (fun hp hq => ?_) <;> first | (clear hq; refine False.elim ?_; omega) | (simp only [hq]; clear hq) | clear hq)
                                                            | (with_reducible refine gB_ndec (fun hp hq => ?_) (fun hp hq => ?_) <;> first | (clear hq; refine False.elim ?_; omega) | (simp only [hq]; clear hq) | clear hq)
                                                            | (with_reducible refine And.intro ?_ ?_; omega)
    refine bind_app (fs := [byC 34]) hx (by simp) (by simp) (by simp [srcT, byC]) (by simp [byC]) (by simp [byC, cellA]) (by simp; omega) (by simp; omega) fun x' m' hx' hh' hk' => ?_
    have hb := LsE.b2s (l := 34 :: (quoteL s ++ [34])) (m := m') (D := [6, 38, 42, 45]) (x := x') (by simpa using hx')
    repeat' first
                                                            | (simp -implicitDefEqProofs (disch := omega) only [push_cast, ↓reduceIte, Nat.reduceEqDiff, reduceCtorEq, Nat.reduceAdd, Nat.reduceMul, Nat.reduceSub, Nat.reduceLT, Nat.reduceLeDiff, Int.reduceLT, Int.reduceLE, Int.reduceEq, Int.reduceNe, Int.reduceNeg, Int.reduceAdd, Int.reduceSub, Int.reduceMul, Int.reduceToNat, Nat.reducePow, Int.reducePow, Nat.reduceDiv, Nat.reduceMod, awp_dr, hb]; done)
                                                            | simp -implicitDefEqProofs (disch := omega) only [push_cast, ↓reduceIte, Nat.reduceEqDiff, reduceCtorEq, Nat.reduceAdd, Nat.reduceMul, Nat.reduceSub, Nat.reduceLT, Nat.reduceLeDiff, Int.reduceLT, Int.reduceLE, Int.reduceEq, Int.reduceNe, Int.reduceNeg, Int.reduceAdd, Int.reduceSub, Int.reduceMul, Int.reduceToNat, Nat.reducePow, Int.reducePow, Nat.reduceDiv, Nat.reduceMod, awp_dr, hb]
                                                            | (with_reducible refine cdB_dec (fun hp hq => ?_) (fun hp hq => ?_) <;> first | (clear hq; refine False.elim ?_; omega) | (simp only [hq]; clear hq) | clear hq)
                                                            | (with_reducible refine gB_dec (fun hp hq => ?_) (fun hp hq => ?_) <;> first | (clear hq; refine False.elim ?_; omega) | (simp only [hq]; clear hq) | clear hq)
                                                            | (with_reducible refine gB_ndec (fun hp hq => ?_) (fun hp hq => ?_) <;> first | (clear hq; refine False.elim ?_; omega) | (simp only [hq]; clear hq) | clear hq)
                                                            | (with_reducible refine And.intro ?_ ?_; omega)
    rw [hh']; exact hR
end Go.Proofs.YtgkiaoodalnceaaDoor
