import Derived.Test.YtgkiaoodalnceaaDoorClVe
/- Texts: the reference. -/
namespace Go.Proofs.YtgkiaoodalnceaaDoor
open Go SL VM
set_option maxRecDepth 100000
set_option linter.unusedVariables false
set_option linter.unusedSimpArgs false
attribute [local irreducible] SL.awp

theorem natC1 {l : List Nat} : ∀ e ∈ l.map natC, e.length = 1 := natC_len

theorem l2Points_ok {l : List Nat} {h : Heap} {R : AV → Heap → Prop} (hl : l.length ≤ 1048576) (hx : ∀ p ∈ l, p < 2097152) (hR : R (.sc (.bool (l.all goodP && decide ((l.length : Int) ≤ 300)))) h) :
    ACalls Tryd.prog 61 [.vec (l.map natC)] h R := by
  refine acalls_body c_spec_l2Points (by simp) ?_
  unfold a_spec_l2Points
  repeat' first
                                                            | (simp -implicitDefEqProofs (disch := omega) only [push_cast, ↓reduceIte, Nat.reduceEqDiff, reduceCtorEq, Nat.reduceAdd, Nat.reduceMul, Nat.reduceSub, Nat.reduceLT, Nat.reduceLeDiff, Int.reduceLT, Int.reduceLE, Int.reduceEq, Int.reduceNe, Int.reduceNeg, Int.reduceAdd, Int.reduceSub, Int.reduceMul, Int.reduceToNat, Nat.reducePow, Int.reducePow, Nat.reduceDiv, Nat.reduceMod, awp_dr, awp_bk]; done)
                                                            | simp -implicitDefEqProofs (disch := omega) only [push_cast, ↓reduceIte, Nat.reduceEqDiff, reduceCtorEq, Nat.reduceAdd, Nat.reduceMul, Nat.reduceSub, Nat.reduceLT, Nat.reduceLeDiff, Int.reduceLT, Int.reduceLE, Int.reduceEq, Int.reduceNe, Int.reduceNeg, Int.reduceAdd, Int.reduceSub, Int.reduceMul, Int.reduceToNat, Nat.reducePow, Int.reducePow, Nat.reduceDiv, Nat.reduceMod, awp_dr, awp_bk]
                                                            | (with_reducible refine cdB_dec (fun hp hq => ?_) (fun hp hq => ?_) <;> first | (clear hq; refine False.elim ?_; omega) | (simp only [hq]; clear hq) | clear hq)
                                                            | (with_reducible refine gB_dec (fun hp hq => ?_) (fun hp hq => ?_) <;> first | (clear hq; refine False.elim ?_; omega) | (simp only [hq]; clear hq) | clear hq)
                                                            | (with_reducible refine gB_ndec (fun hp hq => ?_) (fun hp hq => ?_) <;> first | (clear hq; refine False.elim ?_; omega) | (simp only [hq]; clear hq) | clear hq)
  refine awp_lpW 524180 (fun d t m => ∃ i : Nat, i ≤ l.length ∧ d = l.length - i ∧ t 7 = .v (.sc (.int .i64 i)) ∧ m.h = h ∧ (l.take i).all goodP = true) l.length (by kernel_rfl) ?_ ?_
  · exact ⟨0, Nat.zero_le _, rfl, rfl, rfl, rfl⟩
  · rintro d t ⟨ml, mc, mh⟩ ⟨i, hi, rfl, h7, hh, hg⟩
    simp only at hh
    subst hh
    by_cases hlt : i < l.length
    · obtain ⟨y, hy, hv⟩ := vget (k := .i64) natC_len hlt
      have hy2 := hx y (List.mem_of_getElem? hy)
      repeat' first
                                                            | (simp -implicitDefEqProofs (disch := omega) only [push_cast, ↓reduceIte, Nat.reduceEqDiff, reduceCtorEq, Nat.reduceAdd, Nat.reduceMul, Nat.reduceSub, Nat.reduceLT, Nat.reduceLeDiff, Int.reduceLT, Int.reduceLE, Int.reduceEq, Int.reduceNe, Int.reduceNeg, Int.reduceAdd, Int.reduceSub, Int.reduceMul, Int.reduceToNat, Nat.reducePow, Int.reducePow, Nat.reduceDiv, Nat.reduceMod, awp_dr, awp_bk, h7, hv, natC]; done)
                                                            | simp -implicitDefEqProofs (disch := omega) only [push_cast, ↓reduceIte, Nat.reduceEqDiff, reduceCtorEq, Nat.reduceAdd, Nat.reduceMul, Nat.reduceSub, Nat.reduceLT, Nat.reduceLeDiff, Int.reduceLT, Int.reduceLE, Int.reduceEq, Int.reduceNe, Int.reduceNeg, Int.reduceAdd, Int.reduceSub, Int.reduceMul, Int.reduceToNat, Nat.reducePow, Int.reducePow, Nat.reduceDiv, Nat.reduceMod, awp_dr, awp_bk, h7, hv, natC]
                                                            | refine l1In_ok ?_
                                                            | (with_reducible refine cdB_dec (fun hp hq => ?_) (fun hp hq => ?_) <;> first | (clear hq; refine False.elim ?_; omega) | (simp only [hq]; clear hq) | clear hq)
                                                            | (with_reducible refine gB_dec (fun hp hq => ?_) (fun hp hq => ?_) <;> first | (clear hq; refine False.elim ?_; omega) | (simp only [hq]; clear hq) | clear hq)
                                                            | (with_reducible refine gB_ndec (fun hp hq => ?_) (fun hp hq => ?_) <;> first | (clear hq; refine False.elim ?_; omega) | (simp only [hq]; clear hq) | clear hq)
      · rw [allF hy (by simp [goodP]; omega)] at hR; exact hR
      · exact ⟨_, by omega, i + 1, hlt, rfl, by simp, allS hg hy (by simp [goodP]; omega)⟩
      · rw [allF hy (by simp [goodP]; omega)] at hR; exact hR
    · have hi : i = l.length := by omega
      subst hi
      rw [List.take_length] at hg
      rw [hg, Bool.true_and] at hR
      repeat' first
                                                            | (simp -implicitDefEqProofs (disch := omega) only [push_cast, ↓reduceIte, Nat.reduceEqDiff, reduceCtorEq, Nat.reduceAdd, Nat.reduceMul, Nat.reduceSub, Nat.reduceLT, Nat.reduceLeDiff, Int.reduceLT, Int.reduceLE, Int.reduceEq, Int.reduceNe, Int.reduceNeg, Int.reduceAdd, Int.reduceSub, Int.reduceMul, Int.reduceToNat, Nat.reducePow, Int.reducePow, Nat.reduceDiv, Nat.reduceMod, awp_dr, awp_bk, h7]; done)
                                                            | simp -implicitDefEqProofs (disch := omega) only [push_cast, ↓reduceIte, Nat.reduceEqDiff, reduceCtorEq, Nat.reduceAdd, Nat.reduceMul, Nat.reduceSub, Nat.reduceLT, Nat.reduceLeDiff, Int.reduceLT, Int.reduceLE, Int.reduceEq, Int.reduceNe, Int.reduceNeg, Int.reduceAdd, Int.reduceSub, Int.reduceMul, Int.reduceToNat, Nat.reducePow, Int.reducePow, Nat.reduceDiv, Nat.reduceMod, awp_dr, awp_bk, h7]
                                                            | (with_reducible refine cdB_dec (fun hp hq => ?_) (fun hp hq => ?_) <;> first | (clear hq; refine False.elim ?_; omega) | (simp only [hq]; clear hq) | clear hq)
                                                            | (with_reducible refine gB_dec (fun hp hq => ?_) (fun hp hq => ?_) <;> first | (clear hq; refine False.elim ?_; omega) | (simp only [hq]; clear hq) | clear hq)
                                                            | (with_reducible refine gB_ndec (fun hp hq => ?_) (fun hp hq => ?_) <;> first | (clear hq; refine False.elim ?_; omega) | (simp only [hq]; clear hq) | clear hq)
      exact hR

theorem l2Utf8_ok {p : Nat} {h : Heap} {R : AV → Heap → Prop} (hx : p < 2097152) (hR : R (.vec ((u8enc p).map byC)) h) : ACalls Tryd.prog 76 [.sc (.int .i64 p)] h R := by
  refine acalls_body c_spec_l2Utf8 (by simp) ?_
  unfold a_spec_l2Utf8
  repeat' first
                                                            | (simp -implicitDefEqProofs (disch := omega) only [push_cast, ↓reduceIte, Nat.reduceEqDiff, reduceCtorEq, Nat.reduceAdd, Nat.reduceMul, Nat.reduceSub, Nat.reduceLT, Nat.reduceLeDiff, Int.reduceLT, Int.reduceLE, Int.reduceEq, Int.reduceNe, Int.reduceNeg, Int.reduceAdd, Int.reduceSub, Int.reduceMul, Int.reduceToNat, Nat.reducePow, Int.reducePow, Nat.reduceDiv, Nat.reduceMod, awp_dr, awp_bk, bor192, bor224, bor240, bor128]; done)
                                                            | simp -implicitDefEqProofs (disch := omega) only [push_cast, ↓reduceIte, Nat.reduceEqDiff, reduceCtorEq, Nat.reduceAdd, Nat.reduceMul, Nat.reduceSub, Nat.reduceLT, Nat.reduceLeDiff, Int.reduceLT, Int.reduceLE, Int.reduceEq, Int.reduceNe, Int.reduceNeg, Int.reduceAdd, Int.reduceSub, Int.reduceMul, Int.reduceToNat, Nat.reducePow, Int.reducePow, Nat.reduceDiv, Nat.reduceMod, awp_dr, awp_bk, bor192, bor224, bor240, bor128]
                                                            | (with_reducible refine cdB_dec (fun hp hq => ?_) (fun hp hq => ?_) <;> first | (clear hq; refine False.elim ?_; omega) | (simp only [hq]; clear hq) | clear hq)
                                                            | (with_reducible refine gB_dec (fun hp hq => ?_) (fun hp hq => ?_) <;> first | (clear hq; refine False.elim ?_; omega) | (simp only [hq]; clear hq) | clear hq)
                                                            | (with_reducible refine gB_ndec (fun hp hq => ?_) (fun hp hq => ?_) <;> first | (clear hq; refine False.elim ?_; omega) | (simp only [hq]; clear hq) | clear hq)
  · rw [u8enc, if_pos (by omega)] at hR
    simpa only [List.map_cons, List.map_nil, Int.natCast_add, Int.natCast_ediv, Int.natCast_emod, Int.cast_ofNat_Int, byC_ofN (n := p) (by omega)] using hR
  · rw [u8enc, if_neg (by omega), if_pos (by omega)] at hR
    simpa only [List.map_cons, List.map_nil, Int.natCast_add, Int.natCast_ediv, Int.natCast_emod, Int.cast_ofNat_Int, byC_ofN (n := 192 + p / 64) (by omega), byC_ofN (n := 128 + p % 64) (by omega)] using hR
  · rw [u8enc, if_neg (by omega), if_neg (by omega), if_pos (by omega)] at hR
    simpa only [List.map_cons, List.map_nil, Int.natCast_add, Int.natCast_ediv, Int.natCast_emod, Int.cast_ofNat_Int, byC_ofN (n := 224 + p / 4096) (by omega), byC_ofN (n := 128 + p / 64 % 64) (by omega), byC_ofN (n := 128 + p % 64) (by omega)] using hR
  · rw [u8enc, if_neg (by omega), if_neg (by omega), if_neg (by omega)] at hR
    simpa only [List.map_cons, List.map_nil, Int.natCast_add, Int.natCast_ediv, Int.natCast_emod, Int.cast_ofNat_Int, byC_ofN (n := 240 + p / 262144) (by omega), byC_ofN (n := 128 + p / 4096 % 64) (by omega), byC_ofN (n := 128 + p / 64 % 64) (by omega), byC_ofN (n := 128 + p % 64) (by omega)] using hR

theorem l2One_ok {s : List UInt8} {h : Heap} {R : AV → Heap → Prop} (hs : s ≠ []) (hl : s.length ≤ 140737488355328)
    (hR : R (.tup [.sc (.int .i64 (((step8 s).map fun x => (x.1 : Int)).getD 0)), .sc (.int .i64 (((step8 s).map fun x => (x.2 : Int)).getD 0))]) h) : ACalls Tryd.prog 60 [.sc (.string (bs s))] h R := by
  obtain ⟨b0, r, rfl⟩ : ∃ b r, s = b :: r := by
    cases s with
    | nil => exact absurd rfl hs
    | cons b r => exact ⟨b, r, rfl⟩
  have hb := b0.toNat_lt
  have h0 : at0 (b0 :: r) 0 = b0.toNat := rfl
  refine acalls_body c_spec_l2One (by simp) ?_
  unfold a_spec_l2One
  simp -implicitDefEqProofs (disch := omega) only [push_cast, ↓reduceIte, Nat.reduceEqDiff, reduceCtorEq, Nat.reduceAdd, Nat.reduceMul, Nat.reduceSub, Nat.reduceLT, Nat.reduceLeDiff, Int.reduceLT, Int.reduceLE, Int.reduceEq, Int.reduceNe, Int.reduceNeg, Int.reduceAdd, Int.reduceSub, Int.reduceMul, Int.reduceToNat, Nat.reducePow, Int.reducePow, Nat.reduceDiv, Nat.reduceMod, awp_dr, List.getElem?_cons_zero]
  refine awp_cutW 268434480 (fun e t m => e = .normal ∧ m.h = h ∧ t 4 = .v (.sc (.int .i64 (leadN b0.toNat))) ∧ t 5 = .v (.sc (.int .i64 (leadP b0.toNat)))) (by kernel_rfl) ?_ ?_
  · repeat' first
                                                            | (simp -implicitDefEqProofs (disch := omega) only [push_cast, ↓reduceIte, Nat.reduceEqDiff, reduceCtorEq, Nat.reduceAdd, Nat.reduceMul, Nat.reduceSub, Nat.reduceLT, Nat.reduceLeDiff, Int.reduceLT, Int.reduceLE, Int.reduceEq, Int.reduceNe, Int.reduceNeg, Int.reduceAdd, Int.reduceSub, Int.reduceMul, Int.reduceToNat, Nat.reducePow, Int.reducePow, Nat.reduceDiv, Nat.reduceMod, awp_dr, awp_bk, List.getElem?_cons_zero]; done)
                                                            | simp -implicitDefEqProofs (disch := omega) only [push_cast, ↓reduceIte, Nat.reduceEqDiff, reduceCtorEq, Nat.reduceAdd, Nat.reduceMul, Nat.reduceSub, Nat.reduceLT, Nat.reduceLeDiff, Int.reduceLT, Int.reduceLE, Int.reduceEq, Int.reduceNe, Int.reduceNeg, Int.reduceAdd, Int.reduceSub, Int.reduceMul, Int.reduceToNat, Nat.reducePow, Int.reducePow, Nat.reduceDiv, Nat.reduceMod, awp_dr, awp_bk, List.getElem?_cons_zero]
                                                            | (with_reducible refine cdB_dec (fun hp hq => ?_) (fun hp hq => ?_) <;> first | (clear hq; refine False.elim ?_; omega) | (simp only [hq]; clear hq) | clear hq)
                                                            | (with_reducible refine gB_dec (fun hp hq => ?_) (fun hp hq => ?_) <;> first | (clear hq; refine False.elim ?_; omega) | (simp only [hq]; clear hq) | clear hq)
                                                            | (with_reducible refine gB_ndec (fun hp hq => ?_) (fun hp hq => ?_) <;> first | (clear hq; refine False.elim ?_; omega) | (simp only [hq]; clear hq) | clear hq)
    all_goals (simp only [leadN, leadP]; repeat' split)
    all_goals first | (exfalso; omega) | (refine ⟨?_, ?_⟩ <;> first | rfl | (congr 3; omega))
  · rintro e t ⟨ml, mc, mh⟩ ⟨rfl, hh, h4, h5⟩
    simp only at hh
    subst hh
    have hn := leadN_pos b0.toNat
    by_cases hlen : r.length + 1 < leadN b0.toNat
    · repeat' first
                                                            | (simp -implicitDefEqProofs (disch := omega) only [push_cast, ↓reduceIte, Nat.reduceEqDiff, reduceCtorEq, Nat.reduceAdd, Nat.reduceMul, Nat.reduceSub, Nat.reduceLT, Nat.reduceLeDiff, Int.reduceLT, Int.reduceLE, Int.reduceEq, Int.reduceNe, Int.reduceNeg, Int.reduceAdd, Int.reduceSub, Int.reduceMul, Int.reduceToNat, Nat.reducePow, Int.reducePow, Nat.reduceDiv, Nat.reduceMod, awp_dr, awp_bk, h4, h5]; done)
                                                            | simp -implicitDefEqProofs (disch := omega) only [push_cast, ↓reduceIte, Nat.reduceEqDiff, reduceCtorEq, Nat.reduceAdd, Nat.reduceMul, Nat.reduceSub, Nat.reduceLT, Nat.reduceLeDiff, Int.reduceLT, Int.reduceLE, Int.reduceEq, Int.reduceNe, Int.reduceNeg, Int.reduceAdd, Int.reduceSub, Int.reduceMul, Int.reduceToNat, Nat.reducePow, Int.reducePow, Nat.reduceDiv, Nat.reduceMod, awp_dr, awp_bk, h4, h5]
                                                            | (with_reducible refine cdB_dec (fun hp hq => ?_) (fun hp hq => ?_) <;> first | (clear hq; refine False.elim ?_; omega) | (simp only [hq]; clear hq) | clear hq)
                                                            | (with_reducible refine gB_dec (fun hp hq => ?_) (fun hp hq => ?_) <;> first | (clear hq; refine False.elim ?_; omega) | (simp only [hq]; clear hq) | clear hq)
                                                            | (with_reducible refine gB_ndec (fun hp hq => ?_) (fun hp hq => ?_) <;> first | (clear hq; refine False.elim ?_; omega) | (simp only [hq]; clear hq) | clear hq)
      simpa [step8, h0, hlen] using hR
    · repeat' first
                                                            | (simp -implicitDefEqProofs (disch := omega) only [push_cast, ↓reduceIte, Nat.reduceEqDiff, reduceCtorEq, Nat.reduceAdd, Nat.reduceMul, Nat.reduceSub, Nat.reduceLT, Nat.reduceLeDiff, Int.reduceLT, Int.reduceLE, Int.reduceEq, Int.reduceNe, Int.reduceNeg, Int.reduceAdd, Int.reduceSub, Int.reduceMul, Int.reduceToNat, Nat.reducePow, Int.reducePow, Nat.reduceDiv, Nat.reduceMod, awp_dr, awp_bk, h4, h5]; done)
                                                            | simp -implicitDefEqProofs (disch := omega) only [push_cast, ↓reduceIte, Nat.reduceEqDiff, reduceCtorEq, Nat.reduceAdd, Nat.reduceMul, Nat.reduceSub, Nat.reduceLT, Nat.reduceLeDiff, Int.reduceLT, Int.reduceLE, Int.reduceEq, Int.reduceNe, Int.reduceNeg, Int.reduceAdd, Int.reduceSub, Int.reduceMul, Int.reduceToNat, Nat.reducePow, Int.reducePow, Nat.reduceDiv, Nat.reduceMod, awp_dr, awp_bk, h4, h5]
                                                            | (with_reducible refine cdB_dec (fun hp hq => ?_) (fun hp hq => ?_) <;> first | (clear hq; refine False.elim ?_; omega) | (simp only [hq]; clear hq) | clear hq)
                                                            | (with_reducible refine gB_dec (fun hp hq => ?_) (fun hp hq => ?_) <;> first | (clear hq; refine False.elim ?_; omega) | (simp only [hq]; clear hq) | clear hq)
                                                            | (with_reducible refine gB_ndec (fun hp hq => ?_) (fun hp hq => ?_) <;> first | (clear hq; refine False.elim ?_; omega) | (simp only [hq]; clear hq) | clear hq)
      have hlt := ptOf_lt (b0 :: r)
      refine awp_lpW 35180077121632 (fun d t m => ∃ i p : Nat, 1 ≤ i ∧ i ≤ leadN b0.toNat ∧ d = leadN b0.toNat - i ∧ t 6 = .v (.sc (.int .i64 i)) ∧ t 5 = .v (.sc (.int .i64 p)) ∧ m.h = mh ∧
        contN p (((b0 :: r).drop i).take (leadN b0.toNat - i)) = ptOf (b0 :: r)) (leadN b0.toNat - 1) (by kernel_rfl) ?_ ?_
      · exact ⟨1, leadP b0.toNat, by omega, by omega, rfl, by simp [upd_app], by simp [upd_app, ovr_app, h5], rfl, rfl⟩
      · rintro d u ⟨ml, mc, mh⟩ ⟨i, p, hi0, hi, rfl, h6, h5', hh, hc⟩
        simp only at hh
        subst hh
        have hp2 := contN_ge (p := p) (l := ((b0 :: r).drop i).take (leadN b0.toNat - i))
        have hp3 : p < 2097152 := by omega
        by_cases hlt2 : i < leadN b0.toNat
        · obtain ⟨y, hy, hg⟩ := sget (k := .i64) (l := b0 :: r) (i := i) (by simp; omega)
          have hy2 := y.toNat_lt
          rw [drop_get hy, show leadN b0.toNat - i = (leadN b0.toNat - (i + 1)) + 1 by omega, List.take_succ_cons, contN] at hc
          repeat' first
                                                            | (simp -implicitDefEqProofs (disch := omega) only [push_cast, ↓reduceIte, Nat.reduceEqDiff, reduceCtorEq, Nat.reduceAdd, Nat.reduceMul, Nat.reduceSub, Nat.reduceLT, Nat.reduceLeDiff, Int.reduceLT, Int.reduceLE, Int.reduceEq, Int.reduceNe, Int.reduceNeg, Int.reduceAdd, Int.reduceSub, Int.reduceMul, Int.reduceToNat, Nat.reducePow, Int.reducePow, Nat.reduceDiv, Nat.reduceMod, awp_dr, awp_bk, h4, h5', h6, hg, bor64]; done)
                                                            | simp -implicitDefEqProofs (disch := omega) only [push_cast, ↓reduceIte, Nat.reduceEqDiff, reduceCtorEq, Nat.reduceAdd, Nat.reduceMul, Nat.reduceSub, Nat.reduceLT, Nat.reduceLeDiff, Int.reduceLT, Int.reduceLE, Int.reduceEq, Int.reduceNe, Int.reduceNeg, Int.reduceAdd, Int.reduceSub, Int.reduceMul, Int.reduceToNat, Nat.reducePow, Int.reducePow, Nat.reduceDiv, Nat.reduceMod, awp_dr, awp_bk, h4, h5', h6, hg, bor64]
                                                            | (with_reducible refine cdB_dec (fun hp hq => ?_) (fun hp hq => ?_) <;> first | (clear hq; refine False.elim ?_; omega) | (simp only [hq]; clear hq) | clear hq)
                                                            | (with_reducible refine gB_dec (fun hp hq => ?_) (fun hp hq => ?_) <;> first | (clear hq; refine False.elim ?_; omega) | (simp only [hq]; clear hq) | clear hq)
                                                            | (with_reducible refine gB_ndec (fun hp hq => ?_) (fun hp hq => ?_) <;> first | (clear hq; refine False.elim ?_; omega) | (simp only [hq]; clear hq) | clear hq)
          exact ⟨_, by omega, i + 1, p * 64 + y.toNat % 64, by omega, by omega, rfl, by simp, by simp, hc⟩
        · have hi : i = leadN b0.toNat := by omega
          rw [hi, Nat.sub_self, List.take_zero, contN] at hc
          subst hc
          subst hi
          repeat' first
                                                            | (simp -implicitDefEqProofs (disch := omega) only [push_cast, ↓reduceIte, Nat.reduceEqDiff, reduceCtorEq, Nat.reduceAdd, Nat.reduceMul, Nat.reduceSub, Nat.reduceLT, Nat.reduceLeDiff, Int.reduceLT, Int.reduceLE, Int.reduceEq, Int.reduceNe, Int.reduceNeg, Int.reduceAdd, Int.reduceSub, Int.reduceMul, Int.reduceToNat, Nat.reducePow, Int.reducePow, Nat.reduceDiv, Nat.reduceMod, awp_dr, awp_bk, h4, h5', h6]; done)
                                                            | simp -implicitDefEqProofs (disch := omega) only [push_cast, ↓reduceIte, Nat.reduceEqDiff, reduceCtorEq, Nat.reduceAdd, Nat.reduceMul, Nat.reduceSub, Nat.reduceLT, Nat.reduceLeDiff, Int.reduceLT, Int.reduceLE, Int.reduceEq, Int.reduceNe, Int.reduceNeg, Int.reduceAdd, Int.reduceSub, Int.reduceMul, Int.reduceToNat, Nat.reducePow, Int.reducePow, Nat.reduceDiv, Nat.reduceMod, awp_dr, awp_bk, h4, h5', h6]
                                                            | refine l2Utf8_ok hlt ?_
                                                            | (with_reducible refine cdB_dec (fun hp hq => ?_) (fun hp hq => ?_) <;> first | (clear hq; refine False.elim ?_; omega) | (simp only [hq]; clear hq) | clear hq)
                                                            | (with_reducible refine gB_dec (fun hp hq => ?_) (fun hp hq => ?_) <;> first | (clear hq; refine False.elim ?_; omega) | (simp only [hq]; clear hq) | clear hq)
                                                            | (with_reducible refine gB_ndec (fun hp hq => ?_) (fun hp hq => ?_) <;> first | (clear hq; refine False.elim ?_; omega) | (simp only [hq]; clear hq) | clear hq)
                                                            | (with_reducible refine And.intro ?_ ?_; omega)
          · have e : step8 (b0 :: r) = some (ptOf (b0 :: r), leadN b0.toNat) := by simp [step8, h0, hlen, hp]
            simpa [e] using hR
          · have e : step8 (b0 :: r) = none := by simp [step8, h0, hp]
            simpa [e] using hR

/-- The points told so far and what is left of a text. -/
def Told (code : Int) (s : List UInt8) (out : List Nat) (r : List UInt8) : Prop :=
  (out.all goodP = true → pts code s = (pts code r).map (out ++ ·)) ∧ (out.all goodP = false → pts code s = none) ∧ ∀ p ∈ out, p < 2097152
theorem Told.start {code : Int} {s : List UInt8} : Told code s [] s := ⟨fun _ => by simp, fun h => by simp at h, fun p h => by cases h⟩
theorem Told.stuck {code : Int} {s : List UInt8} {out : List Nat} {r : List UInt8} (h : Told code s out r) (hr : r ≠ []) (hs : stepS code r = none) : okPts code s = false := by
  apply okPts_none
  cases hg : out.all goodP
  · exact h.2.1 hg
  · rw [h.1 hg, pts_none hr (by rw [takeP_stepS hr, hs]; rfl)]; rfl
theorem Told.step {code : Int} {s : List UInt8} {out : List Nat} {r : List UInt8} {p n : Nat} (h : Told code s out r) (hr : r ≠ []) (hs : stepS code r = some (p, n)) : Told code s (out ++ [p]) (r.drop n) := by
  have ht := takeP_stepS (code := code) hr
  rw [hs, Option.bind_some] at ht
  have hp := stepS_pt hr hs
  refine ⟨fun hg => ?_, fun hg => ?_, fun q hq => ?_⟩
  · simp only [List.all_append, Bool.and_eq_true, List.all_cons, List.all_nil, and_true] at hg
    simp only [hg.2, if_true] at ht
    rw [h.1 hg.1, pts_cons hr ht, Option.map_map]
    congr 1
    funext l
    simp
  · cases hg1 : out.all goodP
    · exact h.2.1 hg1
    · simp only [List.all_append, hg1, Bool.true_and, List.all_cons, List.all_nil, Bool.and_true] at hg
      simp only [hg] at ht
      rw [h.1 hg1, pts_none hr (by rw [ht]; rfl)]
      rfl
  · simp at hq
    rcases hq with hq | rfl
    · exact h.2.2 q hq
    · exact hp.1
theorem Told.long {code : Int} {s : List UInt8} {out : List Nat} {r : List UInt8} (h : Told code s out r) (hl : 300 < out.length) : okPts code s = false := by
  unfold okPts
  cases hg : out.all goodP
  · rw [h.2.1 hg]
  · rw [h.1 hg]
    cases pts code r with
    | none => rfl
    | some l => simp; omega
theorem Told.done {code : Int} {s : List UInt8} {out : List Nat} (h : Told code s out []) (hl : out.length ≤ 300) : (out.all goodP && decide ((out.length : Int) ≤ 300)) = okPts code s ∧ (okPts code s = true → pts code s = some out) := by
  have hd : decide ((out.length : Int) ≤ 300) = true := by simp; omega
  rw [hd, Bool.and_true]
  unfold okPts
  cases hg : out.all goodP
  · rw [h.2.1 hg]; simp
  · rw [h.1 hg, pts_nil]; simp [hl]

theorem l2Decode_ok {s : List UInt8} {code : Int} {h : Heap} {R : AV → Heap → Prop} (hl : s.length ≤ 140737488355328)
    (hR : ∀ (out : List Nat) ok, (∀ p ∈ out, p < 2097152) → out.length ≤ 300 → ok = okPts code s → (ok = true → pts code s = some out) → R (.tup [.vec (out.map natC), .sc (.bool ok)]) h) :
    ACalls Tryd.prog 44 [.sc (.string (bs s)), .sc (.int .i64 code)] h R := by
  refine ACalls.sub (acalls_body c_spec_l2Decode (by simp) ?_)
  unfold a_spec_l2Decode
  repeat' first
                                                            | (simp -implicitDefEqProofs (disch := omega) only [push_cast, ↓reduceIte, Nat.reduceEqDiff, reduceCtorEq, Nat.reduceAdd, Nat.reduceMul, Nat.reduceSub, Nat.reduceLT, Nat.reduceLeDiff, Int.reduceLT, Int.reduceLE, Int.reduceEq, Int.reduceNe, Int.reduceNeg, Int.reduceAdd, Int.reduceSub, Int.reduceMul, Int.reduceToNat, Nat.reducePow, Int.reducePow, Nat.reduceDiv, Nat.reduceMod, awp_dr, awp_bk]; done)
                                                            | simp -implicitDefEqProofs (disch := omega) only [push_cast, ↓reduceIte, Nat.reduceEqDiff, reduceCtorEq, Nat.reduceAdd, Nat.reduceMul, Nat.reduceSub, Nat.reduceLT, Nat.reduceLeDiff, Int.reduceLT, Int.reduceLE, Int.reduceEq, Int.reduceNe, Int.reduceNeg, Int.reduceAdd, Int.reduceSub, Int.reduceMul, Int.reduceToNat, Nat.reducePow, Int.reducePow, Nat.reduceDiv, Nat.reduceMod, awp_dr, awp_bk]
                                                            | (with_reducible refine cdB_dec (fun hp hq => ?_) (fun hp hq => ?_) <;> first | (clear hq; refine False.elim ?_; omega) | (simp only [hq]; clear hq) | clear hq)
                                                            | (with_reducible refine gB_dec (fun hp hq => ?_) (fun hp hq => ?_) <;> first | (clear hq; refine False.elim ?_; omega) | (simp only [hq]; clear hq) | clear hq)
                                                            | (with_reducible refine gB_ndec (fun hp hq => ?_) (fun hp hq => ?_) <;> first | (clear hq; refine False.elim ?_; omega) | (simp only [hq]; clear hq) | clear hq)
  refine awp_lpW 2361183241434822606833 (fun d t m => ∃ (r : List UInt8) (out : List Nat), d = r.length ∧ r.length ≤ s.length ∧ t 0 = .v (.sc (.string (bs r))) ∧ m.h = h ∧ LsE [64] m (t 6) 1 (out.map natC) ∧ out.length ≤ 300 ∧ Told code s out r) s.length (by kernel_rfl) ?_ ?_
  · exact ⟨s, [], rfl, Nat.le_refl _, rfl, rfl, LsE.nil, by simp, Told.start⟩
  · rintro d t ⟨ml, mc, mh⟩ ⟨r, out, rfl, hrl, h0, hh, h6, hol, hT⟩
    simp only at hh h6
    subst hh
    cases r with
    | nil =>
      have hd := hT.done hol
      obtain ⟨a, ml', mc', e1, e2, e3, e4, e5, _⟩ := h6.fz2
      simp only at e1
      repeat' first
                                                            | (simp -implicitDefEqProofs (disch := omega) only [push_cast, ↓reduceIte, Nat.reduceEqDiff, reduceCtorEq, Nat.reduceAdd, Nat.reduceMul, Nat.reduceSub, Nat.reduceLT, Nat.reduceLeDiff, Int.reduceLT, Int.reduceLE, Int.reduceEq, Int.reduceNe, Int.reduceNeg, Int.reduceAdd, Int.reduceSub, Int.reduceMul, Int.reduceToNat, Nat.reducePow, Int.reducePow, Nat.reduceDiv, Nat.reduceMod, awp_dr, awp_bk, h0, h6.ln, fzs_gen, e1, e5]; done)
                                                            | simp -implicitDefEqProofs (disch := omega) only [push_cast, ↓reduceIte, Nat.reduceEqDiff, reduceCtorEq, Nat.reduceAdd, Nat.reduceMul, Nat.reduceSub, Nat.reduceLT, Nat.reduceLeDiff, Int.reduceLT, Int.reduceLE, Int.reduceEq, Int.reduceNe, Int.reduceNeg, Int.reduceAdd, Int.reduceSub, Int.reduceMul, Int.reduceToNat, Nat.reducePow, Int.reducePow, Nat.reduceDiv, Nat.reduceMod, awp_dr, awp_bk, h0, h6.ln, fzs_gen, e1, e5]
                                                            | refine ACalls.suba (SubL.cons e2 SubL.nil) (l2Points_ok (by omega) hT.2.2 ?_)
                                                            | (with_reducible refine cdB_dec (fun hp hq => ?_) (fun hp hq => ?_) <;> first | (clear hq; refine False.elim ?_; omega) | (simp only [hq]; clear hq) | clear hq)
                                                            | (with_reducible refine gB_dec (fun hp hq => ?_) (fun hp hq => ?_) <;> first | (clear hq; refine False.elim ?_; omega) | (simp only [hq]; clear hq) | clear hq)
                                                            | (with_reducible refine gB_ndec (fun hp hq => ?_) (fun hp hq => ?_) <;> first | (clear hq; refine False.elim ?_; omega) | (simp only [hq]; clear hq) | clear hq)
      exact ⟨_, Sub.tup2 e2, hR out _ hT.2.2 hol hd.1 (by rw [hd.1]; exact hd.2)⟩
    | cons b r =>
      have hb := b.toNat_lt
      simp -implicitDefEqProofs (disch := omega) only [push_cast, ↓reduceIte, Nat.reduceEqDiff, reduceCtorEq, Nat.reduceAdd, Nat.reduceMul, Nat.reduceSub, Nat.reduceLT, Nat.reduceLeDiff, Int.reduceLT, Int.reduceLE, Int.reduceEq, Int.reduceNe, Int.reduceNeg, Int.reduceAdd, Int.reduceSub, Int.reduceMul, Int.reduceToNat, Nat.reducePow, Int.reducePow, Nat.reduceDiv, Nat.reduceMod, awp_dr, h0, List.getElem?_cons_zero]
      refine cdB_dec (fun hp hq => ?_) (fun hp hq => ?_)
      · simp only [hq]
        clear hp hq
        simp -implicitDefEqProofs (disch := omega) only [push_cast, ↓reduceIte, Nat.reduceEqDiff, reduceCtorEq, Nat.reduceAdd, Nat.reduceMul, Nat.reduceSub, Nat.reduceLT, Nat.reduceLeDiff, Int.reduceLT, Int.reduceLE, Int.reduceEq, Int.reduceNe, Int.reduceNeg, Int.reduceAdd, Int.reduceSub, Int.reduceMul, Int.reduceToNat, Nat.reducePow, Int.reducePow, Nat.reduceDiv, Nat.reduceMod, awp_dr, h0, List.getElem?_cons_zero]
        rw [awp_bk]
        simp -implicitDefEqProofs (disch := omega) only [push_cast, ↓reduceIte, Nat.reduceEqDiff, reduceCtorEq, Nat.reduceAdd, Nat.reduceMul, Nat.reduceSub, Nat.reduceLT, Nat.reduceLeDiff, Int.reduceLT, Int.reduceLE, Int.reduceEq, Int.reduceNe, Int.reduceNeg, Int.reduceAdd, Int.reduceSub, Int.reduceMul, Int.reduceToNat, Nat.reducePow, Int.reducePow, Nat.reduceDiv, Nat.reduceMod, awp_dr, h0, List.getElem?_cons_zero]
        refine awp_cutW 576460752303293360 (fun e t m => m = ⟨ml, mc, mh⟩ ∧ ((e = .normal ∧ ∃ p n : Nat, t 7 = .v (.sc (.int .i64 p)) ∧ t 8 = .v (.sc (.int .i64 n)) ∧ (stepS code (b :: r) = some (p, n) ∨ stepS code (b :: r) = none ∧ n = 0)) ∨
          (e = .ret ∧ stepS code (b :: r) = none ∧ t 4 = .v (.sc (.slice none 0 0)) ∧ t 5 = .v (.sc (.bool false))))) (by kernel_rfl) ?_ ?_
        · by_cases hc1 : code = 1
          · subst hc1
            have e1 : stepS 1 (b :: r) = step8 (b :: r) := by simp [stepS]
            repeat' first
                                                            | (simp -implicitDefEqProofs (disch := omega) only [push_cast, ↓reduceIte, Nat.reduceEqDiff, reduceCtorEq, Nat.reduceAdd, Nat.reduceMul, Nat.reduceSub, Nat.reduceLT, Nat.reduceLeDiff, Int.reduceLT, Int.reduceLE, Int.reduceEq, Int.reduceNe, Int.reduceNeg, Int.reduceAdd, Int.reduceSub, Int.reduceMul, Int.reduceToNat, Nat.reducePow, Int.reducePow, Nat.reduceDiv, Nat.reduceMod, awp_dr, awp_bk, h0, List.getElem?_cons_zero]; done)
                                                            | simp -implicitDefEqProofs (disch := omega) only [push_cast, ↓reduceIte, Nat.reduceEqDiff, reduceCtorEq, Nat.reduceAdd, Nat.reduceMul, Nat.reduceSub, Nat.reduceLT, Nat.reduceLeDiff, Int.reduceLT, Int.reduceLE, Int.reduceEq, Int.reduceNe, Int.reduceNeg, Int.reduceAdd, Int.reduceSub, Int.reduceMul, Int.reduceToNat, Nat.reducePow, Int.reducePow, Nat.reduceDiv, Nat.reduceMod, awp_dr, awp_bk, h0, List.getElem?_cons_zero]
                                                            | refine l2One_ok (by simp) (by simp at hrl ⊢; omega) ?_
                                                            | (with_reducible refine cdB_dec (fun hp hq => ?_) (fun hp hq => ?_) <;> first | (clear hq; refine False.elim ?_; omega) | (simp only [hq]; clear hq) | clear hq)
                                                            | (with_reducible refine gB_dec (fun hp hq => ?_) (fun hp hq => ?_) <;> first | (clear hq; refine False.elim ?_; omega) | (simp only [hq]; clear hq) | clear hq)
                                                            | (with_reducible refine gB_ndec (fun hp hq => ?_) (fun hp hq => ?_) <;> first | (clear hq; refine False.elim ?_; omega) | (simp only [hq]; clear hq) | clear hq)
                                                            | (with_reducible refine And.intro ?_ ?_; omega)
            refine .inl ?_
            rw [e1]
            cases hs : step8 (b :: r) with
            | none => exact ⟨0, 0, by simp, by simp, .inr ⟨rfl, rfl⟩⟩
            | some x => exact ⟨x.1, x.2, by simp, by simp, .inl rfl⟩
          by_cases hc2 : code = 2
          · subst hc2
            have e1 : stepS 2 (b :: r) = step16 (b :: r) := by simp [stepS]
            rw [e1]
            match r with
            | [] =>
              repeat' first
                                                            | (simp -implicitDefEqProofs (disch := omega) only [push_cast, ↓reduceIte, Nat.reduceEqDiff, reduceCtorEq, Nat.reduceAdd, Nat.reduceMul, Nat.reduceSub, Nat.reduceLT, Nat.reduceLeDiff, Int.reduceLT, Int.reduceLE, Int.reduceEq, Int.reduceNe, Int.reduceNeg, Int.reduceAdd, Int.reduceSub, Int.reduceMul, Int.reduceToNat, Nat.reducePow, Int.reducePow, Nat.reduceDiv, Nat.reduceMod, awp_dr, awp_bk, h0, List.getElem?_cons_zero]; done)
                                                            | simp -implicitDefEqProofs (disch := omega) only [push_cast, ↓reduceIte, Nat.reduceEqDiff, reduceCtorEq, Nat.reduceAdd, Nat.reduceMul, Nat.reduceSub, Nat.reduceLT, Nat.reduceLeDiff, Int.reduceLT, Int.reduceLE, Int.reduceEq, Int.reduceNe, Int.reduceNeg, Int.reduceAdd, Int.reduceSub, Int.reduceMul, Int.reduceToNat, Nat.reducePow, Int.reducePow, Nat.reduceDiv, Nat.reduceMod, awp_dr, awp_bk, h0, List.getElem?_cons_zero]
                                                            | (with_reducible refine cdB_dec (fun hp hq => ?_) (fun hp hq => ?_) <;> first | (clear hq; refine False.elim ?_; omega) | (simp only [hq]; clear hq) | clear hq)
                                                            | (with_reducible refine gB_dec (fun hp hq => ?_) (fun hp hq => ?_) <;> first | (clear hq; refine False.elim ?_; omega) | (simp only [hq]; clear hq) | clear hq)
                                                            | (with_reducible refine gB_ndec (fun hp hq => ?_) (fun hp hq => ?_) <;> first | (clear hq; refine False.elim ?_; omega) | (simp only [hq]; clear hq) | clear hq)
                                                            | (with_reducible refine And.intro ?_ ?_; omega)
              simp [step16]
            | [b1] =>
              have hb1 := b1.toNat_lt
              repeat' first
                                                            | (simp -implicitDefEqProofs (disch := omega) only [push_cast, ↓reduceIte, Nat.reduceEqDiff, reduceCtorEq, Nat.reduceAdd, Nat.reduceMul, Nat.reduceSub, Nat.reduceLT, Nat.reduceLeDiff, Int.reduceLT, Int.reduceLE, Int.reduceEq, Int.reduceNe, Int.reduceNeg, Int.reduceAdd, Int.reduceSub, Int.reduceMul, Int.reduceToNat, Nat.reducePow, Int.reducePow, Nat.reduceDiv, Nat.reduceMod, awp_dr, awp_bk, h0, List.getElem?_cons_zero, bor256]; done)
                                                            | simp -implicitDefEqProofs (disch := omega) only [push_cast, ↓reduceIte, Nat.reduceEqDiff, reduceCtorEq, Nat.reduceAdd, Nat.reduceMul, Nat.reduceSub, Nat.reduceLT, Nat.reduceLeDiff, Int.reduceLT, Int.reduceLE, Int.reduceEq, Int.reduceNe, Int.reduceNeg, Int.reduceAdd, Int.reduceSub, Int.reduceMul, Int.reduceToNat, Nat.reducePow, Int.reducePow, Nat.reduceDiv, Nat.reduceMod, awp_dr, awp_bk, h0, List.getElem?_cons_zero, bor256]
                                                            | refine l1In_ok ?_
                                                            | (with_reducible refine cdB_dec (fun hp hq => ?_) (fun hp hq => ?_) <;> first | (clear hq; refine False.elim ?_; omega) | (simp only [hq]; clear hq) | clear hq)
                                                            | (with_reducible refine gB_dec (fun hp hq => ?_) (fun hp hq => ?_) <;> first | (clear hq; refine False.elim ?_; omega) | (simp only [hq]; clear hq) | clear hq)
                                                            | (with_reducible refine gB_ndec (fun hp hq => ?_) (fun hp hq => ?_) <;> first | (clear hq; refine False.elim ?_; omega) | (simp only [hq]; clear hq) | clear hq)
                                                            | (with_reducible refine And.intro ?_ ?_; omega)
              all_goals exact .inl ⟨b.toNat + 256 * b1.toNat, 2, by simp; omega, by simp, .inl (by simp [step16, at0])⟩
            | [b1, b2] =>
              have hb1 := b1.toNat_lt
              repeat' first
                                                            | (simp -implicitDefEqProofs (disch := omega) only [push_cast, ↓reduceIte, Nat.reduceEqDiff, reduceCtorEq, Nat.reduceAdd, Nat.reduceMul, Nat.reduceSub, Nat.reduceLT, Nat.reduceLeDiff, Int.reduceLT, Int.reduceLE, Int.reduceEq, Int.reduceNe, Int.reduceNeg, Int.reduceAdd, Int.reduceSub, Int.reduceMul, Int.reduceToNat, Nat.reducePow, Int.reducePow, Nat.reduceDiv, Nat.reduceMod, awp_dr, awp_bk, h0, List.getElem?_cons_zero, bor256]; done)
                                                            | simp -implicitDefEqProofs (disch := omega) only [push_cast, ↓reduceIte, Nat.reduceEqDiff, reduceCtorEq, Nat.reduceAdd, Nat.reduceMul, Nat.reduceSub, Nat.reduceLT, Nat.reduceLeDiff, Int.reduceLT, Int.reduceLE, Int.reduceEq, Int.reduceNe, Int.reduceNeg, Int.reduceAdd, Int.reduceSub, Int.reduceMul, Int.reduceToNat, Nat.reducePow, Int.reducePow, Nat.reduceDiv, Nat.reduceMod, awp_dr, awp_bk, h0, List.getElem?_cons_zero, bor256]
                                                            | refine l1In_ok ?_
                                                            | (with_reducible refine cdB_dec (fun hp hq => ?_) (fun hp hq => ?_) <;> first | (clear hq; refine False.elim ?_; omega) | (simp only [hq]; clear hq) | clear hq)
                                                            | (with_reducible refine gB_dec (fun hp hq => ?_) (fun hp hq => ?_) <;> first | (clear hq; refine False.elim ?_; omega) | (simp only [hq]; clear hq) | clear hq)
                                                            | (with_reducible refine gB_ndec (fun hp hq => ?_) (fun hp hq => ?_) <;> first | (clear hq; refine False.elim ?_; omega) | (simp only [hq]; clear hq) | clear hq)
                                                            | (with_reducible refine And.intro ?_ ?_; omega)
              all_goals exact .inl ⟨b.toNat + 256 * b1.toNat, 2, by simp; omega, by simp, .inl (by simp [step16, at0])⟩
            | b1 :: b2 :: b3 :: r =>
              have hb1 := b1.toNat_lt; have hb2 := b2.toNat_lt; have hb3 := b3.toNat_lt
              repeat' first
                                                            | (simp -implicitDefEqProofs (disch := omega) only [push_cast, ↓reduceIte, Nat.reduceEqDiff, reduceCtorEq, Nat.reduceAdd, Nat.reduceMul, Nat.reduceSub, Nat.reduceLT, Nat.reduceLeDiff, Int.reduceLT, Int.reduceLE, Int.reduceEq, Int.reduceNe, Int.reduceNeg, Int.reduceAdd, Int.reduceSub, Int.reduceMul, Int.reduceToNat, Nat.reducePow, Int.reducePow, Nat.reduceDiv, Nat.reduceMod, awp_dr, awp_bk, h0, List.getElem?_cons_zero, bor256, bor1024]; done)
                                                            | simp -implicitDefEqProofs (disch := omega) only [push_cast, ↓reduceIte, Nat.reduceEqDiff, reduceCtorEq, Nat.reduceAdd, Nat.reduceMul, Nat.reduceSub, Nat.reduceLT, Nat.reduceLeDiff, Int.reduceLT, Int.reduceLE, Int.reduceEq, Int.reduceNe, Int.reduceNeg, Int.reduceAdd, Int.reduceSub, Int.reduceMul, Int.reduceToNat, Nat.reducePow, Int.reducePow, Nat.reduceDiv, Nat.reduceMod, awp_dr, awp_bk, h0, List.getElem?_cons_zero, bor256, bor1024]
                                                            | refine l1In_ok ?_
                                                            | (with_reducible refine cdB_dec (fun hp hq => ?_) (fun hp hq => ?_) <;> first | (clear hq; refine False.elim ?_; omega) | (simp only [hq]; clear hq) | clear hq)
                                                            | (with_reducible refine gB_dec (fun hp hq => ?_) (fun hp hq => ?_) <;> first | (clear hq; refine False.elim ?_; omega) | (simp only [hq]; clear hq) | clear hq)
                                                            | (with_reducible refine gB_ndec (fun hp hq => ?_) (fun hp hq => ?_) <;> first | (clear hq; refine False.elim ?_; omega) | (simp only [hq]; clear hq) | clear hq)
                                                            | (with_reducible refine And.intro ?_ ?_; omega)
              · exact .inl ⟨(b.toNat + 256 * b1.toNat) % 1024 * 1024 + (b2.toNat + 256 * b3.toNat) % 1024 + 65536, 4, by (congr 3; try omega), by simp, .inl (by simp only [step16, at0]; simp; omega)⟩
              · exact .inl ⟨b.toNat + 256 * b1.toNat, 2, by (congr 3; try omega), by simp, .inl (by simp only [step16, at0]; simp; omega)⟩
              · exact .inl ⟨b.toNat + 256 * b1.toNat, 2, by (congr 3; try omega), by simp, .inl (by simp only [step16, at0]; simp; omega)⟩
          · have e1 : stepS code (b :: r) = some (b.toNat, 1) := by simp [stepS, hc1, hc2, at0]
            repeat' first
                                                            | (simp -implicitDefEqProofs (disch := omega) only [push_cast, ↓reduceIte, Nat.reduceEqDiff, reduceCtorEq, Nat.reduceAdd, Nat.reduceMul, Nat.reduceSub, Nat.reduceLT, Nat.reduceLeDiff, Int.reduceLT, Int.reduceLE, Int.reduceEq, Int.reduceNe, Int.reduceNeg, Int.reduceAdd, Int.reduceSub, Int.reduceMul, Int.reduceToNat, Nat.reducePow, Int.reducePow, Nat.reduceDiv, Nat.reduceMod, awp_dr, awp_bk, h0, List.getElem?_cons_zero]; done)
                                                            | simp -implicitDefEqProofs (disch := omega) only [push_cast, ↓reduceIte, Nat.reduceEqDiff, reduceCtorEq, Nat.reduceAdd, Nat.reduceMul, Nat.reduceSub, Nat.reduceLT, Nat.reduceLeDiff, Int.reduceLT, Int.reduceLE, Int.reduceEq, Int.reduceNe, Int.reduceNeg, Int.reduceAdd, Int.reduceSub, Int.reduceMul, Int.reduceToNat, Nat.reducePow, Int.reducePow, Nat.reduceDiv, Nat.reduceMod, awp_dr, awp_bk, h0, List.getElem?_cons_zero]
                                                            | (with_reducible refine cdB_dec (fun hp hq => ?_) (fun hp hq => ?_) <;> first | (clear hq; refine False.elim ?_; omega) | (simp only [hq]; clear hq) | clear hq)
                                                            | (with_reducible refine gB_dec (fun hp hq => ?_) (fun hp hq => ?_) <;> first | (clear hq; refine False.elim ?_; omega) | (simp only [hq]; clear hq) | clear hq)
                                                            | (with_reducible refine gB_ndec (fun hp hq => ?_) (fun hp hq => ?_) <;> first | (clear hq; refine False.elim ?_; omega) | (simp only [hq]; clear hq) | clear hq)
                                                            | (with_reducible refine And.intro ?_ ?_; omega)
            exact .inl ⟨b.toNat, 1, rfl, rfl, .inl e1⟩
        · rintro e u m ⟨rfl, ⟨rfl, p, n, h7, h8, hp⟩ | ⟨rfl, hp, h4, h5⟩⟩
          · by_cases hn : n = 0
            · have hz : stepS code (b :: r) = none := by
                rcases hp with hp | hp
                · have := stepS_pt (by simp) hp; omega
                · exact hp.1
              have hk := hT.stuck (by simp) hz
              repeat' first
                                                            | (simp -implicitDefEqProofs (disch := omega) only [push_cast, ↓reduceIte, Nat.reduceEqDiff, reduceCtorEq, Nat.reduceAdd, Nat.reduceMul, Nat.reduceSub, Nat.reduceLT, Nat.reduceLeDiff, Int.reduceLT, Int.reduceLE, Int.reduceEq, Int.reduceNe, Int.reduceNeg, Int.reduceAdd, Int.reduceSub, Int.reduceMul, Int.reduceToNat, Nat.reducePow, Int.reducePow, Nat.reduceDiv, Nat.reduceMod, awp_dr, awp_bk, h7, h8]; done)
                                                            | simp -implicitDefEqProofs (disch := omega) only [push_cast, ↓reduceIte, Nat.reduceEqDiff, reduceCtorEq, Nat.reduceAdd, Nat.reduceMul, Nat.reduceSub, Nat.reduceLT, Nat.reduceLeDiff, Int.reduceLT, Int.reduceLE, Int.reduceEq, Int.reduceNe, Int.reduceNeg, Int.reduceAdd, Int.reduceSub, Int.reduceMul, Int.reduceToNat, Nat.reducePow, Int.reducePow, Nat.reduceDiv, Nat.reduceMod, awp_dr, awp_bk, h7, h8]
                                                            | (with_reducible refine cdB_dec (fun hp hq => ?_) (fun hp hq => ?_) <;> first | (clear hq; refine False.elim ?_; omega) | (simp only [hq]; clear hq) | clear hq)
                                                            | (with_reducible refine gB_dec (fun hp hq => ?_) (fun hp hq => ?_) <;> first | (clear hq; refine False.elim ?_; omega) | (simp only [hq]; clear hq) | clear hq)
                                                            | (with_reducible refine gB_ndec (fun hp hq => ?_) (fun hp hq => ?_) <;> first | (clear hq; refine False.elim ?_; omega) | (simp only [hq]; clear hq) | clear hq)
              exact ⟨_, Sub.tup2 Sub.nilv, hR [] _ (by simp) (by simp) hk.symm (by simp)⟩
            · have hz : stepS code (b :: r) = some (p, n) := by
                rcases hp with hp | hp
                · exact hp
                · omega
              have hst := stepS_pt (by simp) hz
              have hT2 := hT.step (by simp) hz
              repeat' first
                                                            | (simp -implicitDefEqProofs (disch := omega) only [push_cast, ↓reduceIte, Nat.reduceEqDiff, reduceCtorEq, Nat.reduceAdd, Nat.reduceMul, Nat.reduceSub, Nat.reduceLT, Nat.reduceLeDiff, Int.reduceLT, Int.reduceLE, Int.reduceEq, Int.reduceNe, Int.reduceNeg, Int.reduceAdd, Int.reduceSub, Int.reduceMul, Int.reduceToNat, Nat.reducePow, Int.reducePow, Nat.reduceDiv, Nat.reduceMod, awp_dr, awp_bk, h7, h8]; done)
                                                            | simp -implicitDefEqProofs (disch := omega) only [push_cast, ↓reduceIte, Nat.reduceEqDiff, reduceCtorEq, Nat.reduceAdd, Nat.reduceMul, Nat.reduceSub, Nat.reduceLT, Nat.reduceLeDiff, Int.reduceLT, Int.reduceLE, Int.reduceEq, Int.reduceNe, Int.reduceNeg, Int.reduceAdd, Int.reduceSub, Int.reduceMul, Int.reduceToNat, Nat.reducePow, Int.reducePow, Nat.reduceDiv, Nat.reduceMod, awp_dr, awp_bk, h7, h8]
                                                            | (with_reducible refine cdB_dec (fun hp hq => ?_) (fun hp hq => ?_) <;> first | (clear hq; refine False.elim ?_; omega) | (simp only [hq]; clear hq) | clear hq)
                                                            | (with_reducible refine gB_dec (fun hp hq => ?_) (fun hp hq => ?_) <;> first | (clear hq; refine False.elim ?_; omega) | (simp only [hq]; clear hq) | clear hq)
                                                            | (with_reducible refine gB_ndec (fun hp hq => ?_) (fun hp hq => ?_) <;> first | (clear hq; refine False.elim ?_; omega) | (simp only [hq]; clear hq) | clear hq)
              refine bind_app (fs := [natC p]) h6 (by simp) (by simp) (by simp [srcT, natC]) (by simp [natC]) (by simp [natC, cellA]) (by simp; omega) (by simp; omega) fun x' m' hx' hh' hk' => ?_
              have hx2 : LsE [64] m' x' 1 ((out ++ [p]).map natC) := by simpa using hx'
              have hx3 := hx2.ln
              repeat' first
                                                            | (simp -implicitDefEqProofs (disch := omega) only [push_cast, ↓reduceIte, Nat.reduceEqDiff, reduceCtorEq, Nat.reduceAdd, Nat.reduceMul, Nat.reduceSub, Nat.reduceLT, Nat.reduceLeDiff, Int.reduceLT, Int.reduceLE, Int.reduceEq, Int.reduceNe, Int.reduceNeg, Int.reduceAdd, Int.reduceSub, Int.reduceMul, Int.reduceToNat, Nat.reducePow, Int.reducePow, Nat.reduceDiv, Nat.reduceMod, awp_dr, awp_bk, h0, h8, hx3]; done)
                                                            | simp -implicitDefEqProofs (disch := omega) only [push_cast, ↓reduceIte, Nat.reduceEqDiff, reduceCtorEq, Nat.reduceAdd, Nat.reduceMul, Nat.reduceSub, Nat.reduceLT, Nat.reduceLeDiff, Int.reduceLT, Int.reduceLE, Int.reduceEq, Int.reduceNe, Int.reduceNeg, Int.reduceAdd, Int.reduceSub, Int.reduceMul, Int.reduceToNat, Nat.reducePow, Int.reducePow, Nat.reduceDiv, Nat.reduceMod, awp_dr, awp_bk, h0, h8, hx3]
                                                            | (with_reducible refine cdB_dec (fun hp hq => ?_) (fun hp hq => ?_) <;> first | (clear hq; refine False.elim ?_; omega) | (simp only [hq]; clear hq) | clear hq)
                                                            | (with_reducible refine gB_dec (fun hp hq => ?_) (fun hp hq => ?_) <;> first | (clear hq; refine False.elim ?_; omega) | (simp only [hq]; clear hq) | clear hq)
                                                            | (with_reducible refine gB_ndec (fun hp hq => ?_) (fun hp hq => ?_) <;> first | (clear hq; refine False.elim ?_; omega) | (simp only [hq]; clear hq) | clear hq)
                                                            | (with_reducible refine And.intro ?_ ?_; omega)
              · refine ⟨_, Sub.tup2 Sub.nilv, ?_⟩
                rw [hh']
                exact hR [] _ (by simp) (by simp) (hT2.long (by omega)).symm (by simp)
              · refine ⟨⟨by omega, by simp at hst; omega, by omega⟩, _, ?_, (b :: r).drop n, out ++ [p], rfl, ?_, ?_, hh', hx2, by omega, hT2⟩
                · simp at hst ⊢; omega
                · simp at hst hrl ⊢; omega
                · rw [show ((r.length : Int) + 1).toNat = (b :: r).length by simp, List.take_length]
          · repeat' first
                                                            | (simp -implicitDefEqProofs (disch := omega) only [push_cast, ↓reduceIte, Nat.reduceEqDiff, reduceCtorEq, Nat.reduceAdd, Nat.reduceMul, Nat.reduceSub, Nat.reduceLT, Nat.reduceLeDiff, Int.reduceLT, Int.reduceLE, Int.reduceEq, Int.reduceNe, Int.reduceNeg, Int.reduceAdd, Int.reduceSub, Int.reduceMul, Int.reduceToNat, Nat.reducePow, Int.reducePow, Nat.reduceDiv, Nat.reduceMod, awp_dr, awp_bk, h4, h5]; done)
                                                            | simp -implicitDefEqProofs (disch := omega) only [push_cast, ↓reduceIte, Nat.reduceEqDiff, reduceCtorEq, Nat.reduceAdd, Nat.reduceMul, Nat.reduceSub, Nat.reduceLT, Nat.reduceLeDiff, Int.reduceLT, Int.reduceLE, Int.reduceEq, Int.reduceNe, Int.reduceNeg, Int.reduceAdd, Int.reduceSub, Int.reduceMul, Int.reduceToNat, Nat.reducePow, Int.reducePow, Nat.reduceDiv, Nat.reduceMod, awp_dr, awp_bk, h4, h5]
                                                            | (with_reducible refine cdB_dec (fun hp hq => ?_) (fun hp hq => ?_) <;> first | (clear hq; refine False.elim ?_; omega) | (simp only [hq]; clear hq) | clear hq)
                                                            | (with_reducible refine gB_dec (fun hp hq => ?_) (fun hp hq => ?_) <;> first | (clear hq; refine False.elim ?_; omega) | (simp only [hq]; clear hq) | clear hq)
                                                            | (with_reducible refine gB_ndec (fun hp hq => ?_) (fun hp hq => ?_) <;> first | (clear hq; refine False.elim ?_; omega) | (simp only [hq]; clear hq) | clear hq)
            exact ⟨_, Sub.tup2 Sub.nilv, hR [] _ (by simp) (by simp) (hT.stuck (by simp) hp).symm (by simp)⟩
      · simp at hp

end Go.Proofs.YtgkiaoodalnceaaDoor
