import Derived.Test.YtgkiaoodalnceaaDoorClVb
/- Is a list of nodes a good type; do a value's nodes stand as they must: the reference. -/
namespace Go.Proofs.YtgkiaoodalnceaaDoor
open Go SL VM
set_option maxRecDepth 100000
set_option linter.unusedVariables false
set_option linter.unusedSimpArgs false
attribute [local irreducible] SL.awp

theorem l12Shape_ok {l : List VN} {h : Heap} {R : AV → Heap → Prop} (hl : l.length ≤ 1048576) (hR : R (.sc (.bool (goodV l))) h) : ACalls Tryd.prog 24 [.vec (l.map vnC)] h R := by
  refine acalls_body c_spec_l12Shape (by simp) ?_
  unfold a_spec_l12Shape
  repeat' first
                                                            | (simp -implicitDefEqProofs (disch := omega) only [push_cast, ↓reduceIte, Nat.reduceEqDiff, reduceCtorEq, Nat.reduceAdd, Nat.reduceMul, Nat.reduceSub, Nat.reduceLT, Nat.reduceLeDiff, Int.reduceLT, Int.reduceLE, Int.reduceEq, Int.reduceNe, Int.reduceNeg, Int.reduceAdd, Int.reduceSub, Int.reduceMul, Int.reduceToNat, Nat.reducePow, Int.reducePow, Nat.reduceDiv, Nat.reduceMod, awp_dr, awp_bk]; done)
                                                            | simp -implicitDefEqProofs (disch := omega) only [push_cast, ↓reduceIte, Nat.reduceEqDiff, reduceCtorEq, Nat.reduceAdd, Nat.reduceMul, Nat.reduceSub, Nat.reduceLT, Nat.reduceLeDiff, Int.reduceLT, Int.reduceLE, Int.reduceEq, Int.reduceNe, Int.reduceNeg, Int.reduceAdd, Int.reduceSub, Int.reduceMul, Int.reduceToNat, Nat.reducePow, Int.reducePow, Nat.reduceDiv, Nat.reduceMod, awp_dr, awp_bk]
                                                            | (with_reducible refine cdB_dec (fun hp hq => ?_) (fun hp hq => ?_) <;> first | (clear hq; refine False.elim ?_; omega) | (simp only [hq]; clear hq) | clear hq)
                                                            | (with_reducible refine gB_dec (fun hp hq => ?_) (fun hp hq => ?_) <;> first | (clear hq; refine False.elim ?_; omega) | (simp only [hq]; clear hq) | clear hq)
                                                            | (with_reducible refine gB_ndec (fun hp hq => ?_) (fun hp hq => ?_) <;> first | (clear hq; refine False.elim ?_; omega) | (simp only [hq]; clear hq) | clear hq)
  refine awp_lp (fun d st => ∃ i : Nat, i ≤ l.length ∧ d = l.length - i ∧ st.t 0 = .v (.vec (l.map vnC)) ∧ st.t 7 = .v (.vec (l.map vnC)) ∧ st.t 8 = .v (.sc (.int .i64 l.length)) ∧ st.t 9 = .v (.sc (.int .i64 i)) ∧ st.m.h = h ∧
    ∀ j, j < i → standN (l.map VN.up) j = true) l.length ?_ ?_
  · exact ⟨0, Nat.zero_le _, rfl, rfl, rfl, rfl, rfl, rfl, fun j hj => by omega⟩
  · rintro d ⟨t, ml, mc, mh⟩ ⟨i, hi, rfl, h0, h7, h8, h9, hh, hok⟩
    simp only at h0 h7 h8 h9 hh
    subst hh
    by_cases hlt : i < l.length
    · obtain ⟨x, hx⟩ : ∃ x, l[i]? = some x := ⟨_, List.getElem?_eq_getElem hlt⟩
      have hg : ∀ m, ixT 3 m (.v (.vec (l.map vnC))) (.v (.sc (.int .i64 i))) = some (.vp (vnC x)) := fun m => vec_get vnC_len (by simp [hx])
      have hup : upAt (l.map VN.up) i = x.up := by simp [upAt, hx]
      have bad : standN (l.map VN.up) i = false → goodV l = false := fun hb => by
        simp only [goodV, Bool.and_eq_false_iff]
        right
        rw [List.all_eq_false]
        exact ⟨i, by simpa using hlt, by simp [hb]⟩
      repeat' first
                                                            | (simp -implicitDefEqProofs (disch := omega) only [push_cast, ↓reduceIte, Nat.reduceEqDiff, reduceCtorEq, Nat.reduceAdd, Nat.reduceMul, Nat.reduceSub, Nat.reduceLT, Nat.reduceLeDiff, Int.reduceLT, Int.reduceLE, Int.reduceEq, Int.reduceNe, Int.reduceNeg, Int.reduceAdd, Int.reduceSub, Int.reduceMul, Int.reduceToNat, Nat.reducePow, Int.reducePow, Nat.reduceDiv, Nat.reduceMod, awp_dr, awp_bk, h0, h7, h8, h9, hg, vnC]; done)
                                                            | simp -implicitDefEqProofs (disch := omega) only [push_cast, ↓reduceIte, Nat.reduceEqDiff, reduceCtorEq, Nat.reduceAdd, Nat.reduceMul, Nat.reduceSub, Nat.reduceLT, Nat.reduceLeDiff, Int.reduceLT, Int.reduceLE, Int.reduceEq, Int.reduceNe, Int.reduceNeg, Int.reduceAdd, Int.reduceSub, Int.reduceMul, Int.reduceToNat, Nat.reducePow, Int.reducePow, Nat.reduceDiv, Nat.reduceMod, awp_dr, awp_bk, h0, h7, h8, h9, hg, vnC]
                                                            | refine l1In_ok ?_
                                                            | (with_reducible refine cdB_dec (fun hp hq => ?_) (fun hp hq => ?_) <;> first | (clear hq; refine False.elim ?_; omega) | (simp only [hq]; clear hq) | clear hq)
                                                            | (with_reducible refine gB_dec (fun hp hq => ?_) (fun hp hq => ?_) <;> first | (clear hq; refine False.elim ?_; omega) | (simp only [hq]; clear hq) | clear hq)
                                                            | (with_reducible refine gB_ndec (fun hp hq => ?_) (fun hp hq => ?_) <;> first | (clear hq; refine False.elim ?_; omega) | (simp only [hq]; clear hq) | clear hq)
      · have h2 := hp
        rename_i q1 h1
        have hst := standN_of hup h1 h2
        refine awp_lp (fun d st => ∃ (a : Int) (b : Bool) (f : Nat), -1 ≤ a ∧ a ≤ (i : Int) - 1 ∧ (a + 1).toNat ≤ f ∧ d = (a + 1).toNat ∧ st.t 0 = .v (.vec (l.map vnC)) ∧ st.t 7 = .v (.vec (l.map vnC)) ∧ st.t 8 = .v (.sc (.int .i64 l.length)) ∧ st.t 9 = .v (.sc (.int .i64 i)) ∧ st.m.h = mh ∧
          st.t 4 = .lp 4 mc 0 ∧ st.t 5 = .v (.sc (.bool b)) ∧ st.t 6 = .v (.sc (.int .i64 a)) ∧ st.m.l 4 = .mu mc [.v (.sc (.int .i64 x.n)), .v (.sc (.string (bs x.text))), .v (.sc (.int .i64 x.up))] ∧
          (b || hits (l.map VN.up) x.up f a) = standN (l.map VN.up) i) (((i : Int) - 1 + 1).toNat) ?_ ?_
        · exact ⟨(i : Int) - 1, decide ((i : Int) = 0), i, by omega, by omega, by omega, rfl, h0, h7, h8, h9, rfl, rfl, rfl, rfl, rfl, hst.symm⟩
        · clear h0 h7 h8 h9
          rintro d ⟨t, ml, mc', mh'⟩ ⟨a, b, f, ha0, ha1, hf, rfl, h0, h7, h8, h9, hh, h4, h5, h6, m4, hb⟩
          simp only at h0 h7 h8 h9 hh h4 h5 h6 m4
          subst hh
          cases b
          · by_cases ha : 0 ≤ a
            · obtain ⟨n, rfl⟩ : ∃ n : Nat, a = n := ⟨a.toNat, by omega⟩
              obtain ⟨z, hz⟩ : ∃ z, l[n]? = some z := ⟨_, List.getElem?_eq_getElem (by omega)⟩
              have hg2 : ∀ m, ixT 3 m (.v (.vec (l.map vnC))) (.v (.sc (.int .i64 n))) = some (.vp (vnC z)) := fun m => vec_get vnC_len (by simp [hz])
              have hzu : upAt (l.map VN.up) n = z.up := by simp [upAt, hz]
              have hzs := standN_up (hok n (by omega))
              rw [hzu] at hzs
              obtain ⟨f', rfl⟩ : ∃ f', f = f' + 1 := ⟨f - 1, by omega⟩
              simp only [hits, Bool.false_or, hzu] at hb
              rw [if_neg (by omega)] at hb
              repeat' first
                                                            | (simp -implicitDefEqProofs (disch := omega) only [push_cast, ↓reduceIte, Nat.reduceEqDiff, reduceCtorEq, Nat.reduceAdd, Nat.reduceMul, Nat.reduceSub, Nat.reduceLT, Nat.reduceLeDiff, Int.reduceLT, Int.reduceLE, Int.reduceEq, Int.reduceNe, Int.reduceNeg, Int.reduceAdd, Int.reduceSub, Int.reduceMul, Int.reduceToNat, Nat.reducePow, Int.reducePow, Nat.reduceDiv, Nat.reduceMod, awp_dr, awp_bk, h0, h7, h8, h9, h4, h5, h6, m4, hg2, vnC]; done)
                                                            | simp -implicitDefEqProofs (disch := omega) only [push_cast, ↓reduceIte, Nat.reduceEqDiff, reduceCtorEq, Nat.reduceAdd, Nat.reduceMul, Nat.reduceSub, Nat.reduceLT, Nat.reduceLeDiff, Int.reduceLT, Int.reduceLE, Int.reduceEq, Int.reduceNe, Int.reduceNeg, Int.reduceAdd, Int.reduceSub, Int.reduceMul, Int.reduceToNat, Nat.reducePow, Int.reducePow, Nat.reduceDiv, Nat.reduceMod, awp_dr, awp_bk, h0, h7, h8, h9, h4, h5, h6, m4, hg2, vnC]
                                                            | (with_reducible refine cdB_dec (fun hp hq => ?_) (fun hp hq => ?_) <;> first | (clear hq; refine False.elim ?_; omega) | (simp only [hq]; clear hq) | clear hq)
                                                            | (with_reducible refine gB_dec (fun hp hq => ?_) (fun hp hq => ?_) <;> first | (clear hq; refine False.elim ?_; omega) | (simp only [hq]; clear hq) | clear hq)
                                                            | (with_reducible refine gB_ndec (fun hp hq => ?_) (fun hp hq => ?_) <;> first | (clear hq; refine False.elim ?_; omega) | (simp only [hq]; clear hq) | clear hq)
              refine ⟨(z.up + 1).toNat, by omega, z.up, _, f', by omega, by omega, by omega, rfl, rfl, rfl, ?_⟩
              rw [← hb]
              by_cases he : (n : Int) = x.up <;> simp [he]
            · have hf0 : hits (l.map VN.up) x.up f a = false := by
                cases f with
                | zero => rfl
                | succ f => simp only [hits]; rw [if_pos (by omega)]
              rw [hf0] at hb
              repeat' first
                                                            | (simp -implicitDefEqProofs (disch := omega) only [push_cast, ↓reduceIte, Nat.reduceEqDiff, reduceCtorEq, Nat.reduceAdd, Nat.reduceMul, Nat.reduceSub, Nat.reduceLT, Nat.reduceLeDiff, Int.reduceLT, Int.reduceLE, Int.reduceEq, Int.reduceNe, Int.reduceNeg, Int.reduceAdd, Int.reduceSub, Int.reduceMul, Int.reduceToNat, Nat.reducePow, Int.reducePow, Nat.reduceDiv, Nat.reduceMod, awp_dr, awp_bk, h0, h7, h8, h9, h4, h5, h6, m4]; done)
                                                            | simp -implicitDefEqProofs (disch := omega) only [push_cast, ↓reduceIte, Nat.reduceEqDiff, reduceCtorEq, Nat.reduceAdd, Nat.reduceMul, Nat.reduceSub, Nat.reduceLT, Nat.reduceLeDiff, Int.reduceLT, Int.reduceLE, Int.reduceEq, Int.reduceNe, Int.reduceNeg, Int.reduceAdd, Int.reduceSub, Int.reduceMul, Int.reduceToNat, Nat.reducePow, Int.reducePow, Nat.reduceDiv, Nat.reduceMod, awp_dr, awp_bk, h0, h7, h8, h9, h4, h5, h6, m4]
                                                            | (with_reducible refine cdB_dec (fun hp hq => ?_) (fun hp hq => ?_) <;> first | (clear hq; refine False.elim ?_; omega) | (simp only [hq]; clear hq) | clear hq)
                                                            | (with_reducible refine gB_dec (fun hp hq => ?_) (fun hp hq => ?_) <;> first | (clear hq; refine False.elim ?_; omega) | (simp only [hq]; clear hq) | clear hq)
                                                            | (with_reducible refine gB_ndec (fun hp hq => ?_) (fun hp hq => ?_) <;> first | (clear hq; refine False.elim ?_; omega) | (simp only [hq]; clear hq) | clear hq)
              rw [bad hb.symm] at hR
              exact hR
          · repeat' first
                                                            | (simp -implicitDefEqProofs (disch := omega) only [push_cast, ↓reduceIte, Nat.reduceEqDiff, reduceCtorEq, Nat.reduceAdd, Nat.reduceMul, Nat.reduceSub, Nat.reduceLT, Nat.reduceLeDiff, Int.reduceLT, Int.reduceLE, Int.reduceEq, Int.reduceNe, Int.reduceNeg, Int.reduceAdd, Int.reduceSub, Int.reduceMul, Int.reduceToNat, Nat.reducePow, Int.reducePow, Nat.reduceDiv, Nat.reduceMod, awp_dr, awp_bk, h0, h7, h8, h9, h4, h5, h6, m4]; done)
                                                            | simp -implicitDefEqProofs (disch := omega) only [push_cast, ↓reduceIte, Nat.reduceEqDiff, reduceCtorEq, Nat.reduceAdd, Nat.reduceMul, Nat.reduceSub, Nat.reduceLT, Nat.reduceLeDiff, Int.reduceLT, Int.reduceLE, Int.reduceEq, Int.reduceNe, Int.reduceNeg, Int.reduceAdd, Int.reduceSub, Int.reduceMul, Int.reduceToNat, Nat.reducePow, Int.reducePow, Nat.reduceDiv, Nat.reduceMod, awp_dr, awp_bk, h0, h7, h8, h9, h4, h5, h6, m4]
                                                            | (with_reducible refine cdB_dec (fun hp hq => ?_) (fun hp hq => ?_) <;> first | (clear hq; refine False.elim ?_; omega) | (simp only [hq]; clear hq) | clear hq)
                                                            | (with_reducible refine gB_dec (fun hp hq => ?_) (fun hp hq => ?_) <;> first | (clear hq; refine False.elim ?_; omega) | (simp only [hq]; clear hq) | clear hq)
                                                            | (with_reducible refine gB_ndec (fun hp hq => ?_) (fun hp hq => ?_) <;> first | (clear hq; refine False.elim ?_; omega) | (simp only [hq]; clear hq) | clear hq)
            all_goals
              refine ⟨_, by omega, i + 1, hlt, rfl, by simp, fun j hj => ?_⟩
              by_cases hji : j = i
              · subst hji; simpa using hb.symm
              · exact hok j (by omega)
      · rw [bad (standN_no2 hup hp)] at hR; exact hR
      · rw [bad (standN_no1 hup hp)] at hR; exact hR
    · have hi : i = l.length := by omega
      subst hi
      repeat' first
                                                            | (simp -implicitDefEqProofs (disch := omega) only [push_cast, ↓reduceIte, Nat.reduceEqDiff, reduceCtorEq, Nat.reduceAdd, Nat.reduceMul, Nat.reduceSub, Nat.reduceLT, Nat.reduceLeDiff, Int.reduceLT, Int.reduceLE, Int.reduceEq, Int.reduceNe, Int.reduceNeg, Int.reduceAdd, Int.reduceSub, Int.reduceMul, Int.reduceToNat, Nat.reducePow, Int.reducePow, Nat.reduceDiv, Nat.reduceMod, awp_dr, awp_bk, h0, h7, h8, h9]; done)
                                                            | simp -implicitDefEqProofs (disch := omega) only [push_cast, ↓reduceIte, Nat.reduceEqDiff, reduceCtorEq, Nat.reduceAdd, Nat.reduceMul, Nat.reduceSub, Nat.reduceLT, Nat.reduceLeDiff, Int.reduceLT, Int.reduceLE, Int.reduceEq, Int.reduceNe, Int.reduceNeg, Int.reduceAdd, Int.reduceSub, Int.reduceMul, Int.reduceToNat, Nat.reducePow, Int.reducePow, Nat.reduceDiv, Nat.reduceMod, awp_dr, awp_bk, h0, h7, h8, h9]
                                                            | refine l1In_ok ?_
                                                            | (with_reducible refine cdB_dec (fun hp hq => ?_) (fun hp hq => ?_) <;> first | (clear hq; refine False.elim ?_; omega) | (simp only [hq]; clear hq) | clear hq)
                                                            | (with_reducible refine gB_dec (fun hp hq => ?_) (fun hp hq => ?_) <;> first | (clear hq; refine False.elim ?_; omega) | (simp only [hq]; clear hq) | clear hq)
                                                            | (with_reducible refine gB_ndec (fun hp hq => ?_) (fun hp hq => ?_) <;> first | (clear hq; refine False.elim ?_; omega) | (simp only [hq]; clear hq) | clear hq)
      have e : goodV l = decide (1 ≤ (l.length : Int) ∧ (l.length : Int) ≤ 100) := by
        have h1 : ((List.range l.length).all (standN (l.map VN.up))) = true := by
          rw [List.all_eq_true]; intro j hj; exact hok j (by simpa using hj)
        have h2 : (1 ≤ l.length ∧ l.length ≤ 100) ↔ (1 ≤ (l.length : Int) ∧ (l.length : Int) ≤ 100) := by omega
        simp only [goodV, h1, Bool.and_true, h2]
      rw [← e]; exact hR

theorem GoodType_ok {l : List TN} {h : Heap} {R : AV → Heap → Prop} (hl : l.length ≤ 1048576) (hR : R (.sc (.bool (goodT l))) h) : ACalls Tryd.prog 23 [.vec (l.map tnC)] h R := by
  refine acalls_body c_spec_GoodType (by simp) ?_
  unfold a_spec_GoodType
  repeat' first
                                                            | (simp -implicitDefEqProofs (disch := omega) only [push_cast, ↓reduceIte, Nat.reduceEqDiff, reduceCtorEq, Nat.reduceAdd, Nat.reduceMul, Nat.reduceSub, Nat.reduceLT, Nat.reduceLeDiff, Int.reduceLT, Int.reduceLE, Int.reduceEq, Int.reduceNe, Int.reduceNeg, Int.reduceAdd, Int.reduceSub, Int.reduceMul, Int.reduceToNat, Nat.reducePow, Int.reducePow, Nat.reduceDiv, Nat.reduceMod, awp_dr, awp_bk]; done)
                                                            | simp -implicitDefEqProofs (disch := omega) only [push_cast, ↓reduceIte, Nat.reduceEqDiff, reduceCtorEq, Nat.reduceAdd, Nat.reduceMul, Nat.reduceSub, Nat.reduceLT, Nat.reduceLeDiff, Int.reduceLT, Int.reduceLE, Int.reduceEq, Int.reduceNe, Int.reduceNeg, Int.reduceAdd, Int.reduceSub, Int.reduceMul, Int.reduceToNat, Nat.reducePow, Int.reducePow, Nat.reduceDiv, Nat.reduceMod, awp_dr, awp_bk]
                                                            | refine l1In_ok ?_
                                                            | (with_reducible refine cdB_dec (fun hp hq => ?_) (fun hp hq => ?_) <;> first | (clear hq; refine False.elim ?_; omega) | (simp only [hq]; clear hq) | clear hq)
                                                            | (with_reducible refine gB_dec (fun hp hq => ?_) (fun hp hq => ?_) <;> first | (clear hq; refine False.elim ?_; omega) | (simp only [hq]; clear hq) | clear hq)
                                                            | (with_reducible refine gB_ndec (fun hp hq => ?_) (fun hp hq => ?_) <;> first | (clear hq; refine False.elim ?_; omega) | (simp only [hq]; clear hq) | clear hq)
  · have hlen := hp
    refine awp_lp (fun d st => ∃ i : Nat, i ≤ l.length ∧ d = l.length - i ∧ st.t 0 = .v (.vec (l.map tnC)) ∧ st.t 17 = .v (.vec (l.map tnC)) ∧ st.t 18 = .v (.sc (.int .i64 l.length)) ∧ st.t 19 = .v (.sc (.int .i64 i)) ∧ st.m.h = h ∧
      ∀ j, j < i → okAt l j = true) l.length ?_ ?_
    · exact ⟨0, Nat.zero_le _, rfl, rfl, rfl, rfl, rfl, rfl, fun j hj => by omega⟩
    · rintro d ⟨t, ml, mc, mh⟩ ⟨i, hi, rfl, h0, h17, h18, h19, hh, hok⟩
      simp only at h0 h17 h18 h19 hh
      subst hh
      by_cases hlt : i < l.length
      · obtain ⟨x, hx⟩ : ∃ x, l[i]? = some x := ⟨_, List.getElem?_eq_getElem hlt⟩
        have hg : ∀ m, ixT 3 m (.v (.vec (l.map tnC))) (.v (.sc (.int .i64 i))) = some (.vp (tnC x)) := fun m => vec_get tnC_len (by simp [hx])
        have hup : upAt (l.map TN.up) i = x.up := by simp [upAt, hx]
        have hoki : okAt l i = okN l i x := by simp [okAt, hx]
        have bad : okN l i x = false → goodT l = false := fun hb => by
          simp only [goodT, Bool.and_eq_false_iff]
          right
          rw [List.all_eq_false]
          exact ⟨i, by simpa using hlt, by simp [hoki, hb]⟩
        repeat' first
                                                            | (simp -implicitDefEqProofs (disch := omega) only [push_cast, ↓reduceIte, Nat.reduceEqDiff, reduceCtorEq, Nat.reduceAdd, Nat.reduceMul, Nat.reduceSub, Nat.reduceLT, Nat.reduceLeDiff, Int.reduceLT, Int.reduceLE, Int.reduceEq, Int.reduceNe, Int.reduceNeg, Int.reduceAdd, Int.reduceSub, Int.reduceMul, Int.reduceToNat, Nat.reducePow, Int.reducePow, Nat.reduceDiv, Nat.reduceMod, awp_dr, awp_bk, h0, h17, h18, h19, hg, tnC]; done)
                                                            | simp -implicitDefEqProofs (disch := omega) only [push_cast, ↓reduceIte, Nat.reduceEqDiff, reduceCtorEq, Nat.reduceAdd, Nat.reduceMul, Nat.reduceSub, Nat.reduceLT, Nat.reduceLeDiff, Int.reduceLT, Int.reduceLE, Int.reduceEq, Int.reduceNe, Int.reduceNeg, Int.reduceAdd, Int.reduceSub, Int.reduceMul, Int.reduceToNat, Nat.reducePow, Int.reducePow, Nat.reduceDiv, Nat.reduceMod, awp_dr, awp_bk, h0, h17, h18, h19, hg, tnC]
                                                            | refine l1In_ok ?_
                                                            | (with_reducible refine cdB_dec (fun hp hq => ?_) (fun hp hq => ?_) <;> first | (clear hq; refine False.elim ?_; omega) | (simp only [hq]; clear hq) | clear hq)
                                                            | (with_reducible refine gB_dec (fun hp hq => ?_) (fun hp hq => ?_) <;> first | (clear hq; refine False.elim ?_; omega) | (simp only [hq]; clear hq) | clear hq)
                                                            | (with_reducible refine gB_ndec (fun hp hq => ?_) (fun hp hq => ?_) <;> first | (clear hq; refine False.elim ?_; omega) | (simp only [hq]; clear hq) | clear hq)
        · have h3 := hp
          rename_i q1 h1 h2
          have hst := standN_of hup h1 h2
          refine awp_mono (Q := fun e st => e = .exit 2 ∧ st.t 0 = .v (.vec (l.map tnC)) ∧ st.t 17 = .v (.vec (l.map tnC)) ∧ st.t 18 = .v (.sc (.int .i64 l.length)) ∧ st.t 19 = .v (.sc (.int .i64 i)) ∧ st.t 3 = .v (.sc (.int .i64 i)) ∧ st.m.h = mh ∧
            st.t 4 = .lp 4 mc 0 ∧ st.t 5 = .v (.sc (.bool (standN (l.map TN.up) i))) ∧ st.m.l 4 = .mu mc [.v (.sc (.int .i64 x.kind)), .v (.sc (.int .i64 x.n)), .v (.sc (.int .i64 x.up))]) ?_ ?_
          · clear h0 h17 h18 h19
            rintro e ⟨t, ml, mc', mh'⟩ ⟨rfl, h0, h17, h18, h19, h3t, hh, h4, h5, m4⟩
            simp only at h0 h17 h18 h19 h3t hh h4 h5 m4
            subst hh
            repeat' first
                                                            | (simp -implicitDefEqProofs (disch := omega) only [push_cast, ↓reduceIte, Nat.reduceEqDiff, reduceCtorEq, Nat.reduceAdd, Nat.reduceMul, Nat.reduceSub, Nat.reduceLT, Nat.reduceLeDiff, Int.reduceLT, Int.reduceLE, Int.reduceEq, Int.reduceNe, Int.reduceNeg, Int.reduceAdd, Int.reduceSub, Int.reduceMul, Int.reduceToNat, Nat.reducePow, Int.reducePow, Nat.reduceDiv, Nat.reduceMod, awp_dr, awp_bk, h0, h17, h18, h19, h3t, h4, h5, m4]; done)
                                                            | simp -implicitDefEqProofs (disch := omega) only [push_cast, ↓reduceIte, Nat.reduceEqDiff, reduceCtorEq, Nat.reduceAdd, Nat.reduceMul, Nat.reduceSub, Nat.reduceLT, Nat.reduceLeDiff, Int.reduceLT, Int.reduceLE, Int.reduceEq, Int.reduceNe, Int.reduceNeg, Int.reduceAdd, Int.reduceSub, Int.reduceMul, Int.reduceToNat, Nat.reducePow, Int.reducePow, Nat.reduceDiv, Nat.reduceMod, awp_dr, awp_bk, h0, h17, h18, h19, h3t, h4, h5, m4]
                                                            | (with_reducible refine cdB_dec (fun hp hq => ?_) (fun hp hq => ?_) <;> first | (clear hq; refine False.elim ?_; omega) | (simp only [hq]; clear hq) | clear hq)
                                                            | (with_reducible refine gB_dec (fun hp hq => ?_) (fun hp hq => ?_) <;> first | (clear hq; refine False.elim ?_; omega) | (simp only [hq]; clear hq) | clear hq)
                                                            | (with_reducible refine gB_ndec (fun hp hq => ?_) (fun hp hq => ?_) <;> first | (clear hq; refine False.elim ?_; omega) | (simp only [hq]; clear hq) | clear hq)
            refine awp_mono (Q := fun e st => e = .exit 4 ∧ st.t 0 = .v (.vec (l.map tnC)) ∧ st.t 17 = .v (.vec (l.map tnC)) ∧ st.t 18 = .v (.sc (.int .i64 l.length)) ∧ st.t 19 = .v (.sc (.int .i64 i)) ∧ st.t 3 = .v (.sc (.int .i64 i)) ∧ st.m.h = mh' ∧
              st.t 4 = .lp 4 mc 0 ∧ st.t 5 = .v (.sc (.bool (standN (l.map TN.up) i))) ∧ st.t 7 = .v (.sc (.int .i64 (deepOf (l.map TN.up) (i + 1) i))) ∧ st.m.l 4 = .mu mc [.v (.sc (.int .i64 x.kind)), .v (.sc (.int .i64 x.n)), .v (.sc (.int .i64 x.up))]) ?_ ?_
            · clear h0 h17 h18 h19 h3t h4 h5 m4
              rintro e ⟨t, ml, mc', mh⟩ ⟨rfl, h0, h17, h18, h19, h3t, hh, h4, h5, h7, m4⟩
              simp only at h0 h17 h18 h19 h3t hh h4 h5 h7 m4
              subst hh
              have okE : okN l i x = (standN (l.map TN.up) i && (decide (deepOf (l.map TN.up) (i + 1) i ≤ 8) &&
                (decide ((shapeK x.kind).1 ≤ ((under (l.map TN.up) i).length : Int) ∧ ((under (l.map TN.up) i).length : Int) ≤ (shapeK x.kind).2.1) && decide ((shapeK x.kind).2.2.1 ≤ x.n ∧ x.n ≤ (shapeK x.kind).2.2.2)))) := by
                simp only [okN, decide_eq_true h3, Bool.true_and]
              cases hS : standN (l.map TN.up) i
              · rw [hS, Bool.false_and] at okE
                rw [hS] at h5
                repeat' first
                                                            | (simp -implicitDefEqProofs (disch := omega) only [push_cast, ↓reduceIte, Nat.reduceEqDiff, reduceCtorEq, Nat.reduceAdd, Nat.reduceMul, Nat.reduceSub, Nat.reduceLT, Nat.reduceLeDiff, Int.reduceLT, Int.reduceLE, Int.reduceEq, Int.reduceNe, Int.reduceNeg, Int.reduceAdd, Int.reduceSub, Int.reduceMul, Int.reduceToNat, Nat.reducePow, Int.reducePow, Nat.reduceDiv, Nat.reduceMod, awp_dr, awp_bk, h0, h17, h18, h19, h3t, h4, h5, h7, m4]; done)
                                                            | simp -implicitDefEqProofs (disch := omega) only [push_cast, ↓reduceIte, Nat.reduceEqDiff, reduceCtorEq, Nat.reduceAdd, Nat.reduceMul, Nat.reduceSub, Nat.reduceLT, Nat.reduceLeDiff, Int.reduceLT, Int.reduceLE, Int.reduceEq, Int.reduceNe, Int.reduceNeg, Int.reduceAdd, Int.reduceSub, Int.reduceMul, Int.reduceToNat, Nat.reducePow, Int.reducePow, Nat.reduceDiv, Nat.reduceMod, awp_dr, awp_bk, h0, h17, h18, h19, h3t, h4, h5, h7, m4]
                                                            | refine l11Shape_ok ?_
                                                            | (with_reducible refine cdB_dec (fun hp hq => ?_) (fun hp hq => ?_) <;> first | (clear hq; refine False.elim ?_; omega) | (simp only [hq]; clear hq) | clear hq)
                                                            | (with_reducible refine gB_dec (fun hp hq => ?_) (fun hp hq => ?_) <;> first | (clear hq; refine False.elim ?_; omega) | (simp only [hq]; clear hq) | clear hq)
                                                            | (with_reducible refine gB_ndec (fun hp hq => ?_) (fun hp hq => ?_) <;> first | (clear hq; refine False.elim ?_; omega) | (simp only [hq]; clear hq) | clear hq)
                rw [bad okE] at hR; exact hR
              · rw [hS, Bool.true_and] at okE
                rw [hS] at h5
                have hul : (under (l.map TN.up) i).length ≤ 1048576 := by
                  rw [under_map]; exact Nat.le_trans (underTo_le _ _ _) hl
                repeat' first
                                                            | (simp -implicitDefEqProofs (disch := omega) only [push_cast, ↓reduceIte, Nat.reduceEqDiff, reduceCtorEq, Nat.reduceAdd, Nat.reduceMul, Nat.reduceSub, Nat.reduceLT, Nat.reduceLeDiff, Int.reduceLT, Int.reduceLE, Int.reduceEq, Int.reduceNe, Int.reduceNeg, Int.reduceAdd, Int.reduceSub, Int.reduceMul, Int.reduceToNat, Nat.reducePow, Int.reducePow, Nat.reduceDiv, Nat.reduceMod, awp_dr, awp_bk, h0, h17, h18, h19, h3t, h4, h5, h7, m4]; done)
                                                            | simp -implicitDefEqProofs (disch := omega) only [push_cast, ↓reduceIte, Nat.reduceEqDiff, reduceCtorEq, Nat.reduceAdd, Nat.reduceMul, Nat.reduceSub, Nat.reduceLT, Nat.reduceLeDiff, Int.reduceLT, Int.reduceLE, Int.reduceEq, Int.reduceNe, Int.reduceNeg, Int.reduceAdd, Int.reduceSub, Int.reduceMul, Int.reduceToNat, Nat.reducePow, Int.reducePow, Nat.reduceDiv, Nat.reduceMod, awp_dr, awp_bk, h0, h17, h18, h19, h3t, h4, h5, h7, m4]
                                                            | refine l11Shape_ok ?_
                                                            | refine l11Parts_ok hl hlt ?_
                                                            | refine l1In_ok ?_
                                                            | (with_reducible refine cdB_dec (fun hp hq => ?_) (fun hp hq => ?_) <;> first | (clear hq; refine False.elim ?_; omega) | (simp only [hq]; clear hq) | clear hq)
                                                            | (with_reducible refine gB_dec (fun hp hq => ?_) (fun hp hq => ?_) <;> first | (clear hq; refine False.elim ?_; omega) | (simp only [hq]; clear hq) | clear hq)
                                                            | (with_reducible refine gB_ndec (fun hp hq => ?_) (fun hp hq => ?_) <;> first | (clear hq; refine False.elim ?_; omega) | (simp only [hq]; clear hq) | clear hq)
                · have hd : decide (deepOf (l.map TN.up) (i + 1) i ≤ 8) = false := by simp; omega
                  rw [hd, Bool.false_and] at okE
                  rw [bad okE] at hR; exact hR
                · have p3 := hp
                  rename_i p1 p2
                  have hd : decide (deepOf (l.map TN.up) (i + 1) i ≤ 8) = true := by simp; omega
                  rw [hd, decide_eq_true p2, decide_eq_true p3] at okE
                  refine ⟨_, by omega, i + 1, hlt, rfl, by simp, fun j hj => ?_⟩
                  by_cases hji : j = i
                  · subst hji; rw [hoki]; exact okE
                  · exact hok j (by omega)
                · rw [decide_eq_false hp, Bool.and_false, Bool.and_false] at okE
                  rw [bad okE] at hR; exact hR
                · rw [decide_eq_false hp, Bool.false_and, Bool.and_false] at okE
                  rw [bad okE] at hR; exact hR
            · refine awp_lp (fun d st => ∃ (a : Int) (n f : Nat), -1 ≤ a ∧ a ≤ (i : Int) ∧ (a + 1).toNat ≤ f ∧ d = (a + 1).toNat ∧ n + (a + 1).toNat ≤ i + 1 ∧ st.t 0 = .v (.vec (l.map tnC)) ∧ st.t 17 = .v (.vec (l.map tnC)) ∧ st.t 18 = .v (.sc (.int .i64 l.length)) ∧ st.t 19 = .v (.sc (.int .i64 i)) ∧ st.t 3 = .v (.sc (.int .i64 i)) ∧ st.m.h = mh' ∧
                st.t 4 = .lp 4 mc 0 ∧ st.t 5 = .v (.sc (.bool (standN (l.map TN.up) i))) ∧ st.t 7 = .v (.sc (.int .i64 n)) ∧ st.t 8 = .v (.sc (.int .i64 a)) ∧ st.m.l 4 = .mu mc [.v (.sc (.int .i64 x.kind)), .v (.sc (.int .i64 x.n)), .v (.sc (.int .i64 x.up))] ∧
                n + deepOf (l.map TN.up) f a = deepOf (l.map TN.up) (i + 1) i) (i + 1) ?_ ?_
              · exact ⟨i, 0, i + 1, by omega, by omega, by omega, by omega, by omega, h0, h17, h18, h19, h3t, rfl, h4, h5, rfl, rfl, m4, by omega⟩
              · clear h0 h17 h18 h19 h3t h4 h5 m4
                rintro d ⟨t, ml, mc', mh⟩ ⟨a, n, f, ha0, ha1, hf, rfl, hn, h0, h17, h18, h19, h3t, hh, h4, h5, h7, h8, m4, hd⟩
                simp only at h0 h17 h18 h19 h3t hh h4 h5 h7 h8 m4
                subst hh
                by_cases ha : 0 ≤ a
                · obtain ⟨q, rfl⟩ : ∃ q : Nat, a = q := ⟨a.toNat, by omega⟩
                  obtain ⟨z, hz⟩ : ∃ z, l[q]? = some z := ⟨_, List.getElem?_eq_getElem (by omega)⟩
                  have hg2 : ∀ m, ixT 3 m (.v (.vec (l.map tnC))) (.v (.sc (.int .i64 q))) = some (.vp (tnC z)) := fun m => vec_get tnC_len (by simp [hz])
                  have hzu : upAt (l.map TN.up) q = z.up := by simp [upAt, hz]
                  have hzs : -1 ≤ z.up ∧ z.up ≤ (q : Int) - 1 := by
                    by_cases hqi : q = i
                    · subst hqi
                      rw [hx] at hz
                      obtain rfl := Option.some.inj hz
                      exact h2
                    · have := hok q (by omega)
                      simp only [okAt, hz, okN, Bool.and_eq_true] at this
                      have := standN_up this.1
                      rw [hzu] at this
                      exact this
                  obtain ⟨f', rfl⟩ : ∃ f', f = f' + 1 := ⟨f - 1, by omega⟩
                  rw [deepOf, if_neg (by omega), hzu] at hd
                  repeat' first
                                                            | (simp -implicitDefEqProofs (disch := omega) only [push_cast, ↓reduceIte, Nat.reduceEqDiff, reduceCtorEq, Nat.reduceAdd, Nat.reduceMul, Nat.reduceSub, Nat.reduceLT, Nat.reduceLeDiff, Int.reduceLT, Int.reduceLE, Int.reduceEq, Int.reduceNe, Int.reduceNeg, Int.reduceAdd, Int.reduceSub, Int.reduceMul, Int.reduceToNat, Nat.reducePow, Int.reducePow, Nat.reduceDiv, Nat.reduceMod, awp_dr, awp_bk, h0, h17, h18, h19, h3t, h4, h5, h7, h8, m4, hg2, tnC]; done)
                                                            | simp -implicitDefEqProofs (disch := omega) only [push_cast, ↓reduceIte, Nat.reduceEqDiff, reduceCtorEq, Nat.reduceAdd, Nat.reduceMul, Nat.reduceSub, Nat.reduceLT, Nat.reduceLeDiff, Int.reduceLT, Int.reduceLE, Int.reduceEq, Int.reduceNe, Int.reduceNeg, Int.reduceAdd, Int.reduceSub, Int.reduceMul, Int.reduceToNat, Nat.reducePow, Int.reducePow, Nat.reduceDiv, Nat.reduceMod, awp_dr, awp_bk, h0, h17, h18, h19, h3t, h4, h5, h7, h8, m4, hg2, tnC]
                                                            | (with_reducible refine cdB_dec (fun hp hq => ?_) (fun hp hq => ?_) <;> first | (clear hq; refine False.elim ?_; omega) | (simp only [hq]; clear hq) | clear hq)
                                                            | (with_reducible refine gB_dec (fun hp hq => ?_) (fun hp hq => ?_) <;> first | (clear hq; refine False.elim ?_; omega) | (simp only [hq]; clear hq) | clear hq)
                                                            | (with_reducible refine gB_ndec (fun hp hq => ?_) (fun hp hq => ?_) <;> first | (clear hq; refine False.elim ?_; omega) | (simp only [hq]; clear hq) | clear hq)
                  exact ⟨(z.up + 1).toNat, by omega, z.up, n + 1, f', by omega, by omega, by omega, rfl, by omega, by simp, rfl, by omega⟩
                · have hf0 : deepOf (l.map TN.up) f a = 0 := by
                    cases f with
                    | zero => rfl
                    | succ f => simp only [deepOf]; rw [if_pos (by omega)]
                  rw [hf0, Nat.add_zero] at hd
                  repeat' first
                                                            | (simp -implicitDefEqProofs (disch := omega) only [push_cast, ↓reduceIte, Nat.reduceEqDiff, reduceCtorEq, Nat.reduceAdd, Nat.reduceMul, Nat.reduceSub, Nat.reduceLT, Nat.reduceLeDiff, Int.reduceLT, Int.reduceLE, Int.reduceEq, Int.reduceNe, Int.reduceNeg, Int.reduceAdd, Int.reduceSub, Int.reduceMul, Int.reduceToNat, Nat.reducePow, Int.reducePow, Nat.reduceDiv, Nat.reduceMod, awp_dr, awp_bk, h0, h17, h18, h19, h3t, h4, h5, h7, h8, m4, hd]; done)
                                                            | simp -implicitDefEqProofs (disch := omega) only [push_cast, ↓reduceIte, Nat.reduceEqDiff, reduceCtorEq, Nat.reduceAdd, Nat.reduceMul, Nat.reduceSub, Nat.reduceLT, Nat.reduceLeDiff, Int.reduceLT, Int.reduceLE, Int.reduceEq, Int.reduceNe, Int.reduceNeg, Int.reduceAdd, Int.reduceSub, Int.reduceMul, Int.reduceToNat, Nat.reducePow, Int.reducePow, Nat.reduceDiv, Nat.reduceMod, awp_dr, awp_bk, h0, h17, h18, h19, h3t, h4, h5, h7, h8, m4, hd]
                                                            | (with_reducible refine cdB_dec (fun hp hq => ?_) (fun hp hq => ?_) <;> first | (clear hq; refine False.elim ?_; omega) | (simp only [hq]; clear hq) | clear hq)
                                                            | (with_reducible refine gB_dec (fun hp hq => ?_) (fun hp hq => ?_) <;> first | (clear hq; refine False.elim ?_; omega) | (simp only [hq]; clear hq) | clear hq)
                                                            | (with_reducible refine gB_ndec (fun hp hq => ?_) (fun hp hq => ?_) <;> first | (clear hq; refine False.elim ?_; omega) | (simp only [hq]; clear hq) | clear hq)
          · refine awp_lp (fun d st => ∃ (a : Int) (b : Bool) (f : Nat), -1 ≤ a ∧ a ≤ (i : Int) - 1 ∧ (a + 1).toNat ≤ f ∧ d = (a + 1).toNat ∧ st.t 0 = .v (.vec (l.map tnC)) ∧ st.t 17 = .v (.vec (l.map tnC)) ∧ st.t 18 = .v (.sc (.int .i64 l.length)) ∧ st.t 19 = .v (.sc (.int .i64 i)) ∧ st.t 3 = .v (.sc (.int .i64 i)) ∧ st.m.h = mh ∧
              st.t 4 = .lp 4 mc 0 ∧ st.t 5 = .v (.sc (.bool b)) ∧ st.t 6 = .v (.sc (.int .i64 a)) ∧ st.m.l 4 = .mu mc [.v (.sc (.int .i64 x.kind)), .v (.sc (.int .i64 x.n)), .v (.sc (.int .i64 x.up))] ∧
              (b || hits (l.map TN.up) x.up f a) = standN (l.map TN.up) i) (((i : Int) - 1 + 1).toNat) ?_ ?_
            · exact ⟨(i : Int) - 1, decide ((i : Int) = 0), i, by omega, by omega, by omega, rfl, h0, h17, h18, h19, rfl, rfl, rfl, rfl, rfl, rfl, hst.symm⟩
            · clear h0 h17 h18 h19
              rintro d ⟨t, ml, mc', mh'⟩ ⟨a, b, f, ha0, ha1, hf, rfl, h0, h17, h18, h19, h3t, hh, h4, h5, h6, m4, hb⟩
              simp only at h0 h17 h18 h19 h3t hh h4 h5 h6 m4
              subst hh
              cases b
              · by_cases ha : 0 ≤ a
                · obtain ⟨q, rfl⟩ : ∃ q : Nat, a = q := ⟨a.toNat, by omega⟩
                  obtain ⟨z, hz⟩ : ∃ z, l[q]? = some z := ⟨_, List.getElem?_eq_getElem (by omega)⟩
                  have hg2 : ∀ m, ixT 3 m (.v (.vec (l.map tnC))) (.v (.sc (.int .i64 q))) = some (.vp (tnC z)) := fun m => vec_get tnC_len (by simp [hz])
                  have hzu : upAt (l.map TN.up) q = z.up := by simp [upAt, hz]
                  have hzs : -1 ≤ z.up ∧ z.up ≤ (q : Int) - 1 := by
                    have := hok q (by omega)
                    simp only [okAt, hz, okN, Bool.and_eq_true] at this
                    have := standN_up this.1
                    rw [hzu] at this
                    exact this
                  obtain ⟨f', rfl⟩ : ∃ f', f = f' + 1 := ⟨f - 1, by omega⟩
                  simp only [hits, Bool.false_or, hzu] at hb
                  rw [if_neg (by omega)] at hb
                  repeat' first
                                                            | (simp -implicitDefEqProofs (disch := omega) only [push_cast, ↓reduceIte, Nat.reduceEqDiff, reduceCtorEq, Nat.reduceAdd, Nat.reduceMul, Nat.reduceSub, Nat.reduceLT, Nat.reduceLeDiff, Int.reduceLT, Int.reduceLE, Int.reduceEq, Int.reduceNe, Int.reduceNeg, Int.reduceAdd, Int.reduceSub, Int.reduceMul, Int.reduceToNat, Nat.reducePow, Int.reducePow, Nat.reduceDiv, Nat.reduceMod, awp_dr, awp_bk, h0, h17, h18, h19, h3t, h4, h5, h6, m4, hg2, tnC]; done)
                                                            | simp -implicitDefEqProofs (disch := omega) only [push_cast, ↓reduceIte, Nat.reduceEqDiff, reduceCtorEq, Nat.reduceAdd, Nat.reduceMul, Nat.reduceSub, Nat.reduceLT, Nat.reduceLeDiff, Int.reduceLT, Int.reduceLE, Int.reduceEq, Int.reduceNe, Int.reduceNeg, Int.reduceAdd, Int.reduceSub, Int.reduceMul, Int.reduceToNat, Nat.reducePow, Int.reducePow, Nat.reduceDiv, Nat.reduceMod, awp_dr, awp_bk, h0, h17, h18, h19, h3t, h4, h5, h6, m4, hg2, tnC]
                                                            | (with_reducible refine cdB_dec (fun hp hq => ?_) (fun hp hq => ?_) <;> first | (clear hq; refine False.elim ?_; omega) | (simp only [hq]; clear hq) | clear hq)
                                                            | (with_reducible refine gB_dec (fun hp hq => ?_) (fun hp hq => ?_) <;> first | (clear hq; refine False.elim ?_; omega) | (simp only [hq]; clear hq) | clear hq)
                                                            | (with_reducible refine gB_ndec (fun hp hq => ?_) (fun hp hq => ?_) <;> first | (clear hq; refine False.elim ?_; omega) | (simp only [hq]; clear hq) | clear hq)
                  refine ⟨(z.up + 1).toNat, by omega, z.up, _, f', by omega, by omega, by omega, rfl, rfl, rfl, ?_⟩
                  rw [← hb]
                  by_cases he : (q : Int) = x.up <;> simp [he]
                · have hf0 : hits (l.map TN.up) x.up f a = false := by
                    cases f with
                    | zero => rfl
                    | succ f => simp only [hits]; rw [if_pos (by omega)]
                  rw [hf0] at hb
                  repeat' first
                                                            | (simp -implicitDefEqProofs (disch := omega) only [push_cast, ↓reduceIte, Nat.reduceEqDiff, reduceCtorEq, Nat.reduceAdd, Nat.reduceMul, Nat.reduceSub, Nat.reduceLT, Nat.reduceLeDiff, Int.reduceLT, Int.reduceLE, Int.reduceEq, Int.reduceNe, Int.reduceNeg, Int.reduceAdd, Int.reduceSub, Int.reduceMul, Int.reduceToNat, Nat.reducePow, Int.reducePow, Nat.reduceDiv, Nat.reduceMod, awp_dr, awp_bk, h0, h17, h18, h19, h3t, h4, h5, h6, m4, ← hb, Bool.or_false]; done)
                                                            | simp -implicitDefEqProofs (disch := omega) only [push_cast, ↓reduceIte, Nat.reduceEqDiff, reduceCtorEq, Nat.reduceAdd, Nat.reduceMul, Nat.reduceSub, Nat.reduceLT, Nat.reduceLeDiff, Int.reduceLT, Int.reduceLE, Int.reduceEq, Int.reduceNe, Int.reduceNeg, Int.reduceAdd, Int.reduceSub, Int.reduceMul, Int.reduceToNat, Nat.reducePow, Int.reducePow, Nat.reduceDiv, Nat.reduceMod, awp_dr, awp_bk, h0, h17, h18, h19, h3t, h4, h5, h6, m4, ← hb, Bool.or_false]
                                                            | (with_reducible refine cdB_dec (fun hp hq => ?_) (fun hp hq => ?_) <;> first | (clear hq; refine False.elim ?_; omega) | (simp only [hq]; clear hq) | clear hq)
                                                            | (with_reducible refine gB_dec (fun hp hq => ?_) (fun hp hq => ?_) <;> first | (clear hq; refine False.elim ?_; omega) | (simp only [hq]; clear hq) | clear hq)
                                                            | (with_reducible refine gB_ndec (fun hp hq => ?_) (fun hp hq => ?_) <;> first | (clear hq; refine False.elim ?_; omega) | (simp only [hq]; clear hq) | clear hq)
              · repeat' first
                                                            | (simp -implicitDefEqProofs (disch := omega) only [push_cast, ↓reduceIte, Nat.reduceEqDiff, reduceCtorEq, Nat.reduceAdd, Nat.reduceMul, Nat.reduceSub, Nat.reduceLT, Nat.reduceLeDiff, Int.reduceLT, Int.reduceLE, Int.reduceEq, Int.reduceNe, Int.reduceNeg, Int.reduceAdd, Int.reduceSub, Int.reduceMul, Int.reduceToNat, Nat.reducePow, Int.reducePow, Nat.reduceDiv, Nat.reduceMod, awp_dr, awp_bk, h0, h17, h18, h19, h3t, h4, h5, h6, m4, ← hb]; done)
                                                            | simp -implicitDefEqProofs (disch := omega) only [push_cast, ↓reduceIte, Nat.reduceEqDiff, reduceCtorEq, Nat.reduceAdd, Nat.reduceMul, Nat.reduceSub, Nat.reduceLT, Nat.reduceLeDiff, Int.reduceLT, Int.reduceLE, Int.reduceEq, Int.reduceNe, Int.reduceNeg, Int.reduceAdd, Int.reduceSub, Int.reduceMul, Int.reduceToNat, Nat.reducePow, Int.reducePow, Nat.reduceDiv, Nat.reduceMod, awp_dr, awp_bk, h0, h17, h18, h19, h3t, h4, h5, h6, m4, ← hb]
                                                            | (with_reducible refine cdB_dec (fun hp hq => ?_) (fun hp hq => ?_) <;> first | (clear hq; refine False.elim ?_; omega) | (simp only [hq]; clear hq) | clear hq)
                                                            | (with_reducible refine gB_dec (fun hp hq => ?_) (fun hp hq => ?_) <;> first | (clear hq; refine False.elim ?_; omega) | (simp only [hq]; clear hq) | clear hq)
                                                            | (with_reducible refine gB_ndec (fun hp hq => ?_) (fun hp hq => ?_) <;> first | (clear hq; refine False.elim ?_; omega) | (simp only [hq]; clear hq) | clear hq)
        all_goals (have hb : okN l i x = false := by first | (simp only [okN, standN_no2 hup hp, Bool.false_and]; done) | (simp only [okN, standN_no1 hup hp, Bool.false_and]; done) | (simp only [okN, decide_eq_false hp, Bool.false_and, Bool.and_false]; done))
        all_goals (rw [bad hb] at hR; exact hR)
      · have hi : i = l.length := by omega
        subst hi
        repeat' first
                                                            | (simp -implicitDefEqProofs (disch := omega) only [push_cast, ↓reduceIte, Nat.reduceEqDiff, reduceCtorEq, Nat.reduceAdd, Nat.reduceMul, Nat.reduceSub, Nat.reduceLT, Nat.reduceLeDiff, Int.reduceLT, Int.reduceLE, Int.reduceEq, Int.reduceNe, Int.reduceNeg, Int.reduceAdd, Int.reduceSub, Int.reduceMul, Int.reduceToNat, Nat.reducePow, Int.reducePow, Nat.reduceDiv, Nat.reduceMod, awp_dr, awp_bk, h0, h17, h18, h19]; done)
                                                            | simp -implicitDefEqProofs (disch := omega) only [push_cast, ↓reduceIte, Nat.reduceEqDiff, reduceCtorEq, Nat.reduceAdd, Nat.reduceMul, Nat.reduceSub, Nat.reduceLT, Nat.reduceLeDiff, Int.reduceLT, Int.reduceLE, Int.reduceEq, Int.reduceNe, Int.reduceNeg, Int.reduceAdd, Int.reduceSub, Int.reduceMul, Int.reduceToNat, Nat.reducePow, Int.reducePow, Nat.reduceDiv, Nat.reduceMod, awp_dr, awp_bk, h0, h17, h18, h19]
                                                            | (with_reducible refine cdB_dec (fun hp hq => ?_) (fun hp hq => ?_) <;> first | (clear hq; refine False.elim ?_; omega) | (simp only [hq]; clear hq) | clear hq)
                                                            | (with_reducible refine gB_dec (fun hp hq => ?_) (fun hp hq => ?_) <;> first | (clear hq; refine False.elim ?_; omega) | (simp only [hq]; clear hq) | clear hq)
                                                            | (with_reducible refine gB_ndec (fun hp hq => ?_) (fun hp hq => ?_) <;> first | (clear hq; refine False.elim ?_; omega) | (simp only [hq]; clear hq) | clear hq)
        have e : goodT l = true := by
          have h1 : ((List.range l.length).all (okAt l)) = true := by
            rw [List.all_eq_true]; intro j hj; exact hok j (by simpa using hj)
          simp only [goodT, h1, Bool.and_true, decide_eq_true_eq]; omega
        rw [e] at hR; exact hR
  · have e : goodT l = false := by
      have : ¬ (1 ≤ l.length ∧ l.length ≤ 40) := by omega
      simp only [goodT, decide_eq_false this, Bool.false_and]
    rw [e] at hR; exact hR

end Go.Proofs.YtgkiaoodalnceaaDoor
