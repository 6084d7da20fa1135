import Derived.Test.YtgkiaoodalnceaaDoorClVl
/- Values as trees: the program. -/
namespace Go.Proofs.YtgkiaoodalnceaaDoor
open Go SL VM
set_option maxRecDepth 100000
set_option linter.unusedVariables false
set_option linter.unusedSimpArgs false
attribute [local irreducible] SL.awp

def vlCell (lt : List VN) (k : Nat) : AV × AV := match lt[k]? with
  | some x => (.sc (.int .i64 x.n), .sc (.string (bs x.text)))
  | none => (nilS, nilS)
theorem datumOf_ok {lt : List VN} {h : Heap} {R : AV → Heap → Prop}
    (hR : ∀ h' a, HW h' → HX h h' → goodV lt = true → VlAt h' (vtreeF lt.length lt 0) a → R (.tup [a, .sc (.bool true)]) h')
    (hF : ∀ h', HW h' → HX h h' → goodV lt = false → R (.tup [.sc (.pointer none), .sc (.bool false)]) h') :
    ACalls Tryd.prog 32 [.vec (lt.map vnC)] h R := by
  refine acalls_hw (by kernel_rfl) fun hw => ?_
  refine acalls_body c_impl_datumOf (by simp) ?_
  unfold a_impl_datumOf
  repeat' first
                                                            | (simp -implicitDefEqProofs (disch := omega) only [push_cast, ↓reduceIte, Nat.reduceEqDiff, reduceCtorEq, Nat.reduceAdd, Nat.reduceMul, Nat.reduceSub, Nat.reduceLT, Nat.reduceLeDiff, Int.reduceLT, Int.reduceLE, Int.reduceEq, Int.reduceNe, Int.reduceNeg, Int.reduceAdd, Int.reduceSub, Int.reduceMul, Int.reduceToNat, Nat.reducePow, Int.reducePow, Nat.reduceDiv, Nat.reduceMod, awp_dr]; done)
                                                            | simp -implicitDefEqProofs (disch := omega) only [push_cast, ↓reduceIte, Nat.reduceEqDiff, reduceCtorEq, Nat.reduceAdd, Nat.reduceMul, Nat.reduceSub, Nat.reduceLT, Nat.reduceLeDiff, Int.reduceLT, Int.reduceLE, Int.reduceEq, Int.reduceNe, Int.reduceNeg, Int.reduceAdd, Int.reduceSub, Int.reduceMul, Int.reduceToNat, Nat.reducePow, Int.reducePow, Nat.reduceDiv, Nat.reduceMod, awp_dr]
                                                            | (with_reducible refine cdB_dec (fun hp hq => ?_) (fun hp hq => ?_) <;> first | (clear hq; refine False.elim ?_; omega) | (simp only [hq]; clear hq) | clear hq)
                                                            | (with_reducible refine gB_dec (fun hp hq => ?_) (fun hp hq => ?_) <;> first | (clear hq; refine False.elim ?_; omega) | (simp only [hq]; clear hq) | clear hq)
                                                            | (with_reducible refine gB_ndec (fun hp hq => ?_) (fun hp hq => ?_) <;> first | (clear hq; refine False.elim ?_; omega) | (simp only [hq]; clear hq) | clear hq)
                                                            | (with_reducible refine And.intro ?_ ?_; omega)
  · exact hF h hw (HX.refl h) (by simp [goodV]; omega)
  · exact hF h hw (HX.refl h) (by simp [goodV]; omega)
  have hn : 1 ≤ lt.length ∧ lt.length ≤ 100 := by omega
  refine bind_make (D := [24]) [.sc (.int .i64 0)] (by simp) rfl rfl fun x m hx hh hk => ?_
  repeat' first
                                                            | (simp -implicitDefEqProofs (disch := omega) only [push_cast, ↓reduceIte, Nat.reduceEqDiff, reduceCtorEq, Nat.reduceAdd, Nat.reduceMul, Nat.reduceSub, Nat.reduceLT, Nat.reduceLeDiff, Int.reduceLT, Int.reduceLE, Int.reduceEq, Int.reduceNe, Int.reduceNeg, Int.reduceAdd, Int.reduceSub, Int.reduceMul, Int.reduceToNat, Nat.reducePow, Int.reducePow, Nat.reduceDiv, Nat.reduceMod, awp_dr]; done)
                                                            | simp -implicitDefEqProofs (disch := omega) only [push_cast, ↓reduceIte, Nat.reduceEqDiff, reduceCtorEq, Nat.reduceAdd, Nat.reduceMul, Nat.reduceSub, Nat.reduceLT, Nat.reduceLeDiff, Int.reduceLT, Int.reduceLE, Int.reduceEq, Int.reduceNe, Int.reduceNeg, Int.reduceAdd, Int.reduceSub, Int.reduceMul, Int.reduceToNat, Nat.reducePow, Int.reducePow, Nat.reduceDiv, Nat.reduceMod, awp_dr]
                                                            | (with_reducible refine cdB_dec (fun hp hq => ?_) (fun hp hq => ?_) <;> first | (clear hq; refine False.elim ?_; omega) | (simp only [hq]; clear hq) | clear hq)
                                                            | (with_reducible refine gB_dec (fun hp hq => ?_) (fun hp hq => ?_) <;> first | (clear hq; refine False.elim ?_; omega) | (simp only [hq]; clear hq) | clear hq)
                                                            | (with_reducible refine gB_ndec (fun hp hq => ?_) (fun hp hq => ?_) <;> first | (clear hq; refine False.elim ?_; omega) | (simp only [hq]; clear hq) | clear hq)
                                                            | (with_reducible refine And.intro ?_ ?_; omega)
  rw [awp_bk]
  refine awp_lpW 274743689312 (fun d t m => ∃ (i : Nat), i ≤ lt.length ∧ d = lt.length - i ∧ t 27 = .v (.sc (.int .i64 i)) ∧ m.h = h ∧ LsE [24] m x 1 ((lt.take i).map (fun y => intC y.up) ++ List.replicate (lt.length - i) (intC 0))) lt.length (by kernel_rfl) ?_ ?_
  · exact ⟨0, Nat.zero_le _, rfl, rfl, hh, by simpa [intC] using hx⟩
  rintro d t ⟨ml, mc, mh⟩ ⟨i, hi, rfl, h28, rfl, hx'⟩
  by_cases hlt : i < lt.length
  · obtain ⟨y, hy, hg⟩ := vget (k := .i64) vnC_len hlt
    have hx2 : LsE [24] ⟨upd (upd ml 6 (.mu mc [.v (.sc (.int .i64 0)), .v (.sc (.string (bs []))), .v (.sc (.int .i64 0))])) 6 (.mu mc [.v (.sc (.int .i64 y.n)), .v (.sc (.string (bs y.text))), .v (.sc (.int .i64 y.up))]), mc + 1, mh⟩ x 1 ((lt.take i).map (fun y => intC y.up) ++ List.replicate (lt.length - i) (intC 0)) := hx'.keep (by simp [upd])
    obtain ⟨q, ml2, hs1, hs2, hs3, hs4⟩ := hx2.set1 (k := .i64) (i := i) (a := .sc (.int .i64 y.up)) (by simp; omega) rfl
    simp only at hs2 hs3
    repeat' first
                                                            | (simp -implicitDefEqProofs (disch := omega) only [push_cast, ↓reduceIte, Nat.reduceEqDiff, reduceCtorEq, Nat.reduceAdd, Nat.reduceMul, Nat.reduceSub, Nat.reduceLT, Nat.reduceLeDiff, Int.reduceLT, Int.reduceLE, Int.reduceEq, Int.reduceNe, Int.reduceNeg, Int.reduceAdd, Int.reduceSub, Int.reduceMul, Int.reduceToNat, Nat.reducePow, Int.reducePow, Nat.reduceDiv, Nat.reduceMod, awp_dr, h28, hg, vnC, newVarT_0, newL_eq, hs1, hs2]; done)
                                                            | simp -implicitDefEqProofs (disch := omega) only [push_cast, ↓reduceIte, Nat.reduceEqDiff, reduceCtorEq, Nat.reduceAdd, Nat.reduceMul, Nat.reduceSub, Nat.reduceLT, Nat.reduceLeDiff, Int.reduceLT, Int.reduceLE, Int.reduceEq, Int.reduceNe, Int.reduceNeg, Int.reduceAdd, Int.reduceSub, Int.reduceMul, Int.reduceToNat, Nat.reducePow, Int.reducePow, Nat.reduceDiv, Nat.reduceMod, awp_dr, h28, hg, vnC, newVarT_0, newL_eq, hs1, hs2]
                                                            | (with_reducible refine cdB_dec (fun hp hq => ?_) (fun hp hq => ?_) <;> first | (clear hq; refine False.elim ?_; omega) | (simp only [hq]; clear hq) | clear hq)
                                                            | (with_reducible refine gB_dec (fun hp hq => ?_) (fun hp hq => ?_) <;> first | (clear hq; refine False.elim ?_; omega) | (simp only [hq]; clear hq) | clear hq)
                                                            | (with_reducible refine gB_ndec (fun hp hq => ?_) (fun hp hq => ?_) <;> first | (clear hq; refine False.elim ?_; omega) | (simp only [hq]; clear hq) | clear hq)
                                                            | (with_reducible refine And.intro ?_ ?_; omega)
    rw [awp_bk]
    repeat' first
                                                            | (simp -implicitDefEqProofs (disch := omega) only [push_cast, ↓reduceIte, Nat.reduceEqDiff, reduceCtorEq, Nat.reduceAdd, Nat.reduceMul, Nat.reduceSub, Nat.reduceLT, Nat.reduceLeDiff, Int.reduceLT, Int.reduceLE, Int.reduceEq, Int.reduceNe, Int.reduceNeg, Int.reduceAdd, Int.reduceSub, Int.reduceMul, Int.reduceToNat, Nat.reducePow, Int.reducePow, Nat.reduceDiv, Nat.reduceMod, awp_dr, h28, hg, vnC, newVarT_0, newL_eq, hs1, hs2]; done)
                                                            | simp -implicitDefEqProofs (disch := omega) only [push_cast, ↓reduceIte, Nat.reduceEqDiff, reduceCtorEq, Nat.reduceAdd, Nat.reduceMul, Nat.reduceSub, Nat.reduceLT, Nat.reduceLeDiff, Int.reduceLT, Int.reduceLE, Int.reduceEq, Int.reduceNe, Int.reduceNeg, Int.reduceAdd, Int.reduceSub, Int.reduceMul, Int.reduceToNat, Nat.reducePow, Int.reducePow, Nat.reduceDiv, Nat.reduceMod, awp_dr, h28, hg, vnC, newVarT_0, newL_eq, hs1, hs2]
                                                            | (with_reducible refine cdB_dec (fun hp hq => ?_) (fun hp hq => ?_) <;> first | (clear hq; refine False.elim ?_; omega) | (simp only [hq]; clear hq) | clear hq)
                                                            | (with_reducible refine gB_dec (fun hp hq => ?_) (fun hp hq => ?_) <;> first | (clear hq; refine False.elim ?_; omega) | (simp only [hq]; clear hq) | clear hq)
                                                            | (with_reducible refine gB_ndec (fun hp hq => ?_) (fun hp hq => ?_) <;> first | (clear hq; refine False.elim ?_; omega) | (simp only [hq]; clear hq) | clear hq)
                                                            | (with_reducible refine And.intro ?_ ?_; omega)
    exact ⟨_, by omega, i + 1, by omega, rfl, by simp, by rw [← fillc_step hy]; exact hs3 _⟩
  · have hi : i = lt.length := by omega
    subst hi
    replace hx' : LsE [24] ⟨ml, mc, mh⟩ x 1 ((lt.map VN.up).map intC) := by
      rw [List.take_length, Nat.sub_self, List.replicate_zero, List.append_nil] at hx'
      rw [List.map_map]; exact hx'
    obtain ⟨a, ml', mc', e1, e2, e3, e4, e5, _⟩ := hx'.fz2
    repeat' first
                                                            | (simp -implicitDefEqProofs (disch := omega) only [push_cast, ↓reduceIte, Nat.reduceEqDiff, reduceCtorEq, Nat.reduceAdd, Nat.reduceMul, Nat.reduceSub, Nat.reduceLT, Nat.reduceLeDiff, Int.reduceLT, Int.reduceLE, Int.reduceEq, Int.reduceNe, Int.reduceNeg, Int.reduceAdd, Int.reduceSub, Int.reduceMul, Int.reduceToNat, Nat.reducePow, Int.reducePow, Nat.reduceDiv, Nat.reduceMod, awp_dr, h28, hx'.ln, fzs_gen, e1, e5, fzs_rep3]; done)
                                                            | simp -implicitDefEqProofs (disch := omega) only [push_cast, ↓reduceIte, Nat.reduceEqDiff, reduceCtorEq, Nat.reduceAdd, Nat.reduceMul, Nat.reduceSub, Nat.reduceLT, Nat.reduceLeDiff, Int.reduceLT, Int.reduceLE, Int.reduceEq, Int.reduceNe, Int.reduceNeg, Int.reduceAdd, Int.reduceSub, Int.reduceMul, Int.reduceToNat, Nat.reducePow, Int.reducePow, Nat.reduceDiv, Nat.reduceMod, awp_dr, h28, hx'.ln, fzs_gen, e1, e5, fzs_rep3]
                                                            | refine ACalls.suba (SubL.cons e2 SubL.nil) (kin_ok (by simp; omega) (fun es h2 hw2 hx2 hst hkn => ?_) (fun h2 hw2 hx2 hbad => ?_))
                                                            | (with_reducible refine cdB_dec (fun hp hq => ?_) (fun hp hq => ?_) <;> first | (clear hq; refine False.elim ?_; omega) | (simp only [hq]; clear hq) | clear hq)
                                                            | (with_reducible refine gB_dec (fun hp hq => ?_) (fun hp hq => ?_) <;> first | (clear hq; refine False.elim ?_; omega) | (simp only [hq]; clear hq) | clear hq)
                                                            | (with_reducible refine gB_ndec (fun hp hq => ?_) (fun hp hq => ?_) <;> first | (clear hq; refine False.elim ?_; omega) | (simp only [hq]; clear hq) | clear hq)
                                                            | (with_reducible refine And.intro ?_ ?_; omega)
    · have hS0 := StH.start (N := lt.length) (c := vlCell lt) (f := fun k => (under (lt.map VN.up) k).map (ptA h2.nx)) hw2 (HX.refl h2) (cells := (List.replicate lt.length [.sc (.int .i64 0), .sc (.string (bs [])), nilS]).flatten) (by simp)
      rw [awp_bk]
      refine awp_lpW 309485009820219168817949696 (fun d t m => ∃ (i : Nat) (cells : List AV), i ≤ lt.length ∧ d = lt.length - i ∧ t 50 = .v (.sc (.int .i64 i)) ∧ StH h2 m.h h2.nx lt.length i (vlCell lt) (fun k => (under (lt.map VN.up) k).map (ptA h2.nx)) cells) lt.length (by kernel_rfl) ?_ ?_
      · exact ⟨0, _, Nat.zero_le _, rfl, rfl, hS0⟩
      rintro d t4 ⟨ml4, mc4, mh4⟩ ⟨i, cells, hi, rfl, h54, hS⟩
      simp only at hS
      by_cases hlt : i < lt.length
      · obtain ⟨z, hz, hg⟩ := vget (k := .i64) vnC_len hlt
        repeat' first
                                                            | (simp -implicitDefEqProofs (disch := omega) only [push_cast, ↓reduceIte, Nat.reduceEqDiff, reduceCtorEq, Nat.reduceAdd, Nat.reduceMul, Nat.reduceSub, Nat.reduceLT, Nat.reduceLeDiff, Int.reduceLT, Int.reduceLE, Int.reduceEq, Int.reduceNe, Int.reduceNeg, Int.reduceAdd, Int.reduceSub, Int.reduceMul, Int.reduceToNat, Nat.reducePow, Int.reducePow, Nat.reduceDiv, Nat.reduceMod, awp_dr, h54]; done)
                                                            | simp -implicitDefEqProofs (disch := omega) only [push_cast, ↓reduceIte, Nat.reduceEqDiff, reduceCtorEq, Nat.reduceAdd, Nat.reduceMul, Nat.reduceSub, Nat.reduceLT, Nat.reduceLeDiff, Int.reduceLT, Int.reduceLE, Int.reduceEq, Int.reduceNe, Int.reduceNeg, Int.reduceAdd, Int.reduceSub, Int.reduceMul, Int.reduceToNat, Nat.reducePow, Int.reducePow, Nat.reduceDiv, Nat.reduceMod, awp_dr, h54]
                                                            | (with_reducible refine cdB_dec (fun hp hq => ?_) (fun hp hq => ?_) <;> first | (clear hq; refine False.elim ?_; omega) | (simp only [hq]; clear hq) | clear hq)
                                                            | (with_reducible refine gB_dec (fun hp hq => ?_) (fun hp hq => ?_) <;> first | (clear hq; refine False.elim ?_; omega) | (simp only [hq]; clear hq) | clear hq)
                                                            | (with_reducible refine gB_ndec (fun hp hq => ?_) (fun hp hq => ?_) <;> first | (clear hq; refine False.elim ?_; omega) | (simp only [hq]; clear hq) | clear hq)
                                                            | (with_reducible refine And.intro ?_ ?_; omega)
        rw [awp_bk]
        have hup : upAt (lt.map VN.up) i = z.up := by simp [upAt, hz]
        have hes1 : ∀ e ∈ es, e.length = 1 := fun e he => by
          obtain ⟨k, hk1, hk2⟩ := List.getElem_of_mem he
          obtain ⟨a, ha, _⟩ := hkn.2.1 k (by rw [← hkn.1]; exact hk1)
          rw [List.getElem?_eq_getElem hk1, hk2] at ha
          injection ha with ha; rw [ha]; rfl
        obtain ⟨a7, ha7, hs7⟩ := hkn.2.1 i (by simpa using hlt)
        replace hs7 : SlH h2 a7 ((under (lt.map VN.up) i).map natA) := hs7
        have hk7 : ∀ m, ixT 1 m (.v (.vec es)) (.v (.sc (.int .i64 i))) = some (.vp [a7]) := fun m => vec_get hes1 ha7
        have hn7 := SlH.ln hs7
        rw [List.length_map] at hn7
        have hm4 := hS.2.2.2.2.1
        have hcl := hS.2.2.2.2.2.1
        have hSI := hS.node hlt
        have htc : vlCell lt i = (.sc (.int .i64 z.n), .sc (.string (bs z.text))) := by simp [vlCell, hz]
        rw [htc] at hSI
        obtain ⟨ks, hks⟩ : ∃ ks, ks = under (lt.map VN.up) i := ⟨_, rfl⟩
        rw [← hks] at hs7 hn7
        obtain ⟨ml6, hml6⟩ : ∃ ml6, ml6 = upd (upd ml4 11 (.mu mc4 [.v (.sc (.int .i64 0)), .v (.sc (.string (bs []))), .v (.sc (.int .i64 0))])) 11 (.mu mc4 [.v (.sc (.int .i64 z.n)), .v (.sc (.string (bs z.text))), .v (.sc (.int .i64 z.up))]) := ⟨_, rfl⟩
        have h12 : ml6 11 = .mu mc4 [.v (.sc (.int .i64 z.n)), .v (.sc (.string (bs z.text))), .v (.sc (.int .i64 z.up))] := by rw [hml6]; simp [upd]
        repeat' first
                                                            | (simp -implicitDefEqProofs (disch := omega) only [push_cast, ↓reduceIte, Nat.reduceEqDiff, reduceCtorEq, Nat.reduceAdd, Nat.reduceMul, Nat.reduceSub, Nat.reduceLT, Nat.reduceLeDiff, Int.reduceLT, Int.reduceLE, Int.reduceEq, Int.reduceNe, Int.reduceNeg, Int.reduceAdd, Int.reduceSub, Int.reduceMul, Int.reduceToNat, Nat.reducePow, Int.reducePow, Nat.reduceDiv, Nat.reduceMod, awp_dr, h54, hg, vnC, newVarT_0, newL_eq, hk7, hn7, hm4, ← hml6, h12]; done)
                                                            | simp -implicitDefEqProofs (disch := omega) only [push_cast, ↓reduceIte, Nat.reduceEqDiff, reduceCtorEq, Nat.reduceAdd, Nat.reduceMul, Nat.reduceSub, Nat.reduceLT, Nat.reduceLeDiff, Int.reduceLT, Int.reduceLE, Int.reduceEq, Int.reduceNe, Int.reduceNeg, Int.reduceAdd, Int.reduceSub, Int.reduceMul, Int.reduceToNat, Nat.reducePow, Int.reducePow, Nat.reduceDiv, Nat.reduceMod, awp_dr, h54, hg, vnC, newVarT_0, newL_eq, hk7, hn7, hm4, ← hml6, h12]
                                                            | (with_reducible refine cdB_dec (fun hp hq => ?_) (fun hp hq => ?_) <;> first | (clear hq; refine False.elim ?_; omega) | (simp only [hq]; clear hq) | clear hq)
                                                            | (with_reducible refine gB_dec (fun hp hq => ?_) (fun hp hq => ?_) <;> first | (clear hq; refine False.elim ?_; omega) | (simp only [hq]; clear hq) | clear hq)
                                                            | (with_reducible refine gB_ndec (fun hp hq => ?_) (fun hp hq => ?_) <;> first | (clear hq; refine False.elim ?_; omega) | (simp only [hq]; clear hq) | clear hq)
                                                            | (with_reducible refine And.intro ?_ ?_; omega)
        rw [awp_bk]
        refine awp_lpW 154742209762767355009572864 (fun d t m => ∃ (q : Nat) (cells : List AV) (a : AV), q ≤ ks.length ∧ d = ks.length - q ∧ t 68 = .v (.sc (.int .i64 q)) ∧ m.l = ml6 ∧ m.c = mc4 + 1 ∧
          StI h2 m.h h2.nx lt.length i (vlCell lt) (fun k => (under (lt.map VN.up) k).map (ptA h2.nx)) ((ks.take q).map (ptA h2.nx)) cells a) ks.length (by kernel_rfl) ?_ ?_
        · exact ⟨0, _, _, Nat.zero_le _, rfl, rfl, rfl, rfl, hSI⟩
        rintro d t7 ⟨ml7, mc7, mh7⟩ ⟨q, cells7, a, hq, rfl, h101, rfl, rfl, hSI7⟩
        simp only at hSI7
        by_cases hqlt : q < ks.length
        · have hkq : ks[q]? = some ks[q] := List.getElem?_eq_getElem hqlt
          obtain ⟨k, hk⟩ : ∃ k, k = ks[q] := ⟨_, rfl⟩
          rw [← hk] at hkq
          have hkl := under_lt (show k ∈ under (lt.map VN.up) i by rw [← hks, hk]; exact List.getElem_mem _)
          rw [List.length_map] at hkl
          obtain ⟨n, o, g1, cs, g2, g3⟩ := (SlH.hx hs7 hw2 hSI7.2.1).get (k := .i64) (i := q) (v := natA k) (by rw [List.getElem?_map, hkq]; rfl)
          have hm7 := hSI7.2.2.2.2.1
          have hcl7 := hSI7.2.2.2.2.2.1
          have hr7 := hSI7.2.2.2.2.2.2.1.2.2
          have hlq : ((ks.take q).map (ptA h2.nx)).length = q := by simp; omega
          have hkn40 : ks.length ≤ lt.length := by rw [hks]; exact (by have := underTo_le (lt.map VN.up) i (lt.map VN.up).length; rw [underTo_len, List.length_map] at this; exact this)
          have hap : ∀ ml mc, apT 1 83 1 8 ⟨ml, mc, mh7⟩ (.v a) (.v (.vec [[.ptr h2.nx (k * 3)]])) = some (.v (.sl mh7.nx 1 0 (q + 1)), ⟨ml, mc, growH mh7 a ((ks.take q).map (ptA h2.nx)) (ptA h2.nx k)⟩) := fun ml mc => by
            have := SlH.app (v := ptA h2.nx k) (d := 83) (bytes := 8) hSI7.2.2.2.2.2.2.2.1 rfl (by omega) (by omega) ml mc
            rw [hlq] at this
            exact this
          have hgr := hSI7.grow (ptA h2.nx k)
          have hpt := hSI7.part hlt (ptA h2.nx k)
          unfold natA at g3
          repeat' first
                                                            | (simp -implicitDefEqProofs (disch := omega) only [push_cast, ↓reduceIte, Nat.reduceEqDiff, reduceCtorEq, Nat.reduceAdd, Nat.reduceMul, Nat.reduceSub, Nat.reduceLT, Nat.reduceLeDiff, Int.reduceLT, Int.reduceLE, Int.reduceEq, Int.reduceNe, Int.reduceNeg, Int.reduceAdd, Int.reduceSub, Int.reduceMul, Int.reduceToNat, Nat.reducePow, Int.reducePow, Nat.reduceDiv, Nat.reduceMod, awp_dr, h101, hn7, g1, g2, g3, hm7, hr7, hap, hgr]; done)
                                                            | simp -implicitDefEqProofs (disch := omega) only [push_cast, ↓reduceIte, Nat.reduceEqDiff, reduceCtorEq, Nat.reduceAdd, Nat.reduceMul, Nat.reduceSub, Nat.reduceLT, Nat.reduceLeDiff, Int.reduceLT, Int.reduceLE, Int.reduceEq, Int.reduceNe, Int.reduceNeg, Int.reduceAdd, Int.reduceSub, Int.reduceMul, Int.reduceToNat, Nat.reducePow, Int.reducePow, Nat.reduceDiv, Nat.reduceMod, awp_dr, h101, hn7, g1, g2, g3, hm7, hr7, hap, hgr]
                                                            | (with_reducible refine cdB_dec (fun hp hq => ?_) (fun hp hq => ?_) <;> first | (clear hq; refine False.elim ?_; omega) | (simp only [hq]; clear hq) | clear hq)
                                                            | (with_reducible refine gB_dec (fun hp hq => ?_) (fun hp hq => ?_) <;> first | (clear hq; refine False.elim ?_; omega) | (simp only [hq]; clear hq) | clear hq)
                                                            | (with_reducible refine gB_ndec (fun hp hq => ?_) (fun hp hq => ?_) <;> first | (clear hq; refine False.elim ?_; omega) | (simp only [hq]; clear hq) | clear hq)
                                                            | (with_reducible refine And.intro ?_ ?_; omega)
          rw [awp_bk]
          repeat' first
                                                            | (simp -implicitDefEqProofs (disch := omega) only [push_cast, ↓reduceIte, Nat.reduceEqDiff, reduceCtorEq, Nat.reduceAdd, Nat.reduceMul, Nat.reduceSub, Nat.reduceLT, Nat.reduceLeDiff, Int.reduceLT, Int.reduceLE, Int.reduceEq, Int.reduceNe, Int.reduceNeg, Int.reduceAdd, Int.reduceSub, Int.reduceMul, Int.reduceToNat, Nat.reducePow, Int.reducePow, Nat.reduceDiv, Nat.reduceMod, awp_dr, h101, hn7, g1, g2, g3, hm7, hr7, hap, hgr]; done)
                                                            | simp -implicitDefEqProofs (disch := omega) only [push_cast, ↓reduceIte, Nat.reduceEqDiff, reduceCtorEq, Nat.reduceAdd, Nat.reduceMul, Nat.reduceSub, Nat.reduceLT, Nat.reduceLeDiff, Int.reduceLT, Int.reduceLE, Int.reduceEq, Int.reduceNe, Int.reduceNeg, Int.reduceAdd, Int.reduceSub, Int.reduceMul, Int.reduceToNat, Nat.reducePow, Int.reducePow, Nat.reduceDiv, Nat.reduceMod, awp_dr, h101, hn7, g1, g2, g3, hm7, hr7, hap, hgr]
                                                            | (with_reducible refine cdB_dec (fun hp hq => ?_) (fun hp hq => ?_) <;> first | (clear hq; refine False.elim ?_; omega) | (simp only [hq]; clear hq) | clear hq)
                                                            | (with_reducible refine gB_dec (fun hp hq => ?_) (fun hp hq => ?_) <;> first | (clear hq; refine False.elim ?_; omega) | (simp only [hq]; clear hq) | clear hq)
                                                            | (with_reducible refine gB_ndec (fun hp hq => ?_) (fun hp hq => ?_) <;> first | (clear hq; refine False.elim ?_; omega) | (simp only [hq]; clear hq) | clear hq)
                                                            | (with_reducible refine And.intro ?_ ?_; omega)
          have e1 : (ks.take (q + 1)).map (ptA h2.nx) = (ks.take q).map (ptA h2.nx) ++ [ptA h2.nx k] := by
            rw [List.take_add_one, hkq]; simp
          unfold partH at hpt
          rw [hlq, ← e1] at hpt
          exact ⟨_, by omega, q + 1, _, _, by omega, rfl, by simp, hpt⟩
        · have hqe : q = ks.length := by omega
          subst hqe
          repeat' first
                                                            | (simp -implicitDefEqProofs (disch := omega) only [push_cast, ↓reduceIte, Nat.reduceEqDiff, reduceCtorEq, Nat.reduceAdd, Nat.reduceMul, Nat.reduceSub, Nat.reduceLT, Nat.reduceLeDiff, Int.reduceLT, Int.reduceLE, Int.reduceEq, Int.reduceNe, Int.reduceNeg, Int.reduceAdd, Int.reduceSub, Int.reduceMul, Int.reduceToNat, Nat.reducePow, Int.reducePow, Nat.reduceDiv, Nat.reduceMod, awp_dr, h101, hn7, h54]; done)
                                                            | simp -implicitDefEqProofs (disch := omega) only [push_cast, ↓reduceIte, Nat.reduceEqDiff, reduceCtorEq, Nat.reduceAdd, Nat.reduceMul, Nat.reduceSub, Nat.reduceLT, Nat.reduceLeDiff, Int.reduceLT, Int.reduceLE, Int.reduceEq, Int.reduceNe, Int.reduceNeg, Int.reduceAdd, Int.reduceSub, Int.reduceMul, Int.reduceToNat, Nat.reducePow, Int.reducePow, Nat.reduceDiv, Nat.reduceMod, awp_dr, h101, hn7, h54]
                                                            | (with_reducible refine cdB_dec (fun hp hq => ?_) (fun hp hq => ?_) <;> first | (clear hq; refine False.elim ?_; omega) | (simp only [hq]; clear hq) | clear hq)
                                                            | (with_reducible refine gB_dec (fun hp hq => ?_) (fun hp hq => ?_) <;> first | (clear hq; refine False.elim ?_; omega) | (simp only [hq]; clear hq) | clear hq)
                                                            | (with_reducible refine gB_ndec (fun hp hq => ?_) (fun hp hq => ?_) <;> first | (clear hq; refine False.elim ?_; omega) | (simp only [hq]; clear hq) | clear hq)
                                                            | (with_reducible refine And.intro ?_ ?_; omega)
          exact ⟨_, by omega, i + 1, cells7, by omega, rfl, by simp, hSI7.done (by rw [List.take_length, hks])⟩
      · have hi : i = lt.length := by omega
        subst hi
        repeat' first
                                                            | (simp -implicitDefEqProofs (disch := omega) only [push_cast, ↓reduceIte, Nat.reduceEqDiff, reduceCtorEq, Nat.reduceAdd, Nat.reduceMul, Nat.reduceSub, Nat.reduceLT, Nat.reduceLeDiff, Int.reduceLT, Int.reduceLE, Int.reduceEq, Int.reduceNe, Int.reduceNeg, Int.reduceAdd, Int.reduceSub, Int.reduceMul, Int.reduceToNat, Nat.reducePow, Int.reducePow, Nat.reduceDiv, Nat.reduceMod, awp_dr, h54]; done)
                                                            | simp -implicitDefEqProofs (disch := omega) only [push_cast, ↓reduceIte, Nat.reduceEqDiff, reduceCtorEq, Nat.reduceAdd, Nat.reduceMul, Nat.reduceSub, Nat.reduceLT, Nat.reduceLeDiff, Int.reduceLT, Int.reduceLE, Int.reduceEq, Int.reduceNe, Int.reduceNeg, Int.reduceAdd, Int.reduceSub, Int.reduceMul, Int.reduceToNat, Nat.reducePow, Int.reducePow, Nat.reduceDiv, Nat.reduceMod, awp_dr, h54]
                                                            | (with_reducible refine cdB_dec (fun hp hq => ?_) (fun hp hq => ?_) <;> first | (clear hq; refine False.elim ?_; omega) | (simp only [hq]; clear hq) | clear hq)
                                                            | (with_reducible refine gB_dec (fun hp hq => ?_) (fun hp hq => ?_) <;> first | (clear hq; refine False.elim ?_; omega) | (simp only [hq]; clear hq) | clear hq)
                                                            | (with_reducible refine gB_ndec (fun hp hq => ?_) (fun hp hq => ?_) <;> first | (clear hq; refine False.elim ?_; omega) | (simp only [hq]; clear hq) | clear hq)
                                                            | (with_reducible refine And.intro ?_ ?_; omega)
        refine hR mh4 _ hS.1 (hx2.trans hS.2.1) ?_ (hS.vl (fun k x e => by simp [vlCell, e]) lt.length 0 (by omega) (by omega))
        simp only [goodV, Bool.and_eq_true, decide_eq_true_eq, List.all_eq_true, List.mem_range]
        exact ⟨hn, fun k hk => hst k (by simpa using hk)⟩
    · refine hF _ hw2 hx2 ?_
      obtain ⟨k, hk1, hk2⟩ := hbad
      rw [List.length_map] at hk1
      cases hg : goodV lt
      · rfl
      · simp only [goodV, Bool.and_eq_true, List.all_eq_true, List.mem_range] at hg
        rw [hg.2 k hk1] at hk2; cases hk2
end Go.Proofs.YtgkiaoodalnceaaDoor
