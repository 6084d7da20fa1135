import Derived.Test.YtgkiaoodalnceaaDoorClVp
import Derived.Test.YtgkiaoodalnceaaDoorClVr
/- Texts of values: the program. -/
namespace Go.Proofs.YtgkiaoodalnceaaDoor
open Go SL VM
set_option maxRecDepth 100000
set_option linter.unusedVariables false
set_option linter.unusedSimpArgs false
attribute [local irreducible] SL.awp

def strC (s : List UInt8) : List AV := [.sc (.string (bs s))]
theorem texts_ok {c : Nat} {cap b : AV} {v : Vl} {h : Heap} {ts : List Ty} {T : List (List UInt8)} {R : AV → Heap → Prop} (hw : HW h) (hl : v.kids.length ≤ 1048576) (hts : ts.length = v.kids.length) (hTl : T.length = v.kids.length)
    (hlen : (Lib.join T [44]).length ≤ 140737488355328) (hV : VlAt h v b)
    (hof : ∀ (i : Nat) k h' R', ts[i]? = some k → HW h' → HX h h' → (∀ pb po h'', HW h'' → HX h' h'' → TyAt h'' k (.ptr pb po) → R' (.ptr pb po) h'') → ACalls Tryd.prog c [.sc (.int .i64 i), cap] h' R')
    (hval : ∀ (i : Nat) k z x p q h' R', ts[i]? = some k → v.kids[i]? = some z → T[i]? = some x → HW h' → HX h h' → TyAt h' k p → VlAt h' z q → (∀ h'', HW h'' → HX h' h'' → R' (.sc (.string (bs x))) h'') → ACalls Tryd.prog 20 [p, q] h' R')
    (hR : ∀ h', HW h' → HX h h' → R (.sc (.string (bs (Lib.join T [44])))) h') : ACalls Tryd.prog 36 [b, .fn (.func c) [] [cap]] h R := by
  obtain ⟨bv, ov, cv, pv, rfl, v1, v2, v3, v4, v5, v6⟩ := hV.facts hw
  have v1' := v1 h (HX.refl h)
  refine acalls_body c_impl_texts (by simp) ?_
  unfold a_impl_texts
  repeat' first
                                                            | (simp -implicitDefEqProofs (disch := omega) only [push_cast, ↓reduceIte, Nat.reduceEqDiff, reduceCtorEq, Nat.reduceAdd, Nat.reduceMul, Nat.reduceSub, Nat.reduceLT, Nat.reduceLeDiff, Int.reduceLT, Int.reduceLE, Int.reduceEq, Int.reduceNe, Int.reduceNeg, Int.reduceAdd, Int.reduceSub, Int.reduceMul, Int.reduceToNat, Nat.reducePow, Int.reducePow, Nat.reduceDiv, Nat.reduceMod, awp_dr, v1', v4, v5]; done)
                                                            | simp -implicitDefEqProofs (disch := omega) only [push_cast, ↓reduceIte, Nat.reduceEqDiff, reduceCtorEq, Nat.reduceAdd, Nat.reduceMul, Nat.reduceSub, Nat.reduceLT, Nat.reduceLeDiff, Int.reduceLT, Int.reduceLE, Int.reduceEq, Int.reduceNe, Int.reduceNeg, Int.reduceAdd, Int.reduceSub, Int.reduceMul, Int.reduceToNat, Nat.reducePow, Int.reducePow, Nat.reduceDiv, Nat.reduceMod, awp_dr, v1', v4, v5]
                                                            | (with_reducible refine cdB_dec (fun hp hq => ?_) (fun hp hq => ?_) <;> first | (clear hq; refine False.elim ?_; omega) | (simp only [hq]; clear hq) | clear hq)
                                                            | (with_reducible refine gB_dec (fun hp hq => ?_) (fun hp hq => ?_) <;> first | (clear hq; refine False.elim ?_; omega) | (simp only [hq]; clear hq) | clear hq)
                                                            | (with_reducible refine gB_ndec (fun hp hq => ?_) (fun hp hq => ?_) <;> first | (clear hq; refine False.elim ?_; omega) | (simp only [hq]; clear hq) | clear hq)
                                                            | (with_reducible refine And.intro ?_ ?_; omega)
  refine bind_make (D := [13]) [.sc (.string (bs []))] (by simp) rfl rfl fun x m hx hh hk => ?_
  repeat' first
                                                            | (simp -implicitDefEqProofs (disch := omega) only [push_cast, ↓reduceIte, Nat.reduceEqDiff, reduceCtorEq, Nat.reduceAdd, Nat.reduceMul, Nat.reduceSub, Nat.reduceLT, Nat.reduceLeDiff, Int.reduceLT, Int.reduceLE, Int.reduceEq, Int.reduceNe, Int.reduceNeg, Int.reduceAdd, Int.reduceSub, Int.reduceMul, Int.reduceToNat, Nat.reducePow, Int.reducePow, Nat.reduceDiv, Nat.reduceMod, awp_dr, v1', v4, v5, hh]; done)
                                                            | simp -implicitDefEqProofs (disch := omega) only [push_cast, ↓reduceIte, Nat.reduceEqDiff, reduceCtorEq, Nat.reduceAdd, Nat.reduceMul, Nat.reduceSub, Nat.reduceLT, Nat.reduceLeDiff, Int.reduceLT, Int.reduceLE, Int.reduceEq, Int.reduceNe, Int.reduceNeg, Int.reduceAdd, Int.reduceSub, Int.reduceMul, Int.reduceToNat, Nat.reducePow, Int.reducePow, Nat.reduceDiv, Nat.reduceMod, awp_dr, v1', v4, v5, hh]
                                                            | (with_reducible refine cdB_dec (fun hp hq => ?_) (fun hp hq => ?_) <;> first | (clear hq; refine False.elim ?_; omega) | (simp only [hq]; clear hq) | clear hq)
                                                            | (with_reducible refine gB_dec (fun hp hq => ?_) (fun hp hq => ?_) <;> first | (clear hq; refine False.elim ?_; omega) | (simp only [hq]; clear hq) | clear hq)
                                                            | (with_reducible refine gB_ndec (fun hp hq => ?_) (fun hp hq => ?_) <;> first | (clear hq; refine False.elim ?_; omega) | (simp only [hq]; clear hq) | clear hq)
                                                            | (with_reducible refine And.intro ?_ ?_; omega)
  rw [awp_bk]
  refine awp_lpW 8589410496 (fun d t m => ∃ i : Nat, i ≤ v.kids.length ∧ d = v.kids.length - i ∧ t 19 = .v (.sc (.int .i64 i)) ∧ HW m.h ∧ HX h m.h ∧ LsE [13] m x 1 ((T.take i).map strC ++ List.replicate (T.length - i) (strC []))) v.kids.length (by kernel_rfl) ?_ ?_
  · exact ⟨0, Nat.zero_le _, rfl, rfl, by simpa [hh] using hw, by simpa [hh] using HX.refl h, by simpa [strC, hTl] using hx⟩
  rintro d t ⟨ml, mc, mh⟩ ⟨i, hi, rfl, h19, hw', hx', hls⟩
  simp only at hw' hx'
  by_cases hlt : i < v.kids.length
  · have hz : v.kids[i]? = some v.kids[i] := List.getElem?_eq_getElem hlt
    have hk : ts[i]? = some ts[i] := List.getElem?_eq_getElem (by omega)
    have hT : T[i]? = some T[i] := List.getElem?_eq_getElem (by omega)
    obtain ⟨pz, ⟨n, o, cs, i1, i2, i3⟩, hVz⟩ := v6 i _ hz
    have i2' := i2 mh hx'
    obtain ⟨zb, zo, rfl⟩ := hVz.ptr
    obtain ⟨q, ml2, hs1, hs2, hs3, hs4⟩ := hls.set1 (k := .i64) (i := i) (a := .sc (.string (bs T[i]))) (by simp; omega) rfl
    repeat' first
                                                            | (simp -implicitDefEqProofs (disch := omega) only [push_cast, ↓reduceIte, Nat.reduceEqDiff, reduceCtorEq, Nat.reduceAdd, Nat.reduceMul, Nat.reduceSub, Nat.reduceLT, Nat.reduceLeDiff, Int.reduceLT, Int.reduceLE, Int.reduceEq, Int.reduceNe, Int.reduceNeg, Int.reduceAdd, Int.reduceSub, Int.reduceMul, Int.reduceToNat, Nat.reducePow, Int.reducePow, Nat.reduceDiv, Nat.reduceMod, awp_dr, h19, v5, i1, i2', i3]; done)
                                                            | simp -implicitDefEqProofs (disch := omega) only [push_cast, ↓reduceIte, Nat.reduceEqDiff, reduceCtorEq, Nat.reduceAdd, Nat.reduceMul, Nat.reduceSub, Nat.reduceLT, Nat.reduceLeDiff, Int.reduceLT, Int.reduceLE, Int.reduceEq, Int.reduceNe, Int.reduceNeg, Int.reduceAdd, Int.reduceSub, Int.reduceMul, Int.reduceToNat, Nat.reducePow, Int.reducePow, Nat.reduceDiv, Nat.reduceMod, awp_dr, h19, v5, i1, i2', i3]
                                                            | (with_reducible refine cdB_dec (fun hp hq => ?_) (fun hp hq => ?_) <;> first | (clear hq; refine False.elim ?_; omega) | (simp only [hq]; clear hq) | clear hq)
                                                            | (with_reducible refine gB_dec (fun hp hq => ?_) (fun hp hq => ?_) <;> first | (clear hq; refine False.elim ?_; omega) | (simp only [hq]; clear hq) | clear hq)
                                                            | (with_reducible refine gB_ndec (fun hp hq => ?_) (fun hp hq => ?_) <;> first | (clear hq; refine False.elim ?_; omega) | (simp only [hq]; clear hq) | clear hq)
                                                            | (with_reducible refine And.intro ?_ ?_; omega)
    rw [awp_bk]
    repeat' first
                                                            | (simp -implicitDefEqProofs (disch := omega) only [push_cast, ↓reduceIte, Nat.reduceEqDiff, reduceCtorEq, Nat.reduceAdd, Nat.reduceMul, Nat.reduceSub, Nat.reduceLT, Nat.reduceLeDiff, Int.reduceLT, Int.reduceLE, Int.reduceEq, Int.reduceNe, Int.reduceNeg, Int.reduceAdd, Int.reduceSub, Int.reduceMul, Int.reduceToNat, Nat.reducePow, Int.reducePow, Nat.reduceDiv, Nat.reduceMod, awp_dr, h19, v5, i1, i2', i3, hs1, hs2]; done)
                                                            | simp -implicitDefEqProofs (disch := omega) only [push_cast, ↓reduceIte, Nat.reduceEqDiff, reduceCtorEq, Nat.reduceAdd, Nat.reduceMul, Nat.reduceSub, Nat.reduceLT, Nat.reduceLeDiff, Int.reduceLT, Int.reduceLE, Int.reduceEq, Int.reduceNe, Int.reduceNeg, Int.reduceAdd, Int.reduceSub, Int.reduceMul, Int.reduceToNat, Nat.reducePow, Int.reducePow, Nat.reduceDiv, Nat.reduceMod, awp_dr, h19, v5, i1, i2', i3, hs1, hs2]
                                                            | refine hof i _ _ _ hk hw' hx' (fun pb po h2 hw2 hx2 hT2 => ?_)
                                                            | refine hval i _ _ _ _ _ _ _ hk hz hT hw2 (hx'.trans hx2) hT2 (hVz.hx hw (hx'.trans hx2)) (fun h3 hw3 hx3 => ?_)
                                                            | (with_reducible refine cdB_dec (fun hp hq => ?_) (fun hp hq => ?_) <;> first | (clear hq; refine False.elim ?_; omega) | (simp only [hq]; clear hq) | clear hq)
                                                            | (with_reducible refine gB_dec (fun hp hq => ?_) (fun hp hq => ?_) <;> first | (clear hq; refine False.elim ?_; omega) | (simp only [hq]; clear hq) | clear hq)
                                                            | (with_reducible refine gB_ndec (fun hp hq => ?_) (fun hp hq => ?_) <;> first | (clear hq; refine False.elim ?_; omega) | (simp only [hq]; clear hq) | clear hq)
                                                            | (with_reducible refine And.intro ?_ ?_; omega)
    exact ⟨_, by omega, i + 1, by omega, rfl, by simp, hw3, hx'.trans (hx2.trans hx3), by rw [← fillc_step hT]; exact hs3 _⟩
  · have hi : i = v.kids.length := by omega
    subst hi
    rw [← hTl, Nat.sub_self, List.replicate_zero, List.append_nil, List.take_length] at hls
    obtain ⟨a, ml', mc', e1, e2, e3, e4, e5, _⟩ := hls.fz2
    repeat' first
                                                            | (simp -implicitDefEqProofs (disch := omega) only [push_cast, ↓reduceIte, Nat.reduceEqDiff, reduceCtorEq, Nat.reduceAdd, Nat.reduceMul, Nat.reduceSub, Nat.reduceLT, Nat.reduceLeDiff, Int.reduceLT, Int.reduceLE, Int.reduceEq, Int.reduceNe, Int.reduceNeg, Int.reduceAdd, Int.reduceSub, Int.reduceMul, Int.reduceToNat, Nat.reducePow, Int.reducePow, Nat.reduceDiv, Nat.reduceMod, awp_dr, h19, v5, fzs_gen, e1, e5]; done)
                                                            | simp -implicitDefEqProofs (disch := omega) only [push_cast, ↓reduceIte, Nat.reduceEqDiff, reduceCtorEq, Nat.reduceAdd, Nat.reduceMul, Nat.reduceSub, Nat.reduceLT, Nat.reduceLeDiff, Int.reduceLT, Int.reduceLE, Int.reduceEq, Int.reduceNe, Int.reduceNeg, Int.reduceAdd, Int.reduceSub, Int.reduceMul, Int.reduceToNat, Nat.reducePow, Int.reducePow, Nat.reduceDiv, Nat.reduceMod, awp_dr, h19, v5, fzs_gen, e1, e5]
                                                            | refine ACalls.suba (SubL.cons e2 (SubL.refl _)) (join_ok (by omega) hlen ?_)
                                                            | (with_reducible refine cdB_dec (fun hp hq => ?_) (fun hp hq => ?_) <;> first | (clear hq; refine False.elim ?_; omega) | (simp only [hq]; clear hq) | clear hq)
                                                            | (with_reducible refine gB_dec (fun hp hq => ?_) (fun hp hq => ?_) <;> first | (clear hq; refine False.elim ?_; omega) | (simp only [hq]; clear hq) | clear hq)
                                                            | (with_reducible refine gB_ndec (fun hp hq => ?_) (fun hp hq => ?_) <;> first | (clear hq; refine False.elim ?_; omega) | (simp only [hq]; clear hq) | clear hq)
                                                            | (with_reducible refine And.intro ?_ ?_; omega)
    exact hR _ hw' hx'
theorem lib_formatUint {u : Nat} (hu : u < 18446744073709551616) {h : Heap} : ACalls Tryd.prog 54 [.sc (.int .u64 u), .sc (.int .i64 10)] h fun r h' => r = .sc (.string ⟨(Lib.decDigits u).toArray⟩) ∧ h' = h := by
  refine acalls_below (by kernel_rfl) fun g w vs hG hs ha => ?_
  simp only [RepL, RepA] at ha
  obtain ⟨x, xs, rfl, rfl, y, ys, rfl, rfl, rfl⟩ := ha
  refine (formatUint_calls u hu w (glob_pow10 hG (by kernel_rfl : (Tryd.prog).globalNamed "internal/strconv.uint64pow10" = some 0))).mono ?_
  rintro e w' ⟨rfl, k, os, rfl⟩
  exact ⟨_, _, rfl, ⟨rfl, rfl⟩, fun _ _ => by simp [RepA], below_grow⟩
theorem formatUint_ok {n : Int} {h : Heap} {R : AV → Heap → Prop} (hR : R (.sc (.string (bs (uText n)))) h) : ACalls Tryd.prog 34 [.sc (.int .u64 (n % 18446744073709551616)), .sc (.int .i64 10)] h R := by
  refine acalls_body c_strconv_FormatUint (by simp) ?_
  unfold a_strconv_FormatUint
  obtain ⟨u, hu⟩ : ∃ u : Nat, n % 18446744073709551616 = (u : Int) := ⟨(n % 18446744073709551616).toNat, by omega⟩
  have hR' : R (.sc (.string ⟨(Lib.decDigits u).toArray⟩)) h := by
    have e : uText n = Lib.decDigits u := by unfold uText; rw [hu, Int.toNat_natCast]
    rw [e] at hR; exact hR
  repeat' first
                                                            | (simp -implicitDefEqProofs (disch := omega) only [push_cast, ↓reduceIte, Nat.reduceEqDiff, reduceCtorEq, Nat.reduceAdd, Nat.reduceMul, Nat.reduceSub, Nat.reduceLT, Nat.reduceLeDiff, Int.reduceLT, Int.reduceLE, Int.reduceEq, Int.reduceNe, Int.reduceNeg, Int.reduceAdd, Int.reduceSub, Int.reduceMul, Int.reduceToNat, Nat.reducePow, Int.reducePow, Nat.reduceDiv, Nat.reduceMod, awp_dr, hu]; done)
                                                            | simp -implicitDefEqProofs (disch := omega) only [push_cast, ↓reduceIte, Nat.reduceEqDiff, reduceCtorEq, Nat.reduceAdd, Nat.reduceMul, Nat.reduceSub, Nat.reduceLT, Nat.reduceLeDiff, Int.reduceLT, Int.reduceLE, Int.reduceEq, Int.reduceNe, Int.reduceNeg, Int.reduceAdd, Int.reduceSub, Int.reduceMul, Int.reduceToNat, Nat.reducePow, Int.reducePow, Nat.reduceDiv, Nat.reduceMod, awp_dr, hu]
                                                            | refine ACalls_val (lib_formatUint (by omega)) ?_
                                                            | (with_reducible refine cdB_dec (fun hp hq => ?_) (fun hp hq => ?_) <;> first | (clear hq; refine False.elim ?_; omega) | (simp only [hq]; clear hq) | clear hq)
                                                            | (with_reducible refine gB_dec (fun hp hq => ?_) (fun hp hq => ?_) <;> first | (clear hq; refine False.elim ?_; omega) | (simp only [hq]; clear hq) | clear hq)
                                                            | (with_reducible refine gB_ndec (fun hp hq => ?_) (fun hp hq => ?_) <;> first | (clear hq; refine False.elim ?_; omega) | (simp only [hq]; clear hq) | clear hq)
                                                            | (with_reducible refine And.intro ?_ ?_; omega)
  exact hR'
theorem value_ok : ∀ {f : Nat} {t : Ty} {v : Vl} {a b : AV} {h : Heap} {R : AV → Heap → Prop}, TyOk f t → VlB f v → fitsF f t v = true → wtV v ≤ 1000000 → TyAt h t a → VlAt h v b →
    (∀ h', HW h' → HX h h' → R (.sc (.string (bs (textF f t v)))) h') → ACalls Tryd.prog 20 [a, b] h R := by
  intro f
  induction f with
  | zero => intro t v a b h R ht; exact ht.elim
  | succ f ih =>
    intro t v a b h R ht hv hfit hw hT hV hR
    refine acalls_hw (by kernel_rfl) fun hwf => ?_
    have hpart := fun i => textF_part hv hfit i
    have hall := textF_le hv hfit
    have hfit' := hfit
    simp only [fitsF, numOk, Bool.and_eq_true, decide_eq_true_eq] at hfit'
    obtain ⟨⟨hB, _, hC⟩, hZ⟩ := hfit'
    have hcan := ht.can hB
    have hlen := zipAll_len hZ
    have hkl := ht.kids_le
    have hkl1 := hv.1
    have hi64 := hv.2.2.1
    have hrg := ht.range
    have hlen8 := ht.len
    generalize hTT : ((kidTs t v.n v.kids.length).zip v.kids).map (fun x => textF f x.1 x.2) = T at hpart
    have hTl : T.length = v.kids.length := by rw [← hTT]; simp [hlen]
    have hpT := hpart T.length
    rw [List.take_length] at hpT
    simp only [textF, hTT] at hR hall
    obtain ⟨bt, ot, ct, pt, rfl, t1, t2, t3, t4, t5, t6⟩ := hT.facts hwf
    obtain ⟨bv, ov, cv, pv, rfl, v1, v2, v3, v4, v5, v6⟩ := hV.facts hwf
    obtain ⟨h1, eh1⟩ : ∃ h1 : Heap, h1 = ⟨upd h.m h.nx (some [.ptr bt ot]), h.nx + 1⟩ := ⟨_, rfl⟩
    have hx1 : HX h h1 := eh1 ▸ HX.new h _
    have hw1 : HW h1 := eh1 ▸ hwf.new _
    have m1 : h1.m h.nx = some [.ptr bt ot] := by rw [eh1]; exact upd_eq _ _ _
    have t1' := t1 h1 hx1
    have v1' := v1 h1 hx1
    have hV1 := hV.hx hwf hx1
    -- the parts' own texts
    have hval : ∀ (i : Nat) k z x p q h' R', (kidTs t v.n v.kids.length)[i]? = some k → v.kids[i]? = some z → T[i]? = some x → HW h' → HX h1 h' → TyAt h' k p → VlAt h' z q → (∀ h'', HW h'' → HX h' h'' → R' (.sc (.string (bs x))) h'') →
        ACalls Tryd.prog 20 [p, q] h' R' := by
      intro i k z x p q h' R' hk hz hx hw' hx' hTp hVq hR'
      have hty := ht.kid (kidTs_mem hcan (List.mem_of_getElem? hk))
      have hvz := hv.kid (List.mem_of_getElem? hz)
      have hf := (zipAll_iff hlen).1 hZ i k z hk hz
      have hw2 := wtVs_le (List.mem_of_getElem? hz)
      have hwv := wtV_eq v
      have hTi : T[i]? = some (textF f k z) := by
        rw [← hTT, List.getElem?_map, (List.getElem?_zip_eq_some (z := (k, z))).2 ⟨hk, hz⟩]; rfl
      rw [hTi] at hx
      injection hx with hx
      subst hx
      exact ih hty hvz hf (by omega) hTp hVq hR'
    have hR1 : ∀ b, b = nodeText t v (Lib.join T [44]) → R (.sc (.string (bs b))) h1 := fun b e => e ▸ hR h1 hw1 hx1
    have hR2 : ∀ b h2, b = nodeText t v (Lib.join T [44]) → HW h2 → HX h1 h2 → R (.sc (.string (bs b))) h2 := fun b h2 e hw2 hx2 => e ▸ hR h2 hw2 (hx1.trans hx2)
    have hq := Lib.itoa_length_le v.n hi64.1 hi64.2
    refine acalls_body c_impl_shape_value (by simp) ?_
    unfold a_impl_shape_value
    repeat' first
                                                            | (simp -implicitDefEqProofs (disch := omega) only [push_cast, ↓reduceIte, Nat.reduceEqDiff, reduceCtorEq, Nat.reduceAdd, Nat.reduceMul, Nat.reduceSub, Nat.reduceLT, Nat.reduceLeDiff, Int.reduceLT, Int.reduceLE, Int.reduceEq, Int.reduceNe, Int.reduceNeg, Int.reduceAdd, Int.reduceSub, Int.reduceMul, Int.reduceToNat, Nat.reducePow, Int.reducePow, Nat.reduceDiv, Nat.reduceMod, awp_dr, newVarT_1, newH_eq, ← eh1, m1, t1', v1', t2, v2, v3, v4, v5]; done)
                                                            | simp -implicitDefEqProofs (disch := omega) only [push_cast, ↓reduceIte, Nat.reduceEqDiff, reduceCtorEq, Nat.reduceAdd, Nat.reduceMul, Nat.reduceSub, Nat.reduceLT, Nat.reduceLeDiff, Int.reduceLT, Int.reduceLE, Int.reduceEq, Int.reduceNe, Int.reduceNeg, Int.reduceAdd, Int.reduceSub, Int.reduceMul, Int.reduceToNat, Nat.reducePow, Int.reducePow, Nat.reduceDiv, Nat.reduceMod, awp_dr, newVarT_1, newH_eq, ← eh1, m1, t1', v1', t2, v2, v3, v4, v5]
                                                            | (with_reducible refine cdB_dec (fun hp hq => ?_) (fun hp hq => ?_) <;> first | (clear hq; refine False.elim ?_; omega) | (simp only [hq]; clear hq) | clear hq)
                                                            | (with_reducible refine gB_dec (fun hp hq => ?_) (fun hp hq => ?_) <;> first | (clear hq; refine False.elim ?_; omega) | (simp only [hq]; clear hq) | clear hq)
                                                            | (with_reducible refine gB_ndec (fun hp hq => ?_) (fun hp hq => ?_) <;> first | (clear hq; refine False.elim ?_; omega) | (simp only [hq]; clear hq) | clear hq)
                                                            | (with_reducible refine And.intro ?_ ?_; omega)
    rw [awp_bk]
    by_cases hsimple : t.kind ≠ 13 ∧ t.kind ≠ 14 ∧ t.kind ≠ 15 ∧ t.kind ≠ 17 ∧ t.kind ≠ 18
    · repeat' first
                                                            | (simp -implicitDefEqProofs (disch := omega) only [push_cast, ↓reduceIte, Nat.reduceEqDiff, reduceCtorEq, Nat.reduceAdd, Nat.reduceMul, Nat.reduceSub, Nat.reduceLT, Nat.reduceLeDiff, Int.reduceLT, Int.reduceLE, Int.reduceEq, Int.reduceNe, Int.reduceNeg, Int.reduceAdd, Int.reduceSub, Int.reduceMul, Int.reduceToNat, Nat.reducePow, Int.reducePow, Nat.reduceDiv, Nat.reduceMod, awp_dr, m1, t1', v1', t2, v2, v3, v4, v5]; done)
                                                            | simp -implicitDefEqProofs (disch := omega) only [push_cast, ↓reduceIte, Nat.reduceEqDiff, reduceCtorEq, Nat.reduceAdd, Nat.reduceMul, Nat.reduceSub, Nat.reduceLT, Nat.reduceLeDiff, Int.reduceLT, Int.reduceLE, Int.reduceEq, Int.reduceNe, Int.reduceNeg, Int.reduceAdd, Int.reduceSub, Int.reduceMul, Int.reduceToNat, Nat.reducePow, Int.reducePow, Nat.reduceDiv, Nat.reduceMod, awp_dr, m1, t1', v1', t2, v2, v3, v4, v5]
                                                            | refine formatUint_ok ?_
                                                            | refine quoted_ok hv.2.1 ?_
                                                            | refine itoa_ok hi64 ?_
                                                            | (with_reducible refine cdB_dec (fun hp hq => ?_) (fun hp hq => ?_) <;> first | (clear hq; refine False.elim ?_; omega) | (simp only [hq]; clear hq) | clear hq)
                                                            | (with_reducible refine gB_dec (fun hp hq => ?_) (fun hp hq => ?_) <;> first | (clear hq; refine False.elim ?_; omega) | (simp only [hq]; clear hq) | clear hq)
                                                            | (with_reducible refine gB_ndec (fun hp hq => ?_) (fun hp hq => ?_) <;> first | (clear hq; refine False.elim ?_; omega) | (simp only [hq]; clear hq) | clear hq)
                                                            | (with_reducible refine And.intro ?_ ?_; omega)
      all_goals (refine hR1 _ ?_; simp [nodeText, *])
    by_cases h13 : t.kind = 13
    · have hk13 : t.kids.length = 1 := by rw [h13] at hlen8; simp [shapeK] at hlen8; omega
      obtain ⟨k0, hk0⟩ : ∃ k0, t.kids[0]? = some k0 := ⟨_, List.getElem?_eq_getElem (by rw [hk13]; decide)⟩
      obtain ⟨p0, ⟨n, o, cs, i1, i2, i3⟩, hTp⟩ := t6 0 _ hk0
      replace i1 : ∀ k m, ixT 1 m (.v pt) (.v (.sc (.int k 0))) = some (.v (.ptr n o)) := i1
      obtain ⟨pb, po, rfl⟩ := hTp.ptr
      have e1 : kidTs t v.n v.kids.length = List.replicate v.kids.length k0 := by
        have : t.kids.headD default = k0 := by cases hh : t.kids with
          | nil => rw [hh] at hk0; cases hk0
          | cons a r => rw [hh] at hk0; simpa using hk0
        rw [kidTs, if_pos h13, this]
      have hof : ∀ (i : Nat) k h' R', (kidTs t v.n v.kids.length)[i]? = some k → HW h' → HX h1 h' → (∀ pb po h'', HW h'' → HX h' h'' → TyAt h'' k (.ptr pb po) → R' (.ptr pb po) h'') → ACalls Tryd.prog 37 [.sc (.int .i64 i), .ptr h.nx 0] h' R' := by
        intro i k h' R' hk hw' hx' hR'
        rw [e1] at hk
        obtain rfl : k = k0 := (List.mem_replicate.1 (List.mem_of_getElem? hk)).2
        have n1 := hx'.get hw1 m1
        have n2 := t1 h' (hx1.trans hx')
        have n3 := i2 h' (hx1.trans hx')
        refine acalls_body c_impl_shape_value_1 (by simp) ?_
        unfold a_impl_shape_value_1
        repeat' first
                                                            | (simp -implicitDefEqProofs (disch := omega) only [push_cast, ↓reduceIte, Nat.reduceEqDiff, reduceCtorEq, Nat.reduceAdd, Nat.reduceMul, Nat.reduceSub, Nat.reduceLT, Nat.reduceLeDiff, Int.reduceLT, Int.reduceLE, Int.reduceEq, Int.reduceNe, Int.reduceNeg, Int.reduceAdd, Int.reduceSub, Int.reduceMul, Int.reduceToNat, Nat.reducePow, Int.reducePow, Nat.reduceDiv, Nat.reduceMod, awp_dr, n1, n2, n3, t4, i1, i3]; done)
                                                            | simp -implicitDefEqProofs (disch := omega) only [push_cast, ↓reduceIte, Nat.reduceEqDiff, reduceCtorEq, Nat.reduceAdd, Nat.reduceMul, Nat.reduceSub, Nat.reduceLT, Nat.reduceLeDiff, Int.reduceLT, Int.reduceLE, Int.reduceEq, Int.reduceNe, Int.reduceNeg, Int.reduceAdd, Int.reduceSub, Int.reduceMul, Int.reduceToNat, Nat.reducePow, Int.reducePow, Nat.reduceDiv, Nat.reduceMod, awp_dr, n1, n2, n3, t4, i1, i3]
                                                            | (with_reducible refine cdB_dec (fun hp hq => ?_) (fun hp hq => ?_) <;> first | (clear hq; refine False.elim ?_; omega) | (simp only [hq]; clear hq) | clear hq)
                                                            | (with_reducible refine gB_dec (fun hp hq => ?_) (fun hp hq => ?_) <;> first | (clear hq; refine False.elim ?_; omega) | (simp only [hq]; clear hq) | clear hq)
                                                            | (with_reducible refine gB_ndec (fun hp hq => ?_) (fun hp hq => ?_) <;> first | (clear hq; refine False.elim ?_; omega) | (simp only [hq]; clear hq) | clear hq)
                                                            | (with_reducible refine And.intro ?_ ?_; omega)
        exact hR' _ _ _ hw' (HX.refl _) (hTp.hx hwf (hx1.trans hx'))
      repeat' first
                                                            | (simp -implicitDefEqProofs (disch := omega) only [push_cast, ↓reduceIte, Nat.reduceEqDiff, reduceCtorEq, Nat.reduceAdd, Nat.reduceMul, Nat.reduceSub, Nat.reduceLT, Nat.reduceLeDiff, Int.reduceLT, Int.reduceLE, Int.reduceEq, Int.reduceNe, Int.reduceNeg, Int.reduceAdd, Int.reduceSub, Int.reduceMul, Int.reduceToNat, Nat.reducePow, Int.reducePow, Nat.reduceDiv, Nat.reduceMod, awp_dr, m1, t1', v1', t2, v2, v3, v4, v5, List.length_append]; done)
                                                            | simp -implicitDefEqProofs (disch := omega) only [push_cast, ↓reduceIte, Nat.reduceEqDiff, reduceCtorEq, Nat.reduceAdd, Nat.reduceMul, Nat.reduceSub, Nat.reduceLT, Nat.reduceLeDiff, Int.reduceLT, Int.reduceLE, Int.reduceEq, Int.reduceNe, Int.reduceNeg, Int.reduceAdd, Int.reduceSub, Int.reduceMul, Int.reduceToNat, Nat.reducePow, Int.reducePow, Nat.reduceDiv, Nat.reduceMod, awp_dr, m1, t1', v1', t2, v2, v3, v4, v5, List.length_append]
                                                            | refine texts_ok hw1 hkl1 hlen hTl (by omega) hV1 hof hval (fun h2 hw2 hx2 => ?_)
                                                            | (with_reducible refine cdB_dec (fun hp hq => ?_) (fun hp hq => ?_) <;> first | (clear hq; refine False.elim ?_; omega) | (simp only [hq]; clear hq) | clear hq)
                                                            | (with_reducible refine gB_dec (fun hp hq => ?_) (fun hp hq => ?_) <;> first | (clear hq; refine False.elim ?_; omega) | (simp only [hq]; clear hq) | clear hq)
                                                            | (with_reducible refine gB_ndec (fun hp hq => ?_) (fun hp hq => ?_) <;> first | (clear hq; refine False.elim ?_; omega) | (simp only [hq]; clear hq) | clear hq)
                                                            | (with_reducible refine And.intro ?_ ?_; omega)
      exact hR2 _ _ (by simp [nodeText, h13]) hw2 hx2
    by_cases h14 : t.kind = 14
    · have e1 : kidTs t v.n v.kids.length = t.kids := by simp [kidTs, h14]
      have hof : ∀ (i : Nat) k h' R', (kidTs t v.n v.kids.length)[i]? = some k → HW h' → HX h1 h' → (∀ pb po h'', HW h'' → HX h' h'' → TyAt h'' k (.ptr pb po) → R' (.ptr pb po) h'') → ACalls Tryd.prog 38 [.sc (.int .i64 i), .ptr h.nx 0] h' R' := by
        intro i k h' R' hk hw' hx' hR'
        rw [e1] at hk
        obtain ⟨p0, ⟨n, o, cs, i1, i2, i3⟩, hTp⟩ := t6 i _ hk
        obtain ⟨pb, po, rfl⟩ := hTp.ptr
        have n1 := hx'.get hw1 m1
        have n2 := t1 h' (hx1.trans hx')
        have n3 := i2 h' (hx1.trans hx')
        refine acalls_body c_impl_shape_value_2 (by simp) ?_
        unfold a_impl_shape_value_2
        repeat' first
                                                            | (simp -implicitDefEqProofs (disch := omega) only [push_cast, ↓reduceIte, Nat.reduceEqDiff, reduceCtorEq, Nat.reduceAdd, Nat.reduceMul, Nat.reduceSub, Nat.reduceLT, Nat.reduceLeDiff, Int.reduceLT, Int.reduceLE, Int.reduceEq, Int.reduceNe, Int.reduceNeg, Int.reduceAdd, Int.reduceSub, Int.reduceMul, Int.reduceToNat, Nat.reducePow, Int.reducePow, Nat.reduceDiv, Nat.reduceMod, awp_dr, n1, n2, n3, t4, i1, i3]; done)
                                                            | simp -implicitDefEqProofs (disch := omega) only [push_cast, ↓reduceIte, Nat.reduceEqDiff, reduceCtorEq, Nat.reduceAdd, Nat.reduceMul, Nat.reduceSub, Nat.reduceLT, Nat.reduceLeDiff, Int.reduceLT, Int.reduceLE, Int.reduceEq, Int.reduceNe, Int.reduceNeg, Int.reduceAdd, Int.reduceSub, Int.reduceMul, Int.reduceToNat, Nat.reducePow, Int.reducePow, Nat.reduceDiv, Nat.reduceMod, awp_dr, n1, n2, n3, t4, i1, i3]
                                                            | (with_reducible refine cdB_dec (fun hp hq => ?_) (fun hp hq => ?_) <;> first | (clear hq; refine False.elim ?_; omega) | (simp only [hq]; clear hq) | clear hq)
                                                            | (with_reducible refine gB_dec (fun hp hq => ?_) (fun hp hq => ?_) <;> first | (clear hq; refine False.elim ?_; omega) | (simp only [hq]; clear hq) | clear hq)
                                                            | (with_reducible refine gB_ndec (fun hp hq => ?_) (fun hp hq => ?_) <;> first | (clear hq; refine False.elim ?_; omega) | (simp only [hq]; clear hq) | clear hq)
                                                            | (with_reducible refine And.intro ?_ ?_; omega)
        exact hR' _ _ _ hw' (HX.refl _) (hTp.hx hwf (hx1.trans hx'))
      repeat' first
                                                            | (simp -implicitDefEqProofs (disch := omega) only [push_cast, ↓reduceIte, Nat.reduceEqDiff, reduceCtorEq, Nat.reduceAdd, Nat.reduceMul, Nat.reduceSub, Nat.reduceLT, Nat.reduceLeDiff, Int.reduceLT, Int.reduceLE, Int.reduceEq, Int.reduceNe, Int.reduceNeg, Int.reduceAdd, Int.reduceSub, Int.reduceMul, Int.reduceToNat, Nat.reducePow, Int.reducePow, Nat.reduceDiv, Nat.reduceMod, awp_dr, m1, t1', v1', t2, v2, v3, v4, v5, List.length_append]; done)
                                                            | simp -implicitDefEqProofs (disch := omega) only [push_cast, ↓reduceIte, Nat.reduceEqDiff, reduceCtorEq, Nat.reduceAdd, Nat.reduceMul, Nat.reduceSub, Nat.reduceLT, Nat.reduceLeDiff, Int.reduceLT, Int.reduceLE, Int.reduceEq, Int.reduceNe, Int.reduceNeg, Int.reduceAdd, Int.reduceSub, Int.reduceMul, Int.reduceToNat, Nat.reducePow, Int.reducePow, Nat.reduceDiv, Nat.reduceMod, awp_dr, m1, t1', v1', t2, v2, v3, v4, v5, List.length_append]
                                                            | refine texts_ok hw1 hkl1 hlen hTl (by omega) hV1 hof hval (fun h2 hw2 hx2 => ?_)
                                                            | (with_reducible refine cdB_dec (fun hp hq => ?_) (fun hp hq => ?_) <;> first | (clear hq; refine False.elim ?_; omega) | (simp only [hq]; clear hq) | clear hq)
                                                            | (with_reducible refine gB_dec (fun hp hq => ?_) (fun hp hq => ?_) <;> first | (clear hq; refine False.elim ?_; omega) | (simp only [hq]; clear hq) | clear hq)
                                                            | (with_reducible refine gB_ndec (fun hp hq => ?_) (fun hp hq => ?_) <;> first | (clear hq; refine False.elim ?_; omega) | (simp only [hq]; clear hq) | clear hq)
                                                            | (with_reducible refine And.intro ?_ ?_; omega)
      exact hR2 _ _ (by simp [nodeText, h14]) hw2 hx2
    have hch : t.kind = 15 ∨ t.kind = 17 ∨ t.kind = 18 := by omega
    by_cases h170 : t.kind = 17 ∧ v.n = 0
    · obtain ⟨h17, hn0⟩ := h170
      repeat' first
                                                            | (simp -implicitDefEqProofs (disch := omega) only [push_cast, ↓reduceIte, Nat.reduceEqDiff, reduceCtorEq, Nat.reduceAdd, Nat.reduceMul, Nat.reduceSub, Nat.reduceLT, Nat.reduceLeDiff, Int.reduceLT, Int.reduceLE, Int.reduceEq, Int.reduceNe, Int.reduceNeg, Int.reduceAdd, Int.reduceSub, Int.reduceMul, Int.reduceToNat, Nat.reducePow, Int.reducePow, Nat.reduceDiv, Nat.reduceMod, awp_dr, m1, t1', v1', t2, v2, v3, v4, v5]; done)
                                                            | simp -implicitDefEqProofs (disch := omega) only [push_cast, ↓reduceIte, Nat.reduceEqDiff, reduceCtorEq, Nat.reduceAdd, Nat.reduceMul, Nat.reduceSub, Nat.reduceLT, Nat.reduceLeDiff, Int.reduceLT, Int.reduceLE, Int.reduceEq, Int.reduceNe, Int.reduceNeg, Int.reduceAdd, Int.reduceSub, Int.reduceMul, Int.reduceToNat, Nat.reducePow, Int.reducePow, Nat.reduceDiv, Nat.reduceMod, awp_dr, m1, t1', v1', t2, v2, v3, v4, v5]
                                                            | (with_reducible refine cdB_dec (fun hp hq => ?_) (fun hp hq => ?_) <;> first | (clear hq; refine False.elim ?_; omega) | (simp only [hq]; clear hq) | clear hq)
                                                            | (with_reducible refine gB_dec (fun hp hq => ?_) (fun hp hq => ?_) <;> first | (clear hq; refine False.elim ?_; omega) | (simp only [hq]; clear hq) | clear hq)
                                                            | (with_reducible refine gB_ndec (fun hp hq => ?_) (fun hp hq => ?_) <;> first | (clear hq; refine False.elim ?_; omega) | (simp only [hq]; clear hq) | clear hq)
                                                            | (with_reducible refine And.intro ?_ ?_; omega)
      exact hR1 _ (by simp [nodeText, h17, hn0])
    · have hk18 : t.kind = 18 → t.kids.length = 2 := fun e => by rw [e] at hlen8; simp [shapeK] at hlen8; omega
      have hk17 : t.kind = 17 → t.kids.length = 1 := fun e => by rw [e] at hlen8; simp [shapeK] at hlen8; omega
      have hb15 : t.kind = 15 → 0 ≤ v.n ∧ v.n < (t.kids.length : Int) := fun e => by simp [boundsT, e] at hB; omega
      have hb17 : t.kind = 17 → v.n = 1 := fun e => by
        have : v.n ≠ 0 := fun e0 => h170 ⟨e, e0⟩
        simp [boundsT, e] at hB; omega
      have hb18 : t.kind = 18 → 0 ≤ v.n ∧ v.n < (t.kids.length : Int) := fun e => by rw [hk18 e]; simp [boundsT, e] at hB; omega
      obtain ⟨j, hj⟩ : ∃ j : Nat, j = if t.kind = 17 then 0 else v.n.toNat := ⟨_, rfl⟩
      have hjl : j < t.kids.length := by rw [hj]; split <;> omega
      have hkj : t.kids[j]? = some t.kids[j] := List.getElem?_eq_getElem hjl
      have e1 : kidTs t v.n v.kids.length = [t.kids[j]] := by
        refine (chosen_one (n := v.n) (L := v.kids.length) hk18 hch ?_).2
        by_cases h17 : t.kind = 17
        · rw [if_pos h17] at hj; subst hj; exact .inl ⟨h17, hb17 h17, hkj⟩
        · rw [if_neg h17] at hj; subst hj; exact .inr ⟨h17, by omega, by omega, hkj⟩
      have hl1 : v.kids.length = 1 := by rw [← hlen, e1]; rfl
      have hz0 : v.kids[0]? = some v.kids[0] := List.getElem?_eq_getElem (by omega)
      obtain ⟨x, hx⟩ : ∃ x, T = [x] := by
        match T, hTl with
        | [x], _ => exact ⟨x, rfl⟩
        | [], h => simp at h; omega
        | _ :: _ :: _, h => simp at h; omega
      have hjx : Lib.join T [44] = x := by rw [hx]; simp [Lib.join]
      rw [hjx] at hR1 hR2 hpT
      obtain ⟨pk, ⟨na, oa, ca, i1, i2, i3⟩, hTk⟩ := t6 j _ hkj
      obtain ⟨pz, ⟨nz, oz, cz, j1, j2, j3⟩, hVz⟩ := v6 0 _ hz0
      replace j1 : ∀ k m, ixT 1 m (.v pv) (.v (.sc (.int k 0))) = some (.v (.ptr nz oz)) := j1
      have i2' := i2 h1 hx1
      have j2' := j2 h1 hx1
      obtain ⟨kb, ko, rfl⟩ := hTk.ptr
      obtain ⟨zb, zo, rfl⟩ := hVz.ptr
      have hvl : ∀ R', (∀ h'', HW h'' → HX h1 h'' → R' (.sc (.string (bs x))) h'') → ACalls Tryd.prog 20 [.ptr kb ko, .ptr zb zo] h1 R' := fun R' hR' =>
        hval 0 _ _ x _ _ h1 R' (by rw [e1]; rfl) hz0 (by rw [hx]; rfl) hw1 (HX.refl _) (hTk.hx hwf hx1) (hVz.hx hwf hx1) hR'
      by_cases h17 : t.kind = 17
      · rw [if_pos h17] at hj
        subst hj
        replace i1 : ∀ k m, ixT 1 m (.v pt) (.v (.sc (.int k 0))) = some (.v (.ptr na oa)) := i1
        have hn1 := hb17 h17
        repeat' first
                                                            | (simp -implicitDefEqProofs (disch := omega) only [push_cast, ↓reduceIte, Nat.reduceEqDiff, reduceCtorEq, Nat.reduceAdd, Nat.reduceMul, Nat.reduceSub, Nat.reduceLT, Nat.reduceLeDiff, Int.reduceLT, Int.reduceLE, Int.reduceEq, Int.reduceNe, Int.reduceNeg, Int.reduceAdd, Int.reduceSub, Int.reduceMul, Int.reduceToNat, Nat.reducePow, Int.reducePow, Nat.reduceDiv, Nat.reduceMod, awp_dr, m1, t1', v1', t2, t4, v2, v3, v4, v5, i1, i2', i3, j1, j2', j3, List.length_append]; done)
                                                            | simp -implicitDefEqProofs (disch := omega) only [push_cast, ↓reduceIte, Nat.reduceEqDiff, reduceCtorEq, Nat.reduceAdd, Nat.reduceMul, Nat.reduceSub, Nat.reduceLT, Nat.reduceLeDiff, Int.reduceLT, Int.reduceLE, Int.reduceEq, Int.reduceNe, Int.reduceNeg, Int.reduceAdd, Int.reduceSub, Int.reduceMul, Int.reduceToNat, Nat.reducePow, Int.reducePow, Nat.reduceDiv, Nat.reduceMod, awp_dr, m1, t1', v1', t2, t4, v2, v3, v4, v5, i1, i2', i3, j1, j2', j3, List.length_append]
                                                            | refine hvl _ (fun h2 hw2 hx2 => ?_)
                                                            | (with_reducible refine cdB_dec (fun hp hq => ?_) (fun hp hq => ?_) <;> first | (clear hq; refine False.elim ?_; omega) | (simp only [hq]; clear hq) | clear hq)
                                                            | (with_reducible refine gB_dec (fun hp hq => ?_) (fun hp hq => ?_) <;> first | (clear hq; refine False.elim ?_; omega) | (simp only [hq]; clear hq) | clear hq)
                                                            | (with_reducible refine gB_ndec (fun hp hq => ?_) (fun hp hq => ?_) <;> first | (clear hq; refine False.elim ?_; omega) | (simp only [hq]; clear hq) | clear hq)
                                                            | (with_reducible refine And.intro ?_ ?_; omega)
        exact hR2 _ _ (by simp [nodeText, h17, hn1]) hw2 hx2
      · rw [if_neg h17] at hj
        have hn0 : 0 ≤ v.n := by omega
        rw [hj, show ((v.n.toNat : Nat) : Int) = v.n by omega] at i1
        by_cases h15 : t.kind = 15
        · repeat' first
                                                            | (simp -implicitDefEqProofs (disch := omega) only [push_cast, ↓reduceIte, Nat.reduceEqDiff, reduceCtorEq, Nat.reduceAdd, Nat.reduceMul, Nat.reduceSub, Nat.reduceLT, Nat.reduceLeDiff, Int.reduceLT, Int.reduceLE, Int.reduceEq, Int.reduceNe, Int.reduceNeg, Int.reduceAdd, Int.reduceSub, Int.reduceMul, Int.reduceToNat, Nat.reducePow, Int.reducePow, Nat.reduceDiv, Nat.reduceMod, awp_dr, m1, t1', v1', t2, t4, v2, v3, v4, v5, i1, i2', i3, j1, j2', j3, List.length_append]; done)
                                                            | simp -implicitDefEqProofs (disch := omega) only [push_cast, ↓reduceIte, Nat.reduceEqDiff, reduceCtorEq, Nat.reduceAdd, Nat.reduceMul, Nat.reduceSub, Nat.reduceLT, Nat.reduceLeDiff, Int.reduceLT, Int.reduceLE, Int.reduceEq, Int.reduceNe, Int.reduceNeg, Int.reduceAdd, Int.reduceSub, Int.reduceMul, Int.reduceToNat, Nat.reducePow, Int.reducePow, Nat.reduceDiv, Nat.reduceMod, awp_dr, m1, t1', v1', t2, t4, v2, v3, v4, v5, i1, i2', i3, j1, j2', j3, List.length_append]
                                                            | refine itoa_ok hi64 ?_
                                                            | refine hvl _ (fun h2 hw2 hx2 => ?_)
                                                            | (with_reducible refine cdB_dec (fun hp hq => ?_) (fun hp hq => ?_) <;> first | (clear hq; refine False.elim ?_; omega) | (simp only [hq]; clear hq) | clear hq)
                                                            | (with_reducible refine gB_dec (fun hp hq => ?_) (fun hp hq => ?_) <;> first | (clear hq; refine False.elim ?_; omega) | (simp only [hq]; clear hq) | clear hq)
                                                            | (with_reducible refine gB_ndec (fun hp hq => ?_) (fun hp hq => ?_) <;> first | (clear hq; refine False.elim ?_; omega) | (simp only [hq]; clear hq) | clear hq)
                                                            | (with_reducible refine And.intro ?_ ?_; omega)
          exact hR2 _ _ (by simp [nodeText, h15]) hw2 hx2
        · have h18 : t.kind = 18 := by omega
          have h18b := hb18 h18
          rw [hk18 h18] at h18b
          rcases (show v.n = 0 ∨ v.n = 1 by omega) with h0 | h0
          · have hix : ∀ m, ixT 1 m (.v (.vec [[.sc (.string (bs [111, 107, 58]))], [.sc (.string (bs [101, 114, 114, 58]))]])) (.v (.sc (.int .i64 v.n))) = some (.vp [.sc (.string (bs [111, 107, 58]))]) := fun m => by
              rw [h0]; exact vec_get (i := 0) (by simp) rfl
            repeat' first
                                                            | (simp -implicitDefEqProofs (disch := omega) only [push_cast, ↓reduceIte, Nat.reduceEqDiff, reduceCtorEq, Nat.reduceAdd, Nat.reduceMul, Nat.reduceSub, Nat.reduceLT, Nat.reduceLeDiff, Int.reduceLT, Int.reduceLE, Int.reduceEq, Int.reduceNe, Int.reduceNeg, Int.reduceAdd, Int.reduceSub, Int.reduceMul, Int.reduceToNat, Nat.reducePow, Int.reducePow, Nat.reduceDiv, Nat.reduceMod, awp_dr, m1, t1', v1', t2, t4, v2, v3, v4, v5, hix, i1, i2', i3, j1, j2', j3, List.length_append]; done)
                                                            | simp -implicitDefEqProofs (disch := omega) only [push_cast, ↓reduceIte, Nat.reduceEqDiff, reduceCtorEq, Nat.reduceAdd, Nat.reduceMul, Nat.reduceSub, Nat.reduceLT, Nat.reduceLeDiff, Int.reduceLT, Int.reduceLE, Int.reduceEq, Int.reduceNe, Int.reduceNeg, Int.reduceAdd, Int.reduceSub, Int.reduceMul, Int.reduceToNat, Nat.reducePow, Int.reducePow, Nat.reduceDiv, Nat.reduceMod, awp_dr, m1, t1', v1', t2, t4, v2, v3, v4, v5, hix, i1, i2', i3, j1, j2', j3, List.length_append]
                                                            | refine hvl _ (fun h2 hw2 hx2 => ?_)
                                                            | (with_reducible refine cdB_dec (fun hp hq => ?_) (fun hp hq => ?_) <;> first | (clear hq; refine False.elim ?_; omega) | (simp only [hq]; clear hq) | clear hq)
                                                            | (with_reducible refine gB_dec (fun hp hq => ?_) (fun hp hq => ?_) <;> first | (clear hq; refine False.elim ?_; omega) | (simp only [hq]; clear hq) | clear hq)
                                                            | (with_reducible refine gB_ndec (fun hp hq => ?_) (fun hp hq => ?_) <;> first | (clear hq; refine False.elim ?_; omega) | (simp only [hq]; clear hq) | clear hq)
                                                            | (with_reducible refine And.intro ?_ ?_; omega)
            refine ⟨by simp [v1 h2 (hx1.trans hx2), v2], by omega, hR2 _ _ ?_ hw2 hx2⟩
            simp [nodeText, h18, h0]
          · have hix : ∀ m, ixT 1 m (.v (.vec [[.sc (.string (bs [111, 107, 58]))], [.sc (.string (bs [101, 114, 114, 58]))]])) (.v (.sc (.int .i64 v.n))) = some (.vp [.sc (.string (bs [101, 114, 114, 58]))]) := fun m => by
              rw [h0]; exact vec_get (i := 1) (by simp) rfl
            repeat' first
                                                            | (simp -implicitDefEqProofs (disch := omega) only [push_cast, ↓reduceIte, Nat.reduceEqDiff, reduceCtorEq, Nat.reduceAdd, Nat.reduceMul, Nat.reduceSub, Nat.reduceLT, Nat.reduceLeDiff, Int.reduceLT, Int.reduceLE, Int.reduceEq, Int.reduceNe, Int.reduceNeg, Int.reduceAdd, Int.reduceSub, Int.reduceMul, Int.reduceToNat, Nat.reducePow, Int.reducePow, Nat.reduceDiv, Nat.reduceMod, awp_dr, m1, t1', v1', t2, t4, v2, v3, v4, v5, hix, i1, i2', i3, j1, j2', j3, List.length_append]; done)
                                                            | simp -implicitDefEqProofs (disch := omega) only [push_cast, ↓reduceIte, Nat.reduceEqDiff, reduceCtorEq, Nat.reduceAdd, Nat.reduceMul, Nat.reduceSub, Nat.reduceLT, Nat.reduceLeDiff, Int.reduceLT, Int.reduceLE, Int.reduceEq, Int.reduceNe, Int.reduceNeg, Int.reduceAdd, Int.reduceSub, Int.reduceMul, Int.reduceToNat, Nat.reducePow, Int.reducePow, Nat.reduceDiv, Nat.reduceMod, awp_dr, m1, t1', v1', t2, t4, v2, v3, v4, v5, hix, i1, i2', i3, j1, j2', j3, List.length_append]
                                                            | refine hvl _ (fun h2 hw2 hx2 => ?_)
                                                            | (with_reducible refine cdB_dec (fun hp hq => ?_) (fun hp hq => ?_) <;> first | (clear hq; refine False.elim ?_; omega) | (simp only [hq]; clear hq) | clear hq)
                                                            | (with_reducible refine gB_dec (fun hp hq => ?_) (fun hp hq => ?_) <;> first | (clear hq; refine False.elim ?_; omega) | (simp only [hq]; clear hq) | clear hq)
                                                            | (with_reducible refine gB_ndec (fun hp hq => ?_) (fun hp hq => ?_) <;> first | (clear hq; refine False.elim ?_; omega) | (simp only [hq]; clear hq) | clear hq)
                                                            | (with_reducible refine And.intro ?_ ?_; omega)
            refine ⟨by simp [v1 h2 (hx1.trans hx2), v2], by omega, hR2 _ _ ?_ hw2 hx2⟩
            simp [nodeText, h18, h0]
theorem ValueTextI_ok {lt : List TN} {lv : List VN} {h : Heap} {R : AV → Heap → Prop} (h2 : lv.length ≤ 1048576) (h3 : ∀ x ∈ lv, x.text.length ≤ 1048576 ∧ i64Ok x.n)
    (hR : ∀ h', HW h' → HX h h' → R (.tup [.sc (.string (bs ((vText lt lv).getD []))), .sc (.bool (vText lt lv).isSome)]) h') : ACalls Tryd.prog 9 [.vec (lt.map tnC), .vec (lv.map vnC)] h R := by
  refine acalls_hw (by kernel_rfl) fun hw => ?_
  refine acalls_body c_impl_ValueText (by simp) ?_
  unfold a_impl_ValueText
  repeat' first
                                                            | (simp -implicitDefEqProofs (disch := omega) only [push_cast, ↓reduceIte, Nat.reduceEqDiff, reduceCtorEq, Nat.reduceAdd, Nat.reduceMul, Nat.reduceSub, Nat.reduceLT, Nat.reduceLeDiff, Int.reduceLT, Int.reduceLE, Int.reduceEq, Int.reduceNe, Int.reduceNeg, Int.reduceAdd, Int.reduceSub, Int.reduceMul, Int.reduceToNat, Nat.reducePow, Int.reducePow, Nat.reduceDiv, Nat.reduceMod, awp_dr, Bool.not_true, Bool.not_false]; done)
                                                            | simp -implicitDefEqProofs (disch := omega) only [push_cast, ↓reduceIte, Nat.reduceEqDiff, reduceCtorEq, Nat.reduceAdd, Nat.reduceMul, Nat.reduceSub, Nat.reduceLT, Nat.reduceLeDiff, Int.reduceLT, Int.reduceLE, Int.reduceEq, Int.reduceNe, Int.reduceNeg, Int.reduceAdd, Int.reduceSub, Int.reduceMul, Int.reduceToNat, Nat.reducePow, Int.reducePow, Nat.reduceDiv, Nat.reduceMod, awp_dr, Bool.not_true, Bool.not_false]
                                                            | refine typed_ok h2 h3 (fun h4 a b hw4 hx4 hg hgv hfit hT hV => ?_) (fun h4 hw4 hx4 hno => ?_)
                                                            | refine value_ok (goodT_ok hg (Nat.le_refl _)) (vtree_b h2 h3 _ _ _) hfit (by have := goodV_wt hgv (Nat.le_refl _); have := goodV_len hgv; omega) hT hV (fun h5 hw5 hx5 => ?_)
                                                            | (with_reducible refine cdB_dec (fun hp hq => ?_) (fun hp hq => ?_) <;> first | (clear hq; refine False.elim ?_; omega) | (simp only [hq]; clear hq) | clear hq)
                                                            | (with_reducible refine gB_dec (fun hp hq => ?_) (fun hp hq => ?_) <;> first | (clear hq; refine False.elim ?_; omega) | (simp only [hq]; clear hq) | clear hq)
                                                            | (with_reducible refine gB_ndec (fun hp hq => ?_) (fun hp hq => ?_) <;> first | (clear hq; refine False.elim ?_; omega) | (simp only [hq]; clear hq) | clear hq)
                                                            | (with_reducible refine And.intro ?_ ?_; omega)
  · have e : vText lt lv = some (textF 8 (treeF lt.length lt 0) (vtreeF lv.length lv 0)) := by simp [vText, hg, hgv, hfit]
    have := hR h5 hw5 (hx4.trans hx5)
    rw [e] at this; exact this
  · have e : vText lt lv = none := by rw [vText, if_neg (by rw [hno]; decide)]
    have := hR h4 hw4 hx4
    rw [e] at this; exact this
end Go.Proofs.YtgkiaoodalnceaaDoor
