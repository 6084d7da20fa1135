import Derived.Test.YtgkiaoodalnceaaDoorClVc
import Derived.Test.YtgkiaoodalnceaaDoorClVmD
/- Numbers as texts: the reference. -/
namespace Go.Proofs.YtgkiaoodalnceaaDoor
open Go SL VM
set_option maxRecDepth 100000
set_option linter.unusedVariables false
set_option linter.unusedSimpArgs false
attribute [local irreducible] SL.awp

theorem b2s_one {m : Mem} {n : Int} : b2sT m (.v (.vec [[.sc (.int .u8 n)]])) = some (.sc (.string (bs [UInt8.ofNat n.toNat]))) := rfl

theorem l1Num_nat : ∀ {u : Nat} {h : Heap} {R : AV → Heap → Prop}, (u : Int) ≤ 9223372036854775807 → R (.sc (.string (bs (Lib.decDigits u)))) h → ACalls Tryd.prog 29 [.sc (.int .i64 u)] h R := by
  intro u
  induction u using Nat.strongRecOn with
  | _ u ih =>
    intro h R hu hR
    refine acalls_body c_spec_l1Num (by simp) ?_
    unfold a_spec_l1Num
    by_cases h10 : u < 10
    · repeat' first
                                                            | (simp -implicitDefEqProofs (disch := omega) only [push_cast, ↓reduceIte, Nat.reduceEqDiff, reduceCtorEq, Nat.reduceAdd, Nat.reduceMul, Nat.reduceSub, Nat.reduceLT, Nat.reduceLeDiff, Int.reduceLT, Int.reduceLE, Int.reduceEq, Int.reduceNe, Int.reduceNeg, Int.reduceAdd, Int.reduceSub, Int.reduceMul, Int.reduceToNat, Nat.reducePow, Int.reducePow, Nat.reduceDiv, Nat.reduceMod, awp_dr, awp_bk, b2s_one]; done)
                                                            | simp -implicitDefEqProofs (disch := omega) only [push_cast, ↓reduceIte, Nat.reduceEqDiff, reduceCtorEq, Nat.reduceAdd, Nat.reduceMul, Nat.reduceSub, Nat.reduceLT, Nat.reduceLeDiff, Int.reduceLT, Int.reduceLE, Int.reduceEq, Int.reduceNe, Int.reduceNeg, Int.reduceAdd, Int.reduceSub, Int.reduceMul, Int.reduceToNat, Nat.reducePow, Int.reducePow, Nat.reduceDiv, Nat.reduceMod, awp_dr, awp_bk, b2s_one]
                                                            | (with_reducible refine cdB_dec (fun hp hq => ?_) (fun hp hq => ?_) <;> first | (clear hq; refine False.elim ?_; omega) | (simp only [hq]; clear hq) | clear hq)
                                                            | (with_reducible refine gB_dec (fun hp hq => ?_) (fun hp hq => ?_) <;> first | (clear hq; refine False.elim ?_; omega) | (simp only [hq]; clear hq) | clear hq)
                                                            | (with_reducible refine gB_ndec (fun hp hq => ?_) (fun hp hq => ?_) <;> first | (clear hq; refine False.elim ?_; omega) | (simp only [hq]; clear hq) | clear hq)
      rw [Lib.decDigits_one h10] at hR
      rw [show ((48 : Int) + (u : Int)).toNat = 48 + u by omega]
      exact hR
    · have e1 : IntKind.i64.wrap ((u : Int).tdiv 10) = ((u / 10 : Nat) : Int) := by
        rw [Int.tdiv_eq_ediv_of_nonneg (by omega), IntWalk.i64_in _ (by omega)]; omega
      have e2 : (u : Int).tmod 10 = ((u % 10 : Nat) : Int) := by
        rw [Int.tmod_eq_emod_of_nonneg (by omega)]; omega
      have hlen : (Lib.decDigits (u / 10)).length ≤ 21 := by
        have := Lib.itoa_length_le ((u / 10 : Nat) : Int) (by omega) (by omega)
        rwa [Lib.itoa_nonneg] at this
      repeat' first
                                                            | (simp -implicitDefEqProofs (disch := omega) only [push_cast, ↓reduceIte, Nat.reduceEqDiff, reduceCtorEq, Nat.reduceAdd, Nat.reduceMul, Nat.reduceSub, Nat.reduceLT, Nat.reduceLeDiff, Int.reduceLT, Int.reduceLE, Int.reduceEq, Int.reduceNe, Int.reduceNeg, Int.reduceAdd, Int.reduceSub, Int.reduceMul, Int.reduceToNat, Nat.reducePow, Int.reducePow, Nat.reduceDiv, Nat.reduceMod, awp_dr, awp_bk, b2s_one, e1, e2, bs_size, bs_append]; done)
                                                            | simp -implicitDefEqProofs (disch := omega) only [push_cast, ↓reduceIte, Nat.reduceEqDiff, reduceCtorEq, Nat.reduceAdd, Nat.reduceMul, Nat.reduceSub, Nat.reduceLT, Nat.reduceLeDiff, Int.reduceLT, Int.reduceLE, Int.reduceEq, Int.reduceNe, Int.reduceNeg, Int.reduceAdd, Int.reduceSub, Int.reduceMul, Int.reduceToNat, Nat.reducePow, Int.reducePow, Nat.reduceDiv, Nat.reduceMod, awp_dr, awp_bk, b2s_one, e1, e2, bs_size, bs_append]
                                                            | refine ih (u / 10) (by omega) (by omega) ?_
                                                            | (with_reducible refine cdB_dec (fun hp hq => ?_) (fun hp hq => ?_) <;> first | (clear hq; refine False.elim ?_; omega) | (simp only [hq]; clear hq) | clear hq)
                                                            | (with_reducible refine gB_dec (fun hp hq => ?_) (fun hp hq => ?_) <;> first | (clear hq; refine False.elim ?_; omega) | (simp only [hq]; clear hq) | clear hq)
                                                            | (with_reducible refine gB_ndec (fun hp hq => ?_) (fun hp hq => ?_) <;> first | (clear hq; refine False.elim ?_; omega) | (simp only [hq]; clear hq) | clear hq)
      refine ⟨by omega, ?_⟩
      rw [Lib.decDigits, dif_neg h10] at hR
      rw [show (48 + (u : Int) % 10).toNat = 48 + u % 10 by omega]
      exact hR

theorem l1Num_ok {n : Int} {h : Heap} {R : AV → Heap → Prop} (h0 : -9223372036854775808 ≤ n) (h1 : n ≤ 9223372036854775807) (hR : R (.sc (.string (bs (Lib.itoa n)))) h) : ACalls Tryd.prog 29 [.sc (.int .i64 n)] h R := by
  by_cases hn : n < 0
  · obtain ⟨u, rfl⟩ : ∃ u : Nat, n = -(u : Int) := ⟨n.natAbs, by omega⟩
    rw [Lib.itoa_neg u (by omega)] at hR
    refine acalls_body c_spec_l1Num (by simp) ?_
    unfold a_spec_l1Num
    by_cases hm : u = 9223372036854775808
    · subst hm
      have e : Lib.decDigits 9223372036854775808 = [57, 50, 50, 51, 51, 55, 50, 48, 51, 54, 56, 53, 52, 55, 55, 53, 56, 48, 56] := by
        decide +kernel
      rw [e] at hR
      rw [show (-((9223372036854775808 : Nat) : Int)) = (-9223372036854775808 : Int) from rfl]
      repeat' first
                                                            | (simp -implicitDefEqProofs (disch := omega) only [push_cast, ↓reduceIte, Nat.reduceEqDiff, reduceCtorEq, Nat.reduceAdd, Nat.reduceMul, Nat.reduceSub, Nat.reduceLT, Nat.reduceLeDiff, Int.reduceLT, Int.reduceLE, Int.reduceEq, Int.reduceNe, Int.reduceNeg, Int.reduceAdd, Int.reduceSub, Int.reduceMul, Int.reduceToNat, Nat.reducePow, Int.reducePow, Nat.reduceDiv, Nat.reduceMod, awp_dr, awp_bk]; done)
                                                            | simp -implicitDefEqProofs (disch := omega) only [push_cast, ↓reduceIte, Nat.reduceEqDiff, reduceCtorEq, Nat.reduceAdd, Nat.reduceMul, Nat.reduceSub, Nat.reduceLT, Nat.reduceLeDiff, Int.reduceLT, Int.reduceLE, Int.reduceEq, Int.reduceNe, Int.reduceNeg, Int.reduceAdd, Int.reduceSub, Int.reduceMul, Int.reduceToNat, Nat.reducePow, Int.reducePow, Nat.reduceDiv, Nat.reduceMod, awp_dr, awp_bk]
                                                            | (with_reducible refine cdB_dec (fun hp hq => ?_) (fun hp hq => ?_) <;> first | (clear hq; refine False.elim ?_; omega) | (simp only [hq]; clear hq) | clear hq)
                                                            | (with_reducible refine gB_dec (fun hp hq => ?_) (fun hp hq => ?_) <;> first | (clear hq; refine False.elim ?_; omega) | (simp only [hq]; clear hq) | clear hq)
                                                            | (with_reducible refine gB_ndec (fun hp hq => ?_) (fun hp hq => ?_) <;> first | (clear hq; refine False.elim ?_; omega) | (simp only [hq]; clear hq) | clear hq)
      all_goals exact hR
    · have hlen : (Lib.decDigits u).length ≤ 21 := by
        have := Lib.itoa_length_le ((u : Nat) : Int) (by omega) (by omega)
        rwa [Lib.itoa_nonneg] at this
      have ew : IntKind.i64.wrap (0 - -(u : Int)) = (u : Int) := by rw [IntWalk.i64_in _ (by omega)]; omega
      repeat' first
                                                            | (simp -implicitDefEqProofs (disch := omega) only [push_cast, ↓reduceIte, Nat.reduceEqDiff, reduceCtorEq, Nat.reduceAdd, Nat.reduceMul, Nat.reduceSub, Nat.reduceLT, Nat.reduceLeDiff, Int.reduceLT, Int.reduceLE, Int.reduceEq, Int.reduceNe, Int.reduceNeg, Int.reduceAdd, Int.reduceSub, Int.reduceMul, Int.reduceToNat, Nat.reducePow, Int.reducePow, Nat.reduceDiv, Nat.reduceMod, awp_dr, awp_bk, ew, bs_size, bs_append, List.size_toArray]; done)
                                                            | simp -implicitDefEqProofs (disch := omega) only [push_cast, ↓reduceIte, Nat.reduceEqDiff, reduceCtorEq, Nat.reduceAdd, Nat.reduceMul, Nat.reduceSub, Nat.reduceLT, Nat.reduceLeDiff, Int.reduceLT, Int.reduceLE, Int.reduceEq, Int.reduceNe, Int.reduceNeg, Int.reduceAdd, Int.reduceSub, Int.reduceMul, Int.reduceToNat, Nat.reducePow, Int.reducePow, Nat.reduceDiv, Nat.reduceMod, awp_dr, awp_bk, ew, bs_size, bs_append, List.size_toArray]
                                                            | refine l1Num_nat (by omega) ?_
                                                            | (with_reducible refine cdB_dec (fun hp hq => ?_) (fun hp hq => ?_) <;> first | (clear hq; refine False.elim ?_; omega) | (simp only [hq]; clear hq) | clear hq)
                                                            | (with_reducible refine gB_dec (fun hp hq => ?_) (fun hp hq => ?_) <;> first | (clear hq; refine False.elim ?_; omega) | (simp only [hq]; clear hq) | clear hq)
                                                            | (with_reducible refine gB_ndec (fun hp hq => ?_) (fun hp hq => ?_) <;> first | (clear hq; refine False.elim ?_; omega) | (simp only [hq]; clear hq) | clear hq)
      exact ⟨by omega, hR⟩
  · obtain ⟨u, rfl⟩ : ∃ u : Nat, n = (u : Int) := ⟨n.toNat, by omega⟩
    rw [Lib.itoa_nonneg] at hR
    exact l1Num_nat h1 hR

theorem l12Unsigned_ok {n : Int} {h : Heap} {R : AV → Heap → Prop} (h0 : -9223372036854775808 ≤ n) (h1 : n ≤ 9223372036854775807) (hR : R (.sc (.string (bs (uText n)))) h) : ACalls Tryd.prog 27 [.sc (.int .i64 n)] h R := by
  refine acalls_body c_spec_l12Unsigned (by simp) ?_
  unfold a_spec_l12Unsigned
  by_cases hn : 0 ≤ n
  · obtain ⟨u, rfl⟩ : ∃ u : Nat, n = (u : Int) := ⟨n.toNat, by omega⟩
    have e : uText (u : Int) = Lib.decDigits u := by
      unfold uText
      rw [show (((u : Int) % 18446744073709551616).toNat) = u by omega]
    rw [e] at hR
    repeat' first
                                                            | (simp -implicitDefEqProofs (disch := omega) only [push_cast, ↓reduceIte, Nat.reduceEqDiff, reduceCtorEq, Nat.reduceAdd, Nat.reduceMul, Nat.reduceSub, Nat.reduceLT, Nat.reduceLeDiff, Int.reduceLT, Int.reduceLE, Int.reduceEq, Int.reduceNe, Int.reduceNeg, Int.reduceAdd, Int.reduceSub, Int.reduceMul, Int.reduceToNat, Nat.reducePow, Int.reducePow, Nat.reduceDiv, Nat.reduceMod, awp_dr, awp_bk]; done)
                                                            | simp -implicitDefEqProofs (disch := omega) only [push_cast, ↓reduceIte, Nat.reduceEqDiff, reduceCtorEq, Nat.reduceAdd, Nat.reduceMul, Nat.reduceSub, Nat.reduceLT, Nat.reduceLeDiff, Int.reduceLT, Int.reduceLE, Int.reduceEq, Int.reduceNe, Int.reduceNeg, Int.reduceAdd, Int.reduceSub, Int.reduceMul, Int.reduceToNat, Nat.reducePow, Int.reducePow, Nat.reduceDiv, Nat.reduceMod, awp_dr, awp_bk]
                                                            | refine l1Num_nat h1 ?_
                                                            | (with_reducible refine cdB_dec (fun hp hq => ?_) (fun hp hq => ?_) <;> first | (clear hq; refine False.elim ?_; omega) | (simp only [hq]; clear hq) | clear hq)
                                                            | (with_reducible refine gB_dec (fun hp hq => ?_) (fun hp hq => ?_) <;> first | (clear hq; refine False.elim ?_; omega) | (simp only [hq]; clear hq) | clear hq)
                                                            | (with_reducible refine gB_ndec (fun hp hq => ?_) (fun hp hq => ?_) <;> first | (clear hq; refine False.elim ?_; omega) | (simp only [hq]; clear hq) | clear hq)
    exact hR
  · obtain ⟨v, hv⟩ : ∃ v : Nat, (v : Int) = n % 18446744073709551616 := ⟨(n % 18446744073709551616).toNat, by omega⟩
    have e : uText n = Lib.decDigits v := by
      unfold uText
      rw [← hv]; simp
    have h10 : ¬ v < 10 := by omega
    rw [e, Lib.decDigits, dif_neg h10] at hR
    have ew : IntKind.u64.wrap n = (v : Int) := by
      rw [hv]; simp [IntKind.wrap, IntKind.bits, IntKind.signed]
    have e1 : IntKind.u64.wrap ((v : Int).tdiv 10) = ((v / 10 : Nat) : Int) := by
      rw [Int.tdiv_eq_ediv_of_nonneg (by omega), IntWalk.u64_in _ (by omega)]; omega
    have e2 : (v : Int).tmod 10 = ((v % 10 : Nat) : Int) := by
      rw [Int.tmod_eq_emod_of_nonneg (by omega)]; omega
    have e3 : IntKind.i64.wrap ((v / 10 : Nat) : Int) = ((v / 10 : Nat) : Int) := IntWalk.i64_in _ (by omega)
    have e4 : IntKind.i64.wrap ((v % 10 : Nat) : Int) = ((v % 10 : Nat) : Int) := IntWalk.i64_in _ (by omega)
    have hlen : (Lib.decDigits (v / 10)).length ≤ 21 := by
      have := Lib.itoa_length_le ((v / 10 : Nat) : Int) (by omega) (by omega)
      rwa [Lib.itoa_nonneg] at this
    have hd : Lib.decDigits (v % 10) = [UInt8.ofNat (48 + v % 10)] := Lib.decDigits_one (by omega)
    repeat' first
                                                            | (simp -implicitDefEqProofs (disch := omega) only [push_cast, ↓reduceIte, Nat.reduceEqDiff, reduceCtorEq, Nat.reduceAdd, Nat.reduceMul, Nat.reduceSub, Nat.reduceLT, Nat.reduceLeDiff, Int.reduceLT, Int.reduceLE, Int.reduceEq, Int.reduceNe, Int.reduceNeg, Int.reduceAdd, Int.reduceSub, Int.reduceMul, Int.reduceToNat, Nat.reducePow, Int.reducePow, Nat.reduceDiv, Nat.reduceMod, awp_dr, awp_bk, ew, e1, e2, e3, e4, bs_size, bs_append]; done)
                                                            | simp -implicitDefEqProofs (disch := omega) only [push_cast, ↓reduceIte, Nat.reduceEqDiff, reduceCtorEq, Nat.reduceAdd, Nat.reduceMul, Nat.reduceSub, Nat.reduceLT, Nat.reduceLeDiff, Int.reduceLT, Int.reduceLE, Int.reduceEq, Int.reduceNe, Int.reduceNeg, Int.reduceAdd, Int.reduceSub, Int.reduceMul, Int.reduceToNat, Nat.reducePow, Int.reducePow, Nat.reduceDiv, Nat.reduceMod, awp_dr, awp_bk, ew, e1, e2, e3, e4, bs_size, bs_append]
                                                            | refine l1Num_nat (u := v / 10) (by omega) ?_
                                                            | refine l1Num_nat (u := v % 10) (by omega) ?_
                                                            | (with_reducible refine cdB_dec (fun hp hq => ?_) (fun hp hq => ?_) <;> first | (clear hq; refine False.elim ?_; omega) | (simp only [hq]; clear hq) | clear hq)
                                                            | (with_reducible refine gB_dec (fun hp hq => ?_) (fun hp hq => ?_) <;> first | (clear hq; refine False.elim ?_; omega) | (simp only [hq]; clear hq) | clear hq)
                                                            | (with_reducible refine gB_ndec (fun hp hq => ?_) (fun hp hq => ?_) <;> first | (clear hq; refine False.elim ?_; omega) | (simp only [hq]; clear hq) | clear hq)
    rw [hd]
    exact ⟨by simp; omega, hR⟩

theorem l12Kids_ok {t : Ty} {v : Vl} {h : Heap} {R : AV → Heap → Prop} (hc : kidsCan t v.n) (hl : v.kids.length ≤ 1048576) (hl2 : t.kids.length ≤ 1048576) (hR : R (.vec ((kidTs t v.n v.kids.length).map tyC)) h) :
    ACalls Tryd.prog 26 [.agg (tyE t), .agg (vlE v)] h R := by
  refine ACalls.sub (acalls_body c_spec_l12Kids (by simp) ?_)
  unfold a_spec_l12Kids
  repeat' first
                                                            | (simp -implicitDefEqProofs (disch := omega) only [push_cast, ↓reduceIte, Nat.reduceEqDiff, reduceCtorEq, Nat.reduceAdd, Nat.reduceMul, Nat.reduceSub, Nat.reduceLT, Nat.reduceLeDiff, Int.reduceLT, Int.reduceLE, Int.reduceEq, Int.reduceNe, Int.reduceNeg, Int.reduceAdd, Int.reduceSub, Int.reduceMul, Int.reduceToNat, Nat.reducePow, Int.reducePow, Nat.reduceDiv, Nat.reduceMod, awp_dr, awp_bk]; done)
                                                            | simp -implicitDefEqProofs (disch := omega) only [push_cast, ↓reduceIte, Nat.reduceEqDiff, reduceCtorEq, Nat.reduceAdd, Nat.reduceMul, Nat.reduceSub, Nat.reduceLT, Nat.reduceLeDiff, Int.reduceLT, Int.reduceLE, Int.reduceEq, Int.reduceNe, Int.reduceNeg, Int.reduceAdd, Int.reduceSub, Int.reduceMul, Int.reduceToNat, Nat.reducePow, Int.reducePow, Nat.reduceDiv, Nat.reduceMod, awp_dr, awp_bk]
                                                            | (with_reducible refine cdB_dec (fun hp hq => ?_) (fun hp hq => ?_) <;> first | (clear hq; refine False.elim ?_; omega) | (simp only [hq]; clear hq) | clear hq)
                                                            | (with_reducible refine gB_dec (fun hp hq => ?_) (fun hp hq => ?_) <;> first | (clear hq; refine False.elim ?_; omega) | (simp only [hq]; clear hq) | clear hq)
                                                            | (with_reducible refine gB_ndec (fun hp hq => ?_) (fun hp hq => ?_) <;> first | (clear hq; refine False.elim ?_; omega) | (simp only [hq]; clear hq) | clear hq)
  · have h13 := hp
    have e : kidTs t v.n v.kids.length = List.replicate v.kids.length (t.kids.headD default) := by simp [kidTs, h13]
    rw [e] at hR
    obtain ⟨u, r, hu⟩ : ∃ u r, t.kids = u :: r := by
      cases hk : t.kids with
      | nil => exact absurd hk (hc.1 h13)
      | cons u r => exact ⟨u, r, rfl⟩
    have hg : ∀ m, ixT 3 m (.v (.vec (t.kids.map tyC))) (.v (.sc (.int .i64 0))) = some (.vp (tyC u)) := fun m => vec_get (i := 0) tyC_len (by simp [hu])
    have hgn : ∀ m, ldnT 3 m (.vp (tyC u)) = some (.v (.agg (tyC u)), m) := fun m => vp_ldn (tyC_length u)
    rw [hu] at hR
    simp only [List.headD_cons] at hR
    refine awp_lp (fun d st => ∃ i : Nat, i ≤ v.kids.length ∧ d = v.kids.length - i ∧ st.t 13 = .v (.sc (.int .i64 i)) ∧ st.t 12 = .v (.sc (.int .i64 v.kids.length)) ∧ st.t 2 = .lp 2 0 0 ∧ st.m.h = h ∧
      st.m.l 2 = .mu 0 [.v (.sc (.int .i64 t.kind)), .v (.sc (.int .i64 t.n)), .v (.vec (t.kids.map tyC))] ∧ LsE [21] st.m (st.t 5) 3 ((List.replicate i u).map tyC)) v.kids.length ?_ ?_
    · exact ⟨0, Nat.zero_le _, rfl, rfl, rfl, rfl, rfl, rfl, LsE.nil⟩
    · rintro d ⟨tt, ml, mc, mh⟩ ⟨i, hi, rfl, h13, h12, h2, hh, m2, hx⟩
      simp only at h13 h12 h2 hh m2 hx
      subst hh
      by_cases hlt : i < v.kids.length
      · repeat' first
                                                            | (simp -implicitDefEqProofs (disch := omega) only [push_cast, ↓reduceIte, Nat.reduceEqDiff, reduceCtorEq, Nat.reduceAdd, Nat.reduceMul, Nat.reduceSub, Nat.reduceLT, Nat.reduceLeDiff, Int.reduceLT, Int.reduceLE, Int.reduceEq, Int.reduceNe, Int.reduceNeg, Int.reduceAdd, Int.reduceSub, Int.reduceMul, Int.reduceToNat, Nat.reducePow, Int.reducePow, Nat.reduceDiv, Nat.reduceMod, awp_dr, awp_bk, h13, h12, h2, m2, hg, hgn, tyC_length, tyC_take]; done)
                                                            | simp -implicitDefEqProofs (disch := omega) only [push_cast, ↓reduceIte, Nat.reduceEqDiff, reduceCtorEq, Nat.reduceAdd, Nat.reduceMul, Nat.reduceSub, Nat.reduceLT, Nat.reduceLeDiff, Int.reduceLT, Int.reduceLE, Int.reduceEq, Int.reduceNe, Int.reduceNeg, Int.reduceAdd, Int.reduceSub, Int.reduceMul, Int.reduceToNat, Nat.reducePow, Int.reducePow, Nat.reduceDiv, Nat.reduceMod, awp_dr, awp_bk, h13, h12, h2, m2, hg, hgn, tyC_length, tyC_take]
                                                            | (with_reducible refine cdB_dec (fun hp hq => ?_) (fun hp hq => ?_) <;> first | (clear hq; refine False.elim ?_; omega) | (simp only [hq]; clear hq) | clear hq)
                                                            | (with_reducible refine gB_dec (fun hp hq => ?_) (fun hp hq => ?_) <;> first | (clear hq; refine False.elim ?_; omega) | (simp only [hq]; clear hq) | clear hq)
                                                            | (with_reducible refine gB_ndec (fun hp hq => ?_) (fun hp hq => ?_) <;> first | (clear hq; refine False.elim ?_; omega) | (simp only [hq]; clear hq) | clear hq)
        refine bind_app (fs := [tyC u]) hx (by simp) (by simp) (by simp [srcT]) (by simp [tyC_length]) (by simpa using tyC_cells) (by simp; omega) (by simp; omega) fun x' m' hx' hh' hk' => ?_
        have k2 : m'.l 2 = ml 2 := hk' 2 (by simp)
        repeat' first
                                                            | (simp -implicitDefEqProofs (disch := omega) only [push_cast, ↓reduceIte, Nat.reduceEqDiff, reduceCtorEq, Nat.reduceAdd, Nat.reduceMul, Nat.reduceSub, Nat.reduceLT, Nat.reduceLeDiff, Int.reduceLT, Int.reduceLE, Int.reduceEq, Int.reduceNe, Int.reduceNeg, Int.reduceAdd, Int.reduceSub, Int.reduceMul, Int.reduceToNat, Nat.reducePow, Int.reducePow, Nat.reduceDiv, Nat.reduceMod, awp_dr, awp_bk, h13, h12, h2, m2, k2]; done)
                                                            | simp -implicitDefEqProofs (disch := omega) only [push_cast, ↓reduceIte, Nat.reduceEqDiff, reduceCtorEq, Nat.reduceAdd, Nat.reduceMul, Nat.reduceSub, Nat.reduceLT, Nat.reduceLeDiff, Int.reduceLT, Int.reduceLE, Int.reduceEq, Int.reduceNe, Int.reduceNeg, Int.reduceAdd, Int.reduceSub, Int.reduceMul, Int.reduceToNat, Nat.reducePow, Int.reducePow, Nat.reduceDiv, Nat.reduceMod, awp_dr, awp_bk, h13, h12, h2, m2, k2]
                                                            | (with_reducible refine cdB_dec (fun hp hq => ?_) (fun hp hq => ?_) <;> first | (clear hq; refine False.elim ?_; omega) | (simp only [hq]; clear hq) | clear hq)
                                                            | (with_reducible refine gB_dec (fun hp hq => ?_) (fun hp hq => ?_) <;> first | (clear hq; refine False.elim ?_; omega) | (simp only [hq]; clear hq) | clear hq)
                                                            | (with_reducible refine gB_ndec (fun hp hq => ?_) (fun hp hq => ?_) <;> first | (clear hq; refine False.elim ?_; omega) | (simp only [hq]; clear hq) | clear hq)
        exact ⟨_, by omega, i + 1, hlt, rfl, by simp, hh', by rw [List.replicate_succ', List.map_append]; exact hx'⟩
      · have hi : i = v.kids.length := by omega
        subst hi
        repeat' first
                                                            | (simp -implicitDefEqProofs (disch := omega) only [push_cast, ↓reduceIte, Nat.reduceEqDiff, reduceCtorEq, Nat.reduceAdd, Nat.reduceMul, Nat.reduceSub, Nat.reduceLT, Nat.reduceLeDiff, Int.reduceLT, Int.reduceLE, Int.reduceEq, Int.reduceNe, Int.reduceNeg, Int.reduceAdd, Int.reduceSub, Int.reduceMul, Int.reduceToNat, Nat.reducePow, Int.reducePow, Nat.reduceDiv, Nat.reduceMod, awp_dr, awp_bk, h13, h12, h2, m2]; done)
                                                            | simp -implicitDefEqProofs (disch := omega) only [push_cast, ↓reduceIte, Nat.reduceEqDiff, reduceCtorEq, Nat.reduceAdd, Nat.reduceMul, Nat.reduceSub, Nat.reduceLT, Nat.reduceLeDiff, Int.reduceLT, Int.reduceLE, Int.reduceEq, Int.reduceNe, Int.reduceNeg, Int.reduceAdd, Int.reduceSub, Int.reduceMul, Int.reduceToNat, Nat.reducePow, Int.reducePow, Nat.reduceDiv, Nat.reduceMod, awp_dr, awp_bk, h13, h12, h2, m2]
                                                            | (with_reducible refine cdB_dec (fun hp hq => ?_) (fun hp hq => ?_) <;> first | (clear hq; refine False.elim ?_; omega) | (simp only [hq]; clear hq) | clear hq)
                                                            | (with_reducible refine gB_dec (fun hp hq => ?_) (fun hp hq => ?_) <;> first | (clear hq; refine False.elim ?_; omega) | (simp only [hq]; clear hq) | clear hq)
                                                            | (with_reducible refine gB_ndec (fun hp hq => ?_) (fun hp hq => ?_) <;> first | (clear hq; refine False.elim ?_; omega) | (simp only [hq]; clear hq) | clear hq)
        exact end_ls hx hR
  · refine ⟨_, Sub.refl _, ?_⟩
    have e : kidTs t v.n v.kids.length = t.kids := by simp [kidTs, hp]
    rw [e] at hR; exact hR
  · have hb := hc.2.1 (.inl hp)
    have e : kidTs t v.n v.kids.length = (t.kids.drop v.n.toNat).take 1 := by simp [kidTs, hp]
    rw [e] at hR
    have ew : IntKind.i64.wrap (v.n + 1) = v.n + 1 := IntWalk.i64_in _ (by omega)
    rw [ew]
    refine ⟨⟨by omega, by omega, by omega, ?_⟩, _, Sub.refl _, ?_⟩
    · rw [List.all_eq_true]; intro y hy; simpa using tyC_len y hy
    · rw [show (v.n + 1).toNat - v.n.toNat = 1 by omega, ← List.map_drop, ← List.map_take]; exact hR
  · have hb := hc.2.1 (.inr hp)
    have e : kidTs t v.n v.kids.length = (t.kids.drop v.n.toNat).take 1 := by simp [kidTs, hp]
    rw [e] at hR
    have ew : IntKind.i64.wrap (v.n + 1) = v.n + 1 := IntWalk.i64_in _ (by omega)
    rw [ew]
    refine ⟨⟨by omega, by omega, by omega, ?_⟩, _, Sub.refl _, ?_⟩
    · rw [List.all_eq_true]; intro y hy; simpa using tyC_len y hy
    · rw [show (v.n + 1).toNat - v.n.toNat = 1 by omega, ← List.map_drop, ← List.map_take]; exact hR
  · have hb := hc.2.2 hp
    have e : kidTs t v.n v.kids.length = t.kids.take v.n.toNat := by simp [kidTs, hp]
    rw [e] at hR
    refine ⟨⟨by omega, by omega, ?_⟩, _, Sub.refl _, ?_⟩
    · rw [List.all_eq_true]; intro y hy; simpa using tyC_len y hy
    · simpa [← List.map_take] using hR
  · rename_i p1 p2 p3 p4
    have e : kidTs t v.n v.kids.length = [] := by simp [kidTs, p1, p2, p3, p4, hp]
    rw [e] at hR
    exact ⟨_, Sub.nilv, hR⟩

end Go.Proofs.YtgkiaoodalnceaaDoor
