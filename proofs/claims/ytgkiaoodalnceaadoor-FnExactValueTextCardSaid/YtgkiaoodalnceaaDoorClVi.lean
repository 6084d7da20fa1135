import Derived.Test.YtgkiaoodalnceaaDoorClVh
import Derived.Test.YtgkiaoodalnceaaDoorClShelf
/- Texts: the program. -/
namespace Go.Proofs.YtgkiaoodalnceaaDoor
open Go SL VM
set_option maxRecDepth 100000
set_option linter.unusedVariables false
set_option linter.unusedSimpArgs false
attribute [local irreducible] SL.awp

theorem lib_rune {s : ByteArray} {h : Heap} : ACalls Tryd.prog 96 [.sc (.string s)] h fun r h' => r = .tup [.sc (.int .i32 (Lib.decodeGo s).1), .sc (.int .i64 (Lib.decodeGo s).2)] ∧ h' = h :=
  acalls_rune (by kernel_rfl) (by kernel_rfl) (by kernel_rfl) (fun s w hT => Tryd.utf8_DecodeRuneInString s w hT)
theorem bs_get! {l : List UInt8} {i : Nat} : ((bs l).get! i).toNat = at0 l i := by
  have : (bs l).get! i = (l[i]?).getD default := by
    simp only [bs, ByteArray.get!]
    rw [List.getElem!_toArray]
    simp [List.getElem!_eq_getElem?_getD]
  rw [this, at0]
  cases l[i]? <;> simp
  rfl
theorem decodeGo_bs {l : List UInt8} (h : l ≠ []) : Lib.decodeGo (bs l) = Lib.decodeN l.length (at0 l 0) (at0 l 1) (at0 l 2) (at0 l 3) := by
  have hs : (bs l).size ≠ 0 := by
    rw [bs_size]
    cases l with
    | nil => exact absurd rfl h
    | cons a r => simp
  rw [Lib.decodeGo, if_neg hs, Lib.decode_at]
  simp only [bs_get!, bs_size, Nat.sub_zero, Nat.zero_add]
theorem rune_ok {l : List UInt8} {p n : Nat} {h : Heap} {R : AV → Heap → Prop} (hl : l ≠ []) (hd : Lib.decodeN l.length (at0 l 0) (at0 l 1) (at0 l 2) (at0 l 3) = (p, n)) (hR : R (.tup [.sc (.int .i32 p), .sc (.int .i64 n)]) h) :
    ACalls Tryd.prog 96 [.sc (.string (bs l))] h R := by
  refine ACalls_val lib_rune ?_
  rw [decodeGo_bs hl, hd]; exact hR

theorem goodPoint_ok {n : Int} {h : Heap} {R : AV → Heap → Prop} (hR : R (.sc (.bool (decide (0 ≤ n ∧ n ≤ 1114111) && !decide (55296 ≤ n ∧ n ≤ 57343)))) h) : ACalls Tryd.prog 65 [.sc (.int .i64 n)] h R := by
  refine acalls_body c_impl_goodPoint (by simp) ?_
  unfold a_impl_goodPoint
  repeat' first
                                                            | (simp -implicitDefEqProofs (disch := omega) only [push_cast, ↓reduceIte, Nat.reduceEqDiff, reduceCtorEq, Nat.reduceAdd, Nat.reduceMul, Nat.reduceSub, Nat.reduceLT, Nat.reduceLeDiff, Int.reduceLT, Int.reduceLE, Int.reduceEq, Int.reduceNe, Int.reduceNeg, Int.reduceAdd, Int.reduceSub, Int.reduceMul, Int.reduceToNat, Nat.reducePow, Int.reducePow, Nat.reduceDiv, Nat.reduceMod, awp_dr, awp_bk]; done)
                                                            | simp -implicitDefEqProofs (disch := omega) only [push_cast, ↓reduceIte, Nat.reduceEqDiff, reduceCtorEq, Nat.reduceAdd, Nat.reduceMul, Nat.reduceSub, Nat.reduceLT, Nat.reduceLeDiff, Int.reduceLT, Int.reduceLE, Int.reduceEq, Int.reduceNe, Int.reduceNeg, Int.reduceAdd, Int.reduceSub, Int.reduceMul, Int.reduceToNat, Nat.reducePow, Int.reducePow, Nat.reduceDiv, Nat.reduceMod, awp_dr, awp_bk]
                                                            | (with_reducible refine cdB_dec (fun hp hq => ?_) (fun hp hq => ?_) <;> first | (clear hq; refine False.elim ?_; omega) | (simp only [hq]; clear hq) | clear hq)
                                                            | (with_reducible refine gB_dec (fun hp hq => ?_) (fun hp hq => ?_) <;> first | (clear hq; refine False.elim ?_; omega) | (simp only [hq]; clear hq) | clear hq)
                                                            | (with_reducible refine gB_ndec (fun hp hq => ?_) (fun hp hq => ?_) <;> first | (clear hq; refine False.elim ?_; omega) | (simp only [hq]; clear hq) | clear hq)
                                                            | (with_reducible refine And.intro ?_ ?_; omega)
  all_goals refine cast (congrArg (fun b => R (.sc (.bool b)) h) ?_) hR
  all_goals (rw [Bool.eq_iff_iff]; simp; omega)

theorem tk16 {s : List UInt8} {p n : Nat} {a b : Int} {h : Heap} {R : AV → Heap → Prop} (e : take16 s = some (p, n)) (ha : a = p ∧ b = n)
    (hR : R (.tup [.sc (.int .i64 (((take16 s).map fun x => (x.1 : Int)).getD 0)), .sc (.int .i64 (((take16 s).map fun x => (x.2 : Int)).getD 0))]) h) : R (.tup [.sc (.int .i64 a), .sc (.int .i64 b)]) h := by
  rw [e] at hR; rw [ha.1, ha.2]; exact hR
theorem tk16n {s : List UInt8} {h : Heap} {R : AV → Heap → Prop} (e : take16 s = none)
    (hR : R (.tup [.sc (.int .i64 (((take16 s).map fun x => (x.1 : Int)).getD 0)), .sc (.int .i64 (((take16 s).map fun x => (x.2 : Int)).getD 0))]) h) : R (.tup [.sc (.int .i64 0), .sc (.int .i64 0)]) h := by
  rw [e] at hR; exact hR
theorem take16_ok {s : List UInt8} {h : Heap} {R : AV → Heap → Prop} (hl : s.length ≤ 140737488355328)
    (hR : R (.tup [.sc (.int .i64 (((take16 s).map fun x => (x.1 : Int)).getD 0)), .sc (.int .i64 (((take16 s).map fun x => (x.2 : Int)).getD 0))]) h) : ACalls Tryd.prog 97 [.sc (.string (bs s))] h R := by
  refine acalls_body c_impl_take16 (by simp) ?_
  unfold a_impl_take16
  match s with
  | [] => repeat' first
                                                            | (simp -implicitDefEqProofs (disch := omega) only [push_cast, ↓reduceIte, Nat.reduceEqDiff, reduceCtorEq, Nat.reduceAdd, Nat.reduceMul, Nat.reduceSub, Nat.reduceLT, Nat.reduceLeDiff, Int.reduceLT, Int.reduceLE, Int.reduceEq, Int.reduceNe, Int.reduceNeg, Int.reduceAdd, Int.reduceSub, Int.reduceMul, Int.reduceToNat, Nat.reducePow, Int.reducePow, Nat.reduceDiv, Nat.reduceMod, awp_dr, awp_bk]; done)
                                                            | simp -implicitDefEqProofs (disch := omega) only [push_cast, ↓reduceIte, Nat.reduceEqDiff, reduceCtorEq, Nat.reduceAdd, Nat.reduceMul, Nat.reduceSub, Nat.reduceLT, Nat.reduceLeDiff, Int.reduceLT, Int.reduceLE, Int.reduceEq, Int.reduceNe, Int.reduceNeg, Int.reduceAdd, Int.reduceSub, Int.reduceMul, Int.reduceToNat, Nat.reducePow, Int.reducePow, Nat.reduceDiv, Nat.reduceMod, awp_dr, awp_bk]
                                                            | (with_reducible refine cdB_dec (fun hp hq => ?_) (fun hp hq => ?_) <;> first | (clear hq; refine False.elim ?_; omega) | (simp only [hq]; clear hq) | clear hq)
                                                            | (with_reducible refine gB_dec (fun hp hq => ?_) (fun hp hq => ?_) <;> first | (clear hq; refine False.elim ?_; omega) | (simp only [hq]; clear hq) | clear hq)
                                                            | (with_reducible refine gB_ndec (fun hp hq => ?_) (fun hp hq => ?_) <;> first | (clear hq; refine False.elim ?_; omega) | (simp only [hq]; clear hq) | clear hq)
                                                            | (with_reducible refine And.intro ?_ ?_; omega)
          exact hR
  | [b0] => repeat' first
                                                            | (simp -implicitDefEqProofs (disch := omega) only [push_cast, ↓reduceIte, Nat.reduceEqDiff, reduceCtorEq, Nat.reduceAdd, Nat.reduceMul, Nat.reduceSub, Nat.reduceLT, Nat.reduceLeDiff, Int.reduceLT, Int.reduceLE, Int.reduceEq, Int.reduceNe, Int.reduceNeg, Int.reduceAdd, Int.reduceSub, Int.reduceMul, Int.reduceToNat, Nat.reducePow, Int.reducePow, Nat.reduceDiv, Nat.reduceMod, awp_dr, awp_bk]; done)
                                                            | simp -implicitDefEqProofs (disch := omega) only [push_cast, ↓reduceIte, Nat.reduceEqDiff, reduceCtorEq, Nat.reduceAdd, Nat.reduceMul, Nat.reduceSub, Nat.reduceLT, Nat.reduceLeDiff, Int.reduceLT, Int.reduceLE, Int.reduceEq, Int.reduceNe, Int.reduceNeg, Int.reduceAdd, Int.reduceSub, Int.reduceMul, Int.reduceToNat, Nat.reducePow, Int.reducePow, Nat.reduceDiv, Nat.reduceMod, awp_dr, awp_bk]
                                                            | (with_reducible refine cdB_dec (fun hp hq => ?_) (fun hp hq => ?_) <;> first | (clear hq; refine False.elim ?_; omega) | (simp only [hq]; clear hq) | clear hq)
                                                            | (with_reducible refine gB_dec (fun hp hq => ?_) (fun hp hq => ?_) <;> first | (clear hq; refine False.elim ?_; omega) | (simp only [hq]; clear hq) | clear hq)
                                                            | (with_reducible refine gB_ndec (fun hp hq => ?_) (fun hp hq => ?_) <;> first | (clear hq; refine False.elim ?_; omega) | (simp only [hq]; clear hq) | clear hq)
                                                            | (with_reducible refine And.intro ?_ ?_; omega)
            exact hR
  | [b0, b1] =>
    have h0 := b0.toNat_lt; have h1 := b1.toNat_lt
    repeat' first
                                                            | (simp -implicitDefEqProofs (disch := omega) only [push_cast, ↓reduceIte, Nat.reduceEqDiff, reduceCtorEq, Nat.reduceAdd, Nat.reduceMul, Nat.reduceSub, Nat.reduceLT, Nat.reduceLeDiff, Int.reduceLT, Int.reduceLE, Int.reduceEq, Int.reduceNe, Int.reduceNeg, Int.reduceAdd, Int.reduceSub, Int.reduceMul, Int.reduceToNat, Nat.reducePow, Int.reducePow, Nat.reduceDiv, Nat.reduceMod, awp_dr, awp_bk, List.getElem?_cons_zero, bor256]; done)
                                                            | simp -implicitDefEqProofs (disch := omega) only [push_cast, ↓reduceIte, Nat.reduceEqDiff, reduceCtorEq, Nat.reduceAdd, Nat.reduceMul, Nat.reduceSub, Nat.reduceLT, Nat.reduceLeDiff, Int.reduceLT, Int.reduceLE, Int.reduceEq, Int.reduceNe, Int.reduceNeg, Int.reduceAdd, Int.reduceSub, Int.reduceMul, Int.reduceToNat, Nat.reducePow, Int.reducePow, Nat.reduceDiv, Nat.reduceMod, awp_dr, awp_bk, List.getElem?_cons_zero, bor256]
                                                            | (with_reducible refine cdB_dec (fun hp hq => ?_) (fun hp hq => ?_) <;> first | (clear hq; refine False.elim ?_; omega) | (simp only [hq]; clear hq) | clear hq)
                                                            | (with_reducible refine gB_dec (fun hp hq => ?_) (fun hp hq => ?_) <;> first | (clear hq; refine False.elim ?_; omega) | (simp only [hq]; clear hq) | clear hq)
                                                            | (with_reducible refine gB_ndec (fun hp hq => ?_) (fun hp hq => ?_) <;> first | (clear hq; refine False.elim ?_; omega) | (simp only [hq]; clear hq) | clear hq)
                                                            | (with_reducible refine And.intro ?_ ?_; omega)
    · exact tk16 (take16_N.trans (t16N_a (p := b0.toNat + 256 * b1.toNat) (by simp) (by omega))) (by omega) hR
    · exact tk16 (take16_N.trans (t16N_a (p := b0.toNat + 256 * b1.toNat) (by simp) (by omega))) (by omega) hR
    · exact tk16n (take16_N.trans (t16N_b (p := b0.toNat + 256 * b1.toNat) (by simp) (by omega) (by omega))) hR
    · exact tk16n (take16_N.trans (t16N_b (p := b0.toNat + 256 * b1.toNat) (by simp) (by omega) (by right; simp))) hR
  | [b0, b1, b2] =>
    have h0 := b0.toNat_lt; have h1 := b1.toNat_lt
    repeat' first
                                                            | (simp -implicitDefEqProofs (disch := omega) only [push_cast, ↓reduceIte, Nat.reduceEqDiff, reduceCtorEq, Nat.reduceAdd, Nat.reduceMul, Nat.reduceSub, Nat.reduceLT, Nat.reduceLeDiff, Int.reduceLT, Int.reduceLE, Int.reduceEq, Int.reduceNe, Int.reduceNeg, Int.reduceAdd, Int.reduceSub, Int.reduceMul, Int.reduceToNat, Nat.reducePow, Int.reducePow, Nat.reduceDiv, Nat.reduceMod, awp_dr, awp_bk, List.getElem?_cons_zero, bor256]; done)
                                                            | simp -implicitDefEqProofs (disch := omega) only [push_cast, ↓reduceIte, Nat.reduceEqDiff, reduceCtorEq, Nat.reduceAdd, Nat.reduceMul, Nat.reduceSub, Nat.reduceLT, Nat.reduceLeDiff, Int.reduceLT, Int.reduceLE, Int.reduceEq, Int.reduceNe, Int.reduceNeg, Int.reduceAdd, Int.reduceSub, Int.reduceMul, Int.reduceToNat, Nat.reducePow, Int.reducePow, Nat.reduceDiv, Nat.reduceMod, awp_dr, awp_bk, List.getElem?_cons_zero, bor256]
                                                            | (with_reducible refine cdB_dec (fun hp hq => ?_) (fun hp hq => ?_) <;> first | (clear hq; refine False.elim ?_; omega) | (simp only [hq]; clear hq) | clear hq)
                                                            | (with_reducible refine gB_dec (fun hp hq => ?_) (fun hp hq => ?_) <;> first | (clear hq; refine False.elim ?_; omega) | (simp only [hq]; clear hq) | clear hq)
                                                            | (with_reducible refine gB_ndec (fun hp hq => ?_) (fun hp hq => ?_) <;> first | (clear hq; refine False.elim ?_; omega) | (simp only [hq]; clear hq) | clear hq)
                                                            | (with_reducible refine And.intro ?_ ?_; omega)
    · exact tk16 (take16_N.trans (t16N_a (p := b0.toNat + 256 * b1.toNat) (by simp) (by omega))) (by omega) hR
    · exact tk16 (take16_N.trans (t16N_a (p := b0.toNat + 256 * b1.toNat) (by simp) (by omega))) (by omega) hR
    · exact tk16n (take16_N.trans (t16N_b (p := b0.toNat + 256 * b1.toNat) (by simp) (by omega) (by omega))) hR
    · exact tk16n (take16_N.trans (t16N_b (p := b0.toNat + 256 * b1.toNat) (by simp) (by omega) (by right; simp))) hR
  | b0 :: b1 :: b2 :: b3 :: r =>
    have h2 := b2.toNat_lt; have h3 := b3.toNat_lt
    have h0 := b0.toNat_lt; have h1 := b1.toNat_lt
    repeat' first
                                                            | (simp -implicitDefEqProofs (disch := omega) only [push_cast, ↓reduceIte, Nat.reduceEqDiff, reduceCtorEq, Nat.reduceAdd, Nat.reduceMul, Nat.reduceSub, Nat.reduceLT, Nat.reduceLeDiff, Int.reduceLT, Int.reduceLE, Int.reduceEq, Int.reduceNe, Int.reduceNeg, Int.reduceAdd, Int.reduceSub, Int.reduceMul, Int.reduceToNat, Nat.reducePow, Int.reducePow, Nat.reduceDiv, Nat.reduceMod, awp_dr, awp_bk, List.getElem?_cons_zero, bor256]; done)
                                                            | simp -implicitDefEqProofs (disch := omega) only [push_cast, ↓reduceIte, Nat.reduceEqDiff, reduceCtorEq, Nat.reduceAdd, Nat.reduceMul, Nat.reduceSub, Nat.reduceLT, Nat.reduceLeDiff, Int.reduceLT, Int.reduceLE, Int.reduceEq, Int.reduceNe, Int.reduceNeg, Int.reduceAdd, Int.reduceSub, Int.reduceMul, Int.reduceToNat, Nat.reducePow, Int.reducePow, Nat.reduceDiv, Nat.reduceMod, awp_dr, awp_bk, List.getElem?_cons_zero, bor256]
                                                            | (with_reducible refine cdB_dec (fun hp hq => ?_) (fun hp hq => ?_) <;> first | (clear hq; refine False.elim ?_; omega) | (simp only [hq]; clear hq) | clear hq)
                                                            | (with_reducible refine gB_dec (fun hp hq => ?_) (fun hp hq => ?_) <;> first | (clear hq; refine False.elim ?_; omega) | (simp only [hq]; clear hq) | clear hq)
                                                            | (with_reducible refine gB_ndec (fun hp hq => ?_) (fun hp hq => ?_) <;> first | (clear hq; refine False.elim ?_; omega) | (simp only [hq]; clear hq) | clear hq)
                                                            | (with_reducible refine And.intro ?_ ?_; omega)
    · exact tk16 (take16_N.trans (t16N_a (p := b0.toNat + 256 * b1.toNat) (by simp) (by omega))) (by omega) hR
    · exact tk16 (take16_N.trans (t16N_a (p := b0.toNat + 256 * b1.toNat) (by simp) (by omega))) (by omega) hR
    · exact tk16n (take16_N.trans (t16N_b (p := b0.toNat + 256 * b1.toNat) (by simp) (by omega) (by omega))) hR
    · exact tk16n (take16_N.trans (t16N_c (p := b0.toNat + 256 * b1.toNat) (q := b2.toNat + 256 * b3.toNat) (by simp) (by omega) (by omega))) hR
    · exact tk16n (take16_N.trans (t16N_c (p := b0.toNat + 256 * b1.toNat) (q := b2.toNat + 256 * b3.toNat) (by simp) (by omega) (by omega))) hR
    · exact tk16 (take16_N.trans (t16N_d (p := b0.toNat + 256 * b1.toNat) (q := b2.toNat + 256 * b3.toNat) (by simp) (by omega) (by omega))) (by omega) hR

theorem takePoint_ok {s : List UInt8} {code : Int} {h : Heap} {R : AV → Heap → Prop} (hs : s ≠ []) (hl : s.length ≤ 140737488355328) (hc : 1 ≤ code ∧ code ≤ 3)
    (hR : R (.tup [.sc (.int .i64 (((takeP code s).map fun x => (x.1 : Int)).getD 0)), .sc (.int .i64 (((takeP code s).map fun x => (x.2 : Int)).getD 0))]) h) : ACalls Tryd.prog 86 [.sc (.string (bs s)), .sc (.int .i64 code)] h R := by
  refine acalls_body c_impl_takePoint (by simp) ?_
  unfold a_impl_takePoint
  by_cases h1 : code = 1
  · subst h1
    have e : takeP 1 s = take8 s := by simp [takeP]
    rw [e] at hR
    have hp : ∀ p n, take8 s = some (p, n) → p ≤ 1114111 := fun p n h => by
      have := (takeP_pt hs (e.trans h)).1
      simp [goodP] at this; omega
    simp only [take8] at hR hp
    generalize hd : Lib.decodeN s.length (at0 s 0) (at0 s 1) (at0 s 2) (at0 s 3) = d at hR hp
    obtain ⟨p, n⟩ := d
    simp only at hR hp
    by_cases hx : p = 65533 ∧ n ≤ 1
    · rw [if_pos hx] at hR
      repeat' first
                                                            | (simp -implicitDefEqProofs (disch := omega) only [push_cast, ↓reduceIte, Nat.reduceEqDiff, reduceCtorEq, Nat.reduceAdd, Nat.reduceMul, Nat.reduceSub, Nat.reduceLT, Nat.reduceLeDiff, Int.reduceLT, Int.reduceLE, Int.reduceEq, Int.reduceNe, Int.reduceNeg, Int.reduceAdd, Int.reduceSub, Int.reduceMul, Int.reduceToNat, Nat.reducePow, Int.reducePow, Nat.reduceDiv, Nat.reduceMod, awp_dr, awp_bk]; done)
                                                            | simp -implicitDefEqProofs (disch := omega) only [push_cast, ↓reduceIte, Nat.reduceEqDiff, reduceCtorEq, Nat.reduceAdd, Nat.reduceMul, Nat.reduceSub, Nat.reduceLT, Nat.reduceLeDiff, Int.reduceLT, Int.reduceLE, Int.reduceEq, Int.reduceNe, Int.reduceNeg, Int.reduceAdd, Int.reduceSub, Int.reduceMul, Int.reduceToNat, Nat.reducePow, Int.reducePow, Nat.reduceDiv, Nat.reduceMod, awp_dr, awp_bk]
                                                            | refine rune_ok hs hd ?_
                                                            | (with_reducible refine cdB_dec (fun hp hq => ?_) (fun hp hq => ?_) <;> first | (clear hq; refine False.elim ?_; omega) | (simp only [hq]; clear hq) | clear hq)
                                                            | (with_reducible refine gB_dec (fun hp hq => ?_) (fun hp hq => ?_) <;> first | (clear hq; refine False.elim ?_; omega) | (simp only [hq]; clear hq) | clear hq)
                                                            | (with_reducible refine gB_ndec (fun hp hq => ?_) (fun hp hq => ?_) <;> first | (clear hq; refine False.elim ?_; omega) | (simp only [hq]; clear hq) | clear hq)
                                                            | (with_reducible refine And.intro ?_ ?_; omega)
      all_goals first | exact hR | (exfalso; omega)
    · rw [if_neg hx] at hR hp
      have hp2 := hp p n rfl
      repeat' first
                                                            | (simp -implicitDefEqProofs (disch := omega) only [push_cast, ↓reduceIte, Nat.reduceEqDiff, reduceCtorEq, Nat.reduceAdd, Nat.reduceMul, Nat.reduceSub, Nat.reduceLT, Nat.reduceLeDiff, Int.reduceLT, Int.reduceLE, Int.reduceEq, Int.reduceNe, Int.reduceNeg, Int.reduceAdd, Int.reduceSub, Int.reduceMul, Int.reduceToNat, Nat.reducePow, Int.reducePow, Nat.reduceDiv, Nat.reduceMod, awp_dr, awp_bk]; done)
                                                            | simp -implicitDefEqProofs (disch := omega) only [push_cast, ↓reduceIte, Nat.reduceEqDiff, reduceCtorEq, Nat.reduceAdd, Nat.reduceMul, Nat.reduceSub, Nat.reduceLT, Nat.reduceLeDiff, Int.reduceLT, Int.reduceLE, Int.reduceEq, Int.reduceNe, Int.reduceNeg, Int.reduceAdd, Int.reduceSub, Int.reduceMul, Int.reduceToNat, Nat.reducePow, Int.reducePow, Nat.reduceDiv, Nat.reduceMod, awp_dr, awp_bk]
                                                            | refine rune_ok hs hd ?_
                                                            | (with_reducible refine cdB_dec (fun hp hq => ?_) (fun hp hq => ?_) <;> first | (clear hq; refine False.elim ?_; omega) | (simp only [hq]; clear hq) | clear hq)
                                                            | (with_reducible refine gB_dec (fun hp hq => ?_) (fun hp hq => ?_) <;> first | (clear hq; refine False.elim ?_; omega) | (simp only [hq]; clear hq) | clear hq)
                                                            | (with_reducible refine gB_ndec (fun hp hq => ?_) (fun hp hq => ?_) <;> first | (clear hq; refine False.elim ?_; omega) | (simp only [hq]; clear hq) | clear hq)
                                                            | (with_reducible refine And.intro ?_ ?_; omega)
      all_goals first | exact hR | (exfalso; omega)
  by_cases h2 : code = 2
  · subst h2
    have e : takeP 2 s = take16 s := by simp [takeP]
    rw [e] at hR
    repeat' first
                                                            | (simp -implicitDefEqProofs (disch := omega) only [push_cast, ↓reduceIte, Nat.reduceEqDiff, reduceCtorEq, Nat.reduceAdd, Nat.reduceMul, Nat.reduceSub, Nat.reduceLT, Nat.reduceLeDiff, Int.reduceLT, Int.reduceLE, Int.reduceEq, Int.reduceNe, Int.reduceNeg, Int.reduceAdd, Int.reduceSub, Int.reduceMul, Int.reduceToNat, Nat.reducePow, Int.reducePow, Nat.reduceDiv, Nat.reduceMod, awp_dr, awp_bk]; done)
                                                            | simp -implicitDefEqProofs (disch := omega) only [push_cast, ↓reduceIte, Nat.reduceEqDiff, reduceCtorEq, Nat.reduceAdd, Nat.reduceMul, Nat.reduceSub, Nat.reduceLT, Nat.reduceLeDiff, Int.reduceLT, Int.reduceLE, Int.reduceEq, Int.reduceNe, Int.reduceNeg, Int.reduceAdd, Int.reduceSub, Int.reduceMul, Int.reduceToNat, Nat.reducePow, Int.reducePow, Nat.reduceDiv, Nat.reduceMod, awp_dr, awp_bk]
                                                            | refine take16_ok hl ?_
                                                            | (with_reducible refine cdB_dec (fun hp hq => ?_) (fun hp hq => ?_) <;> first | (clear hq; refine False.elim ?_; omega) | (simp only [hq]; clear hq) | clear hq)
                                                            | (with_reducible refine gB_dec (fun hp hq => ?_) (fun hp hq => ?_) <;> first | (clear hq; refine False.elim ?_; omega) | (simp only [hq]; clear hq) | clear hq)
                                                            | (with_reducible refine gB_ndec (fun hp hq => ?_) (fun hp hq => ?_) <;> first | (clear hq; refine False.elim ?_; omega) | (simp only [hq]; clear hq) | clear hq)
                                                            | (with_reducible refine And.intro ?_ ?_; omega)
    exact hR
  · obtain rfl : code = 3 := by omega
    obtain ⟨b, r, rfl⟩ : ∃ b r, s = b :: r := by
      cases s with
      | nil => exact absurd rfl hs
      | cons b r => exact ⟨b, r, rfl⟩
    have e : takeP 3 (b :: r) = some (b.toNat, 1) := by simp [takeP, at0]
    rw [e] at hR
    have hb := b.toNat_lt
    repeat' first
                                                            | (simp -implicitDefEqProofs (disch := omega) only [push_cast, ↓reduceIte, Nat.reduceEqDiff, reduceCtorEq, Nat.reduceAdd, Nat.reduceMul, Nat.reduceSub, Nat.reduceLT, Nat.reduceLeDiff, Int.reduceLT, Int.reduceLE, Int.reduceEq, Int.reduceNe, Int.reduceNeg, Int.reduceAdd, Int.reduceSub, Int.reduceMul, Int.reduceToNat, Nat.reducePow, Int.reducePow, Nat.reduceDiv, Nat.reduceMod, awp_dr, awp_bk, List.getElem?_cons_zero]; done)
                                                            | simp -implicitDefEqProofs (disch := omega) only [push_cast, ↓reduceIte, Nat.reduceEqDiff, reduceCtorEq, Nat.reduceAdd, Nat.reduceMul, Nat.reduceSub, Nat.reduceLT, Nat.reduceLeDiff, Int.reduceLT, Int.reduceLE, Int.reduceEq, Int.reduceNe, Int.reduceNeg, Int.reduceAdd, Int.reduceSub, Int.reduceMul, Int.reduceToNat, Nat.reducePow, Int.reducePow, Nat.reduceDiv, Nat.reduceMod, awp_dr, awp_bk, List.getElem?_cons_zero]
                                                            | (with_reducible refine cdB_dec (fun hp hq => ?_) (fun hp hq => ?_) <;> first | (clear hq; refine False.elim ?_; omega) | (simp only [hq]; clear hq) | clear hq)
                                                            | (with_reducible refine gB_dec (fun hp hq => ?_) (fun hp hq => ?_) <;> first | (clear hq; refine False.elim ?_; omega) | (simp only [hq]; clear hq) | clear hq)
                                                            | (with_reducible refine gB_ndec (fun hp hq => ?_) (fun hp hq => ?_) <;> first | (clear hq; refine False.elim ?_; omega) | (simp only [hq]; clear hq) | clear hq)
                                                            | (with_reducible refine And.intro ?_ ?_; omega)
    exact hR

theorem DecodePoints_ok {s : List UInt8} {code : Int} {h : Heap} {R : AV → Heap → Prop} (hl : s.length ≤ 140737488355328)
    (hR : ∀ out : List Nat, (1 ≤ code ∧ code ≤ 3 → okPts code s = true → pts code s = some out) → (∀ p ∈ out, p ≤ 1114111) → out.length ≤ 300 → (¬ (1 ≤ code ∧ code ≤ 3 ∧ okPts code s = true) → out = []) →
      R (.tup [.vec (out.map natC), .sc (.bool (decide (1 ≤ code ∧ code ≤ 3) && okPts code s))]) h) :
    ACalls Tryd.prog 77 [.sc (.string (bs s)), .sc (.int .i64 code)] h R := by
  refine ACalls.sub (acalls_body c_impl_DecodePoints (by simp) ?_)
  unfold a_impl_DecodePoints
  by_cases hc : 1 ≤ code ∧ code ≤ 3
  · repeat' first
                                                            | (simp -implicitDefEqProofs (disch := omega) only [push_cast, ↓reduceIte, Nat.reduceEqDiff, reduceCtorEq, Nat.reduceAdd, Nat.reduceMul, Nat.reduceSub, Nat.reduceLT, Nat.reduceLeDiff, Int.reduceLT, Int.reduceLE, Int.reduceEq, Int.reduceNe, Int.reduceNeg, Int.reduceAdd, Int.reduceSub, Int.reduceMul, Int.reduceToNat, Nat.reducePow, Int.reducePow, Nat.reduceDiv, Nat.reduceMod, awp_dr, awp_bk, newSlT_0, newL_eq]; done)
                                                            | simp -implicitDefEqProofs (disch := omega) only [push_cast, ↓reduceIte, Nat.reduceEqDiff, reduceCtorEq, Nat.reduceAdd, Nat.reduceMul, Nat.reduceSub, Nat.reduceLT, Nat.reduceLeDiff, Int.reduceLT, Int.reduceLE, Int.reduceEq, Int.reduceNe, Int.reduceNeg, Int.reduceAdd, Int.reduceSub, Int.reduceMul, Int.reduceToNat, Nat.reducePow, Int.reducePow, Nat.reduceDiv, Nat.reduceMod, awp_dr, awp_bk, newSlT_0, newL_eq]
                                                            | (with_reducible refine cdB_dec (fun hp hq => ?_) (fun hp hq => ?_) <;> first | (clear hq; refine False.elim ?_; omega) | (simp only [hq]; clear hq) | clear hq)
                                                            | (with_reducible refine gB_dec (fun hp hq => ?_) (fun hp hq => ?_) <;> first | (clear hq; refine False.elim ?_; omega) | (simp only [hq]; clear hq) | clear hq)
                                                            | (with_reducible refine gB_ndec (fun hp hq => ?_) (fun hp hq => ?_) <;> first | (clear hq; refine False.elim ?_; omega) | (simp only [hq]; clear hq) | clear hq)
                                                            | (with_reducible refine And.intro ?_ ?_; omega)
    have hd : decide (1 ≤ code ∧ code ≤ 3) = true := by simpa using hc
    rw [hd, Bool.true_and] at hR
    have bad : okPts code s = false → R (.tup [.vec [], .sc (.bool false)]) h := fun hb => by
      have := hR [] (fun _ h => by rw [hb] at h; cases h) (by simp) (by simp) (fun _ => rfl)
      rw [hb] at this; exact this
    refine awp_lpW 274877841905 (fun d t m => ∃ (r : List UInt8) (out : List Nat), d = r.length ∧ r.length ≤ s.length ∧ t 0 = .v (.sc (.string (bs r))) ∧ m.h = h ∧ LsE [15, 34] m (t 6) 1 (out.map natC) ∧ out.length ≤ 300 ∧ pts code s = (pts code r).map (out ++ ·) ∧ ∀ p ∈ out, p ≤ 1114111) s.length (by kernel_rfl) ?_ ?_
    · exact ⟨s, [], rfl, Nat.le_refl _, rfl, rfl, ⟨by simp, .inr ⟨15, _, [], by simp, rfl, rfl, rfl, by simp⟩⟩, by simp, by simp, by simp⟩
    · rintro d t ⟨ml, mc, mh⟩ ⟨r, out, rfl, hrl, h0, hh, h6, hol, hT, hb⟩
      simp only at hh h6
      subst hh
      by_cases hr : r = []
      · subst hr
        rw [pts_nil] at hT
        repeat' first
                                                            | (simp -implicitDefEqProofs (disch := omega) only [push_cast, ↓reduceIte, Nat.reduceEqDiff, reduceCtorEq, Nat.reduceAdd, Nat.reduceMul, Nat.reduceSub, Nat.reduceLT, Nat.reduceLeDiff, Int.reduceLT, Int.reduceLE, Int.reduceEq, Int.reduceNe, Int.reduceNeg, Int.reduceAdd, Int.reduceSub, Int.reduceMul, Int.reduceToNat, Nat.reducePow, Int.reducePow, Nat.reduceDiv, Nat.reduceMod, awp_dr, awp_bk, h0]; done)
                                                            | simp -implicitDefEqProofs (disch := omega) only [push_cast, ↓reduceIte, Nat.reduceEqDiff, reduceCtorEq, Nat.reduceAdd, Nat.reduceMul, Nat.reduceSub, Nat.reduceLT, Nat.reduceLeDiff, Int.reduceLT, Int.reduceLE, Int.reduceEq, Int.reduceNe, Int.reduceNeg, Int.reduceAdd, Int.reduceSub, Int.reduceMul, Int.reduceToNat, Nat.reducePow, Int.reducePow, Nat.reduceDiv, Nat.reduceMod, awp_dr, awp_bk, h0]
                                                            | (with_reducible refine cdB_dec (fun hp hq => ?_) (fun hp hq => ?_) <;> first | (clear hq; refine False.elim ?_; omega) | (simp only [hq]; clear hq) | clear hq)
                                                            | (with_reducible refine gB_dec (fun hp hq => ?_) (fun hp hq => ?_) <;> first | (clear hq; refine False.elim ?_; omega) | (simp only [hq]; clear hq) | clear hq)
                                                            | (with_reducible refine gB_ndec (fun hp hq => ?_) (fun hp hq => ?_) <;> first | (clear hq; refine False.elim ?_; omega) | (simp only [hq]; clear hq) | clear hq)
                                                            | (with_reducible refine And.intro ?_ ?_; omega)
        refine end_ls2 h6 ?_
        have hk : okPts code s = true := by simp [okPts, hT, hol]
        have := hR out (fun _ _ => by simp [hT]) hb hol (fun h => absurd ⟨hc.1, hc.2, hk⟩ h)
        rw [hk] at this; exact this
      · cases ht : takeP code r with
        | none =>
          rw [pts_none hr ht] at hT
          repeat' first
                                                            | (simp -implicitDefEqProofs (disch := omega) only [push_cast, ↓reduceIte, Nat.reduceEqDiff, reduceCtorEq, Nat.reduceAdd, Nat.reduceMul, Nat.reduceSub, Nat.reduceLT, Nat.reduceLeDiff, Int.reduceLT, Int.reduceLE, Int.reduceEq, Int.reduceNe, Int.reduceNeg, Int.reduceAdd, Int.reduceSub, Int.reduceMul, Int.reduceToNat, Nat.reducePow, Int.reducePow, Nat.reduceDiv, Nat.reduceMod, awp_dr, awp_bk, h0, hr, ht]; done)
                                                            | simp -implicitDefEqProofs (disch := omega) only [push_cast, ↓reduceIte, Nat.reduceEqDiff, reduceCtorEq, Nat.reduceAdd, Nat.reduceMul, Nat.reduceSub, Nat.reduceLT, Nat.reduceLeDiff, Int.reduceLT, Int.reduceLE, Int.reduceEq, Int.reduceNe, Int.reduceNeg, Int.reduceAdd, Int.reduceSub, Int.reduceMul, Int.reduceToNat, Nat.reducePow, Int.reducePow, Nat.reduceDiv, Nat.reduceMod, awp_dr, awp_bk, h0, hr, ht]
                                                            | refine takePoint_ok hr (by omega) hc ?_
                                                            | (with_reducible refine cdB_dec (fun hp hq => ?_) (fun hp hq => ?_) <;> first | (clear hq; refine False.elim ?_; omega) | (simp only [hq]; clear hq) | clear hq)
                                                            | (with_reducible refine gB_dec (fun hp hq => ?_) (fun hp hq => ?_) <;> first | (clear hq; refine False.elim ?_; omega) | (simp only [hq]; clear hq) | clear hq)
                                                            | (with_reducible refine gB_ndec (fun hp hq => ?_) (fun hp hq => ?_) <;> first | (clear hq; refine False.elim ?_; omega) | (simp only [hq]; clear hq) | clear hq)
                                                            | (with_reducible refine And.intro ?_ ?_; omega)
          exact ⟨_, Sub.tup2 Sub.nilv, bad (okPts_none (by rw [hT]; rfl))⟩
        | some x =>
          obtain ⟨p, n⟩ := x
          have hpt := takeP_pt hr ht
          rw [pts_cons hr ht] at hT
          repeat' first
                                                            | (simp -implicitDefEqProofs (disch := omega) only [push_cast, ↓reduceIte, Nat.reduceEqDiff, reduceCtorEq, Nat.reduceAdd, Nat.reduceMul, Nat.reduceSub, Nat.reduceLT, Nat.reduceLeDiff, Int.reduceLT, Int.reduceLE, Int.reduceEq, Int.reduceNe, Int.reduceNeg, Int.reduceAdd, Int.reduceSub, Int.reduceMul, Int.reduceToNat, Nat.reducePow, Int.reducePow, Nat.reduceDiv, Nat.reduceMod, awp_dr, awp_bk, h0, hr, ht, h6.ln]; done)
                                                            | simp -implicitDefEqProofs (disch := omega) only [push_cast, ↓reduceIte, Nat.reduceEqDiff, reduceCtorEq, Nat.reduceAdd, Nat.reduceMul, Nat.reduceSub, Nat.reduceLT, Nat.reduceLeDiff, Int.reduceLT, Int.reduceLE, Int.reduceEq, Int.reduceNe, Int.reduceNeg, Int.reduceAdd, Int.reduceSub, Int.reduceMul, Int.reduceToNat, Nat.reducePow, Int.reducePow, Nat.reduceDiv, Nat.reduceMod, awp_dr, awp_bk, h0, hr, ht, h6.ln]
                                                            | refine takePoint_ok hr (by omega) hc ?_
                                                            | (with_reducible refine cdB_dec (fun hp hq => ?_) (fun hp hq => ?_) <;> first | (clear hq; refine False.elim ?_; omega) | (simp only [hq]; clear hq) | clear hq)
                                                            | (with_reducible refine gB_dec (fun hp hq => ?_) (fun hp hq => ?_) <;> first | (clear hq; refine False.elim ?_; omega) | (simp only [hq]; clear hq) | clear hq)
                                                            | (with_reducible refine gB_ndec (fun hp hq => ?_) (fun hp hq => ?_) <;> first | (clear hq; refine False.elim ?_; omega) | (simp only [hq]; clear hq) | clear hq)
                                                            | (with_reducible refine And.intro ?_ ?_; omega)
          · refine ⟨_, Sub.tup2 Sub.nilv, bad ?_⟩
            unfold okPts
            rw [hT]
            cases pts code (r.drop n) with
            | none => rfl
            | some l => simp; omega
          · refine bind_app (fs := [natC p]) h6 (by simp) (by simp) (by simp [srcT, natC]) (by simp [natC]) (by simp [natC, cellA]) (by simp; omega) (by simp; omega) fun x' m' hx' hh' hk' => ?_
            have hx2 : LsE [15, 34] m' x' 1 ((out ++ [p]).map natC) := by simpa using hx'
            have hg : p ≤ 1114111 := by have := hpt.1; simp [goodP] at this; omega
            have hpl : out.length < 300 := by omega
            repeat' first
                                                            | (simp -implicitDefEqProofs (disch := omega) only [push_cast, ↓reduceIte, Nat.reduceEqDiff, reduceCtorEq, Nat.reduceAdd, Nat.reduceMul, Nat.reduceSub, Nat.reduceLT, Nat.reduceLeDiff, Int.reduceLT, Int.reduceLE, Int.reduceEq, Int.reduceNe, Int.reduceNeg, Int.reduceAdd, Int.reduceSub, Int.reduceMul, Int.reduceToNat, Nat.reducePow, Int.reducePow, Nat.reduceDiv, Nat.reduceMod, awp_dr, awp_bk, h0]; done)
                                                            | simp -implicitDefEqProofs (disch := omega) only [push_cast, ↓reduceIte, Nat.reduceEqDiff, reduceCtorEq, Nat.reduceAdd, Nat.reduceMul, Nat.reduceSub, Nat.reduceLT, Nat.reduceLeDiff, Int.reduceLT, Int.reduceLE, Int.reduceEq, Int.reduceNe, Int.reduceNeg, Int.reduceAdd, Int.reduceSub, Int.reduceMul, Int.reduceToNat, Nat.reducePow, Int.reducePow, Nat.reduceDiv, Nat.reduceMod, awp_dr, awp_bk, h0]
                                                            | (with_reducible refine cdB_dec (fun hp hq => ?_) (fun hp hq => ?_) <;> first | (clear hq; refine False.elim ?_; omega) | (simp only [hq]; clear hq) | clear hq)
                                                            | (with_reducible refine gB_dec (fun hp hq => ?_) (fun hp hq => ?_) <;> first | (clear hq; refine False.elim ?_; omega) | (simp only [hq]; clear hq) | clear hq)
                                                            | (with_reducible refine gB_ndec (fun hp hq => ?_) (fun hp hq => ?_) <;> first | (clear hq; refine False.elim ?_; omega) | (simp only [hq]; clear hq) | clear hq)
                                                            | (with_reducible refine And.intro ?_ ?_; omega)
            refine ⟨_, ?_, r.drop n, out ++ [p], rfl, ?_, ?_, hh', hx2, by simp; omega, ?_, ?_⟩
            · simp; omega
            · simp; omega
            · simp
            · rw [hT, Option.map_map]; congr 1; funext l; simp
            · intro q hq
              simp at hq
              rcases hq with hq | rfl
              · exact hb q hq
              · exact hg
  · have hd : decide (1 ≤ code ∧ code ≤ 3) = false := by simpa using hc
    rw [hd, Bool.false_and] at hR
    repeat' first
                                                            | (simp -implicitDefEqProofs (disch := omega) only [push_cast, ↓reduceIte, Nat.reduceEqDiff, reduceCtorEq, Nat.reduceAdd, Nat.reduceMul, Nat.reduceSub, Nat.reduceLT, Nat.reduceLeDiff, Int.reduceLT, Int.reduceLE, Int.reduceEq, Int.reduceNe, Int.reduceNeg, Int.reduceAdd, Int.reduceSub, Int.reduceMul, Int.reduceToNat, Nat.reducePow, Int.reducePow, Nat.reduceDiv, Nat.reduceMod, awp_dr, awp_bk]; done)
                                                            | simp -implicitDefEqProofs (disch := omega) only [push_cast, ↓reduceIte, Nat.reduceEqDiff, reduceCtorEq, Nat.reduceAdd, Nat.reduceMul, Nat.reduceSub, Nat.reduceLT, Nat.reduceLeDiff, Int.reduceLT, Int.reduceLE, Int.reduceEq, Int.reduceNe, Int.reduceNeg, Int.reduceAdd, Int.reduceSub, Int.reduceMul, Int.reduceToNat, Nat.reducePow, Int.reducePow, Nat.reduceDiv, Nat.reduceMod, awp_dr, awp_bk]
                                                            | (with_reducible refine cdB_dec (fun hp hq => ?_) (fun hp hq => ?_) <;> first | (clear hq; refine False.elim ?_; omega) | (simp only [hq]; clear hq) | clear hq)
                                                            | (with_reducible refine gB_dec (fun hp hq => ?_) (fun hp hq => ?_) <;> first | (clear hq; refine False.elim ?_; omega) | (simp only [hq]; clear hq) | clear hq)
                                                            | (with_reducible refine gB_ndec (fun hp hq => ?_) (fun hp hq => ?_) <;> first | (clear hq; refine False.elim ?_; omega) | (simp only [hq]; clear hq) | clear hq)
                                                            | (with_reducible refine And.intro ?_ ?_; omega)
    all_goals exact ⟨_, Sub.tup2 Sub.nilv, hR [] (fun h => absurd h hc) (by simp) (by simp) (fun _ => rfl)⟩
end Go.Proofs.YtgkiaoodalnceaaDoor
