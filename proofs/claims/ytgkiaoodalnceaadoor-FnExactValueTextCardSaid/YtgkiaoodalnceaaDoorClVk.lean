import Derived.Test.YtgkiaoodalnceaaDoorClVj
import Derived.Test.YtgkiaoodalnceaaDoorClSlW
/- Lists of parts: the program. -/
namespace Go.Proofs.YtgkiaoodalnceaaDoor
open Go SL VM
set_option maxRecDepth 100000
set_option linter.unusedVariables false
set_option linter.unusedSimpArgs false
attribute [local irreducible] SL.awp

theorem intC1 {l : List Int} : ∀ e ∈ l.map intC, e.length = 1 := intC_len
/-- Lists, each in memory that was made since. -/
def Kin (h0 h : Heap) (N : Nat) (es : List (List AV)) (f : Nat → List AV) : Prop :=
  es.length = N ∧ (∀ k, k < N → ∃ a, es[k]? = some [a] ∧ SlH h a (f k)) ∧ (∀ (k n sz o c : Nat), es[k]? = some [.sl n sz o c] → h0.nx ≤ n ∧ n < h.nx) ∧
  ∀ (k j n s1 o1 c1 s2 o2 c2 : Nat), es[k]? = some [.sl n s1 o1 c1] → es[j]? = some [.sl n s2 o2 c2] → k = j
def natA (k : Nat) : AV := .sc (.int .i64 k)
theorem Kin.start {h0 h : Heap} {N : Nat} {f : Nat → List AV} (hf : ∀ k, f k = []) : Kin h0 h N (List.replicate N [nilS]) f := by
  refine ⟨by simp, fun k hk => ⟨nilS, by simp [hk], .inl ⟨hf k, rfl⟩⟩, fun k n sz o c he => ?_, fun k j n s1 o1 c1 s2 o2 c2 he => ?_⟩
  all_goals
    rw [List.getElem?_replicate] at he
    split at he <;> simp [nilS] at he
theorem Kin.congr {h0 h : Heap} {N : Nat} {es : List (List AV)} {f g : Nat → List AV} (K : Kin h0 h N es f) (e : ∀ k, k < N → g k = f k) : Kin h0 h N es g :=
  ⟨K.1, fun k hk => by obtain ⟨a, h1, h2⟩ := K.2.1 k hk; exact ⟨a, h1, by rw [e k hk]; exact h2⟩, K.2.2⟩
/-- One more part behind. -/
theorem Kin.add {h0 h : Heap} {N : Nat} {es : List (List AV)} {f g : Nat → List AV} {v : AV} (K : Kin h0 h N es f) (hw : HW h) (hx : HX h0 h) {k : Nat} (hk : k < N) {a : AV} (ha : es[k]? = some [a])
    (hg : ∀ j, j < N → g j = if j = k then f k ++ [v] else f j) :
    HW (growH h a (f k) v) ∧ HX h0 (growH h a (f k) v) ∧ Kin h0 (growH h a (f k) v) N (es.set k [.sl h.nx 1 0 ((f k).length + 1)]) g := by
  obtain ⟨K1, K2, K3, K4⟩ := K
  have hlt : k < es.length := by omega
  have hx1 := hx.1
  refine ⟨growH_hw hw, growH_hx hx fun n s o c e => by subst e; exact (K3 k n _ _ _ ha).1, by simp [K1], fun j hj => ?_, fun j n sz o c he => ?_, fun j1 j2 n s1 o1 c1 s2 o2 c2 h1 h2 => ?_⟩
  · rw [hg j hj]
    by_cases hjk : j = k
    · subst hjk
      exact ⟨.sl h.nx 1 0 ((f j).length + 1), by simp [hlt], by rw [if_pos rfl]; exact .grow⟩
    · obtain ⟨b, hb, hsb⟩ := K2 j hj
      refine ⟨b, by rw [List.getElem?_set_ne (by omega)]; exact hb, ?_⟩
      simp only [if_neg hjk]
      rcases hsb with hsb | ⟨n, g1, rfl, g2⟩
      · exact .inl hsb
      · refine .inr ⟨n, g1, rfl, ?_⟩
        rw [growH_ne (hw.lt g2) (fun s o c he => ?_)]
        · exact g2
        · subst he
          exact hjk (K4 j k n _ _ _ _ _ _ hb ha)
  · rw [growH_nx]
    rw [List.getElem?_set] at he
    split at he
    · simp [hlt] at he
      omega
    · have := K3 j n sz o c he; omega
  · rw [List.getElem?_set] at h1 h2
    split at h1 <;> split at h2
    · omega
    · simp [hlt] at h1
      have := K3 j2 n _ _ _ h2
      omega
    · simp [hlt] at h2
      have := K3 j1 n _ _ _ h1
      omega
    · exact K4 j1 j2 n _ _ _ _ _ _ h1 h2

theorem stand_hits {ups : List Int} {k : Nat} (h0 : 0 < k) (hp : ∀ j, j < k → standN ups j = true) : standN ups k = hits ups (upAt ups k) k ((k : Int) - 1) := by
  have key : ∀ (f : Nat) (a : Int), a ≤ (k : Int) - 1 → hits ups (upAt ups k) f a = true → 0 ≤ upAt ups k ∧ upAt ups k ≤ (k : Int) - 1 := by
    intro f
    induction f with
    | zero => intro a _ h; simp [hits] at h
    | succ f ih =>
      intro a ha h
      simp only [hits] at h
      split at h
      · cases h
      · split at h
        · omega
        · have := standN_up (hp a.toNat (by omega))
          have e : ((a.toNat : Nat) : Int) = a := by omega
          rw [e] at this
          exact ih _ (by omega) h
  cases hh : hits ups (upAt ups k) k ((k : Int) - 1)
  · simp only [standN, hh, Bool.or_false, show decide (k = 0) = false by simp; omega, Bool.and_false]
  · have := key _ _ (Int.le_refl _) hh
    simp only [standN, hh, Bool.or_true, Bool.and_true]
    have e1 : decide (k = 0 ↔ upAt ups k = -1) = true := by simp; omega
    have e2 : decide (-1 ≤ upAt ups k ∧ upAt ups k ≤ (k : Int) - 1) = true := by simp; omega
    rw [e1, e2]; rfl

theorem kin_ok {ups : List Int} {h : Heap} {R : AV → Heap → Prop} (hl : ups.length ≤ 1048576)
    (hR : ∀ es h', HW h' → HX h h' → (∀ k, k < ups.length → standN ups k = true) → Kin h h' ups.length es (fun k => (under ups k).map natA) → R (.tup [.vec es, .sc (.bool true)]) h')
    (hF : ∀ h', HW h' → HX h h' → (∃ k, k < ups.length ∧ standN ups k = false) → R (.tup [.vec [], .sc (.bool false)]) h') :
    ACalls Tryd.prog 46 [.vec (ups.map intC)] h R := by
  refine acalls_hw (by kernel_rfl) fun hw => ?_
  refine ACalls.sub (acalls_body c_impl_kin (by simp) ?_)
  unfold a_impl_kin
  repeat' first
                                                            | (simp -implicitDefEqProofs (disch := omega) only [push_cast, ↓reduceIte, Nat.reduceEqDiff, reduceCtorEq, Nat.reduceAdd, Nat.reduceMul, Nat.reduceSub, Nat.reduceLT, Nat.reduceLeDiff, Int.reduceLT, Int.reduceLE, Int.reduceEq, Int.reduceNe, Int.reduceNeg, Int.reduceAdd, Int.reduceSub, Int.reduceMul, Int.reduceToNat, Nat.reducePow, Int.reducePow, Nat.reduceDiv, Nat.reduceMod, awp_dr]; done)
                                                            | simp -implicitDefEqProofs (disch := omega) only [push_cast, ↓reduceIte, Nat.reduceEqDiff, reduceCtorEq, Nat.reduceAdd, Nat.reduceMul, Nat.reduceSub, Nat.reduceLT, Nat.reduceLeDiff, Int.reduceLT, Int.reduceLE, Int.reduceEq, Int.reduceNe, Int.reduceNeg, Int.reduceAdd, Int.reduceSub, Int.reduceMul, Int.reduceToNat, Nat.reducePow, Int.reducePow, Nat.reduceDiv, Nat.reduceMod, awp_dr]
                                                            | (with_reducible refine cdB_dec (fun hp hq => ?_) (fun hp hq => ?_) <;> first | (clear hq; refine False.elim ?_; omega) | (simp only [hq]; clear hq) | clear hq)
                                                            | (with_reducible refine gB_dec (fun hp hq => ?_) (fun hp hq => ?_) <;> first | (clear hq; refine False.elim ?_; omega) | (simp only [hq]; clear hq) | clear hq)
                                                            | (with_reducible refine gB_ndec (fun hp hq => ?_) (fun hp hq => ?_) <;> first | (clear hq; refine False.elim ?_; omega) | (simp only [hq]; clear hq) | clear hq)
                                                            | (with_reducible refine And.intro ?_ ?_; omega)
  refine bind_make (D := [10]) [nilS] (by simp) rfl rfl fun x m hx hh hk => ?_
  repeat' first
                                                            | (simp -implicitDefEqProofs (disch := omega) only [push_cast, ↓reduceIte, Nat.reduceEqDiff, reduceCtorEq, Nat.reduceAdd, Nat.reduceMul, Nat.reduceSub, Nat.reduceLT, Nat.reduceLeDiff, Int.reduceLT, Int.reduceLE, Int.reduceEq, Int.reduceNe, Int.reduceNeg, Int.reduceAdd, Int.reduceSub, Int.reduceMul, Int.reduceToNat, Nat.reducePow, Int.reducePow, Nat.reduceDiv, Nat.reduceMod, awp_dr]; done)
                                                            | simp -implicitDefEqProofs (disch := omega) only [push_cast, ↓reduceIte, Nat.reduceEqDiff, reduceCtorEq, Nat.reduceAdd, Nat.reduceMul, Nat.reduceSub, Nat.reduceLT, Nat.reduceLeDiff, Int.reduceLT, Int.reduceLE, Int.reduceEq, Int.reduceNe, Int.reduceNeg, Int.reduceAdd, Int.reduceSub, Int.reduceMul, Int.reduceToNat, Nat.reducePow, Int.reducePow, Nat.reduceDiv, Nat.reduceMod, awp_dr]
                                                            | (with_reducible refine cdB_dec (fun hp hq => ?_) (fun hp hq => ?_) <;> first | (clear hq; refine False.elim ?_; omega) | (simp only [hq]; clear hq) | clear hq)
                                                            | (with_reducible refine gB_dec (fun hp hq => ?_) (fun hp hq => ?_) <;> first | (clear hq; refine False.elim ?_; omega) | (simp only [hq]; clear hq) | clear hq)
                                                            | (with_reducible refine gB_ndec (fun hp hq => ?_) (fun hp hq => ?_) <;> first | (clear hq; refine False.elim ?_; omega) | (simp only [hq]; clear hq) | clear hq)
                                                            | (with_reducible refine And.intro ?_ ?_; omega)
  rw [awp_bk]
  refine awp_lpW 281474976702700 (fun d t m => ∃ (i : Nat) (es : List (List AV)), i ≤ ups.length ∧ d = ups.length - i ∧ t 13 = .v (.sc (.int .i64 i)) ∧ HW m.h ∧ HX h m.h ∧ LsE [10] m x 1 es ∧ Kin h m.h ups.length es (fun k => (underTo ups k i).map natA) ∧
    ∀ j, j < i → standN ups j = true) ups.length (by kernel_rfl) ?_ ?_
  · exact ⟨0, _, Nat.zero_le _, by simp, rfl, by simpa [hh] using hw, by simpa [hh] using HX.refl h, hx, by simpa [hh] using Kin.start (fun k => by simp [underTo]), fun j hj => absurd hj (Nat.not_lt_zero _)⟩
  · rintro d t ⟨ml, mc, mh⟩ ⟨i, es, hi, rfl, h13, hw', hX, hx', hK, hok⟩
    simp only at hw' hX hx' hK
    by_cases hlt : i < ups.length
    · obtain ⟨u, hu, hg⟩ := vget (k := .i64) intC_len hlt
      have hup : upAt ups i = u := by simp [upAt, hu]
      repeat' first
                                                            | (simp -implicitDefEqProofs (disch := omega) only [push_cast, ↓reduceIte, Nat.reduceEqDiff, reduceCtorEq, Nat.reduceAdd, Nat.reduceMul, Nat.reduceSub, Nat.reduceLT, Nat.reduceLeDiff, Int.reduceLT, Int.reduceLE, Int.reduceEq, Int.reduceNe, Int.reduceNeg, Int.reduceAdd, Int.reduceSub, Int.reduceMul, Int.reduceToNat, Nat.reducePow, Int.reducePow, Nat.reduceDiv, Nat.reduceMod, awp_dr, h13, hg, intC]; done)
                                                            | simp -implicitDefEqProofs (disch := omega) only [push_cast, ↓reduceIte, Nat.reduceEqDiff, reduceCtorEq, Nat.reduceAdd, Nat.reduceMul, Nat.reduceSub, Nat.reduceLT, Nat.reduceLeDiff, Int.reduceLT, Int.reduceLE, Int.reduceEq, Int.reduceNe, Int.reduceNeg, Int.reduceAdd, Int.reduceSub, Int.reduceMul, Int.reduceToNat, Nat.reducePow, Int.reducePow, Nat.reduceDiv, Nat.reduceMod, awp_dr, h13, hg, intC]
                                                            | (with_reducible refine cdB_dec (fun hp hq => ?_) (fun hp hq => ?_) <;> first | (clear hq; refine False.elim ?_; omega) | (simp only [hq]; clear hq) | clear hq)
                                                            | (with_reducible refine gB_dec (fun hp hq => ?_) (fun hp hq => ?_) <;> first | (clear hq; refine False.elim ?_; omega) | (simp only [hq]; clear hq) | clear hq)
                                                            | (with_reducible refine gB_ndec (fun hp hq => ?_) (fun hp hq => ?_) <;> first | (clear hq; refine False.elim ?_; omega) | (simp only [hq]; clear hq) | clear hq)
                                                            | (with_reducible refine And.intro ?_ ?_; omega)
      rw [awp_bk]
      repeat' first
                                                            | (simp -implicitDefEqProofs (disch := omega) only [push_cast, ↓reduceIte, Nat.reduceEqDiff, reduceCtorEq, Nat.reduceAdd, Nat.reduceMul, Nat.reduceSub, Nat.reduceLT, Nat.reduceLeDiff, Int.reduceLT, Int.reduceLE, Int.reduceEq, Int.reduceNe, Int.reduceNeg, Int.reduceAdd, Int.reduceSub, Int.reduceMul, Int.reduceToNat, Nat.reducePow, Int.reducePow, Nat.reduceDiv, Nat.reduceMod, awp_dr, h13, hg, intC]; done)
                                                            | simp -implicitDefEqProofs (disch := omega) only [push_cast, ↓reduceIte, Nat.reduceEqDiff, reduceCtorEq, Nat.reduceAdd, Nat.reduceMul, Nat.reduceSub, Nat.reduceLT, Nat.reduceLeDiff, Int.reduceLT, Int.reduceLE, Int.reduceEq, Int.reduceNe, Int.reduceNeg, Int.reduceAdd, Int.reduceSub, Int.reduceMul, Int.reduceToNat, Nat.reducePow, Int.reducePow, Nat.reduceDiv, Nat.reduceMod, awp_dr, h13, hg, intC]
                                                            | (with_reducible refine cdB_dec (fun hp hq => ?_) (fun hp hq => ?_) <;> first | (clear hq; refine False.elim ?_; omega) | (simp only [hq]; clear hq) | clear hq)
                                                            | (with_reducible refine gB_dec (fun hp hq => ?_) (fun hp hq => ?_) <;> first | (clear hq; refine False.elim ?_; omega) | (simp only [hq]; clear hq) | clear hq)
                                                            | (with_reducible refine gB_ndec (fun hp hq => ?_) (fun hp hq => ?_) <;> first | (clear hq; refine False.elim ?_; omega) | (simp only [hq]; clear hq) | clear hq)
                                                            | (with_reducible refine And.intro ?_ ?_; omega)
      · refine ⟨_, by omega, i + 1, es, by omega, rfl, by simp, hw', hX, hx', hK.congr fun k hk => ?_, fun j hj => ?_⟩
        · rw [underTo_step, if_neg (by omega), List.append_nil]
        · obtain rfl : j = i := by omega
          rw [standN_of hup (by omega) (by omega)]
          simp; omega
      · exact ⟨_, Sub.tup2 .nilv, hF mh hw' hX ⟨i, hlt, standN_no1 hup (by omega)⟩⟩
      · have hI : 0 < i := by omega
        rw [awp_bk]
        refine awp_lpW 34342961280 (fun d t m => ∃ (a : Int), a ≤ (i : Int) - 1 ∧ -1 ≤ a ∧ a + 1 ≤ (d : Int) ∧ t 7 = .v (.sc (.int .i64 a)) ∧ m = ⟨ml, mc, mh⟩ ∧ hits ups u d a = hits ups u i ((i : Int) - 1)) i (by kernel_rfl) ?_ ?_
        · exact ⟨(i : Int) - 1, by omega, by omega, by omega, rfl, rfl, rfl⟩
        · rintro d t2 m ⟨a, ha1, ha0, had, h7, rfl, hh⟩
          have hst : standN ups i = hits ups u i ((i : Int) - 1) := by rw [stand_hits hI hok, hup]
          repeat' first
                                                            | (simp -implicitDefEqProofs (disch := omega) only [push_cast, ↓reduceIte, Nat.reduceEqDiff, reduceCtorEq, Nat.reduceAdd, Nat.reduceMul, Nat.reduceSub, Nat.reduceLT, Nat.reduceLeDiff, Int.reduceLT, Int.reduceLE, Int.reduceEq, Int.reduceNe, Int.reduceNeg, Int.reduceAdd, Int.reduceSub, Int.reduceMul, Int.reduceToNat, Nat.reducePow, Int.reducePow, Nat.reduceDiv, Nat.reduceMod, awp_dr, h7]; done)
                                                            | simp -implicitDefEqProofs (disch := omega) only [push_cast, ↓reduceIte, Nat.reduceEqDiff, reduceCtorEq, Nat.reduceAdd, Nat.reduceMul, Nat.reduceSub, Nat.reduceLT, Nat.reduceLeDiff, Int.reduceLT, Int.reduceLE, Int.reduceEq, Int.reduceNe, Int.reduceNeg, Int.reduceAdd, Int.reduceSub, Int.reduceMul, Int.reduceToNat, Nat.reducePow, Int.reducePow, Nat.reduceDiv, Nat.reduceMod, awp_dr, h7]
                                                            | (with_reducible refine cdB_dec (fun hp hq => ?_) (fun hp hq => ?_) <;> first | (clear hq; refine False.elim ?_; omega) | (simp only [hq]; clear hq) | clear hq)
                                                            | (with_reducible refine gB_dec (fun hp hq => ?_) (fun hp hq => ?_) <;> first | (clear hq; refine False.elim ?_; omega) | (simp only [hq]; clear hq) | clear hq)
                                                            | (with_reducible refine gB_ndec (fun hp hq => ?_) (fun hp hq => ?_) <;> first | (clear hq; refine False.elim ?_; omega) | (simp only [hq]; clear hq) | clear hq)
                                                            | (with_reducible refine And.intro ?_ ?_; omega)
          · have hau : a = u := by assumption
            subst hau
            obtain ⟨k, rfl⟩ : ∃ k : Nat, a = (k : Int) := ⟨a.toNat, by omega⟩
            have hks : k < ups.length := by omega
            obtain ⟨b, hb, hsb⟩ := hK.2.1 k hks
            replace hsb : SlH mh b ((underTo ups k i).map natA) := hsb
            obtain ⟨q, hq1, hq2⟩ := hx'.get1 (k := .i64) hb
            have hlen : ((underTo ups k i).map natA).length + 1 ≤ 1048577 := by have := underTo_le ups k i; simp; omega
            have hap : ∀ ml mc, apT 1 45 1 8 ⟨ml, mc, mh⟩ (.v b) (.v (.vec [[.sc (.int .i64 i)]])) = some (.v (.sl mh.nx 1 0 ((underTo ups k i).length + 1)), ⟨ml, mc, growH mh b ((underTo ups k i).map natA) (natA i)⟩) := fun ml mc => by
              have := hsb.app (v := natA i) (d := 45) (bytes := 8) rfl (by omega) (by omega) ml mc
              rw [List.length_map] at this
              exact this
            obtain ⟨q2, ml2, hs1, hs2, hs3, hs4⟩ := hx'.set1 (k := .i64) (i := k) (a := .sl mh.nx 1 0 ((underTo ups k i).length + 1)) (by rw [hK.1]; exact hks) rfl
            obtain rfl : q = q2 := by simpa using (hq1 ⟨ml, mc, mh⟩).symm.trans (hs1 ⟨ml, mc, mh⟩)
            simp only at hq2 hs2 hs3
            repeat' first
                                                            | (simp -implicitDefEqProofs (disch := omega) only [push_cast, ↓reduceIte, Nat.reduceEqDiff, reduceCtorEq, Nat.reduceAdd, Nat.reduceMul, Nat.reduceSub, Nat.reduceLT, Nat.reduceLeDiff, Int.reduceLT, Int.reduceLE, Int.reduceEq, Int.reduceNe, Int.reduceNeg, Int.reduceAdd, Int.reduceSub, Int.reduceMul, Int.reduceToNat, Nat.reducePow, Int.reducePow, Nat.reduceDiv, Nat.reduceMod, awp_dr, h7, h13, hq1, hq2, hap, hs1, hs2]; done)
                                                            | simp -implicitDefEqProofs (disch := omega) only [push_cast, ↓reduceIte, Nat.reduceEqDiff, reduceCtorEq, Nat.reduceAdd, Nat.reduceMul, Nat.reduceSub, Nat.reduceLT, Nat.reduceLeDiff, Int.reduceLT, Int.reduceLE, Int.reduceEq, Int.reduceNe, Int.reduceNeg, Int.reduceAdd, Int.reduceSub, Int.reduceMul, Int.reduceToNat, Nat.reducePow, Int.reducePow, Nat.reduceDiv, Nat.reduceMod, awp_dr, h7, h13, hq1, hq2, hap, hs1, hs2]
                                                            | (with_reducible refine cdB_dec (fun hp hq => ?_) (fun hp hq => ?_) <;> first | (clear hq; refine False.elim ?_; omega) | (simp only [hq]; clear hq) | clear hq)
                                                            | (with_reducible refine gB_dec (fun hp hq => ?_) (fun hp hq => ?_) <;> first | (clear hq; refine False.elim ?_; omega) | (simp only [hq]; clear hq) | clear hq)
                                                            | (with_reducible refine gB_ndec (fun hp hq => ?_) (fun hp hq => ?_) <;> first | (clear hq; refine False.elim ?_; omega) | (simp only [hq]; clear hq) | clear hq)
                                                            | (with_reducible refine And.intro ?_ ?_; omega)
            have hkt : standN ups i = true := by
              rw [hst, ← hh]
              cases d with
              | zero => omega
              | succ d => simp only [hits, if_neg (show ¬ (k : Int) < 0 by omega), if_true]
            obtain ⟨g1, g2, g3⟩ := hK.add (v := natA i) (g := fun j => (underTo ups j (i + 1)).map natA) hw' hX hks hb (fun j hj => by
              simp only [underTo_step]
              by_cases hjk : j = k
              · subst hjk; rw [if_pos ⟨by omega, hu⟩, if_pos rfl]; simp
              · rw [if_neg (fun e => hjk (by rw [hu] at e; have := e.2; simp at this; omega)), if_neg hjk, List.append_nil])
            rw [List.length_map] at g3
            refine ⟨_, by omega, i + 1, _, by omega, rfl, by simp, g1, g2, hs3 _, g3, fun j hj => ?_⟩
            by_cases hji : j = i
            · rw [hji]; exact hkt
            · exact hok j (by omega)
          · rw [awp_bk]
            have hka : a.toNat < ups.length := by omega
            obtain ⟨w, hw1, hw2⟩ := vget (k := .i64) (l := ups) intC_len hka
            rw [show ((a.toNat : Nat) : Int) = a by omega] at hw2
            have hwa : upAt ups a = w := by simp [upAt, hw1]
            have hwl : -1 ≤ w ∧ w ≤ a - 1 := by
              have := standN_up (hok a.toNat (by omega))
              rw [show ((a.toNat : Nat) : Int) = a by omega, hwa] at this
              exact this
            repeat' first
                                                            | (simp -implicitDefEqProofs (disch := omega) only [push_cast, ↓reduceIte, Nat.reduceEqDiff, reduceCtorEq, Nat.reduceAdd, Nat.reduceMul, Nat.reduceSub, Nat.reduceLT, Nat.reduceLeDiff, Int.reduceLT, Int.reduceLE, Int.reduceEq, Int.reduceNe, Int.reduceNeg, Int.reduceAdd, Int.reduceSub, Int.reduceMul, Int.reduceToNat, Nat.reducePow, Int.reducePow, Nat.reduceDiv, Nat.reduceMod, awp_dr, h7, hw2, intC]; done)
                                                            | simp -implicitDefEqProofs (disch := omega) only [push_cast, ↓reduceIte, Nat.reduceEqDiff, reduceCtorEq, Nat.reduceAdd, Nat.reduceMul, Nat.reduceSub, Nat.reduceLT, Nat.reduceLeDiff, Int.reduceLT, Int.reduceLE, Int.reduceEq, Int.reduceNe, Int.reduceNeg, Int.reduceAdd, Int.reduceSub, Int.reduceMul, Int.reduceToNat, Nat.reducePow, Int.reducePow, Nat.reduceDiv, Nat.reduceMod, awp_dr, h7, hw2, intC]
                                                            | (with_reducible refine cdB_dec (fun hp hq => ?_) (fun hp hq => ?_) <;> first | (clear hq; refine False.elim ?_; omega) | (simp only [hq]; clear hq) | clear hq)
                                                            | (with_reducible refine gB_dec (fun hp hq => ?_) (fun hp hq => ?_) <;> first | (clear hq; refine False.elim ?_; omega) | (simp only [hq]; clear hq) | clear hq)
                                                            | (with_reducible refine gB_ndec (fun hp hq => ?_) (fun hp hq => ?_) <;> first | (clear hq; refine False.elim ?_; omega) | (simp only [hq]; clear hq) | clear hq)
                                                            | (with_reducible refine And.intro ?_ ?_; omega)
            have h0a : ¬ a < 0 := by omega
            cases d with
            | zero => omega
            | succ d => exact ⟨d, by omega, w, by omega, by omega, by omega, rfl, by rw [← hh]; simp only [hits, if_neg h0a, if_neg hp, hwa]⟩
          · have hz : hits ups u d a = false := by
              cases d with
              | zero => rfl
              | succ d => simp [hits, show a < 0 by omega]
            exact ⟨_, Sub.tup2 .nilv, hF mh hw' hX ⟨i, hlt, by rw [hst, ← hh, hz]⟩⟩
    · have hi : i = ups.length := by omega
      subst hi
      repeat' first
                                                            | (simp -implicitDefEqProofs (disch := omega) only [push_cast, ↓reduceIte, Nat.reduceEqDiff, reduceCtorEq, Nat.reduceAdd, Nat.reduceMul, Nat.reduceSub, Nat.reduceLT, Nat.reduceLeDiff, Int.reduceLT, Int.reduceLE, Int.reduceEq, Int.reduceNe, Int.reduceNeg, Int.reduceAdd, Int.reduceSub, Int.reduceMul, Int.reduceToNat, Nat.reducePow, Int.reducePow, Nat.reduceDiv, Nat.reduceMod, awp_dr, awp_bk, h13]; done)
                                                            | simp -implicitDefEqProofs (disch := omega) only [push_cast, ↓reduceIte, Nat.reduceEqDiff, reduceCtorEq, Nat.reduceAdd, Nat.reduceMul, Nat.reduceSub, Nat.reduceLT, Nat.reduceLeDiff, Int.reduceLT, Int.reduceLE, Int.reduceEq, Int.reduceNe, Int.reduceNeg, Int.reduceAdd, Int.reduceSub, Int.reduceMul, Int.reduceToNat, Nat.reducePow, Int.reducePow, Nat.reduceDiv, Nat.reduceMod, awp_dr, awp_bk, h13]
                                                            | (with_reducible refine cdB_dec (fun hp hq => ?_) (fun hp hq => ?_) <;> first | (clear hq; refine False.elim ?_; omega) | (simp only [hq]; clear hq) | clear hq)
                                                            | (with_reducible refine gB_dec (fun hp hq => ?_) (fun hp hq => ?_) <;> first | (clear hq; refine False.elim ?_; omega) | (simp only [hq]; clear hq) | clear hq)
                                                            | (with_reducible refine gB_ndec (fun hp hq => ?_) (fun hp hq => ?_) <;> first | (clear hq; refine False.elim ?_; omega) | (simp only [hq]; clear hq) | clear hq)
                                                            | (with_reducible refine And.intro ?_ ?_; omega)
      exact end_ls2 hx' (hR _ _ hw' hX hok (by simpa only [underTo_len] using hK))
end Go.Proofs.YtgkiaoodalnceaaDoor
