/-
  The law FnExactValueText answers true for every list of a type's nodes and every list of a value's nodes, and leaves both as they were. Its condition: Go's own tables that the card lists read as the program's text lays them (tied).
-/
import Derived.Test.YtgkiaoodalnceaaDoorClVq
import Derived.Test.YtgkiaoodalnceaaDoorRows
import Derived.ProofKit
import Derived.Lib.LaidU8
import Derived.Lib.LaidTab
import Derived.Deep.Slices
import Derived.Deep.Strs
import Derived.OpenShut
import Derived.Test.YtgkiaoodalnceaaDoorCards
import Derived.Test.YtgkiaoodalnceaaDoorTie
import Derived.Lay
import Derived.SevenTiedAt
/- The law FnExactValueText: what its body answers. -/
namespace Go.Proofs.YtgkiaoodalnceaaDoor
open Go SL VM
set_option maxRecDepth 100000
set_option linter.unusedVariables false
set_option linter.unusedSimpArgs false
attribute [local irreducible] SL.awp

theorem FnExactValueText_ok {lt : List TN} {lv : List VN} {h : Heap} {R : AV → Heap → Prop} (h1 : lt.length ≤ 9223372036854775807) (h2 : lv.length ≤ 9223372036854775807) (h3 : ∀ x ∈ lv, x.text.length ≤ 9223372036854775807 ∧ i64Ok x.n)
    (hR : ∀ h', R (.sc (.bool true)) h') : ACalls Tryd.prog 3 [.vec (lt.map tnC), .vec (lv.map vnC)] h R := by
  refine acalls_body c_laws_FnExactValueText (by simp) ?_
  unfold a_laws_FnExactValueText
  by_cases hA : (1048576 : Int) - lt.length < 0
  · repeat' first
                                                            | (simp -implicitDefEqProofs (disch := omega) only [push_cast, ↓reduceIte, Nat.reduceEqDiff, reduceCtorEq, Nat.reduceAdd, Nat.reduceMul, Nat.reduceSub, Nat.reduceLT, Nat.reduceLeDiff, Int.reduceLT, Int.reduceLE, Int.reduceEq, Int.reduceNe, Int.reduceNeg, Int.reduceAdd, Int.reduceSub, Int.reduceMul, Int.reduceToNat, Nat.reducePow, Int.reducePow, Nat.reduceDiv, Nat.reduceMod, awp_dr, if_pos hA]; done)
                                                            | simp -implicitDefEqProofs (disch := omega) only [push_cast, ↓reduceIte, Nat.reduceEqDiff, reduceCtorEq, Nat.reduceAdd, Nat.reduceMul, Nat.reduceSub, Nat.reduceLT, Nat.reduceLeDiff, Int.reduceLT, Int.reduceLE, Int.reduceEq, Int.reduceNe, Int.reduceNeg, Int.reduceAdd, Int.reduceSub, Int.reduceMul, Int.reduceToNat, Nat.reducePow, Int.reducePow, Nat.reduceDiv, Nat.reduceMod, awp_dr, if_pos hA]
                                                            | refine szTypeNodeS_ok (by omega) h1 ?_
                                                            | (with_reducible refine cdB_dec (fun hp hq => ?_) (fun hp hq => ?_) <;> first | (clear hq; refine False.elim ?_; omega) | (simp only [hq]; clear hq) | clear hq)
                                                            | (with_reducible refine gB_dec (fun hp hq => ?_) (fun hp hq => ?_) <;> first | (clear hq; refine False.elim ?_; omega) | (simp only [hq]; clear hq) | clear hq)
                                                            | (with_reducible refine gB_ndec (fun hp hq => ?_) (fun hp hq => ?_) <;> first | (clear hq; refine False.elim ?_; omega) | (simp only [hq]; clear hq) | clear hq)
                                                            | (with_reducible refine And.intro ?_ ?_; omega)
    exact hR _
  · repeat' first
                                                            | (simp -implicitDefEqProofs (disch := omega) only [push_cast, ↓reduceIte, Nat.reduceEqDiff, reduceCtorEq, Nat.reduceAdd, Nat.reduceMul, Nat.reduceSub, Nat.reduceLT, Nat.reduceLeDiff, Int.reduceLT, Int.reduceLE, Int.reduceEq, Int.reduceNe, Int.reduceNeg, Int.reduceAdd, Int.reduceSub, Int.reduceMul, Int.reduceToNat, Nat.reducePow, Int.reducePow, Nat.reduceDiv, Nat.reduceMod, awp_dr, if_neg hA]; done)
                                                            | simp -implicitDefEqProofs (disch := omega) only [push_cast, ↓reduceIte, Nat.reduceEqDiff, reduceCtorEq, Nat.reduceAdd, Nat.reduceMul, Nat.reduceSub, Nat.reduceLT, Nat.reduceLeDiff, Int.reduceLT, Int.reduceLE, Int.reduceEq, Int.reduceNe, Int.reduceNeg, Int.reduceAdd, Int.reduceSub, Int.reduceMul, Int.reduceToNat, Nat.reducePow, Int.reducePow, Nat.reduceDiv, Nat.reduceMod, awp_dr, if_neg hA]
                                                            | refine szTypeNodeS_ok (by omega) h1 ?_
                                                            | refine szValueS_ok (by omega) h2 (fun x hx => (h3 x hx).1) ?_
                                                            | (with_reducible refine cdB_dec (fun hp hq => ?_) (fun hp hq => ?_) <;> first | (clear hq; refine False.elim ?_; omega) | (simp only [hq]; clear hq) | clear hq)
                                                            | (with_reducible refine gB_dec (fun hp hq => ?_) (fun hp hq => ?_) <;> first | (clear hq; refine False.elim ?_; omega) | (simp only [hq]; clear hq) | clear hq)
                                                            | (with_reducible refine gB_ndec (fun hp hq => ?_) (fun hp hq => ?_) <;> first | (clear hq; refine False.elim ?_; omega) | (simp only [hq]; clear hq) | clear hq)
                                                            | (with_reducible refine And.intro ?_ ?_; omega)
    · exact hR _
    · have hB : ¬ (1048576 : Int) - lt.length - lv.length < 0 := fun hb => by rw [if_pos hb] at hp; omega
      rw [if_neg hB] at hp
      have hle := leftV_le (l := lv) (n := 1048576 - lt.length - lv.length) (by omega)
      have hl1 : lt.length ≤ 1048576 := by omega
      have hl2 : lv.length ≤ 1048576 := by omega
      have hv : ∀ x ∈ lv, x.text.length ≤ 1048576 ∧ i64Ok x.n := fun x hx => ⟨by have := hle.2 x hx; omega, (h3 x hx).2⟩
      have hbq : ∀ b : Bool, bqT true (.v (.sc (.bool b))) (.v (.sc (.bool b))) = some (.sc (.bool false)) := fun b => by cases b <;> rfl
      repeat' first
                                                            | (simp -implicitDefEqProofs (disch := omega) only [push_cast, ↓reduceIte, Nat.reduceEqDiff, reduceCtorEq, Nat.reduceAdd, Nat.reduceMul, Nat.reduceSub, Nat.reduceLT, Nat.reduceLeDiff, Int.reduceLT, Int.reduceLE, Int.reduceEq, Int.reduceNe, Int.reduceNeg, Int.reduceAdd, Int.reduceSub, Int.reduceMul, Int.reduceToNat, Nat.reducePow, Int.reducePow, Nat.reduceDiv, Nat.reduceMod, awp_dr, bs_eq, hbq, Bool.not_true]; done)
                                                            | simp -implicitDefEqProofs (disch := omega) only [push_cast, ↓reduceIte, Nat.reduceEqDiff, reduceCtorEq, Nat.reduceAdd, Nat.reduceMul, Nat.reduceSub, Nat.reduceLT, Nat.reduceLeDiff, Int.reduceLT, Int.reduceLE, Int.reduceEq, Int.reduceNe, Int.reduceNeg, Int.reduceAdd, Int.reduceSub, Int.reduceMul, Int.reduceToNat, Nat.reducePow, Int.reducePow, Nat.reduceDiv, Nat.reduceMod, awp_dr, bs_eq, hbq, Bool.not_true]
                                                            | refine toTypeNodeS_ok hl1 ?_
                                                            | refine toValueS_ok hl2 ?_
                                                            | refine ValueTextS_ok hl1 hl2 hv ?_
                                                            | refine ValueTextI_ok hl2 hv (fun h' _ _ => ?_)
                                                            | refine eqTypeNodeS_ok (by omega) ?_
                                                            | refine eqValueS_ok (by omega) ?_
                                                            | (with_reducible refine cdB_dec (fun hp hq => ?_) (fun hp hq => ?_) <;> first | (clear hq; refine False.elim ?_; omega) | (simp only [hq]; clear hq) | clear hq)
                                                            | (with_reducible refine gB_dec (fun hp hq => ?_) (fun hp hq => ?_) <;> first | (clear hq; refine False.elim ?_; omega) | (simp only [hq]; clear hq) | clear hq)
                                                            | (with_reducible refine gB_ndec (fun hp hq => ?_) (fun hp hq => ?_) <;> first | (clear hq; refine False.elim ?_; omega) | (simp only [hq]; clear hq) | clear hq)
                                                            | (with_reducible refine And.intro ?_ ?_; omega)
      exact hR _
end Go.Proofs.YtgkiaoodalnceaaDoor

/- What comes in: slices of nodes as lists of nodes; Go's own tables. -/
namespace Go.Proofs.YtgkiaoodalnceaaDoor
open Go SL VM Go.ChangeShapes Go.WideShapes Go.ChangeAt Go.RowKit
set_option maxRecDepth 100000
set_option linter.unusedVariables false
set_option linter.unusedSimpArgs false

theorem choose_list {α : Type} {Q : Nat → α → Prop} : ∀ n, (∀ i, i < n → ∃ x, Q i x) → ∃ l : List α, l.length = n ∧ ∀ i x, l[i]? = some x → Q i x
  | 0, _ => ⟨[], rfl, fun i x h => by simp at h⟩
  | n + 1, h => by
    obtain ⟨l, h1, h2⟩ := choose_list n fun i hi => h i (by omega)
    obtain ⟨x, hx⟩ := h n (by omega)
    refine ⟨l ++ [x], by simp [h1], fun i y hy => ?_⟩
    by_cases hi : i < l.length
    · rw [List.getElem?_append_left hi] at hy; exact h2 i y hy
    · rw [List.getElem?_append_right (by omega)] at hy
      have : i - l.length = 0 := by
        by_cases e : i - l.length = 0
        · exact e
        · rw [List.getElem?_eq_none (by simp; omega)] at hy; cases hy
      rw [this] at hy
      simp at hy
      subst hy
      rw [show i = n by omega]; exact hx
theorem lt_of_var {P : Program} {W : World} {name : String} {cs : Array Value} {b : Nat} (hb : P.globalNamed name = some b) (h : W.var? P name = some cs) : b < W.heap.size := by
  by_cases hlt : b < W.heap.size
  · exact hlt
  · unfold World.var? at h
    rw [hb] at h
    simp only [Option.bind_some] at h
    rw [Array.getElem?_eq_none (by omega)] at h
    simp at h
theorem lt_of_cell {W : World} {a : Addr} {v : Value} (h : W.cell? a = some v) : a.block < W.heap.size := by
  by_cases hlt : a.block < W.heap.size
  · exact hlt
  · unfold World.cell? at h
    rw [Array.getElem?_eq_none (by omega)] at h
    simp at h
def accL : List (Int × Int) := [(128, 191), (160, 191), (128, 159), (144, 191), (128, 143), (0, 0), (0, 0), (0, 0), (0, 0), (0, 0), (0, 0), (0, 0), (0, 0), (0, 0), (0, 0), (0, 0)]
theorem glob_of {W : World} {laid : List (String × DataW Unit)} (hL : laidMet Tryd.prog laid W) (h1 : ("internal/strconv.uint64pow10", Rows.laid_internal_strconv_uint64pow10) ∈ laid)
    (h2 : ("unicode/utf8.first", Rows.laid_unicode_utf8_first) ∈ laid) (h3 : ("unicode/utf8.acceptRanges", Rows.laid_unicode_utf8_acceptRanges) ∈ laid) :
    Glob Tryd.prog ⟨fun _ => none, fun b => b < W.heap.size⟩ W := by
  intro q hq b hb
  simp only [knownTabs, List.mem_cons, List.not_mem_nil, or_false] at hq
  rcases hq with rfl | rfl | rfl
  · obtain ⟨g, t, cs, fuel, p, hg, hty, hvar, hd⟩ := Lib.laidMet.reads hL h1
    refine ⟨lt_of_var hg hvar |> fun h => by rw [show b = g from Option.some.inj (hb.symm.trans hg)]; exact h, ?_⟩
    obtain rfl : g = 0 := Option.some.inj (hg.symm.trans (by kernel_rfl))
    obtain rfl : t = 142 := Option.some.inj (hty.symm.trans (by kernel_rfl))
    have e : Rows.laid_internal_strconv_uint64pow10 (H := Unit) = Lib.tabData .u64 ((List.range 20).map fun i => (10 : Int) ^ i) := by rfl
    rw [e] at hd
    have hcs := Lib.cells_of_tab Tryd.underlying142 Tryd.underlying81 (by kernel_rfl) (by kernel_rfl) hd
    rw [hvar]
    congr 1
    apply Array.toList_inj.1
    rw [hcs, List.map_map]
    rfl
  · obtain ⟨g, t, cs, fuel, p, hg, hty, hvar, hd⟩ := Lib.laidMet.reads hL h2
    refine ⟨lt_of_var hg hvar |> fun h => by rw [show b = g from Option.some.inj (hb.symm.trans hg)]; exact h, ?_⟩
    obtain rfl : g = 4 := Option.some.inj (hg.symm.trans (by kernel_rfl))
    obtain rfl : t = 162 := Option.some.inj (hty.symm.trans (by kernel_rfl))
    have e : Rows.laid_unicode_utf8_first = Lib.tabData .u8 ((List.range 256).map firstV) := by rfl
    rw [e] at hd
    have hcs := Lib.cells_of_tab Tryd.underlying162 Tryd.underlying5 (by kernel_rfl) (by kernel_rfl) hd
    rw [hvar]
    congr 1
    apply Array.toList_inj.1
    rw [hcs, List.map_map]
    rfl
  · obtain ⟨g, t, cs, fuel, p, hg, hty, hvar, hd⟩ := Lib.laidMet.reads hL h3
    refine ⟨lt_of_var hg hvar |> fun h => by rw [show b = g from Option.some.inj (hb.symm.trans hg)]; exact h, ?_⟩
    obtain rfl : g = 5 := Option.some.inj (hg.symm.trans (by kernel_rfl))
    obtain rfl : t = 165 := Option.some.inj (hty.symm.trans (by kernel_rfl))
    have e : Rows.laid_unicode_utf8_acceptRanges (H := Unit) = .agg (accL.map fun z => .agg [.lit (.int .u8 z.1), .lit (.int .u8 z.2)]) := by rfl
    rw [e] at hd
    have c164 : Tryd.prog.cellsOf 164 = 2 := by kernel_rfl
    have c5 : Tryd.prog.cellsOf 5 = 1 := by kernel_rfl
    obtain ⟨xs, m, _, _, hlen, _, _⟩ := DataW.trod_array Tryd.underlying165 hd
    rw [show Tryd.prog.cellsOf 165 = 32 by kernel_rfl] at hlen
    have key : ∀ i, i < 16 → ∃ z, accL[i]? = some z ∧ (cs.toList.drop (i * 2)).take 2 = [.int .u8 z.1, .int .u8 z.2] := by
      intro i hi
      obtain ⟨fuel', d, q, hdi, he⟩ := Lib.array_elem Tryd.underlying165 hd i hi
      rw [List.getElem?_map, Option.map_eq_some_iff] at hdi
      obtain ⟨z, hz, rfl⟩ := hdi
      refine ⟨z, hz, ?_⟩
      rw [c164] at he
      obtain ⟨y0, y1, n, hx, hl, hy0, hy1⟩ := trod_struct2 Tryd.underlying164 he
      simp only [Prod.mk.injEq, DataW.agg.injEq, List.cons.injEq, and_true] at hx
      obtain ⟨n0, e0, e0', _⟩ := DataW.trod_int Tryd.underlying5 hy0
      obtain ⟨n1, e1, e1', _⟩ := DataW.trod_int Tryd.underlying5 hy1
      rw [c164] at hl
      simp only [c5] at e0 e1
      obtain ⟨⟨hx0, hx1⟩, _⟩ := hx
      rw [e0'] at hx0
      rw [e1'] at hx1
      simp only [DataW.lit.injEq, Lit.int.injEq, true_and] at hx0 hx1
      generalize (cs.toList.drop (i * 2)).take 2 = u at *
      match u, hl with
      | [u0, u1], _ =>
        simp at e0 e1
        rw [e0, e1, hx0, hx1]
    rw [hvar]
    congr 1
    apply Array.toList_inj.1
    have hl32 : cs.toList.length = 32 := hlen
    apply List.ext_getElem? 
    intro j
    by_cases hj : j < 32
    · obtain ⟨z, hz, hu⟩ := key (j / 2) (by omega)
      have hget : cs.toList[j]? = ([Value.int .u8 z.1, .int .u8 z.2] : List Value)[j % 2]? := by
        rw [← hu, List.getElem?_take, if_pos (by omega), List.getElem?_drop]
        congr 1; omega
      rw [hget]
      have hall : ∀ j : Fin 32, ((accL[j.val / 2]?).map fun z => if j.val % 2 = 0 then z.1 else z.2) = ([128, 191, 160, 191, 128, 159, 144, 191, 128, 143, 0, 0, 0, 0, 0, 0, 0, 0, 0, 0, 0, 0, 0, 0, 0, 0, 0, 0, 0, 0, 0, 0] : List Int)[j.val]? := by decide
      have hj2 := hall ⟨j, hj⟩
      simp only [hz, Option.map_some] at hj2
      rw [List.getElem?_map, ← hj2, Option.map_some]
      rcases Nat.mod_two_eq_zero_or_one j with e | e <;> rw [e] <;> rfl
    · rw [List.getElem?_eq_none (by omega), List.getElem?_eq_none (by simp; omega)]
end Go.Proofs.YtgkiaoodalnceaaDoor

/- What comes in: slices of nodes as lists of nodes. -/
namespace Go.Proofs.YtgkiaoodalnceaaDoor
open Go SL VM Go.ChangeShapes Go.WideShapes Go.ChangeAt Go.RowKit
set_option maxRecDepth 100000
set_option linter.unusedVariables false
set_option linter.unusedSimpArgs false

theorem repL_sc {g : G} {w : World} : ∀ l : List Value, RepL g w (l.map AV.sc) l
  | [] => by simp [RepL]
  | a :: r => by
    simp only [List.map_cons, RepL, RepA]
    exact ⟨a, r, rfl, rfl, repL_sc r⟩
theorem repLL_sc {g : G} {w : World} {α : Type} {c : α → List Value} : ∀ l : List α, RepLL g w (l.map fun x => (c x).map AV.sc) (l.flatMap c)
  | [] => by simp [RepLL]
  | a :: r => by
    simp only [List.map_cons, RepLL, List.flatMap_cons]
    exact ⟨c a, _, rfl, repL_sc _, repLL_sc r⟩
theorem flatMap_get {α : Type} {c : α → List Value} {sz : Nat} (hc : ∀ x, (c x).length = sz) (h0 : 0 < sz) : ∀ {l : List α} {i : Nat} {v : Value}, (l.flatMap c)[i]? = some v → ∃ x, l[i / sz]? = some x ∧ (c x)[i % sz]? = some v
  | [], i, v, h => by simp at h
  | a :: r, i, v, h => by
    rw [List.flatMap_cons] at h
    by_cases hi : i < sz
    · rw [List.getElem?_append_left (by rw [hc]; exact hi)] at h
      rw [Nat.div_eq_of_lt hi, Nat.mod_eq_of_lt hi]
      exact ⟨a, rfl, h⟩
    · rw [List.getElem?_append_right (by rw [hc]; omega), hc] at h
      obtain ⟨x, h1, h2⟩ := flatMap_get hc h0 h
      have e1 : i / sz = (i - sz) / sz + 1 := by rw [← Nat.add_div_right _ h0]; congr 1; omega
      have e2 : i % sz = (i - sz) % sz := by conv => lhs; rw [show i = (i - sz) + sz by omega]
                                             exact Nat.add_mod_right _ _
      rw [e1, e2]
      exact ⟨x, by simpa using h1, h2⟩
/-- A slice that came in, as a list of what its elements are. -/
theorem read_slice {H : Type} {enc : TypeId × Value → H} {W : World} {t e : TypeId} {sz : Nat} {α : Type} {c : α → List Value} {Q : α → Prop} {v : Value} {d : DataW H} {ps : List MemPlace}
    (ht : Tryd.prog.underlying t = some (.slice e)) (hsz : Tryd.prog.cellsOf e = sz) (h0 : 0 < sz) (hc : ∀ x, (c x).length = sz)
    (hel : ∀ n cs x, DataW.trod enc Tryd.prog W 0 (fun _ => true) true n e cs = some x → ∃ y, cs = c y ∧ Q y)
    (hok : ∃ a len cap, v = .slice a len cap) (h : DataW.Trod enc Tryd.prog W 0 (fun _ => true) true t v d ps) :
    ∃ l : List α, l.length ≤ 9223372036854775807 ∧ (∀ y ∈ l, Q y) ∧ RepA ⟨fun _ => none, fun b => b < W.heap.size⟩ W (.vec (l.map fun y => (c y).map AV.sc)) v := by
  obtain ⟨a0, len0, cap0, rfl⟩ := hok
  obtain ⟨fuel, hf⟩ := h
  rcases Go.Deep.open_slice ht hf with ⟨hcs, hx⟩ | ⟨a, len, cap, m, n, D, Pl, hcs, _, hl, hm, hmm, hx, hat⟩
  · simp [Value.cells] at hcs
    obtain ⟨rfl, rfl, rfl⟩ := hcs
    refine ⟨[], by simp, by simp, ?_⟩
    simp only [List.map_nil, RepA]
    exact ⟨none, 0, 0, rfl, rfl, Nat.le_refl _, .inl trivial⟩
  · simp [Value.cells] at hcs
    obtain ⟨rfl, rfl, rfl⟩ := hcs
    simp only [if_true] at hmm
    have hmax : cap0 ≤ 9223372036854775807 := hm
    obtain ⟨l, hlen, hlx⟩ := choose_list (Q := fun i y => W.cells? 0 (a.add (i * sz)) sz = some (c y) ∧ Q y) len0 (fun i hi => by
      obtain ⟨cs', h1, h2⟩ := hat i (by omega)
      rw [hsz] at h1
      obtain ⟨y, rfl, hy⟩ := hel _ _ _ h2
      exact ⟨y, h1, hy⟩)
    refine ⟨l, by omega, fun y hy => by obtain ⟨i, hi, rfl⟩ := List.getElem_of_mem hy; exact (hlx i _ (List.getElem?_eq_getElem hi)).2, ?_⟩
    simp only [RepA]
    refine ⟨some a, len0, cap0, rfl, by simp [hlen], hl, ?_⟩
    by_cases hl0 : l = []
    · exact .inl (by rw [hl0]; rfl)
    · right
      have hcell : ∀ i y, l[i]? = some y → ∀ j v, (c y)[j]? = some v → W.cell? ((a.add (i * sz)).add j) = some v := by
        intro i y hi j v hj
        have h1 := (hlx i y hi).1
        unfold World.cells? at h1
        rw [if_pos (Nat.zero_le _)] at h1
        have hj2 : j < sz := by rw [← hc y]; exact (List.getElem?_eq_some_iff.1 hj).1
        obtain ⟨b, hb1, hb2⟩ := Lib.mapM_at h1 j j (by rw [List.getElem?_range hj2])
        rw [hj] at hb1
        injection hb1 with hb1
        rw [hb1]; exact hb2
      have hlp : 0 < l.length := List.length_pos_iff.2 hl0
      obtain ⟨z0, e0⟩ : ∃ z0, l[0]? = some z0 := ⟨_, List.getElem?_eq_getElem hlp⟩
      obtain ⟨w0, hc0⟩ : ∃ w0, (c z0)[0]? = some w0 := ⟨_, List.getElem?_eq_getElem (by rw [hc z0]; exact h0)⟩
      have hfirst := hcell 0 _ e0 0 _ hc0
      obtain ⟨ab, ao, asp⟩ := a
      have hspot : asp = none := by simpa [Addr.add] using World.cell?_spot hfirst
      subst hspot
      refine ⟨ab, ao, l.flatMap c, rfl, ⟨?_, fun i v hv => ?_⟩, repLL_sc l⟩
      · have := lt_of_cell hfirst
        simpa [Addr.add] using this
      · obtain ⟨x, hx1, hx2⟩ := flatMap_get hc h0 hv
        have := hcell _ x hx1 _ v hx2
        rw [Lib.add_plain, Lib.add_plain] at this
        rw [show ao + i = ao + i / sz * sz + i % sz by rw [Nat.add_assoc, Nat.div_add_mod' i sz]]
        exact this
def tnV (y : TN) : List Value := [.int .i64 y.kind, .int .i64 y.n, .int .i64 y.up]
def vnV (y : VN) : List Value := [.int .i64 y.n, .string (bs y.text), .int .i64 y.up]
theorem int_bounds {n : Int} (h : (Lit.int .i64 n).wf = true) : i64Ok n := by
  simpa [Lit.wf, IntKind.min, IntKind.max, IntKind.signed, IntKind.bits, i64Ok] using h
theorem el_TN {H : Type} {enc : TypeId × Value → H} {W : World} (n : Nat) (cs : List Value) (x : DataW H × List MemPlace) (h : DataW.trod enc Tryd.prog W 0 (fun _ => true) true n 51 cs = some x) : ∃ y, cs = tnV y ∧ True := by
  obtain ⟨y0, y1, y2, m, _, hl, h0, h1, h2⟩ := Go.Deep.trod_struct3 Tryd.underlying51 h
  have c3 : Tryd.prog.cellsOf 3 = 1 := by kernel_rfl
  rw [show Tryd.prog.cellsOf 51 = 3 by kernel_rfl] at hl
  obtain ⟨a, e0, _, _⟩ := DataW.trod_int Tryd.underlying3 h0
  obtain ⟨b, e1, _, _⟩ := DataW.trod_int Tryd.underlying3 h1
  obtain ⟨d, e2, _, _⟩ := DataW.trod_int Tryd.underlying3 h2
  simp only [c3] at e0 e1 e2
  match cs, hl with
  | [u0, u1, u2], _ =>
    simp at e0 e1 e2
    exact ⟨⟨a, b, d⟩, by rw [e0, e1, e2]; rfl, trivial⟩
theorem el_VN {H : Type} {enc : TypeId × Value → H} {W : World} (n : Nat) (cs : List Value) (x : DataW H × List MemPlace) (h : DataW.trod enc Tryd.prog W 0 (fun _ => true) true n 37 cs = some x) : ∃ y, cs = vnV y ∧ (y.text.length ≤ 9223372036854775807 ∧ i64Ok y.n) := by
  obtain ⟨y0, y1, y2, m, _, hl, h0, h1, h2⟩ := Go.Deep.trod_struct3 Tryd.underlying37 h
  have c3 : Tryd.prog.cellsOf 3 = 1 := by kernel_rfl
  have c9 : Tryd.prog.cellsOf 9 = 1 := by kernel_rfl
  rw [show Tryd.prog.cellsOf 37 = 3 by kernel_rfl] at hl
  obtain ⟨a, e0, _, ha⟩ := DataW.trod_int Tryd.underlying3 h0
  obtain ⟨s, e1, _, hs⟩ := DataW.trod_string Tryd.underlying9 h1
  obtain ⟨d, e2, _, _⟩ := DataW.trod_int Tryd.underlying3 h2
  simp only [c3, c9] at e0 e1 e2
  match cs, hl with
  | [u0, u1, u2], _ =>
    simp at e0 e1 e2
    refine ⟨⟨a, s.data.toList, d⟩, by rw [e0, e1, e2]; simp [vnV, bs_toList], ?_, int_bounds ha⟩
    have : s.size ≤ 9223372036854775807 := hs
    simpa using this
end Go.Proofs.YtgkiaoodalnceaaDoor

/-
  The law FnExactValueText is true for every type's list of nodes and every value's list of nodes: its tied card. No condition beyond the card's own: Go's listed tables read as the program's own text lays them.
-/
namespace Go.Proofs.YtgkiaoodalnceaaDoor
open Go SL VM Go.ChangeShapes Go.WideShapes Go.ChangeAt Go.RowKit
set_option maxRecDepth 100000
set_option linter.unusedVariables false
set_option linter.unusedSimpArgs false

theorem law_calls {W : World} {v0 v1 : Value} {lt : List TN} {lv : List VN} (hG : Glob Tryd.prog ⟨fun _ => none, fun b => b < W.heap.size⟩ W) (h1 : lt.length ≤ 9223372036854775807) (h2 : lv.length ≤ 9223372036854775807)
    (h3 : ∀ x ∈ lv, x.text.length ≤ 9223372036854775807 ∧ i64Ok x.n) (r0 : RepA ⟨fun _ => none, fun b => b < W.heap.size⟩ W (.vec (lt.map tnC)) v0) (r1 : RepA ⟨fun _ => none, fun b => b < W.heap.size⟩ W (.vec (lv.map vnC)) v1) :
    Calls Tryd.prog 3 #[v0, v1] W fun e W' => e = .returned (.bool true) ∧ Below W.heap.size W W' := by
  have hc := FnExactValueText_ok (lt := lt) (lv := lv) (h := ⟨fun _ => none, 0⟩) (R := fun r _ => r = .sc (.bool true)) h1 h2 h3 (fun _ => rfl)
  refine (hc.2 ⟨fun _ => none, fun b => b < W.heap.size⟩ W [v0, v1] hG ⟨fun n cs h => (by cases h), fun n m cs ds b h => (by cases h), fun n _ => ⟨rfl, rfl⟩, fun b h => h, fun n b h => (by cases h)⟩ (by simp only [RepL]; exact ⟨_, _, rfl, r0, _, _, rfl, r1, rfl⟩)).mono ?_
  rintro e W' ⟨r, h', g', v, rfl, rfl, hr, hs, hx⟩
  simp only [RepA] at hr
  subst hr
  exact ⟨rfl, hx.os, hx.tape, hx.output, hx.size, fun k hk => hx.keep k hk (by rintro ⟨n, cs, hm, _⟩; cases hm)⟩
theorem own : ownKnob Tryd.prog.godebug = none := by kernel_rfl
theorem laidOut : laidOutB Tryd.prog = true := by kernel_rfl
theorem lifted (os : Os) (started : os.Started) (H : Type) (enc : TypeId × Value → H) :
    ReturnsInHanded {} Tryd.checked os 3 .any (fun w args => (Rows.fnExactValueTextSpec.pre enc Tryd.prog Tryd.f3 [] false w args ∧ laidMetH Tryd.prog Rows.fnExactValueTextRow.laid w) ∧ sizedMet enc Tryd.prog Tryd.f3 (OpenSpec.ofChange Rows.fnExactValueTextSpec) false w args)
      (Rows.fnExactValueTextSpec.post enc Tryd.prog Tryd.f3 false true false false) := by
  refine returnsInHanded_of_change_and (C := Tryd.checked) (X := fun w _ => laidMetH Tryd.prog Rows.fnExactValueTextRow.laid w) (fun _ _ _ hh h => h.of_heap hh) own started (by kernel_rfl) Tryd.func3
    (ChangeSpec.witness_shaped (enc := enc) (C := Tryd.checked) (os := os) (X := fun w _ => laidMetH Tryd.prog Rows.fnExactValueTextRow.laid w) false (World.laidAll Tryd.prog os Rows.fnExactValueTextRow.laid) #[.slice none 0 0, .slice none 0 0] 8 (World.laidAll_os _ _ _)
      (World.shaped_of_ZipB (by kernel_rfl) (by kernel_rfl)) (by kernel_rfl) (by kernel_rfl) (by kernel_rfl)
      (by rw [MakeChecks.laidMetH_plain _ _ _ (by kernel_rfl)]; exact laidMet_laidAll _ (by kernel_rfl) (by kernel_rfl))) ?_
  intro W base args ds gs before hval0 hW _ _ hL _
  have hval : ∀ (j : Nat) t v, Tryd.f3.params[j]? = some t → args[j]? = some v → Value.okWide Tryd.prog W .any base t v := hval0
  have hW' := hW
  obtain ⟨p, q, hA0, hV, rfl, _, _⟩ := hW
  have hA : DataW.TrodAll enc Tryd.prog W 0 (fun _ => true) true Tryd.f3.params.toList args.toList ds p := hA0
  rw [Tryd.params3] at hA hval
  obtain ⟨v0, v1, d0, d1, p0, p1, rfl, rfl, rfl, h0, h1⟩ := trodAll_two hA
  obtain ⟨rfl, rfl⟩ := trodVars_none hV
  clear hA0 hval0
  simp only [List.append_nil] at hW'
  have hlt : ∀ x ∈ p0 ++ p1, x.block < W.heap.size := fun x hx => by simpa using hW'.lt x hx
  rw [MakeChecks.laidMetH_plain _ _ _ (by kernel_rfl)] at hL
  have hG := glob_of hL (by simp [Rows.fnExactValueTextRow]) (by simp [Rows.fnExactValueTextRow]) (by simp [Rows.fnExactValueTextRow])
  obtain ⟨lt, a1, _, a3⟩ := read_slice (sz := 3) (c := tnV) Tryd.underlying22 (by kernel_rfl) (by decide) (fun _ => rfl) el_TN (okWide_slice Tryd.underlying22 (hval 0 22 v0 rfl rfl)) h0
  obtain ⟨lv, b1, b2, b3⟩ := read_slice (sz := 3) (c := vnV) Tryd.underlying23 (by kernel_rfl) (by decide) (fun _ => rfl) el_VN (okWide_slice Tryd.underlying23 (hval 1 23 v1 rfl rfl)) h1
  refine (law_calls hG a1 b1 b2 a3 b3).mono fun e W' ⟨he, hb⟩ => ?_
  subst he
  refine ⟨_, rfl, _, _, _, [], p0 ++ p1, [], hW', trodAll_mk1 (shut_bool Tryd.underlying4 _), trodAll_mk2 (Below.trod laidOut (by kernel_rfl) (of_decide_eq_true (by kernel_rfl)) h0 hb fun x hx => hlt x (by simp [hx])) (Below.trod laidOut (by kernel_rfl) (of_decide_eq_true (by kernel_rfl)) h1 hb fun x hx => hlt x (by simp [hx])), rfl, hb.frame _, fun h => by cases h⟩
theorem fnExactValueText_said : Rows.FnExactValueTextSaid :=
  OpenClaim.holds_of_wide 3 Tryd.f3 rfl rfl rfl rfl rfl rfl rfl ⟨rfl, rfl, rfl, rfl, rfl⟩ rfl rfl rfl rfl rfl (by kernel_rfl) Tryd.func3 (by kernel_rfl)
    (of_decide_eq_true (by kernel_rfl)) (by unfold Func.isWrapper; first | (rw [if_pos (by decide +kernel)]; kernel_rfl) | (rw [if_neg (by decide +kernel)]; exact ⟨rfl, rfl⟩))
    (fun os started H enc _ => lifted os started H enc)
theorem fnExactValueText_holds : Rows.FnExactValueTextCardSaid :=
  Claim7.holds_tied_plain_at .later [] [.data, .data, .data, .data, .pinned] true (true, "58923c2d41576644d18e88fe82a6730426a523fac59d5fbc0967e591224f604a") false fnExactValueText_said (fun _ h => by cases h) (by kernel_rfl) (fun _ h => by cases h) fnExactValueText_row_tie rfl ⟨rfl, rfl⟩ (by kernel_rfl) rfl
    (fun f fn hf hfn => by
      obtain rfl : f = 3 := Option.some.inj ((show Tryd.prog.funcNamed "loop.example/g00209/laws.FnExactValueText" = some 3 by kernel_rfl).symm.trans hf) |>.symm
      obtain rfl : fn = Tryd.f3 := (Option.some.inj (Tryd.func3.symm.trans hfn)).symm
      exact ⟨by kernel_rfl, fun j t ht => by
        rw [Tryd.params3] at ht
        have hm : t ∈ [22, 23] := by simpa using Array.mem_of_getElem? ht
        have hall : ([22, 23].all fun u => !Tryd.prog.wantsStandIn u) = true := by kernel_rfl
        exact (show Tryd.prog.wantsStandIn t = false by simpa using List.all_eq_true.1 hall t hm)⟩)
    (by kernel_rfl)
end Go.Proofs.YtgkiaoodalnceaaDoor
#print axioms Go.Proofs.YtgkiaoodalnceaaDoor.fnExactValueText_holds
