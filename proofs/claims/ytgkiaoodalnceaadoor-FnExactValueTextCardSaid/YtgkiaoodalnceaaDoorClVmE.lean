import Derived.Test.YtgkiaoodalnceaaDoorClVmD
import Derived.Lib.Join
/- How long a value's text is. -/
namespace VM
open Go SL
set_option linter.unusedVariables false
set_option linter.unusedSimpArgs false

theorem join_snoc (xs : List (List UInt8)) (y sep : List UInt8) : Lib.join (xs ++ [y]) sep = if xs = [] then y else Lib.join xs sep ++ sep ++ y := by
  cases xs with
  | nil => simp [Lib.join_one]
  | cons x r =>
    rw [List.cons_append, Lib.join_cons, Lib.join_cons, if_neg (by simp)]
    simp [Lib.joinTail, List.append_assoc]
def sumL (xs : List (List UInt8)) : Nat := (xs.map fun x => x.length + 1).sum
theorem sumL_append (a b : List (List UInt8)) : sumL (a ++ b) = sumL a + sumL b := by simp [sumL]
theorem join_le (xs : List (List UInt8)) : (Lib.join xs [44]).length ≤ sumL xs := by
  cases xs with
  | nil => simp [Lib.join_nil, sumL]
  | cons x r =>
    rw [Lib.join_length]
    have : Lib.lens (x :: r) + r.length + 1 = sumL (x :: r) := by
      simp only [Lib.lens, sumL]
      have key : ∀ l : List (List UInt8), (l.map fun x => x.length + 1).sum = (l.map (·.length)).sum + l.length := by
        intro l
        induction l with
        | nil => rfl
        | cons a l ih => simp only [List.map_cons, List.sum_cons, ih, List.length_cons]; omega
      rw [key]; simp; omega
    simp only [List.length_singleton, Nat.one_mul]
    omega

mutual
def wtV : Vl → Nat
  | .mk _ _ ks => wtVs ks + 1
def wtVs : List Vl → Nat
  | [] => 0
  | v :: r => wtV v + wtVs r
end
theorem wtV_eq (v : Vl) : wtV v = wtVs v.kids + 1 := by cases v; rfl
theorem wtVs_le {l : List Vl} {v : Vl} (h : v ∈ l) : wtV v ≤ wtVs l := by
  induction l with
  | nil => cases h
  | cons a l ih =>
    rcases List.mem_cons.1 h with rfl | h
    · simp only [wtVs]; omega
    · have := ih h; simp only [wtVs]; omega
theorem digits_le : ∀ {k u : Nat}, u < 10 ^ (k + 1) → (Lib.decDigits u).length ≤ k + 1
  | 0, u, h => by rw [Lib.decDigits, dif_pos (by omega)]; simp
  | k + 1, u, h => by
    rw [Lib.decDigits]
    split
    · simp
    · have := digits_le (k := k) (u := u / 10) (by rw [Nat.pow_succ] at h; omega)
      simp; omega
theorem uText_le (n : Int) : (uText n).length ≤ 20 := by
  unfold uText
  refine digits_le (k := 19) ?_
  omega
theorem textF_le : ∀ {f : Nat} {t : Ty} {v : Vl}, VlB f v → fitsF f t v = true → (textF f t v).length + 1 ≤ 700 * wtV v := by
  intro f
  induction f with
  | zero => intro t v hv h; simp [fitsF] at h
  | succ f ih =>
    intro t v hv h
    simp only [fitsF, Bool.and_eq_true] at h
    have hz : ∀ (ts : List Ty) (vs : List Vl), zipAll (fitsF f) ts vs = true → (∀ v ∈ vs, VlB f v) → sumL ((ts.zip vs).map fun x => textF f x.1 x.2) ≤ 700 * wtVs vs := by
      intro ts
      induction ts with
      | nil => intro vs _ _; simp [sumL]
      | cons t ts iht =>
        intro vs hvs hb
        cases vs with
        | nil => simp [zipAll] at hvs
        | cons v vs =>
          simp only [zipAll, Bool.and_eq_true] at hvs
          have h1 := ih (hb v (by simp)) hvs.1
          have h2 := iht vs hvs.2 (fun v hv => hb v (by simp [hv]))
          simp only [List.zip_cons_cons, List.map_cons, sumL, List.sum_cons, wtVs] at h2 ⊢
          omega
    have h1 := hz _ _ h.2 hv.2.2.2
    have h2 := join_le (((kidTs t v.n v.kids.length).zip v.kids).map fun x => textF f x.1 x.2)
    have h3 := uText_le v.n
    have h4 := Lib.itoa_length_le v.n hv.2.2.1.1 hv.2.2.1.2
    have h5 : t.kind = 12 → (quoteL v.text).length ≤ 600 := fun hk => by
      have := quoteL_le v.text
      have h6 := h.1
      simp [numOk, hk] at h6
      omega
    rw [wtV_eq]
    simp only [textF, nodeText]
    repeat' split
    all_goals first | (have := h5 (by assumption); simp only [List.length_cons, List.length_append, List.length_nil]; omega) | (simp only [List.length_cons, List.length_append, List.length_nil]; omega) | omega
theorem textF_part {f : Nat} {t : Ty} {v : Vl} (hv : VlB (f + 1) v) (h : fitsF (f + 1) t v = true) (i : Nat) : (Lib.join ((((kidTs t v.n v.kids.length).zip v.kids).map fun x => textF f x.1 x.2).take i) [44]).length ≤ 700 * wtV v := by
  simp only [fitsF, Bool.and_eq_true] at h
  have hz : ∀ (ts : List Ty) (vs : List Vl), zipAll (fitsF f) ts vs = true → (∀ v ∈ vs, VlB f v) → sumL ((ts.zip vs).map fun x => textF f x.1 x.2) ≤ 700 * wtVs vs := by
    intro ts
    induction ts with
    | nil => intro vs _ _; simp [sumL]
    | cons t ts iht =>
      intro vs hvs hb
      cases vs with
      | nil => simp [zipAll] at hvs
      | cons v vs =>
        simp only [zipAll, Bool.and_eq_true] at hvs
        have h1 := textF_le (hb v (by simp)) hvs.1
        have h2 := iht vs hvs.2 (fun v hv => hb v (by simp [hv]))
        simp only [List.zip_cons_cons, List.map_cons, sumL, List.sum_cons, wtVs] at h2 ⊢
        omega
  have h1 := hz _ _ h.2 hv.2.2.2
  have h2 := join_le ((((kidTs t v.n v.kids.length).zip v.kids).map fun x => textF f x.1 x.2).take i)
  have h3 : sumL ((((kidTs t v.n v.kids.length).zip v.kids).map fun x => textF f x.1 x.2).take i) ≤ sumL (((kidTs t v.n v.kids.length).zip v.kids).map fun x => textF f x.1 x.2) := by
    conv => rhs; rw [← List.take_append_drop i (((kidTs t v.n v.kids.length).zip v.kids).map fun x => textF f x.1 x.2)]
    rw [sumL_append]; omega
  rw [wtV_eq]; omega

/-! ### A good list's tree has as many nodes as the list -/
theorem wt_itree (l : List VN) : ∀ (f k : Nat), l.length - k ≤ f → k < l.length → wtV (vtreeF f l k) = (pre (itree (l.map VN.up) f k)).length := by
  intro f
  induction f with
  | zero => intro k h1 h2; omega
  | succ f ih =>
    intro k h1 hk
    obtain ⟨x, hx⟩ : ∃ x, l[k]? = some x := ⟨_, List.getElem?_eq_getElem hk⟩
    simp only [vtreeF, hx, itree, pre, wtV, List.length_cons]
    congr 1
    have key : ∀ (is : List Nat), (∀ i ∈ is, l.length - i ≤ f ∧ i < l.length) → wtVs (is.map (vtreeF f l)) = (pres (is.map (itree (l.map VN.up) f))).length := by
      intro is
      induction is with
      | nil => intro _; rfl
      | cons i is ihi =>
        intro h
        simp only [List.map_cons, wtVs, pres, List.length_append]
        rw [ih i (h i (by simp)).1 (h i (by simp)).2, ihi (fun j hj => h j (by simp [hj]))]
    refine key _ (fun i hi => ?_)
    have hm := under_mem.1 hi
    rw [List.length_map] at hm
    omega
theorem goodV_wt {l : List VN} (h : goodV l = true) {f : Nat} (hf : l.length ≤ f) : wtV (vtreeF f l 0) = l.length := by
  have hl := goodV_len h
  rw [wt_itree l f 0 (by omega) (by omega), pre_all (goodV_stand h) (by simp; omega) (by simpa using hf)]
  simp
end VM
