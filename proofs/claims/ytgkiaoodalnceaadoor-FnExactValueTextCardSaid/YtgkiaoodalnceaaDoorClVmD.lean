import Derived.Test.YtgkiaoodalnceaaDoorClVmC
import Derived.Test.YtgkiaoodalnceaaDoorClVmT
import Derived.Lib.ItoaLen
import Derived.Lib.ItoaMem
/- Good types, good values, what fits, and texts of values. -/
namespace VM
open Go SL
set_option linter.unusedVariables false
set_option linter.unusedSimpArgs false

/-- The types that a value's parts have. -/
def kidTs (t : Ty) (n : Int) (len : Nat) : List Ty :=
  if t.kind = 13 then List.replicate len (t.kids.headD default)
  else if t.kind = 14 then t.kids
  else if t.kind = 15 ∨ t.kind = 18 then (t.kids.drop n.toNat).take 1
  else if t.kind = 17 then t.kids.take n.toNat
  else []
/-- What must hold for the parts' types to be told. -/
def kidsCan (t : Ty) (n : Int) : Prop :=
  (t.kind = 13 → t.kids ≠ []) ∧ (t.kind = 15 ∨ t.kind = 18 → 0 ≤ n ∧ n < t.kids.length) ∧ (t.kind = 17 → 0 ≤ n ∧ n ≤ t.kids.length)
def boundsT (t : Ty) : Int × Int :=
  if t.kind = 1 ∨ t.kind = 17 ∨ t.kind = 18 then (0, 1) else if t.kind = 2 then (0, 255) else if t.kind = 3 then (-128, 127) else if t.kind = 4 then (0, 65535)
  else if t.kind = 5 then (-32768, 32767) else if t.kind = 6 ∨ t.kind = 10 then (0, 4294967295) else if t.kind = 7 then (-2147483648, 2147483647)
  else if t.kind = 8 ∨ t.kind = 9 then (-9223372036854775808, 9223372036854775807) else if t.kind = 11 then (0, 1114111) else if t.kind = 15 then (0, (t.kids.length : Int) - 1)
  else if t.kind = 16 then (0, 2 ^ t.n.toNat - 1) else if t.kind = 19 then (0, t.n - 1) else if t.kind = 20 ∨ t.kind = 21 then (0, 100000) else (0, 0)
/-- A number without a sign, by its 64 bits. -/
def uText (n : Int) : List UInt8 := Lib.decDigits (n % 18446744073709551616).toNat

/-- A type is good, down to a depth. -/
def TyOk : Nat → Ty → Prop
  | 0, _ => False
  | f + 1, t => (1 ≤ t.kind ∧ t.kind ≤ 21) ∧ ((shapeK t.kind).1 ≤ (t.kids.length : Int) ∧ (t.kids.length : Int) ≤ (shapeK t.kind).2.1) ∧ ((shapeK t.kind).2.2.1 ≤ t.n ∧ t.n ≤ (shapeK t.kind).2.2.2) ∧ ∀ k ∈ t.kids, TyOk f k
def i64Ok (n : Int) : Prop := -9223372036854775808 ≤ n ∧ n ≤ 9223372036854775807
/-- A value's sizes, down to a depth. -/
def VlB : Nat → Vl → Prop
  | 0, _ => True
  | f + 1, v => v.kids.length ≤ 1048576 ∧ v.text.length ≤ 1048576 ∧ i64Ok v.n ∧ ∀ k ∈ v.kids, VlB f k

theorem TyOk.kids_le {f : Nat} {t : Ty} (h : TyOk f t) : t.kids.length ≤ 8 := by
  cases f with
  | zero => exact h.elim
  | succ f =>
    have h8 : (shapeK t.kind).2.1 ≤ 8 := by
      unfold shapeK
      repeat' split
      all_goals decide
    have := h.2.1.2
    omega
theorem TyOk.range {f : Nat} {t : Ty} (h : TyOk f t) : 1 ≤ t.kind ∧ t.kind ≤ 21 := by
  cases f with
  | zero => exact h.elim
  | succ f => exact h.1
theorem TyOk.n16 {f : Nat} {t : Ty} (h : TyOk f t) (hk : t.kind = 16) : 1 ≤ t.n ∧ t.n ≤ 32 := by
  cases f with
  | zero => exact h.elim
  | succ f => have := h.2.2.1; simpa [shapeK, hk] using this
theorem TyOk.n19 {f : Nat} {t : Ty} (h : TyOk f t) (hk : t.kind = 19) : 1 ≤ t.n ∧ t.n ≤ 300 := by
  cases f with
  | zero => exact h.elim
  | succ f => have := h.2.2.1; simpa [shapeK, hk] using this
theorem TyOk.len {f : Nat} {t : Ty} (h : TyOk f t) : (shapeK t.kind).1 ≤ (t.kids.length : Int) ∧ (t.kids.length : Int) ≤ (shapeK t.kind).2.1 := by
  cases f with
  | zero => exact h.elim
  | succ f => exact h.2.1
theorem TyOk.kid {f : Nat} {t k : Ty} (h : TyOk (f + 1) t) (hk : k ∈ t.kids) : TyOk f k := h.2.2.2 k hk
theorem VlB.kid {f : Nat} {v k : Vl} (h : VlB (f + 1) v) (hk : k ∈ v.kids) : VlB f k := h.2.2.2 k hk
theorem TyOk.can {f : Nat} {t : Ty} {n : Int} (h : TyOk f t) (hb : (boundsT t).1 ≤ n ∧ n ≤ (boundsT t).2) : kidsCan t n := by
  have hl := h.len
  refine ⟨fun hk => ?_, fun hk => ?_, fun hk => ?_⟩
  · simp [shapeK, hk] at hl
    intro he; simp [he] at hl
  · rcases hk with hk | hk
    · simp [boundsT, hk] at hb; omega
    · simp [shapeK, hk] at hl; simp [boundsT, hk] at hb; omega
  · simp [shapeK, hk] at hl; simp [boundsT, hk] at hb; omega
theorem kidTs_mem {t : Ty} {n : Int} {len : Nat} {k : Ty} (h : kidsCan t n) (hk : k ∈ kidTs t n len) : k ∈ t.kids := by
  unfold kidTs at hk
  repeat' split at hk
  · rename_i h13
    obtain ⟨_, rfl⟩ := List.mem_replicate.1 hk
    cases he : t.kids with
    | nil => exact absurd he (h.1 h13)
    | cons a r => simp
  · exact hk
  · exact List.mem_of_mem_drop (List.mem_of_mem_take hk)
  · exact List.mem_of_mem_take hk
  · cases hk

/-- A float of 32 bits that is no number. -/
def nan32 (n : Int) : Bool := decide (n / 8388608 % 256 = 255 ∧ n % 8388608 ≠ 0)
def canonOk (n : Int) : Bool := !nan32 n || decide (n = 2143289344)

/-- What a value's own node must be. -/
def numOk (t : Ty) (v : Vl) : Bool :=
  decide ((boundsT t).1 ≤ v.n ∧ v.n ≤ (boundsT t).2) && (decide (t.kind = 12 ∨ v.text = []) &&
    (if t.kind = 10 then canonOk v.n else if t.kind = 11 then !decide (55296 ≤ v.n ∧ v.n ≤ 57343) else if t.kind = 12 then okPts 1 v.text && decide (v.text.length ≤ 200) else true))
def zipAll (f : Ty → Vl → Bool) : List Ty → List Vl → Bool
  | [], [] => true
  | t :: ts, v :: vs => f t v && zipAll f ts vs
  | _, _ => false
def fitsF : Nat → Ty → Vl → Bool
  | 0, _, _ => false
  | f + 1, t, v => numOk t v && zipAll (fitsF f) (kidTs t v.n v.kids.length) v.kids
theorem zipAll_len {f : Ty → Vl → Bool} : ∀ {ts : List Ty} {vs : List Vl}, zipAll f ts vs = true → ts.length = vs.length
  | [], [], _ => rfl
  | t :: ts, v :: vs, h => by simp only [zipAll, Bool.and_eq_true] at h; simp [zipAll_len h.2]
  | [], _ :: _, h => by simp [zipAll] at h
  | _ :: _, [], h => by simp [zipAll] at h
theorem zipAll_iff {f : Ty → Vl → Bool} : ∀ {ts : List Ty} {vs : List Vl}, ts.length = vs.length → (zipAll f ts vs = true ↔ ∀ (i : Nat) (t : Ty) (v : Vl), ts[i]? = some t → vs[i]? = some v → f t v = true)
  | [], [], _ => by simp [zipAll]
  | t :: ts, v :: vs, h => by
    have ih := zipAll_iff (f := f) (ts := ts) (vs := vs) (by simpa using h)
    simp only [zipAll, Bool.and_eq_true, ih]
    constructor
    · rintro ⟨h1, h2⟩ i a b ha hb
      cases i with
      | zero => simp at ha hb; subst ha hb; exact h1
      | succ i => simp at ha hb; exact h2 i a b ha hb
    · intro h
      exact ⟨h 0 t v rfl rfl, fun i a b ha hb => h (i + 1) a b (by simpa using ha) (by simpa using hb)⟩
theorem zipAll_false {f : Ty → Vl → Bool} {ts : List Ty} {vs : List Vl} {i : Nat} {t : Ty} {v : Vl} (h1 : ts[i]? = some t) (h2 : vs[i]? = some v) (h3 : f t v = false) : zipAll f ts vs = false := by
  cases hz : zipAll f ts vs
  · rfl
  · have := (zipAll_iff (zipAll_len hz)).1 hz i t v h1 h2
    rw [h3] at this; cases this
theorem zipAll_ne {f : Ty → Vl → Bool} {ts : List Ty} {vs : List Vl} (h : ts.length ≠ vs.length) : zipAll f ts vs = false := by
  cases hz : zipAll f ts vs
  · rfl
  · exact absurd (zipAll_len hz) h

/-! ### Good lists of nodes give good trees -/
theorem deep_mono {ups : List Int} (hS : Stand ups) {k i f : Nat} (hi : i < ups.length) (hu : upAt ups i = (k : Int)) (hki : k < i) (hf : i < f) : deepOf ups (i + 1) i = deepOf ups (k + 1) k + 1 := by
  have key : ∀ {f g : Nat} {a : Int}, (a + 1).toNat ≤ f → (a + 1).toNat ≤ g → a < ups.length → deepOf ups f a = deepOf ups g a := by
    intro f
    induction f with
    | zero =>
      intro g a h1 h2 ha
      have : a < 0 := by omega
      cases g with
      | zero => rfl
      | succ g => simp [deepOf, this]
    | succ f ih =>
      intro g a h1 h2 ha
      by_cases h0 : a < 0
      · cases g with
        | zero => simp [deepOf, h0]
        | succ g => simp [deepOf, h0]
      · obtain ⟨g, rfl⟩ : ∃ g', g = g' + 1 := ⟨g - 1, by omega⟩
        simp only [deepOf, if_neg h0]
        have h3 := standN_up (hS a.toNat (by omega))
        have e : ((a.toNat : Nat) : Int) = a := by omega
        rw [e] at h3
        rw [ih (g := g) (a := upAt ups a) (by omega) (by omega) (by omega)]
  rw [deepOf, if_neg (by omega), hu]
  congr 1
  exact key (by omega) (by omega) (by omega)

theorem goodT_stand {l : List TN} (h : goodT l = true) : Stand (l.map TN.up) := by
  intro k hk
  simp only [goodT, Bool.and_eq_true, List.all_eq_true] at h
  have h2 := h.2 k (by simpa using hk)
  obtain ⟨x, hx⟩ : ∃ x, l[k]? = some x := ⟨_, List.getElem?_eq_getElem (by simpa using hk)⟩
  simp only [okAt, hx, okN, Bool.and_eq_true] at h2
  exact h2.1
theorem goodV_stand {l : List VN} (h : goodV l = true) : Stand (l.map VN.up) := by
  intro k hk
  simp only [goodV, Bool.and_eq_true, List.all_eq_true] at h
  exact h.2 k (by simpa using hk)
theorem goodT_len {l : List TN} (h : goodT l = true) : 1 ≤ l.length ∧ l.length ≤ 40 := by
  simp only [goodT, Bool.and_eq_true, decide_eq_true_eq] at h; exact h.1
theorem goodV_len {l : List VN} (h : goodV l = true) : 1 ≤ l.length ∧ l.length ≤ 100 := by
  simp only [goodV, Bool.and_eq_true, decide_eq_true_eq] at h; exact h.1

theorem tree_ok {l : List TN} (h : goodT l = true) : ∀ (d k f : Nat), k < l.length → l.length - k ≤ f → 9 - deepOf (l.map TN.up) (k + 1) k ≤ d → TyOk d (treeF f l k) := by
  have hS := goodT_stand h
  intro d
  induction d with
  | zero =>
    intro k f hk hf hd
    have h2 := h
    simp only [goodT, Bool.and_eq_true, List.all_eq_true] at h2
    have h3 := h2.2 k (by simpa using hk)
    obtain ⟨x, hx⟩ : ∃ x, l[k]? = some x := ⟨_, List.getElem?_eq_getElem hk⟩
    simp only [okAt, hx, okN, Bool.and_eq_true, decide_eq_true_eq] at h3
    omega
  | succ d ih =>
    intro k f hk hf hd
    obtain ⟨f, rfl⟩ : ∃ g, f = g + 1 := ⟨f - 1, by omega⟩
    have h2 := h
    simp only [goodT, Bool.and_eq_true, List.all_eq_true] at h2
    have h3 := h2.2 k (by simpa using hk)
    obtain ⟨x, hx⟩ : ∃ x, l[k]? = some x := ⟨_, List.getElem?_eq_getElem hk⟩
    simp only [okAt, hx, okN, Bool.and_eq_true, decide_eq_true_eq] at h3
    simp only [treeF, hx]
    refine ⟨h3.2.1, ?_, h3.2.2.2.2, fun t ht => ?_⟩
    · simpa [Ty.kids, Ty.kind] using h3.2.2.2.1
    · simp only [Ty.kids, List.mem_map] at ht
      obtain ⟨i, hi, rfl⟩ := ht
      have hm := under_mem.1 hi
      rw [List.length_map] at hm
      have hdp := deep_mono hS (i := i) (k := k) (f := i + 1) (by simpa using hm.2.1) hm.2.2 hm.1 (by omega)
      exact ih i f hm.2.1 (by omega) (by omega)
theorem goodT_ok {l : List TN} (h : goodT l = true) {f : Nat} (hf : l.length ≤ f) : TyOk 8 (treeF f l 0) := by
  have hl := goodT_len h
  have hS := goodT_stand h
  refine tree_ok h 8 0 f (by omega) (by omega) ?_
  simp [deepOf]

theorem vtree_b {l : List VN} (hl : l.length ≤ 1048576) (hx : ∀ x ∈ l, x.text.length ≤ 1048576 ∧ i64Ok x.n) : ∀ (d k f : Nat), VlB d (vtreeF f l k) := by
  intro d
  induction d with
  | zero => intro k f; trivial
  | succ d ih =>
    intro k f
    cases f with
    | zero => exact ⟨by simp [vtreeF, Vl.kids], by simp [vtreeF, Vl.text], by simp [vtreeF, Vl.n, i64Ok], by simp [vtreeF, Vl.kids]⟩
    | succ f =>
      simp only [vtreeF]
      cases hk : l[k]? with
      | none => exact ⟨by simp [Vl.kids], by simp [Vl.text], by simp [Vl.n, i64Ok], by simp [Vl.kids]⟩
      | some x =>
        have h1 := hx x (List.mem_of_getElem? hk)
        refine ⟨?_, h1.1, h1.2, fun v hv => ?_⟩
        · simp only [Vl.kids, List.length_map]
          rw [under_map]
          exact Nat.le_trans (underTo_le _ _ _) hl
        · simp only [Vl.kids, List.mem_map] at hv
          obtain ⟨i, _, rfl⟩ := hv
          exact ih i f
/-- A byte as a text's quotes have it. -/
def hexD (n : Nat) : UInt8 := UInt8.ofNat (if n < 10 then 48 + n else 87 + n)
def quoteB (b : UInt8) : List UInt8 := if b.toNat < 32 ∨ 126 < b.toNat ∨ b.toNat = 34 ∨ b.toNat = 92 then [92, hexD (b.toNat / 16), hexD (b.toNat % 16)] else [b]
def quoteL (l : List UInt8) : List UInt8 := l.flatMap quoteB
theorem quoteL_le (l : List UInt8) : (quoteL l).length ≤ 3 * l.length := by
  induction l with
  | nil => simp [quoteL]
  | cons b l ih =>
    simp only [quoteL, List.flatMap_cons, List.length_append, List.length_cons] at ih ⊢
    have : (quoteB b).length ≤ 3 := by unfold quoteB; split <;> simp
    omega
theorem quoteL_step {l : List UInt8} {i : Nat} {y : UInt8} (hy : l[i]? = some y) : quoteL (l.take (i + 1)) = quoteL (l.take i) ++ quoteB y := by
  rw [List.take_add_one, hy]; simp [quoteL, List.flatMap_append]
/-- The bytes of a value's text: what its own node tells, by the texts of its parts. -/
def nodeText (t : Ty) (v : Vl) (all : List UInt8) : List UInt8 :=
  if t.kind = 1 then (if v.n = 1 then [116, 114, 117, 101] else [102, 97, 108, 115, 101])
  else if t.kind = 8 then uText v.n
  else if t.kind = 12 then 34 :: (quoteL v.text ++ [34])
  else if t.kind = 13 then 91 :: (all ++ [93])
  else if t.kind = 14 then 40 :: (all ++ [41])
  else if t.kind = 15 then Lib.itoa v.n ++ 58 :: all
  else if t.kind = 17 then (if v.n = 0 then [110, 111, 110, 101] else 115 :: 111 :: 109 :: 101 :: 58 :: all)
  else if t.kind = 18 then (if v.n = 0 then 111 :: 107 :: 58 :: all else 101 :: 114 :: 114 :: 58 :: all)
  else Lib.itoa v.n
def textF : Nat → Ty → Vl → List UInt8
  | 0, _, _ => []
  | f + 1, t, v => nodeText t v (Lib.join (((kidTs t v.n v.kids.length).zip v.kids).map fun x => textF f x.1 x.2) [44])
end VM
