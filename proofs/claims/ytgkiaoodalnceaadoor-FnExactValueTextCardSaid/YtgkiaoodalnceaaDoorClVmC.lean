import Derived.Test.YtgkiaoodalnceaaDoorClVmB
/- The points of a text. -/
namespace VM
open Go SL
set_option linter.unusedVariables false
set_option linter.unusedSimpArgs false

def take16 (s : List UInt8) : Option (Nat × Nat) :=
  if s.length < 2 then none else
  let p := at0 s 0 + 256 * at0 s 1
  if p < 55296 ∨ 57343 < p then some (p, 2) else if 56320 ≤ p ∨ s.length < 4 then none else
  let q := at0 s 2 + 256 * at0 s 3
  if q < 56320 ∨ 57343 < q then none else some (65536 + (p - 55296) * 1024 + (q - 56320), 4)
def step16 (s : List UInt8) : Option (Nat × Nat) :=
  if s.length < 2 then none else
  let p := at0 s 0 + 256 * at0 s 1
  let q := at0 s 2 + 256 * at0 s 3
  if (55296 ≤ p ∧ p ≤ 56319) ∧ 3 < s.length ∧ 56320 ≤ q ∧ q ≤ 57343 then some (p % 1024 * 1024 + q % 1024 + 65536, 4) else some (p, 2)
def takeP (code : Int) (s : List UInt8) : Option (Nat × Nat) := if code = 1 then take8 s else if code = 2 then take16 s else some (at0 s 0, 1)
def stepS (code : Int) (s : List UInt8) : Option (Nat × Nat) := if code = 1 then step8 s else if code = 2 then step16 s else some (at0 s 0, 1)

def t16N (n p q : Nat) : Option (Nat × Nat) :=
  if n < 2 then none else if p < 55296 ∨ 57343 < p then some (p, 2) else if 56320 ≤ p ∨ n < 4 then none else
  if q < 56320 ∨ 57343 < q then none else some (65536 + (p - 55296) * 1024 + (q - 56320), 4)
theorem take16_N {s : List UInt8} : take16 s = t16N s.length (at0 s 0 + 256 * at0 s 1) (at0 s 2 + 256 * at0 s 3) := rfl
theorem t16N_a {n p q : Nat} (h : 2 ≤ n) (h2 : p < 55296 ∨ 57343 < p) : t16N n p q = some (p, 2) := by
  unfold t16N; rw [if_neg (by omega), if_pos h2]
theorem t16N_b {n p q : Nat} (h : 2 ≤ n) (h2 : 55296 ≤ p ∧ p ≤ 57343) (h3 : 56320 ≤ p ∨ n < 4) : t16N n p q = none := by
  unfold t16N; rw [if_neg (by omega), if_neg (by omega), if_pos h3]
theorem t16N_c {n p q : Nat} (h : 4 ≤ n) (h2 : 55296 ≤ p ∧ p < 56320) (h3 : q < 56320 ∨ 57343 < q) : t16N n p q = none := by
  unfold t16N; rw [if_neg (by omega), if_neg (by omega), if_neg (by omega), if_pos h3]
theorem t16N_d {n p q : Nat} (h : 4 ≤ n) (h2 : 55296 ≤ p ∧ p < 56320) (h3 : 56320 ≤ q ∧ q ≤ 57343) : t16N n p q = some (65536 + (p - 55296) * 1024 + (q - 56320), 4) := by
  unfold t16N; rw [if_neg (by omega), if_neg (by omega), if_neg (by omega), if_neg (by omega)]
theorem take16_step16 {s : List UInt8} : take16 s = (step16 s).bind fun x => if goodP x.1 = true then some x else none := by
  simp only [take16, step16, goodP, decide_eq_true_eq]
  have := at0_lt s 0; have := at0_lt s 1; have := at0_lt s 2; have := at0_lt s 3
  by_cases h1 : s.length < 2
  · simp [h1]
  · simp only [h1, if_false]
    split
    · rw [if_neg (by omega)]; simp only [Option.bind_some]; rw [if_pos (by omega)]
    · split
      · rw [if_neg (by omega)]; simp only [Option.bind_some]; rw [if_neg (by omega)]
      · split
        · rw [if_neg (by omega)]; simp only [Option.bind_some]; rw [if_neg (by omega)]
        · rw [if_pos (by omega)]; simp only [Option.bind_some]; rw [if_pos (by omega)]
          simp only [Option.some.injEq, Prod.mk.injEq, and_true]; omega
theorem takeP_stepS {code : Int} {s : List UInt8} (hs : s ≠ []) : takeP code s = (stepS code s).bind fun x => if goodP x.1 = true then some x else none := by
  unfold takeP stepS
  split
  · exact take8_step8 hs
  · split
    · exact take16_step16
    · have := at0_lt s 0
      have h : goodP (at0 s 0) = true := by simp [goodP]; omega
      simp [h]
theorem stepS_pt {code : Int} {s : List UInt8} {p n : Nat} (hs : s ≠ []) (h : stepS code s = some (p, n)) : p < 2097152 ∧ 1 ≤ n ∧ n ≤ s.length := by
  have := at0_lt s 0; have := at0_lt s 1; have := at0_lt s 2; have := at0_lt s 3
  have hl : 1 ≤ s.length := by
    cases s with
    | nil => exact absurd rfl hs
    | cons a b => simp
  unfold stepS at h
  split at h
  · exact step8_pt hs h
  · split at h
    · simp only [step16] at h
      repeat' split at h
      all_goals first | (cases h; done) | (simp only [Option.some.injEq, Prod.mk.injEq] at h; omega)
    · simp only [Option.some.injEq, Prod.mk.injEq] at h; omega
theorem takeP_pt {code : Int} {s : List UInt8} {p n : Nat} (hs : s ≠ []) (h : takeP code s = some (p, n)) : goodP p = true ∧ 1 ≤ n ∧ n ≤ s.length := by
  rw [takeP_stepS hs, Option.bind_eq_some_iff] at h
  obtain ⟨⟨q, k⟩, h1, h2⟩ := h
  split at h2
  · rename_i hg
    simp only [Option.some.injEq, Prod.mk.injEq] at h2
    obtain ⟨rfl, rfl⟩ := h2
    exact ⟨hg, (stepS_pt hs h1).2⟩
  · cases h2

/-- The points of a text of a code. -/
def pts (code : Int) (s : List UInt8) : Option (List Nat) :=
  if s = [] then some [] else match takeP code s with
    | none => none
    | some (p, n) => if h : 0 < n ∧ 0 < s.length then (pts code (s.drop n)).map (p :: ·) else none
termination_by s.length
decreasing_by simp only [List.length_drop]; omega
theorem pts_nil {code : Int} : pts code [] = some [] := by rw [pts]; simp
theorem pts_none {code : Int} {s : List UInt8} (hs : s ≠ []) (h : takeP code s = none) : pts code s = none := by
  rw [pts, if_neg hs, h]
theorem pts_cons {code : Int} {s : List UInt8} {p n : Nat} (hs : s ≠ []) (h : takeP code s = some (p, n)) : pts code s = (pts code (s.drop n)).map (p :: ·) := by
  have h1 := takeP_pt hs h
  rw [pts, if_neg hs, h]
  have : 0 < n ∧ 0 < s.length := by omega
  simp only [this, and_self, dite_true]
theorem pts_good {code : Int} : ∀ {k : Nat} {s : List UInt8} {l : List Nat}, s.length ≤ k → pts code s = some l → l.all goodP = true ∧ l.length ≤ s.length := by
  intro k
  induction k with
  | zero =>
    intro s l hk h
    have : s = [] := by cases s with
      | nil => rfl
      | cons a b => simp at hk
    subst this
    rw [pts_nil] at h
    cases h; exact ⟨rfl, Nat.le_refl _⟩
  | succ k ih =>
    intro s l hk h
    by_cases hs : s = []
    · subst hs; rw [pts_nil] at h; cases h; exact ⟨rfl, Nat.le_refl _⟩
    · cases ht : takeP code s with
      | none => rw [pts_none hs ht] at h; cases h
      | some x =>
        obtain ⟨p, n⟩ := x
        have hp := takeP_pt hs ht
        rw [pts_cons hs ht, Option.map_eq_some_iff] at h
        obtain ⟨l', h1, rfl⟩ := h
        have h2 := ih (s := s.drop n) (by simp; omega) h1
        have h3 := h2.2
        rw [List.length_drop] at h3
        refine ⟨by rw [List.all_cons, hp.1, h2.1]; rfl, by rw [List.length_cons]; omega⟩
/-- May so a text be taken: all points, at most 300 of them. -/
def okPts (code : Int) (s : List UInt8) : Bool :=
  match pts code s with
  | some l => decide (l.length ≤ 300)
  | none => false
theorem okPts_none {code : Int} {s : List UInt8} (h : pts code s = none) : okPts code s = false := by simp [okPts, h]
theorem allS {α : Type} {p : α → Bool} {l : List α} {i : Nat} {y : α} (h : (l.take i).all p = true) (hy : l[i]? = some y) (hp : p y = true) : (l.take (i + 1)).all p = true := by
  rw [List.take_add_one, hy, List.all_append, h]; simp [hp]
theorem allF {α : Type} {p : α → Bool} {l : List α} {i : Nat} {y : α} (hy : l[i]? = some y) (hp : p y = false) : l.all p = false := by
  rw [List.all_eq_false]; exact ⟨y, List.mem_of_getElem? hy, by simp [hp]⟩
theorem contN_ge : ∀ {l : List UInt8} {p : Nat}, p ≤ contN p l
  | [], p => Nat.le_refl _
  | b :: r, p => Nat.le_trans (by omega) (contN_ge (l := r) (p := p * 64 + b.toNat % 64))
theorem contN_lt : ∀ {l : List UInt8} {p k : Nat}, p < k → contN p l < k * 64 ^ l.length
  | [], p, k, h => by simpa [contN] using h
  | b :: r, p, k, h => by
    have := contN_lt (l := r) (p := p * 64 + b.toNat % 64) (k := k * 64) (by omega)
    simp only [contN, List.length_cons, Nat.pow_succ]
    calc _ < _ := this
      _ = _ := by rw [Nat.mul_assoc, Nat.mul_comm 64]
theorem ptOf_lt (s : List UInt8) : ptOf s < 2097152 := by
  unfold ptOf leadP leadN
  have := at0_lt s 0
  have key : ∀ (k n : Nat) (p : Nat), p < k → k * 64 ^ n ≤ 2097152 → contN p ((s.drop 1).take n) < 2097152 := by
    intro k n p hp hk
    have h1 := contN_lt (l := (s.drop 1).take n) hp
    have h2 : ((s.drop 1).take n).length ≤ n := List.length_take_le _ _
    have h3 : 64 ^ ((s.drop 1).take n).length ≤ 64 ^ n := Nat.pow_le_pow_right (by omega) h2
    have h4 := Nat.mul_le_mul_left k h3
    omega
  repeat' split
  · exact key 8 3 _ (by omega) (by decide)
  · exact key 16 2 _ (by omega) (by decide)
  · exact key 32 1 _ (by omega) (by decide)
  · exact key 256 0 _ (by omega) (by decide)
theorem at0_get {s : List UInt8} {i : Nat} {y : UInt8} (h : s[i]? = some y) : at0 s i = y.toNat := by simp [at0, h]
theorem byC_ofN {n : Nat} (h : n ≤ 255) : byC (UInt8.ofNat n) = [.sc (.int .u8 n)] := by
  have := byC_of (n := n) (by omega)
  simpa using this
theorem drop_get {α : Type} {l : List α} {i : Nat} {y : α} (h : l[i]? = some y) : l.drop i = y :: l.drop (i + 1) := by
  obtain ⟨hi, rfl⟩ := List.getElem?_eq_some_iff.1 h
  exact List.drop_eq_getElem_cons hi
theorem take_one {α : Type} {l : List α} {i : Nat} {y : α} (h : l[i]? = some y) : (l.take (i + 1)).drop i = [y] := by
  have hi : i < l.length := (List.getElem?_eq_some_iff.1 h).1
  have e : (l.take i).length = i := by rw [List.length_take]; omega
  rw [List.take_add_one, h]
  conv => lhs; arg 1; rw [← e]
  rw [List.drop_left]; rfl
theorem bor192 {a : Int} (h : 0 ≤ a ∧ a < 32) : borI .i64 192 a = 192 + a := bor_add 5 h (by decide) (by simp [IntKind.bits]; omega)
theorem bor224 {a : Int} (h : 0 ≤ a ∧ a < 16) : borI .i64 224 a = 224 + a := bor_add 4 h (by decide) (by simp [IntKind.bits]; omega)
theorem bor240 {a : Int} (h : 0 ≤ a ∧ a < 8) : borI .i64 240 a = 240 + a := bor_add 3 h (by decide) (by simp [IntKind.bits]; omega)
theorem bor128 {a : Int} (h : 0 ≤ a ∧ a < 64) : borI .i64 128 a = 128 + a := bor_add 6 h (by decide) (by simp [IntKind.bits]; omega)
theorem bor64 {a b : Int} (h : 0 ≤ a ∧ a < 2097152) (hb : 0 ≤ b ∧ b < 64) : borI .i64 (a * 64) b = a * 64 + b := bor_add 6 hb (by omega) (by simp [IntKind.bits]; omega)
theorem bor256 {a b : Int} (h : 0 ≤ a ∧ a < 256) (hb : 0 ≤ b ∧ b < 256) : borI .i64 a (b * 256) = a + b * 256 := by
  rw [bor_comm, bor_add 8 h (by omega) (by simp [IntKind.bits]; omega)]; omega
theorem bor1024 {a b : Int} (h : 0 ≤ a ∧ a < 2097152) (hb : 0 ≤ b ∧ b < 1024) : borI .i64 (a * 1024) b = a * 1024 + b := bor_add 10 hb (by omega) (by simp [IntKind.bits]; omega)
end VM
