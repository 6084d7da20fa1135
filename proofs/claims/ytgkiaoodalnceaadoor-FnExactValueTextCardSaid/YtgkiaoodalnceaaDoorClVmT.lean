import Derived.Test.YtgkiaoodalnceaaDoorClVmA
/- Lists of nodes in which each one stands right behind what it may stand behind: they are the trees, told from the top. -/
namespace VM
open Go SL
set_option linter.unusedVariables false
set_option linter.unusedSimpArgs false

/-- A tree of places. -/
inductive IT where
  | mk (k : Nat) (kids : List IT)
  deriving Inhabited
def itree (ups : List Int) : Nat → Nat → IT
  | 0, k => .mk k []
  | f + 1, k => .mk k ((under ups k).map (itree ups f))
mutual
def pre : IT → List Nat
  | .mk k ks => k :: pres ks
def pres : List IT → List Nat
  | [] => []
  | t :: r => pre t ++ pres r
end
theorem pres_append : ∀ (a b : List IT), pres (a ++ b) = pres a ++ pres b
  | [], b => rfl
  | t :: r, b => by simp [pres, pres_append r b]

/-- Is k met on the way up from i? -/
def anc (ups : List Int) (k : Nat) (i : Int) : Prop := hits ups k (i.toNat + 1) i = true

theorem hits_more {ups : List Int} {u : Int} : ∀ {f : Nat} {a : Int}, (a + 1).toNat ≤ f → (∀ j : Nat, (j : Int) ≤ a → upAt ups j ≤ (j : Int) - 1) → hits ups u f a = hits ups u (a + 1).toNat a
  | 0, a, hf, h => by
    have : (a + 1).toNat = 0 := by omega
    rw [this]
  | f + 1, a, hf, h => by
    by_cases ha : a < 0
    · have : (a + 1).toNat = 0 := by omega
      rw [this]; simp [hits, ha]
    · have e : (a + 1).toNat = a.toNat + 1 := by omega
      rw [e]
      simp only [hits, if_neg ha]
      by_cases hu : a = u
      · simp [hu]
      · simp only [if_neg hu]
        have h1 := h a.toNat (by omega)
        have e1 : ((a.toNat : Nat) : Int) = a := by omega
        rw [e1] at h1
        rw [hits_more (by omega) (fun j hj => h j (by omega)), hits_more (f := a.toNat) (by omega) (fun j hj => h j (by omega))]

/-- What a good list of nodes has: each node but the first one has a node around, met on the way up from the one ahead. -/
def Stand (ups : List Int) : Prop := ∀ k, k < ups.length → standN ups k = true
theorem Stand.up0 {ups : List Int} (h : Stand ups) (hl : 0 < ups.length) : upAt ups 0 = -1 := by
  have := h 0 hl
  simp only [standN, Bool.and_eq_true, decide_eq_true_eq] at this
  exact this.1.1 trivial
theorem Stand.upk {ups : List Int} (h : Stand ups) {k : Nat} (h0 : 0 < k) (hk : k < ups.length) : 0 ≤ upAt ups k ∧ upAt ups k ≤ (k : Int) - 1 ∧ hits ups (upAt ups k) k ((k : Int) - 1) = true := by
  have := h k hk
  simp only [standN, Bool.and_eq_true, decide_eq_true_eq, Bool.or_eq_true] at this
  obtain ⟨h1, h2, h3⟩ := this
  exact ⟨by omega, h2.2, h3.resolve_left (by omega)⟩

/-- The chain of a node: the node and those around. -/
inductive Up (ups : List Int) : Nat → Nat → Prop
  | refl (i : Nat) : Up ups i i
  | step {i p k : Nat} (hi : 0 < i) (h : upAt ups i = (p : Int)) (hu : Up ups p k) : Up ups i k

theorem Up.le {ups : List Int} (hS : Stand ups) {i k : Nat} (h : Up ups i k) (hi : i < ups.length) : k ≤ i := by
  induction h with
  | refl i => exact Nat.le_refl _
  | step h0 hu _ ih =>
    have := hS.upk h0 hi
    rw [hu] at this
    have := ih (by omega)
    omega
theorem hits_Up {ups : List Int} (hS : Stand ups) {u : Nat} : ∀ {f : Nat} {i : Nat}, i < ups.length → hits ups u f i = true → Up ups i u
  | 0, i, hi, h => by simp [hits] at h
  | f + 1, i, hi, h => by
    simp only [hits] at h
    rw [if_neg (by omega)] at h
    split at h
    · rename_i e
      have : i = u := by omega
      subst this; exact .refl _
    · rename_i e
      by_cases h0 : i = 0
      · subst h0
        have := hS.up0 (by omega)
        simp only [Int.natCast_zero, Int.toNat_zero] at h
        cases f with
        | zero => simp [hits] at h
        | succ f =>
          simp only [hits] at h
          rw [this] at h
          simp at h
      · have h1 := hS.upk (k := i) (by omega) hi
        obtain ⟨p, hp⟩ : ∃ p : Nat, upAt ups i = (p : Int) := ⟨(upAt ups i).toNat, by omega⟩
        rw [hp] at h
        exact .step (by omega) hp (hits_Up hS (by omega) h)
theorem Stand.Up {ups : List Int} (hS : Stand ups) {k : Nat} (h0 : 0 < k) (hk : k < ups.length) : ∃ p : Nat, upAt ups k = (p : Int) ∧ p < k ∧ VM.Up ups (k - 1) p := by
  have h := hS.upk h0 hk
  obtain ⟨p, hp⟩ : ∃ p : Nat, upAt ups k = (p : Int) := ⟨(upAt ups k).toNat, by omega⟩
  rw [hp] at h
  refine ⟨p, hp, by omega, hits_Up hS (by omega) (f := k) ?_⟩
  have : ((k - 1 : Nat) : Int) = (k : Int) - 1 := by omega
  rw [this]; exact h.2.2

/-- Behind the end of what is under k no node is under what is there. -/
theorem out_of {ups : List Int} (hS : Stand ups) {k e : Nat} (he : k < e) (hup : ∀ p : Nat, upAt ups e = (p : Int) → p < k) : ∀ (d i : Nat), i = e + d → i < ups.length → ∀ j, Up ups i j → j < k ∨ e ≤ j := by
  intro d
  induction d with
  | zero =>
    rintro i rfl hi j hj
    cases hj with
    | refl => right; omega
    | step h0 hu hj' =>
      have h1 := hup _ hu
      have := hj'.le hS (by have := (hS.upk h0 hi).2.1; rw [hu] at this; omega)
      left; omega
  | succ d ih =>
    rintro i rfl hi j hj
    cases hj with
    | refl => right; omega
    | step h0 hu hj' =>
      obtain ⟨p, hp, hlt, hU⟩ := hS.Up (k := e + (d + 1)) (by omega) hi
      rw [hu] at hp
      obtain rfl : _ = p := by exact Int.ofNat_inj.1 hp
      have h2 : VM.Up ups (e + d) _ := hU
      -- all that is around p is around e + d
      have trans : ∀ {a b c : Nat}, VM.Up ups a b → VM.Up ups b c → VM.Up ups a c := by
        intro a b c hab hbc
        induction hab with
        | refl => exact hbc
        | step h0 hu _ ih => exact .step h0 hu (ih hbc)
      exact ih (e + d) rfl (by omega) j (trans h2 hj')

theorem under_mem {ups : List Int} {k i : Nat} : i ∈ under ups k ↔ k < i ∧ i < ups.length ∧ upAt ups i = (k : Int) := by
  simp only [under, List.mem_filter, List.mem_range, Bool.and_eq_true, decide_eq_true_eq, beq_iff_eq, upAt]
  constructor
  · rintro ⟨h1, h2, h3⟩
    refine ⟨h2, h1, ?_⟩
    simp [h3]
  · rintro ⟨h1, h2, h3⟩
    refine ⟨h2, h1, ?_⟩
    have e : ups[i]? = some ups[i] := List.getElem?_eq_getElem h2
    simp only [Int.toNat_natCast, e, Option.getD_some] at h3
    rw [e, h3]

theorem Up.trans {ups : List Int} {a b c : Nat} (h : Up ups a b) (k : Up ups b c) : Up ups a c := by
  induction h with
  | refl => exact k
  | step h0 hu _ ih => exact .step h0 hu (ih k)
theorem Up.lin {ups : List Int} (hS : Stand ups) {i a c : Nat} (h : Up ups i a) : i < ups.length → Up ups i c → c ≤ a → Up ups a c := by
  induction h with
  | refl => intro _ k _; exact k
  | step h0 hu hr ih =>
    intro hi k hc
    have hq := (hS.upk h0 hi).2.1
    cases k with
    | refl =>
      rw [hu] at hq
      have := hr.le hS (by omega)
      omega
    | step h0' hu' hr' =>
      rw [hu] at hu' hq
      have e := Int.ofNat_inj.1 hu'
      subst e
      exact ih (by omega) hr' hc

/-- What is under a node lies behind it in one piece; the tree, told from the top, is that piece. -/
theorem pre_itree {ups : List Int} (hS : Stand ups) : ∀ (d k f : Nat), ups.length - k ≤ d → k < ups.length → d ≤ f →
    ∃ e, k < e ∧ e ≤ ups.length ∧ pre (itree ups f k) = List.range' k (e - k) ∧ (e < ups.length → upAt ups e < k) ∧ (∀ i, k ≤ i → i < e → Up ups i k) := by
  intro d
  induction d with
  | zero => intro k f h1 h2; omega
  | succ d ih =>
    intro k f h1 hk hf
    obtain ⟨f, rfl⟩ : ∃ g, f = g + 1 := ⟨f - 1, by omega⟩
    have key : ∀ (n b : Nat), ups.length - b ≤ n → k < b → b ≤ ups.length → (b < ups.length → upAt ups b ≤ k) →
        ∃ e, b ≤ e ∧ e ≤ ups.length ∧ pres (((List.range' b (ups.length - b)).filter fun i => decide (k < i) && (ups[i]? == some (k : Int))).map (itree ups f)) = List.range' b (e - b) ∧
          (e < ups.length → upAt ups e < k) ∧ (∀ i, b ≤ i → i < e → Up ups i k) := by
      intro n
      induction n with
      | zero =>
        intro b hb hkb hbl _
        have : b = ups.length := by omega
        subst this
        exact ⟨ups.length, Nat.le_refl _, Nat.le_refl _, by simp [pres], fun h => by omega, fun i h1 h2 => by omega⟩
      | succ n ihn =>
        intro b hb hkb hbl hup
        by_cases hbe : b = ups.length
        · subst hbe
          exact ⟨ups.length, Nat.le_refl _, Nat.le_refl _, by simp [pres], fun h => by omega, fun i h1 h2 => by omega⟩
        have hblt : b < ups.length := by omega
        obtain ⟨p, hp, hlt, hU⟩ := hS.Up (k := b) (by omega) hblt
        have hpk := hup hblt
        rw [hp] at hpk
        by_cases hpe : p = k
        · subst hpe
          obtain ⟨e, he1, he2, he3, he4, he5⟩ := ih b f (by omega) hblt (by omega)
          have hnext : e < ups.length → upAt ups e ≤ p := by
            intro hq
            have h4 := he4 hq
            obtain ⟨q, hqe, hqlt, hqU⟩ := hS.Up (k := e) (by omega) hq
            rw [hqe] at h4 ⊢
            have hb1 := he5 (e - 1) (by omega) (by omega)
            have hbq := hb1.lin hS (by omega) hqU (by omega)
            cases hbq with
            | refl => omega
            | step h0 hu hr =>
              rw [hp] at hu
              have e := Int.ofNat_inj.1 hu
              subst e
              have := hr.le hS (by omega)
              omega
          obtain ⟨e', g1, g2, g3, g4, g5⟩ := ihn e (by omega) (by omega) he2 hnext
          refine ⟨e', by omega, g2, ?_, g4, fun i hi1 hi2 => ?_⟩
          · have hr : List.range' b (ups.length - b) = b :: (List.range' (b + 1) (e - (b + 1)) ++ List.range' e (ups.length - e)) := by
              have x1 : ups.length - b = (ups.length - (b + 1)) + 1 := by omega
              have x2 : ups.length - (b + 1) = (e - (b + 1)) + (ups.length - e) := by omega
              rw [x1, List.range'_succ, x2, ← List.range'_append_1]
              have x3 : b + 1 + (e - (b + 1)) = e := by omega
              rw [x3]
            rw [hr, List.filter_cons]
            have hb0 : (decide (p < b) && (ups[b]? == some (p : Int))) = true := by
              have := (under_mem (ups := ups) (k := p) (i := b)).2 ⟨by omega, by omega, hp⟩
              simp only [under, List.mem_filter] at this
              exact this.2
            rw [if_pos hb0, List.filter_append]
            have hmid : (List.range' (b + 1) (e - (b + 1))).filter (fun i => decide (p < i) && (ups[i]? == some (p : Int))) = [] := by
              rw [List.filter_eq_nil_iff]
              intro i hi hc
              rw [List.mem_range'_1] at hi
              have hm : i ∈ under ups p := by
                simp only [under, List.mem_filter, List.mem_range]
                exact ⟨by omega, hc⟩
              have hm := (under_mem.1 hm)
              have hin := he5 i (by omega) (by omega)
              cases hin with
              | refl => omega
              | step h0 hu hr =>
                rw [hm.2.2] at hu
                have e := Int.ofNat_inj.1 hu
                subst e
                have := hr.le hS (by omega)
                omega
            rw [hmid, List.nil_append, List.map_cons, pres, he3, g3]
            have x1 : e' - b = (e - b) + (e' - e) := by omega
            rw [x1, ← List.range'_append_1]
            have x3 : b + (e - b) = e := by omega
            rw [x3]
          · by_cases hie : i < e
            · exact (he5 i hi1 hie).trans (.step (by omega) hp (.refl _))
            · exact g5 i (by omega) hi2
        · refine ⟨b, Nat.le_refl _, hbl, ?_, fun _ => by omega, fun i h1 h2 => by omega⟩
          have hmid : (List.range' b (ups.length - b)).filter (fun i => decide (k < i) && (ups[i]? == some (k : Int))) = [] := by
            rw [List.filter_eq_nil_iff]
            intro i hi hc
            rw [List.mem_range'_1] at hi
            have hm : i ∈ under ups k := by
              simp only [under, List.mem_filter, List.mem_range]
              exact ⟨by omega, hc⟩
            have hm := (under_mem.1 hm)
            rcases out_of hS (k := k) (e := b) (by omega) (fun q hq => by rw [hp] at hq; omega) (i - b) i (by omega) hm.2.1 k (.step (by omega) hm.2.2 (.refl _)) with h3 | h3 <;> omega
          rw [hmid]; simp [pres]
    obtain ⟨e, g1, g2, g3, g4, g5⟩ := key (ups.length - (k + 1)) (k + 1) (Nat.le_refl _) (by omega) (by omega) (fun hb => by have := (hS.upk (k := k + 1) (by omega) hb).2.1; omega)
    refine ⟨e, by omega, g2, ?_, g4, fun i h1 h2 => ?_⟩
    · have hu : under ups k = (List.range' (k + 1) (ups.length - (k + 1))).filter fun i => decide (k < i) && (ups[i]? == some (k : Int)) := by
        unfold under
        rw [List.range_eq_range']
        have x1 : ups.length = (k + 1) + (ups.length - (k + 1)) := by omega
        conv => lhs; rw [x1, ← List.range'_append_1, List.filter_append]
        have : (List.range' 0 (k + 1)).filter (fun i => decide (k < i) && (ups[i]? == some (k : Int))) = [] := by
          rw [List.filter_eq_nil_iff]
          intro i hi hc
          rw [List.mem_range'_1] at hi
          simp at hc
          omega
        rw [this, List.nil_append, Nat.zero_add]
      rw [itree, hu, pre, g3]
      have x1 : e - k = (e - (k + 1)) + 1 := by omega
      rw [x1, List.range'_succ]
    · by_cases hik : i = k
      · subst hik; exact .refl _
      · exact g5 i (by omega) h2
theorem pre_all {ups : List Int} (hS : Stand ups) (hl : 0 < ups.length) {f : Nat} (hf : ups.length ≤ f) : pre (itree ups f 0) = List.range ups.length := by
  obtain ⟨e, h1, h2, h3, h4, h5⟩ := pre_itree hS ups.length 0 f (by omega) hl hf
  have : e = ups.length := by
    by_cases he : e < ups.length
    · have := h4 he
      have := (hS.upk (k := e) (by omega) he).1
      omega
    · omega
  rw [h3, this, List.range_eq_range', Nat.sub_zero]
end VM
