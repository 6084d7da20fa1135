import Derived.Test.YtgkiaoodalnceaaDoorClSlW
/- Types and values as trees; what the lists of nodes mean. -/
namespace VM
open Go SL
set_option linter.unusedVariables false

structure TN where
  kind : Int
  n : Int
  up : Int
  deriving DecidableEq, Inhabited
structure VN where
  n : Int
  text : List UInt8
  up : Int
  deriving DecidableEq, Inhabited
def tnC (x : TN) : List AV := [.sc (.int .i64 x.kind), .sc (.int .i64 x.n), .sc (.int .i64 x.up)]
def vnC (x : VN) : List AV := [.sc (.int .i64 x.n), .sc (.string (bs x.text)), .sc (.int .i64 x.up)]
def intC (k : Int) : List AV := [.sc (.int .i64 k)]
theorem tnC_len {l : List TN} : ∀ e ∈ l.map tnC, e.length = 3 := by simp [tnC]
theorem vnC_len {l : List VN} : ∀ e ∈ l.map vnC, e.length = 3 := by simp [vnC]
def natC (k : Nat) : List AV := [.sc (.int .i64 k)]
theorem natC_len {l : List Nat} : ∀ e ∈ l.map natC, e.length = 1 := by simp [natC]
theorem intC_len {l : List Int} : ∀ e ∈ l.map intC, e.length = 1 := by simp [intC]

inductive Ty where
  | mk (kind n : Int) (kids : List Ty)
  deriving Inhabited
inductive Vl where
  | mk (n : Int) (text : List UInt8) (kids : List Vl)
  deriving Inhabited
def Ty.kind : Ty → Int
  | .mk k _ _ => k
def Ty.n : Ty → Int
  | .mk _ n _ => n
def Ty.kids : Ty → List Ty
  | .mk _ _ ks => ks
def Vl.n : Vl → Int
  | .mk n _ _ => n
def Vl.text : Vl → List UInt8
  | .mk _ t _ => t
def Vl.kids : Vl → List Vl
  | .mk _ _ ks => ks

mutual
def tyC : Ty → List AV
  | .mk k n kids => [.sc (.int .i64 k), .sc (.int .i64 n), .vec (tysC kids)]
def tysC : List Ty → List (List AV)
  | [] => []
  | t :: r => tyC t :: tysC r
end
mutual
def vlC : Vl → List AV
  | .mk n x kids => [.sc (.int .i64 n), .sc (.string (bs x)), .vec (vlsC kids)]
def vlsC : List Vl → List (List AV)
  | [] => []
  | t :: r => vlC t :: vlsC r
end
theorem tysC_map : ∀ l : List Ty, tysC l = l.map tyC
  | [] => rfl
  | t :: r => by simp [tysC, tysC_map r]
theorem vlsC_map : ∀ l : List Vl, vlsC l = l.map vlC
  | [] => rfl
  | t :: r => by simp [vlsC, vlsC_map r]
theorem tyC_eq (t : Ty) : tyC t = [.sc (.int .i64 t.kind), .sc (.int .i64 t.n), .vec (t.kids.map tyC)] := by
  cases t; simp [tyC, Ty.kind, Ty.n, Ty.kids, tysC_map]
theorem vlC_eq (t : Vl) : vlC t = [.sc (.int .i64 t.n), .sc (.string (bs t.text)), .vec (t.kids.map vlC)] := by
  cases t; simp [vlC, Vl.n, Vl.text, Vl.kids, vlsC_map]
abbrev tyE (t : Ty) : List AV := [.sc (.int .i64 t.kind), .sc (.int .i64 t.n), .vec (t.kids.map tyC)]
abbrev vlE (t : Vl) : List AV := [.sc (.int .i64 t.n), .sc (.string (bs t.text)), .vec (t.kids.map vlC)]
theorem tyC_length (t : Ty) : (tyC t).length = 3 := by rw [tyC_eq]; rfl
theorem vlC_length (t : Vl) : (vlC t).length = 3 := by rw [vlC_eq]; rfl
theorem tyC_take {t : Ty} : (tyC t).take 3 = tyC t := List.take_of_length_le (by rw [tyC_length]; exact Nat.le_refl _)
theorem vlC_take {t : Vl} : (vlC t).take 3 = vlC t := List.take_of_length_le (by rw [vlC_length]; exact Nat.le_refl _)
theorem tyC_cells {t : Ty} : (tyC t).all cellA = true := by rw [tyC_eq]; rfl
theorem vlC_cells {t : Vl} : (vlC t).all cellA = true := by rw [vlC_eq]; rfl
theorem tyC_len {l : List Ty} : ∀ e ∈ l.map tyC, e.length = 3 := by simp [tyC_length]
theorem vlC_len {l : List Vl} : ∀ e ∈ l.map vlC, e.length = 3 := by simp [vlC_length]

/-- The nodes right under a node. -/
def under (ups : List Int) (k : Nat) : List Nat := (List.range ups.length).filter fun i => decide (k < i) && (ups[i]? == some (k : Int))
def underTo (ups : List Int) (k n : Nat) : List Nat := (List.range n).filter fun i => decide (k < i) && (ups[i]? == some (k : Int))
theorem underTo_len (ups : List Int) (k : Nat) : underTo ups k ups.length = under ups k := rfl
theorem under_map {α : Type} {l : List α} {f : α → Int} {k : Nat} : under (l.map f) k = underTo (l.map f) k l.length := by simp [under, underTo]
theorem underTo_start (ups : List Int) (k : Nat) : underTo ups k (k + 1) = [] := by
  unfold underTo
  rw [List.filter_eq_nil_iff]
  intro i hi
  simp at hi ⊢
  omega
theorem underTo_step (ups : List Int) (k n : Nat) : underTo ups k (n + 1) = underTo ups k n ++ (if k < n ∧ ups[n]? = some (k : Int) then [n] else []) := by
  unfold underTo
  rw [List.range_succ, List.filter_append]
  congr 1
  by_cases h1 : k < n <;> by_cases h2 : ups[n]? = some (k : Int) <;> simp [h1, h2]
theorem underTo_le (ups : List Int) (k n : Nat) : (underTo ups k n).length ≤ n := by
  unfold underTo
  exact Nat.le_trans (List.length_filter_le _ _) (by simp)
theorem under_lt {ups : List Int} {k i : Nat} (h : i ∈ under ups k) : k < i ∧ i < ups.length ∧ ups[i]? = some (k : Int) := by
  simp [under, List.mem_filter] at h
  exact ⟨h.2.1, h.1, h.2.2⟩

def treeF : Nat → List TN → Nat → Ty
  | 0, _, _ => .mk 0 0 []
  | f + 1, l, k => match l[k]? with
    | none => .mk 0 0 []
    | some x => .mk x.kind x.n ((under (l.map TN.up) k).map (treeF f l))
def vtreeF : Nat → List VN → Nat → Vl
  | 0, _, _ => .mk 0 [] []
  | f + 1, l, k => match l[k]? with
    | none => .mk 0 [] []
    | some x => .mk x.n x.text ((under (l.map VN.up) k).map (vtreeF f l))

/-! ### Do nodes stand as a tree's? -/
def upAt (ups : List Int) (a : Int) : Int := (ups[a.toNat]?).getD (-1)
/-- Is u met on the way up from a? -/
def hits (ups : List Int) (u : Int) : Nat → Int → Bool
  | 0, _ => false
  | f + 1, a => if a < 0 then false else if a = u then true else hits ups u f (upAt ups a)
/-- How many nodes there are on the way up from a. -/
def deepOf (ups : List Int) : Nat → Int → Nat
  | 0, _ => 0
  | f + 1, a => if a < 0 then 0 else deepOf ups f (upAt ups a) + 1
/-- A node stands where it may: the first one at the top, another one under one that is around. -/
def standN (ups : List Int) (k : Nat) : Bool :=
  decide (k = 0 ↔ upAt ups k = -1) && (decide (-1 ≤ upAt ups k ∧ upAt ups k ≤ (k : Int) - 1) && (decide (k = 0) || hits ups (upAt ups k) k ((k : Int) - 1)))

def shapeK (k : Int) : Int × Int × Int × Int :=
  if k = 13 ∨ k = 17 then (1, 1, 0, 0) else if k = 14 ∨ k = 15 then (1, 8, 0, 0) else if k = 18 then (2, 2, 0, 0) else if k = 16 then (0, 0, 1, 32)
  else if k = 19 then (0, 0, 1, 300) else if k = 20 ∨ k = 21 then (0, 0, 0, 9) else (0, 0, 0, 0)

def okN (l : List TN) (k : Nat) (x : TN) : Bool :=
  standN (l.map TN.up) k && (decide (1 ≤ x.kind ∧ x.kind ≤ 21) && (decide (deepOf (l.map TN.up) (k + 1) k ≤ 8) &&
    (decide ((shapeK x.kind).1 ≤ ((under (l.map TN.up) k).length : Int) ∧ ((under (l.map TN.up) k).length : Int) ≤ (shapeK x.kind).2.1) && decide ((shapeK x.kind).2.2.1 ≤ x.n ∧ x.n ≤ (shapeK x.kind).2.2.2))))
def okAt (l : List TN) (k : Nat) : Bool :=
  match l[k]? with
  | some x => okN l k x
  | none => false
def goodT (l : List TN) : Bool := decide (1 ≤ l.length ∧ l.length ≤ 40) && (List.range l.length).all (okAt l)
def goodV (l : List VN) : Bool := decide (1 ≤ l.length ∧ l.length ≤ 100) && (List.range l.length).all (standN (l.map VN.up))

theorem standN_of {ups : List Int} {k : Nat} {u : Int} (hu : upAt ups k = u) (h1 : (k : Int) = 0 ↔ u = -1) (h2 : -1 ≤ u ∧ u ≤ (k : Int) - 1) : standN ups k = (decide ((k : Int) = 0) || hits ups u k ((k : Int) - 1)) := by
  subst hu
  have h1' : k = 0 ↔ upAt ups k = -1 := by omega
  simp [standN, h1', h2.1, h2.2]
theorem standN_no1 {ups : List Int} {k : Nat} {u : Int} (hu : upAt ups k = u) (h1 : ¬ ((k : Int) = 0 ↔ u = -1)) : standN ups k = false := by
  subst hu
  have h1' : ¬ (k = 0 ↔ upAt ups k = -1) := by omega
  simp [standN, h1']
theorem standN_no2 {ups : List Int} {k : Nat} {u : Int} (hu : upAt ups k = u) (h1 : ¬ (-1 ≤ u ∧ u ≤ (k : Int) - 1)) : standN ups k = false := by
  subst hu
  simp only [standN, decide_eq_false h1, Bool.false_and, Bool.and_false]
theorem standN_up {ups : List Int} {k : Nat} (h : standN ups k = true) : -1 ≤ upAt ups k ∧ upAt ups k ≤ (k : Int) - 1 := by
  simp only [standN, Bool.and_eq_true, decide_eq_true_eq] at h
  exact h.2.1

end VM
