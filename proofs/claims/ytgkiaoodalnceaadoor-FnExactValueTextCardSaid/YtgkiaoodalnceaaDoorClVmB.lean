import Derived.Test.YtgkiaoodalnceaaDoorClVmA
import Derived.Lib.DecodeN
/- Texts in three codes, in plain Lean. -/
namespace VM
open Go SL
set_option linter.unusedVariables false
set_option linter.unusedSimpArgs false

def goodP (p : Nat) : Bool := decide (p ≤ 1114111 ∧ (p < 55296 ∨ 57343 < p))
def u8enc (p : Nat) : List UInt8 :=
  if p < 128 then [UInt8.ofNat p] else if p < 2048 then [UInt8.ofNat (192 + p / 64), UInt8.ofNat (128 + p % 64)]
  else if p < 65536 then [UInt8.ofNat (224 + p / 4096), UInt8.ofNat (128 + p / 64 % 64), UInt8.ofNat (128 + p % 64)]
  else [UInt8.ofNat (240 + p / 262144), UInt8.ofNat (128 + p / 4096 % 64), UInt8.ofNat (128 + p / 64 % 64), UInt8.ofNat (128 + p % 64)]
def leadN (b : Nat) : Nat := if 240 ≤ b then 4 else if 224 ≤ b then 3 else if 192 ≤ b then 2 else 1
def leadP (b : Nat) : Nat := if 240 ≤ b then b % 8 else if 224 ≤ b then b % 16 else if 192 ≤ b then b % 32 else b
def contN (p : Nat) : List UInt8 → Nat
  | [] => p
  | b :: r => contN (p * 64 + b.toNat % 64) r
def at0 (s : List UInt8) (i : Nat) : Nat := ((s[i]?).map UInt8.toNat).getD 0
def ptOf (s : List UInt8) : Nat := contN (leadP (at0 s 0)) ((s.drop 1).take (leadN (at0 s 0) - 1))
/-- The first point of a text of UTF-8, as the reference reads it. -/
def step8 (s : List UInt8) : Option (Nat × Nat) :=
  if s.length < leadN (at0 s 0) then none else if u8enc (ptOf s) = s.take (leadN (at0 s 0)) then some (ptOf s, leadN (at0 s 0)) else none
def take8 (s : List UInt8) : Option (Nat × Nat) :=
  let d := Lib.decodeN s.length (at0 s 0) (at0 s 1) (at0 s 2) (at0 s 3)
  if d.1 = 65533 ∧ d.2 ≤ 1 then none else some d

theorem ifc {α : Type} {c d : Prop} [Decidable c] [Decidable d] {a b : α} (h : c ↔ d) : (if c then a else b) = if d then a else b := by
  by_cases hc : c
  · rw [if_pos hc, if_pos (h.1 hc)]
  · rw [if_neg hc, if_neg (fun hd => hc (h.2 hd))]

theorem of_eq {x : Nat} {b : UInt8} (hx : x < 256) : (UInt8.ofNat x = b) = (x = b.toNat) := by
  apply propext
  constructor
  · rintro rfl; simp [UInt8.toNat_ofNat']; omega
  · rintro rfl; simp

theorem leadN_pos (b : Nat) : 1 ≤ leadN b ∧ leadN b ≤ 4 := by
  unfold leadN; repeat' split
  all_goals omega

theorem enc1 {p : Nat} {a : UInt8} (hp : p < 2097152) : (u8enc p = [a]) = (p < 128 ∧ p = a.toNat) := by
  unfold u8enc
  repeat' split
  all_goals (simp; try omega)
  rename_i h
  rw [of_eq (by omega)]
  simp [h]
theorem enc2 {p : Nat} {a b : UInt8} (hp : p < 2097152) : (u8enc p = [a, b]) = (128 ≤ p ∧ p < 2048 ∧ 192 + p / 64 = a.toNat ∧ 128 + p % 64 = b.toNat) := by
  unfold u8enc
  repeat' split
  all_goals simp only [List.cons.injEq, reduceCtorEq, and_true, and_false, false_and]
  · simp; omega
  · rw [of_eq (by omega), of_eq (by omega)]; simp; omega
  · simp; omega
  · simp; omega
theorem enc3 {p : Nat} {a b c : UInt8} (hp : p < 2097152) : (u8enc p = [a, b, c]) = (2048 ≤ p ∧ p < 65536 ∧ 224 + p / 4096 = a.toNat ∧ 128 + p / 64 % 64 = b.toNat ∧ 128 + p % 64 = c.toNat) := by
  unfold u8enc
  repeat' split
  all_goals simp only [List.cons.injEq, reduceCtorEq, and_true, and_false, false_and]
  · simp; omega
  · simp; omega
  · rw [of_eq (by omega), of_eq (by omega), of_eq (by omega)]; simp; omega
  · simp; omega
theorem enc4 {p : Nat} {a b c d : UInt8} (hp : p < 2097152) : (u8enc p = [a, b, c, d]) = (65536 ≤ p ∧ 240 + p / 262144 = a.toNat ∧ 128 + p / 4096 % 64 = b.toNat ∧ 128 + p / 64 % 64 = c.toNat ∧ 128 + p % 64 = d.toNat) := by
  unfold u8enc
  repeat' split
  all_goals simp only [List.cons.injEq, reduceCtorEq, and_true, and_false, false_and]
  · simp; omega
  · simp; omega
  · simp; omega
  · rw [of_eq (by omega), of_eq (by omega), of_eq (by omega), of_eq (by omega)]; simp; omega

/-- The same by numbers. -/
def stepN (n b0 b1 b2 b3 : Nat) : Option (Nat × Nat) :=
  if 240 ≤ b0 then (if n < 4 then none else
    let p := b0 % 8 * 262144 + b1 % 64 * 4096 + b2 % 64 * 64 + b3 % 64
    if 65536 ≤ p ∧ 240 + p / 262144 = b0 ∧ 128 + p / 4096 % 64 = b1 ∧ 128 + p / 64 % 64 = b2 ∧ 128 + p % 64 = b3 then some (p, 4) else none)
  else if 224 ≤ b0 then (if n < 3 then none else
    let p := b0 % 16 * 4096 + b1 % 64 * 64 + b2 % 64
    if 2048 ≤ p ∧ p < 65536 ∧ 224 + p / 4096 = b0 ∧ 128 + p / 64 % 64 = b1 ∧ 128 + p % 64 = b2 then some (p, 3) else none)
  else if 192 ≤ b0 then (if n < 2 then none else
    let p := b0 % 32 * 64 + b1 % 64
    if 128 ≤ p ∧ p < 2048 ∧ 192 + p / 64 = b0 ∧ 128 + p % 64 = b1 then some (p, 2) else none)
  else if b0 < 128 then some (b0, 1) else none

set_option maxRecDepth 20000 in
theorem step8_N {b0 : UInt8} {r : List UInt8} : step8 (b0 :: r) = stepN (r.length + 1) b0.toNat (at0 r 0) (at0 r 1) (at0 r 2) := by
  have h0 : at0 (b0 :: r) 0 = b0.toNat := rfl
  have hb := b0.toNat_lt
  simp only [step8, stepN, ptOf, h0, leadN, leadP, List.length_cons, List.drop_succ_cons, List.drop_zero]
  by_cases h1 : 240 ≤ b0.toNat
  · simp only [h1, if_true]
    match r with
    | b1 :: b2 :: b3 :: r =>
      have := b1.toNat_lt; have := b2.toNat_lt; have := b3.toNat_lt
      simp only [List.length_cons, show ¬ (r.length + 1 + 1 + 1 + 1 < 4) by omega, if_false, List.take_succ_cons, List.take_zero, contN, Nat.reduceSub, at0, List.getElem?_cons_zero, List.getElem?_cons_succ, Option.map_some, Option.getD_some]
      rw [show ((b0.toNat % 8 * 64 + b1.toNat % 64) * 64 + b2.toNat % 64) * 64 + b3.toNat % 64 = b0.toNat % 8 * 262144 + b1.toNat % 64 * 4096 + b2.toNat % 64 * 64 + b3.toNat % 64 by omega]
      refine ifc ?_; rw [enc4 (by omega)]
    | [b1, b2] => simp
    | [b1] => simp
    | [] => simp
  · simp only [h1, if_false]
    by_cases h2 : 224 ≤ b0.toNat
    · simp only [h2, if_true]
      match r with
      | b1 :: b2 :: r =>
        have := b1.toNat_lt; have := b2.toNat_lt
        simp only [List.length_cons, show ¬ (r.length + 1 + 1 + 1 < 3) by omega, if_false, List.take_succ_cons, List.take_zero, contN, Nat.reduceSub, at0, List.getElem?_cons_zero, List.getElem?_cons_succ, Option.map_some, Option.getD_some]
        rw [show ((b0.toNat % 16 * 64 + b1.toNat % 64) * 64 + b2.toNat % 64) = b0.toNat % 16 * 4096 + b1.toNat % 64 * 64 + b2.toNat % 64 by omega]
        refine ifc ?_; rw [enc3 (by omega)]
      | [b1] => simp
      | [] => simp
    · simp only [h2, if_false]
      by_cases h3 : 192 ≤ b0.toNat
      · simp only [h3, if_true]
        match r with
        | b1 :: r =>
          have := b1.toNat_lt
          simp only [List.length_cons, show ¬ (r.length + 1 + 1 < 2) by omega, if_false, List.take_succ_cons, List.take_zero, contN, Nat.reduceSub, at0, List.getElem?_cons_zero, List.getElem?_cons_succ, Option.map_some, Option.getD_some]
          refine ifc ?_; rw [enc2 (by omega)]
        | [] => simp
      · simp only [h3, if_false, List.take_succ_cons, List.take_zero, contN, Nat.reduceSub, show ¬ (r.length + 1 < 1) by omega]
        refine ifc ?_; rw [enc1 (by omega)]; simp

set_option maxHeartbeats 2000000 in
theorem decodeN_stepN {n b0 b1 b2 b3 : Nat} (hn : 1 ≤ n) (h0 : b0 < 256) (h1 : b1 < 256) (h2 : b2 < 256) (h3 : b3 < 256) :
    (if (Lib.decodeN n b0 b1 b2 b3).1 = 65533 ∧ (Lib.decodeN n b0 b1 b2 b3).2 ≤ 1 then none else some (Lib.decodeN n b0 b1 b2 b3)) = (stepN n b0 b1 b2 b3).bind fun x => if goodP x.1 = true then some x else none := by
  unfold Lib.decodeN stepN
  simp only [goodP, decide_eq_true_eq]
  by_cases c1 : b0 < 128
  · simp only [c1, if_true, show ¬ 240 ≤ b0 by omega, show ¬ 224 ≤ b0 by omega, show ¬ 192 ≤ b0 by omega, if_false, Option.bind_some]
    rw [if_neg (by omega), if_pos (by omega)]
  · simp only [c1, if_false]
    repeat' split
    all_goals first | rfl | (exfalso; omega) | skip
    all_goals simp only [Option.bind_some, Option.bind_none]
    all_goals first | rfl | (rw [if_neg (by omega)]; done) | (rw [if_pos (by omega)]; done) | skip
    all_goals (exfalso; simp_all; omega)

theorem at0_lt (s : List UInt8) (i : Nat) : at0 s i < 256 := by
  unfold at0
  cases s[i]? with
  | none => simp
  | some b => exact b.toNat_lt
theorem take8_step8 {s : List UInt8} (hs : s ≠ []) : take8 s = (step8 s).bind fun x => if goodP x.1 = true then some x else none := by
  match s, hs with
  | b0 :: r, _ =>
    rw [step8_N, ← decodeN_stepN (n := r.length + 1) (by omega) b0.toNat_lt (at0_lt r 0) (at0_lt r 1) (at0_lt r 2)]
    rfl
theorem stepN_pt {n b0 b1 b2 b3 p k : Nat} (hn : 1 ≤ n) (h0 : b0 < 256) (h : stepN n b0 b1 b2 b3 = some (p, k)) : p < 2097152 ∧ 1 ≤ k ∧ k ≤ n := by
  simp only [stepN] at h
  repeat' split at h
  all_goals first | (cases h; done) | (simp only [Option.some.injEq, Prod.mk.injEq] at h; omega)
theorem step8_pt {s : List UInt8} {p n : Nat} (hs : s ≠ []) (h : step8 s = some (p, n)) : p < 2097152 ∧ 1 ≤ n ∧ n ≤ s.length := by
  match s, hs with
  | b0 :: r, _ =>
    rw [step8_N] at h
    exact stepN_pt (n := r.length + 1) (by omega) b0.toNat_lt h
end VM
