import Derived.Test.YtgkiaoodalnceaaDoorClSlV
/- The simulation logic, part W: integers: masks, shifts, ors. -/
namespace SL
open Go
set_option linter.unusedVariables false
set_option linter.unusedSimpArgs false

/-- The numbers of a kind. -/
def IntKind.has (k : IntKind) (n : Int) : Prop := k.wrap n = n
theorem wrap_small {k : IntKind} {n : Int} (h : 0 ≤ n ∧ n < 2 ^ (k.bits - 1)) : k.wrap n = n := by
  cases k <;> simp only [IntKind.wrap, IntKind.bits, IntKind.signed] at h ⊢ <;> simp at h ⊢ <;> omega
theorem nat_mod_ofInt {w : Nat} (a : Int) : (BitVec.ofInt w a).toNat = (a % 2 ^ w).toNat := by
  rw [BitVec.toNat_ofInt]; simp
theorem mod_mod_pow {a : Int} {n w : Nat} (h : n ≤ w) : (a % 2 ^ w) % 2 ^ n = a % 2 ^ n := by
  apply Int.emod_emod_of_dvd
  exact ⟨2 ^ (w - n), by rw [← Int.pow_add]; congr 1; omega⟩
theorem band_mask {k : IntKind} (a : Int) (n : Nat) (hn : n < k.bits) : bandI k a (2 ^ n - 1) = a % 2 ^ n := by
  have hp : (0 : Int) < 2 ^ n := Int.pow_pos (by omega)
  have hpw : (0 : Int) < 2 ^ k.bits := Int.pow_pos (by omega)
  have hle : (2 : Int) ^ n ≤ 2 ^ k.bits := by
    have : (2 : Nat) ^ n ≤ 2 ^ k.bits := Nat.pow_le_pow_right (by omega) (by omega)
    have h3 := Int.ofNat_le.2 this
    simpa using h3
  unfold bandI
  rw [BitVec.toNat_and, nat_mod_ofInt, nat_mod_ofInt]
  have e1 : (((2 : Int) ^ n - 1) % 2 ^ k.bits).toNat = 2 ^ n - 1 := by
    rw [Int.emod_eq_of_lt (by omega) (by omega)]
    have : (2 : Int) ^ n = ((2 ^ n : Nat) : Int) := by simp
    rw [this]; omega
  rw [e1, Nat.and_two_pow_sub_one_eq_mod]
  have e2 : (((a % 2 ^ k.bits).toNat % 2 ^ n : Nat) : Int) = a % 2 ^ n := by
    rw [Int.natCast_emod, Int.toNat_of_nonneg (Int.emod_nonneg _ (by omega))]
    simp only [Int.natCast_pow, Int.cast_ofNat_Int]
    exact mod_mod_pow (by omega)
  rw [e2]
  refine wrap_small ⟨Int.emod_nonneg _ (by omega), ?_⟩
  have h1 := Int.emod_lt_of_pos a hp
  have h2 : (2 : Int) ^ n ≤ 2 ^ (k.bits - 1) := by
    have : (2 : Nat) ^ n ≤ 2 ^ (k.bits - 1) := Nat.pow_le_pow_right (by omega) (by omega)
    have h3 := Int.ofNat_le.2 this
    simpa using h3
  omega
theorem band_full {k : IntKind} (hk : k.signed = false) (a : Int) : bandI k a (2 ^ k.bits - 1) = a % 2 ^ k.bits := by
  have hp : (0 : Int) < 2 ^ k.bits := Int.pow_pos (by omega)
  unfold bandI
  rw [BitVec.toNat_and, nat_mod_ofInt, nat_mod_ofInt]
  have e1 : (((2 : Int) ^ k.bits - 1) % 2 ^ k.bits).toNat = 2 ^ k.bits - 1 := by
    rw [Int.emod_eq_of_lt (by omega) (by omega)]
    have : (2 : Int) ^ k.bits = ((2 ^ k.bits : Nat) : Int) := by simp
    rw [this]; omega
  rw [e1, Nat.and_two_pow_sub_one_eq_mod]
  have e2 : (((a % 2 ^ k.bits).toNat % 2 ^ k.bits : Nat) : Int) = a % 2 ^ k.bits := by
    rw [Int.natCast_emod, Int.toNat_of_nonneg (Int.emod_nonneg _ (by omega))]
    simp only [Int.natCast_pow, Int.cast_ofNat_Int]
    exact mod_mod_pow (Nat.le_refl _)
  rw [e2]
  simp only [IntKind.wrap, hk, Bool.false_and, Bool.false_eq_true, if_false]
  exact mod_mod_pow (Nat.le_refl _)
theorem band_u32_32 {a : Int} : bandI .u32 a 4294967295 = a % 4294967296 := band_full (k := .u32) rfl a
theorem band_u64_64 {a : Int} : bandI .u64 a 18446744073709551615 = a % 18446744073709551616 := band_full (k := .u64) rfl a
theorem band_u8_8 {a : Int} : bandI .u8 a 255 = a % 256 := band_full (k := .u8) rfl a
theorem band_comm {k : IntKind} {a b : Int} : bandI k a b = bandI k b a := by
  unfold bandI; rw [BitVec.and_comm]
theorem bor_comm {k : IntKind} {a b : Int} : borI k a b = borI k b a := by
  unfold borI; rw [BitVec.or_comm]
theorem toNat_ofInt_nat {k : IntKind} {a : Nat} (h : (a : Int) < 2 ^ (k.bits - 1)) : (BitVec.ofInt k.bits a).toNat = a := by
  rw [nat_mod_ofInt]
  have h2 : (2 : Int) ^ (k.bits - 1) ≤ 2 ^ k.bits := by
    have : (2 : Nat) ^ (k.bits - 1) ≤ 2 ^ k.bits := Nat.pow_le_pow_right (by omega) (by omega)
    have h3 := Int.ofNat_le.2 this
    simpa using h3
  rw [Int.emod_eq_of_lt (by omega) (by omega)]
  omega
/-- Numbers without common bits. -/
theorem bor_add {k : IntKind} {a b : Int} (n : Nat) (hb : 0 ≤ b ∧ b < 2 ^ n) (ha : 0 ≤ a ∧ a % 2 ^ n = 0) (h : a + b < 2 ^ (k.bits - 1)) : borI k a b = a + b := by
  obtain ⟨x, rfl⟩ : ∃ x : Nat, a = x := ⟨a.toNat, by omega⟩
  obtain ⟨y, rfl⟩ : ∃ y : Nat, b = y := ⟨b.toNat, by omega⟩
  unfold borI
  rw [BitVec.toNat_or, toNat_ofInt_nat (by omega), toNat_ofInt_nat (by omega)]
  have hx : x = 2 ^ n * (x / 2 ^ n) := by
    have h1 : ((x % 2 ^ n : Nat) : Int) = 0 := by
      rw [Int.natCast_emod]; simpa using ha.2
    have h2 : x % 2 ^ n = 0 := by omega
    have := Nat.div_add_mod x (2 ^ n)
    omega
  have hy : y < 2 ^ n := by
    have : ((y : Nat) : Int) < ((2 ^ n : Nat) : Int) := by simpa using hb.2
    omega
  have e : x ||| y = x + y := by
    rw [hx, ← Nat.two_pow_add_eq_or_of_lt hy]
  rw [e, wrap_small]
  · simp
  · refine ⟨by omega, ?_⟩
    simpa using h
theorem min_i64 {n : Nat} (h : n ≤ 64) : min n IntKind.i64.bits = n := Nat.min_eq_left h
theorem min_u64 {n : Nat} (h : n ≤ 64) : min n IntKind.u64.bits = n := Nat.min_eq_left h
theorem min_u32 {n : Nat} (h : n ≤ 32) : min n IntKind.u32.bits = n := Nat.min_eq_left h
theorem min_u8 {n : Nat} (h : n ≤ 8) : min n IntKind.u8.bits = n := Nat.min_eq_left h
theorem fdiv_pos {a b : Int} (h : 0 ≤ b) : a.fdiv b = a / b := Int.fdiv_eq_ediv_of_nonneg a h
theorem tdiv_pos {a b : Int} (h : 0 ≤ a) : a.tdiv b = a / b := Int.tdiv_eq_ediv_of_nonneg h
theorem tmod_pos {a b : Int} (h : 0 ≤ a) : a.tmod b = a % b := Int.tmod_eq_emod_of_nonneg h

theorem band_u8_4 {a : Int} : bandI .u8 a 15 = a % 16 := band_mask (k := .u8) a 4 (by decide)
theorem band_u8_5 {a : Int} : bandI .u8 a 31 = a % 32 := band_mask (k := .u8) a 5 (by decide)
theorem band_u8_6 {a : Int} : bandI .u8 a 63 = a % 64 := band_mask (k := .u8) a 6 (by decide)
theorem band_u8_7 {a : Int} : bandI .u8 a 127 = a % 128 := band_mask (k := .u8) a 7 (by decide)
theorem band_u32_7 {a : Int} : bandI .u32 a 127 = a % 128 := band_mask (k := .u32) a 7 (by decide)
theorem band_u32_8 {a : Int} : bandI .u32 a 255 = a % 256 := band_mask (k := .u32) a 8 (by decide)
theorem band_u32_10 {a : Int} : bandI .u32 a 1023 = a % 1024 := band_mask (k := .u32) a 10 (by decide)
theorem band_u32_11 {a : Int} : bandI .u32 a 2047 = a % 2048 := band_mask (k := .u32) a 11 (by decide)
theorem band_u32_15 {a : Int} : bandI .u32 a 32767 = a % 32768 := band_mask (k := .u32) a 15 (by decide)
theorem band_u32_16 {a : Int} : bandI .u32 a 65535 = a % 65536 := band_mask (k := .u32) a 16 (by decide)
theorem band_u32_22 {a : Int} : bandI .u32 a 4194303 = a % 4194304 := band_mask (k := .u32) a 22 (by decide)
theorem band_u32_23 {a : Int} : bandI .u32 a 8388607 = a % 8388608 := band_mask (k := .u32) a 23 (by decide)
theorem band_u32_31 {a : Int} : bandI .u32 a 2147483647 = a % 2147483648 := band_mask (k := .u32) a 31 (by decide)
theorem band_u64_1 {a : Int} : bandI .u64 a 1 = a % 2 := band_mask (k := .u64) a 1 (by decide)
theorem band_u64_3 {a : Int} : bandI .u64 a 7 = a % 8 := band_mask (k := .u64) a 3 (by decide)
theorem band_u64_5 {a : Int} : bandI .u64 a 31 = a % 32 := band_mask (k := .u64) a 5 (by decide)
theorem band_u64_6 {a : Int} : bandI .u64 a 63 = a % 64 := band_mask (k := .u64) a 6 (by decide)
theorem band_u64_7 {a : Int} : bandI .u64 a 127 = a % 128 := band_mask (k := .u64) a 7 (by decide)
theorem band_u64_8 {a : Int} : bandI .u64 a 255 = a % 256 := band_mask (k := .u64) a 8 (by decide)
theorem band_u64_10 {a : Int} : bandI .u64 a 1023 = a % 1024 := band_mask (k := .u64) a 10 (by decide)
theorem band_u64_16 {a : Int} : bandI .u64 a 65535 = a % 65536 := band_mask (k := .u64) a 16 (by decide)
theorem band_u64_23 {a : Int} : bandI .u64 a 8388607 = a % 8388608 := band_mask (k := .u64) a 23 (by decide)
theorem band_u64_31 {a : Int} : bandI .u64 a 2147483647 = a % 2147483648 := band_mask (k := .u64) a 31 (by decide)
theorem band_u64_32 {a : Int} : bandI .u64 a 4294967295 = a % 4294967296 := band_mask (k := .u64) a 32 (by decide)
theorem band_u64_63 {a : Int} : bandI .u64 a 9223372036854775807 = a % 9223372036854775808 := band_mask (k := .u64) a 63 (by decide)
theorem band_i64_1 {a : Int} : bandI .i64 a 1 = a % 2 := band_mask (k := .i64) a 1 (by decide)
theorem band_i64_3 {a : Int} : bandI .i64 a 7 = a % 8 := band_mask (k := .i64) a 3 (by decide)
theorem band_i64_4 {a : Int} : bandI .i64 a 15 = a % 16 := band_mask (k := .i64) a 4 (by decide)
theorem band_i64_5 {a : Int} : bandI .i64 a 31 = a % 32 := band_mask (k := .i64) a 5 (by decide)
theorem band_i64_6 {a : Int} : bandI .i64 a 63 = a % 64 := band_mask (k := .i64) a 6 (by decide)
theorem band_i64_7 {a : Int} : bandI .i64 a 127 = a % 128 := band_mask (k := .i64) a 7 (by decide)
theorem band_i64_8 {a : Int} : bandI .i64 a 255 = a % 256 := band_mask (k := .i64) a 8 (by decide)
theorem band_i64_10 {a : Int} : bandI .i64 a 1023 = a % 1024 := band_mask (k := .i64) a 10 (by decide)
theorem band_i64_16 {a : Int} : bandI .i64 a 65535 = a % 65536 := band_mask (k := .i64) a 16 (by decide)
theorem band_i64_32 {a : Int} : bandI .i64 a 4294967295 = a % 4294967296 := band_mask (k := .i64) a 32 (by decide)
attribute [push_cast] band_u8_4 band_u8_5 band_u8_6 band_u8_7 band_u32_7 band_u32_8 band_u32_10 band_u32_11 band_u32_15 band_u32_16 band_u32_22 band_u32_23 band_u32_31 band_u64_1 band_u64_3 band_u64_5 band_u64_6 band_u64_7 band_u64_8 band_u64_10 band_u64_16 band_u64_23 band_u64_31 band_u64_32 band_u64_63 band_i64_1 band_i64_3 band_i64_4 band_i64_5 band_i64_6 band_i64_7 band_i64_8 band_i64_10 band_i64_16 band_i64_32 band_u32_32 band_u64_64 band_u8_8 min_i64 min_u64 min_u32 min_u8 fdiv_pos tdiv_pos tmod_pos
end SL

/- The simulation logic, part X: heaps that go on from heaps. -/
namespace SL
open Go
set_option linter.unusedVariables false
set_option linter.unusedSimpArgs false

/-- Names that are not given yet are nobody's. -/
def HW (h : Heap) : Prop := ∀ n, h.nx ≤ n → h.m n = none
/-- What there was is there still. -/
def HX (h h' : Heap) : Prop := h.nx ≤ h'.nx ∧ ∀ n, n < h.nx → h'.m n = h.m n
theorem HX.refl (h : Heap) : HX h h := ⟨Nat.le_refl _, fun _ _ => rfl⟩
theorem HX.trans {a b c : Heap} (h : HX a b) (k : HX b c) : HX a c := ⟨Nat.le_trans h.1 k.1, fun n hn => (k.2 n (Nat.lt_of_lt_of_le hn h.1)).trans (h.2 n hn)⟩
theorem HW.lt {h : Heap} (hw : HW h) {n : Nat} {cs : List AV} (hm : h.m n = some cs) : n < h.nx := by
  by_cases hn : n < h.nx
  · exact hn
  · rw [hw n (by omega)] at hm; cases hm
theorem HX.get {h h' : Heap} (hx : HX h h') (hw : HW h) {n : Nat} {cs : List AV} (hm : h.m n = some cs) : h'.m n = some cs := (hx.2 n (hw.lt hm)).trans hm
theorem HX.new (h : Heap) (cs : List AV) : HX h ⟨upd h.m h.nx (some cs), h.nx + 1⟩ := ⟨by simp, fun n hn => upd_ne _ _ _ _ (by omega)⟩
theorem HX.upd {h h' : Heap} (hx : HX h h') {n : Nat} (hn : h.nx ≤ n) (x : Option (List AV)) : HX h ⟨upd h'.m n x, h'.nx⟩ := ⟨hx.1, fun k hk => (upd_ne _ _ _ _ (by omega)).trans (hx.2 k hk)⟩
theorem HX.newR {h h' : Heap} (hx : HX h h') (cs : List AV) : HX h ⟨SL.upd h'.m h'.nx (some cs), h'.nx + 1⟩ := hx.trans (HX.new h' cs)
theorem HW.new {h : Heap} (hw : HW h) (cs : List AV) : HW ⟨SL.upd h.m h.nx (some cs), h.nx + 1⟩ := fun n hn => by
  simp only at hn
  show SL.upd h.m h.nx (some cs) n = none
  rw [upd_ne _ _ _ _ (by omega)]; exact hw n (by omega)
theorem HW.upd {h : Heap} (hw : HW h) {n : Nat} (hn : n < h.nx) (x : Option (List AV)) : HW ⟨SL.upd h.m n x, h.nx⟩ := fun k hk => by
  simp only at hk
  show SL.upd h.m n x k = none
  rw [upd_ne _ _ _ _ (by omega)]; exact hw k hk

theorem flat1 {es : List (List AV)} (h : ∀ e ∈ es, e.length = 1) {i : Nat} {a : AV} (hi : es[i]? = some [a]) : es.flatten[i]? = some a := by
  have := getElem?_flatten (j := 0) h hi (by omega)
  simpa using this
theorem flat1_set {es : List (List AV)} (h : ∀ e ∈ es, e.length = 1) {i : Nat} {a : AV} (hi : i < es.length) : es.flatten.set i a = (es.set i [a]).flatten := by
  have := splice_flatten (e := [a]) (sz := 1) rfl h hi
  rw [← this, Nat.mul_one]
  have hl := flatten_length h
  exact set_splice i a es.flatten (by omega)
/-- An element of one cell read; and written anew. -/
theorem LsE.get1 {D : List Nat} {m : Mem} {x : TV} {k : IntKind} {es : List (List AV)} {i : Nat} {a : AV} (h : LsE D m x 1 es) (hi : es[i]? = some [a]) :
    ∃ p, (∀ m', ixT 1 m' x (.v (.sc (.int k i))) = some p) ∧ ∀ h', ld1 ⟨m.l, m.c, h'⟩ p = some (.v a) := by
  have hlt : i < es.length := (List.getElem?_eq_some_iff.1 hi).1
  rcases h.2 with ⟨rfl, rfl⟩ | ⟨d, ver, cs, hd, rfl, h2, h3, h4⟩
  · simp at hlt
  · simp only [Nat.mul_one] at h3 h4
    refine ⟨.lp d ver (i * 1), fun m' => by simp [ixT]; omega, fun h' => ?_⟩
    simp only [ld1, h2, LE.get, if_true, Option.bind_some, Nat.mul_one]
    have e : (cs.take es.length)[i]? = cs[i]? := by rw [List.getElem?_take, if_pos hlt]
    rw [← e, h3, List.getElem?_map, flat1 h.1 hi]
    rfl
theorem LsE.set1 {D : List Nat} {m : Mem} {x : TV} {k : IntKind} {es : List (List AV)} {i : Nat} {a : AV} (h : LsE D m x 1 es) (hlt : i < es.length) (ha : cellA a = true) :
    ∃ p ml', (∀ m', ixT 1 m' x (.v (.sc (.int k i))) = some p) ∧ (∀ h', soT ⟨m.l, m.c, h'⟩ p (.v a) = some ⟨ml', m.c, h'⟩) ∧ (∀ h', LsE D ⟨ml', m.c, h'⟩ x 1 (es.set i [a])) ∧ ∀ s, s ∉ D → ml' s = m.l s := by
  rcases h.2 with ⟨rfl, rfl⟩ | ⟨d, ver, cs, hd, rfl, h2, h3, h4⟩
  · simp at hlt
  · simp only [Nat.mul_one] at h3 h4
    refine ⟨.lp d ver (i * 1), upd m.l d (.mu ver (cs.set i (.v a))), fun m' => by simp [ixT]; omega, fun h' => ?_, fun h' => ⟨?_, .inr ⟨d, ver, cs.set i (.v a), hd, ?_, upd_eq _ _ _, ?_, ?_⟩⟩, fun s hs => upd_ne _ _ _ _ (fun e => hs (e ▸ hd))⟩
    · simp only [soT, h2, Nat.mul_one]
      rw [if_pos ⟨by trivial, by omega, by simpa [cellT] using ha⟩]
    · intro e he
      rcases List.mem_or_eq_of_mem_set he with he | rfl
      · exact h.1 e he
      · rfl
    · simp
    · simp only [List.length_set, Nat.mul_one]
      rw [List.take_set, h3, ← flat1_set h.1 hlt, List.map_set]
    · simp; omega

/-- A slice of cells of one, in the heap. -/
def SlH (h : Heap) (a : AV) (l : List AV) : Prop := (l = [] ∧ a = nilS) ∨ ∃ n, l ≠ [] ∧ a = .sl n 1 0 l.length ∧ h.m n = some l
/-- The heap when it has one more. -/
def growH (h : Heap) (a : AV) (l : List AV) (v : AV) : Heap := match a with
  | .sl n _ _ _ => ⟨upd (upd h.m n none) h.nx (some (l ++ [v])), h.nx + 1⟩
  | _ => ⟨upd h.m h.nx (some (l ++ [v])), h.nx + 1⟩
theorem SlH.cell {h : Heap} {a : AV} {l : List AV} (x : SlH h a l) : cellA a = true := by
  rcases x with ⟨_, rfl⟩ | ⟨_, _, rfl, _⟩ <;> rfl
theorem growH_nx {h : Heap} {a : AV} {l : List AV} {v : AV} : (growH h a l v).nx = h.nx + 1 := by unfold growH; split <;> rfl
theorem growH_new {h : Heap} {a : AV} {l : List AV} {v : AV} : (growH h a l v).m h.nx = some (l ++ [v]) := by unfold growH; split <;> exact upd_eq _ _ _
theorem growH_ne {h : Heap} {a : AV} {l : List AV} {v : AV} {n : Nat} (hn : n < h.nx) (ha : ∀ s o c, a ≠ .sl n s o c) : (growH h a l v).m n = h.m n := by
  unfold growH
  split
  · rename_i k _ _ _
    show SL.upd (SL.upd h.m k none) h.nx _ n = h.m n
    rw [upd_ne _ _ _ _ (by omega), upd_ne _ _ _ _ (fun e => ha _ _ _ (by rw [e]))]
  · exact upd_ne _ _ _ _ (by omega)
theorem growH_hw {h : Heap} {a : AV} {l : List AV} {v : AV} (hw : HW h) : HW (growH h a l v) := by
  intro n hn
  rw [growH_nx] at hn
  unfold growH
  split
  · rename_i k _ _ _
    show SL.upd (SL.upd h.m k none) h.nx _ n = none
    rw [upd_ne _ _ _ _ (by omega)]
    by_cases e : n = k
    · rw [e]; exact upd_eq _ _ _
    · rw [upd_ne _ _ _ _ e]; exact hw n (by omega)
  · show SL.upd h.m h.nx _ n = none
    rw [upd_ne _ _ _ _ (by omega)]; exact hw n (by omega)
theorem growH_hx {h0 h : Heap} {a : AV} {l : List AV} {v : AV} (hx : HX h0 h) (ha : ∀ n s o c, a = .sl n s o c → h0.nx ≤ n) : HX h0 (growH h a l v) := by
  refine ⟨by rw [growH_nx]; have := hx.1; omega, fun n hn => ?_⟩
  rw [growH_ne (by have := hx.1; omega) (fun s o c e => by have := ha n s o c e; omega)]
  exact hx.2 n hn
theorem SlH.grow {h : Heap} {a : AV} {l : List AV} {v : AV} : SlH (growH h a l v) (.sl h.nx 1 0 (l.length + 1)) (l ++ [v]) := .inr ⟨h.nx, by simp, by simp, growH_new⟩
theorem SlH.app {h : Heap} {a : AV} {l : List AV} {v : AV} {d bytes : Nat} (x : SlH h a l) (hv : cellA v = true) (hb : (l.length + 1) * bytes ≤ 140737488355328) (hl : l.length + 1 ≤ 9223372036854775807) (ml : Nat → LE) (mc : Nat) :
    apT 1 d 1 bytes ⟨ml, mc, h⟩ (.v a) (.v (.vec [[v]])) = some (.v (.sl h.nx 1 0 (l.length + 1)), ⟨ml, mc, growH h a l v⟩) := by
  rcases x with ⟨rfl, rfl⟩ | ⟨n, hne, rfl, hm⟩
  · have hb' : bytes ≤ 140737488355328 := by simpa using hb
    simp only [nilS, apT_eq, srcT_vec, Option.bind_some, List.flatten_cons, List.flatten_nil, List.append_nil, List.map_cons, List.map_nil, List.length_cons, List.length_nil, List.all_cons, cellT, hv, List.all_nil, apK_nil]
    simp [hb', newSlT_1, fzs, fz, growH, newH_eq]
  · simp only [apT_eq, srcT_vec, Option.bind_some, List.flatten_cons, List.flatten_nil, List.append_nil, List.map_cons, List.map_nil, List.length_cons, List.length_nil, List.all_cons, cellT, hv, List.all_nil, apK_sl]
    simp [fzs, fz, hm, growH, newH_eq, hb, hl]

section
variable {P : Program}
/-- Two ways that come together again. -/
theorem cdB_join {a b : AC} {Q : Exit → St → Prop} {t : Nat → TV} {m : Mem} {p : Prop} [Decidable p] (M : Nat) (J : Exit → (Nat → TV) → Mem → Prop) (hMa : okC M a = true) (hMb : okC M b = true)
    (ha : p → awp P a (fun e st => J e st.t st.m) ⟨t, m⟩) (hb : ¬ p → awp P b (fun e st => J e st.t st.m) ⟨t, m⟩) (h2 : ∀ e t' m', J e t' m' → Q e ⟨ovr M t' t, m'⟩) : cdB P a b Q ⟨t, m⟩ (decide p) :=
  cdB_dec (fun hp _ => awp_cutW M J hMa (ha hp) h2) (fun hp _ => awp_cutW M J hMb (hb hp) h2)
/-- A call may take it that names not given are nobody's. -/
theorem acalls_hw {f : Nat} {args : List AV} {h : Heap} {R : AV → Heap → Prop} (hok : okFunc P f = true) (hc : HW h → ACalls P f args h R) : ACalls P f args h R :=
  ⟨hok, fun g w vs hG hs ha => (hc fun n hn => (hs.nx n hn).1).2 g w vs hG hs ha⟩
theorem ACalls.hw {f : Nat} {args : List AV} {h : Heap} {R : AV → Heap → Prop} (hc : ACalls P f args h fun r h' => HW h' → R r h') : ACalls P f args h R :=
  ⟨hc.1, fun g w vs hG hs ha => (hc.2 g w vs hG hs ha).mono fun e w' ⟨r, h', g', v, e1, e2, e3, e4, e5⟩ => ⟨r, h', g', v, e1, e2 fun n hn => (e4.nx n hn).1, e3, e4, e5⟩⟩
end
end SL
