import Derived.Test.YtgkiaoodalnceaaDoorClSlU
/- The simulation logic, part V: strings by their bytes; slices of bytes. -/
namespace SL
open Go
set_option linter.unusedVariables false
set_option linter.unusedSimpArgs false

/-- A string by its bytes. -/
def bs (l : List UInt8) : ByteArray := ⟨l.toArray⟩
theorem bs_toList (s : ByteArray) : bs s.data.toList = s := by
  cases s; simp [bs]
theorem bs_size {l : List UInt8} : (bs l).size = l.length := by simp [bs, ByteArray.size]
theorem bs_append {a b : List UInt8} : bs a ++ bs b = bs (a ++ b) := by
  apply ByteArray.ext
  simp [bs]
theorem bs_mk {l : List UInt8} : (⟨l.toArray⟩ : ByteArray) = bs l := rfl
theorem bs_eq {a b : List UInt8} : (bs a = bs b) = (a = b) := by
  apply propext
  constructor
  · intro h
    have := congrArg (fun s : ByteArray => s.data.toList) h
    simpa [bs] using this
  · rintro rfl; rfl
theorem bs_get {l : List UInt8} {i : Nat} : (bs l)[i]? = l[i]? := by
  by_cases h : i < l.length
  · rw [getElem?_pos _ _ (by rw [bs_size]; exact h), List.getElem?_eq_getElem h]
    simp [bs, ByteArray.getElem_eq_getElem_data]
  · rw [getElem?_neg _ _ (by rw [bs_size]; exact h), List.getElem?_eq_none (by omega)]
theorem bs_extract {l : List UInt8} {i j : Nat} : (bs l).extract i j = bs ((l.take j).drop i) := by
  apply ByteArray.ext
  simp [bs, ByteArray.data_extract, List.drop_take]
theorem bs_data {l : List UInt8} : (bs l).data.toList = l := by simp [bs]

/-- A byte in a slice. -/
def byC (b : UInt8) : List AV := [.sc (.int .u8 b.toNat)]
theorem byC_len {l : List UInt8} : ∀ e ∈ l.map byC, e.length = 1 := by simp [byC]
theorem byC_of {n : Int} (h : 0 ≤ n ∧ n ≤ 255) : byC (UInt8.ofNat n.toNat) = [.sc (.int .u8 n)] := by
  have : (UInt8.ofNat n.toNat).toNat = n.toNat := by
    rw [UInt8.toNat_ofNat']
    omega
  simp only [byC, this]
  rw [Int.toNat_of_nonneg h.1]

theorem bytesOfA_by {l : List UInt8} : bytesOfA (l.map byC).flatten = some l := by
  induction l with
  | nil => rfl
  | cons b l ih =>
    simp only [List.map_cons, List.flatten_cons, byC, List.cons_append, List.nil_append] at ih ⊢
    simp only [bytesOfA, byteOfA, Option.bind_some, ih, Option.map_some]
    simp
theorem flat_by {l : List UInt8} : (l.map byC).flatten = l.map fun b => AV.sc (.int .u8 b.toNat) := by
  induction l with
  | nil => rfl
  | cons b l ih => simp [byC, ih]
theorem b2s_vec {m : Mem} {l : List UInt8} : b2sT m (.v (.vec (l.map byC))) = some (.sc (.string (bs l))) := by
  have h : ((l.map byC).flatten.map TV.v).length = l.length := by rw [flat_by]; simp
  simp only [b2sT, srcT, Option.bind_some, h, List.length_map, if_true, avs_mapv, bytesOfA_by, Option.map_some]
  rfl
theorem b2s_nil {m : Mem} : b2sT m (.v (.sc (.slice none 0 0))) = some (.sc (.string (bs []))) := rfl
theorem b2s_vec0 {m : Mem} : b2sT m (.v (.vec [])) = some (.sc (.string (bs []))) := rfl
/-- A text out of a slice of the call's own. -/
theorem LsE.b2s {D : List Nat} {m : Mem} {x : TV} {l : List UInt8} (h : LsE D m x 1 (l.map byC)) : b2sT m x = some (.sc (.string (bs l))) := by
  rcases h.2 with ⟨h1, rfl⟩ | ⟨d, ver, cs, hd, rfl, h2, h3, h4⟩
  · have : l = [] := by simpa using h1
    subst this; rfl
  · simp only [List.length_map, Nat.mul_one] at h3 h4
    simp only [b2sT, srcT, h2, LE.get, if_true, Option.bind_some, List.length_map, Nat.mul_one, h4, and_self, h3]
    have hl : ((l.map byC).flatten.map TV.v).length = l.length := by rw [flat_by]; simp
    have hl2 : (l.map byC).flatten.length = l.length := by rw [flat_by]; simp
    simp only [hl, hl2, if_true, avs_mapv, Option.bind_some, bytesOfA_by, Option.map_some]
    rfl

/-- An element of a slice that is fixed. -/
theorem vget {α : Type} {c : α → List AV} {sz : Nat} {k : IntKind} {l : List α} {i : Nat} (hc : ∀ e ∈ l.map c, e.length = sz) (hi : i < l.length) :
    ∃ y, l[i]? = some y ∧ ∀ m, ixT sz m (.v (.vec (l.map c))) (.v (.sc (.int k i))) = some (.vp (c y)) :=
  ⟨l[i], List.getElem?_eq_getElem hi, fun m => vec_get hc (by simp [hi])⟩

/-- A byte of a text. -/
theorem sget {k : IntKind} {l : List UInt8} {i : Nat} (hi : i < l.length) : ∃ y, l[i]? = some y ∧ xsT (.v (.sc (.string (bs l)))) (.v (.sc (.int k i))) = some (.sc (.int .u8 y.toNat)) :=
  ⟨l[i], List.getElem?_eq_getElem hi, by simp [xsT, bs_get, List.getElem?_eq_getElem hi]⟩

theorem chunk_4 {sz : Nat} {l : List AV} : chunk sz 4 l = [l.take sz, (l.drop sz).take sz, ((l.drop sz).drop sz).take sz, (((l.drop sz).drop sz).drop sz).take sz] := rfl
theorem chunk_5 {sz : Nat} {l : List AV} : chunk sz 5 l = l.take sz :: chunk sz 4 (l.drop sz) := rfl
theorem chunk_22 {sz : Nat} {l : List AV} : chunk sz 22 l = l.take sz :: chunk sz 21 (l.drop sz) := rfl
attribute [push_cast] chunk_4 chunk_5
/-- A slice of the call's own is fixed, and stays so. -/
theorem LsE.fz2 {D : List Nat} {m : Mem} {x : TV} {sz : Nat} {es : List (List AV)} (h : LsE D m x sz es) : ∃ a ml mc, SL.fz m x = some (a, ⟨ml, mc, m.h⟩) ∧ Sub a (.vec es) ∧ (∀ s, s ∉ D → ml s = m.l s) ∧ cellA a = true ∧ (∀ h2, SL.fz ⟨ml, mc, h2⟩ x = some (a, ⟨ml, mc, h2⟩)) ∧ mc = m.c := by
  rcases h.2 with ⟨rfl, rfl⟩ | ⟨d, ver, cs, hd, rfl, h2, h3, h4⟩
  · exact ⟨_, m.l, m.c, rfl, Sub.nilv, fun _ _ => rfl, rfl, fun _ => rfl, rfl⟩
  · refine ⟨.vec es, upd m.l d (.fr ver cs), m.c, ?_, Sub.refl _, fun s hs => upd_ne _ _ _ _ (fun e => hs (e ▸ hd)), rfl, fun h2 => ?_, rfl⟩
    · simp only [SL.fz, h2, h4, and_self, if_true, h3, avs_mapv, Option.map_some, chunk_flat h.1]
    · simp only [SL.fz, upd_eq, h4, and_self, if_true, h3, avs_mapv, Option.map_some, chunk_flat h.1]
theorem Sub.tup2 {a b c : AV} (h : Sub a b) : Sub (.tup [a, c]) (.tup [b, c]) := Sub.tup (SubL.cons h (SubL.refl _))
theorem end_ls2 {R : AV → Heap → Prop} {D : List Nat} {m : Mem} {x : TV} {sz : Nat} {es : List (List AV)} {b : AV} (h : LsE D m x sz es) (hR : R (.tup [.vec es, b]) m.h) :
    endR (fun r h' => ∃ r', Sub r r' ∧ R r' h') ((SL.fz m x).bind fun x => some ([x.1, b], x.2)) := by
  obtain ⟨a, m', e1, e2, e3, _⟩ := LsE.fz h
  simp only [e1, Option.bind_some, endR, tupA]
  exact ⟨_, Sub.tup2 e2, by rw [e3]; exact hR⟩
attribute [push_cast] bs_size bs_append bs_mk bs_eq bs_get bs_extract b2s_vec b2s_nil List.take_length List.drop_zero
end SL
