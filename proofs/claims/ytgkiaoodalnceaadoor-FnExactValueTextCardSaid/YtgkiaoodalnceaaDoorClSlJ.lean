import Derived.Test.YtgkiaoodalnceaaDoorClSlI
import Derived.Lib.ConvBytes
import Derived.Laws.BytesString
/- The simulation logic, part J: strings and bytes; the whole table of operations. -/
namespace SL
open Go
set_option linter.unusedVariables false
set_option linter.unusedSimpArgs false

section
variable {P : Program} {k : K} {g : G} {la : La} {m m' : Mem} {w : World} {a : Act} {t : Nat → TV} {o : Oper} {d : Nat} {x : TV}

theorem op_s2b (S : SimC k g la m w) (ht : ∀ i, RepT g la w (t i) (a.tmps.getD i undef)) {src dst e : TypeId} {p : Operand} {pp : Nat} {ud : TypeDesc} (ho : o.op = .convert src dst p)
    (h1 : P.underlying src = some ud) (h2 : P.underlying dst = some (.slice e)) (h3 : P.underlying e = some (.int .u8)) (he : aev d t m (.s2b pp (compX p)) = some (x, m')) : Out P k g la w o a x m' := by
  simp only [aev] at he
  have hp := ev_sound ht p
  unfold s2bT at he
  split at he
  · rename_i s e1
    rw [e1] at hp
    simp only [RepT, RepA] at hp
    split at he
    · have hge := grownCap_ge w s.size 0 e
      have T : Turn w (Lib.bytesWorld w e s) none :=
        ⟨rfl, rfl, rfl, by rw [Lib.bytesWorld_size]; omega, fun j hj _ => Lib.bytesWorld_at_old w e s j hj, fun j y hy => by
          rw [shape_same (Lib.bytesWorld_at_old w e s j (shape_lt hy))]; exact hy⟩
      have R : Row (Lib.bytesWorld w e s) w.heap.size (Lib.bytesCells w e s) := ⟨e, _, Lib.bytesWorld_at_new w e s, fun o ho => by simp; omega⟩
      have hss : s.data.toList.length = s.size := rfl
      have hsz : (Lib.bytesCells w e s).size = grownCap w s.size 0 e := by
        have : s.data.size = s.size := rfl
        simp [Lib.bytesCells]; omega
      obtain ⟨g', la', q1, q2, q3, q4⟩ := newSlT_sound S T (cap := grownCap w s.size 0 e) he (Nat.le_refl _) R (by
        have e2 : (Lib.bytesCells w e s).toList.take (s.data.toList.map fun b => TV.v (.sc (.int .u8 b.toNat))).length = s.data.toList.map fun b => Value.int .u8 b.toNat := by
          have : (s.data.toList.map fun b => TV.v (.sc (.int .u8 b.toNat))).length = (s.data.toList.map fun b => Value.int .u8 b.toNat).length := by simp
          rw [this, Lib.bytesCells, Array.toList_append, Array.toList_map]
          exact List.take_left
        rw [e2]
        have := repScT g la w (s.data.toList.map fun b => Value.int .u8 b.toNat)
        rw [List.map_map] at this
        exact this) (by simp [hss]) (by simp [hsz]) hge
      refine ⟨_, _, g', la', .inl ?_, q1, q2, q3, q4⟩
      simp only [execOp, ho, hp, Sem.run_bind]
      rw [Lib.run_convert_string_bytes w src dst e s h1 h2 h3]
      simp
    · cases he
  · cases he

theorem bytesOfA_spec : ∀ {as : List AV} {vs : List Value} {l : List UInt8}, RepL g w as vs → bytesOfA as = some l → ∃ ns : List Int, vs = ns.map (Value.int .u8) ∧ l = ns.map fun n => UInt8.ofNat n.toNat
  | [], vs, l, h, hb => by
    simp only [RepL] at h
    simp only [bytesOfA, Option.some.injEq] at hb
    exact ⟨[], by simp [h], by simp [← hb]⟩
  | a :: as, vs, l, h, hb => by
    simp only [RepL] at h
    obtain ⟨x, xs, rfl, h1, h2⟩ := h
    simp only [bytesOfA, Option.bind_eq_some_iff, Option.map_eq_some_iff] at hb
    obtain ⟨b, hb1, bs, hb2, rfl⟩ := hb
    obtain ⟨ns, rfl, rfl⟩ := bytesOfA_spec h2 hb2
    unfold byteOfA at hb1
    split at hb1
    · rename_i n
      simp only [RepA] at h1
      cases hb1
      subst h1
      exact ⟨n :: ns, rfl, rfl⟩
    · cases hb1

theorem foldl_push (ns : List Int) : ∀ (s : ByteArray), (ns.foldl (fun r n => r.push (UInt8.ofNat n.toNat)) s) = ⟨(s.data.toList ++ ns.map fun n => UInt8.ofNat n.toNat).toArray⟩ := by
  induction ns with
  | nil => intro s; simp
  | cons n ns ih =>
    intro s
    simp only [List.foldl_cons, ih, List.map_cons]
    congr 2
    simp [ByteArray.push]

theorem op_b2s (S : SimC k g la m w) (ht : ∀ i, RepT g la w (t i) (a.tmps.getD i undef)) {src dst e : TypeId} {p : Operand} (ho : o.op = .convert src dst p)
    (h1 : P.underlying src = some (.slice e)) (h2 : P.underlying dst = some .string) (h3 : P.underlying e = some (.int .u8)) (he : aev d t m (.b2s (compX p)) = some (x, m')) : Out P k g la w o a x m' := by
  simp only [aev, Option.map_eq_some_iff, Prod.mk.injEq] at he
  obtain ⟨u, hu, rfl, rfl⟩ := he
  have hp := ev_sound ht p
  unfold b2sT at hu
  split at hu
  · cases hu
  · rename_i hns
    simp only [Option.bind_eq_some_iff, Prod.exists, Option.ite_none_right_eq_some, Option.map_eq_some_iff] at hu
    obtain ⟨n, cs, hsrc, hlen, as, has, l, hl, rfl⟩ := hu
    obtain ⟨vals, s1, s2⟩ := srcT_sound (P := P) S hp hsrc (by omega) (by omega)
    have e1 := avs_eq has
    rw [e1] at s2
    obtain ⟨ns, rfl, rfl⟩ := bytesOfA_spec s2.toL hl
    have hv : ∃ ad n' c, a.eval p = .slice ad n' c := by
      unfold srcT at hsrc
      split at hsrc
      · rename_i s heq; exact (hns s heq).elim
      · rename_i e2; rw [e2] at hp; simp only [RepT, RepA] at hp; exact ⟨_, _, _, hp⟩
      · rename_i e2; rw [e2] at hp; simp only [RepT, RepA] at hp; obtain ⟨_, _, _, hp, _⟩ := hp; exact ⟨_, _, _, hp⟩
      · rename_i e2; rw [e2] at hp; simp only [RepT, RepA] at hp; obtain ⟨_, _, _, hp, _⟩ := hp; exact ⟨_, _, _, hp⟩
      · rename_i e2; rw [e2] at hp; obtain ⟨_, _, _, hp, _⟩ := hp; exact ⟨_, _, _, hp⟩
      · cases hsrc
    obtain ⟨ad, n', c, hv⟩ := hv
    have hn : n' = n := by
      have := s1.len w
      rw [hv] at this
      simpa [Builtin.lenOf] using this
    subst hn
    have hc := s1.cells n' (Nat.le_refl _)
    have hvl : (ns.map (Value.int .u8)).length = n' := by rw [s2.length, ← hlen, e1]
    rw [List.take_of_length_le (by omega), hv] at hc
    refine Out.same S (v := .string ⟨(ns.map fun n => UInt8.ofNat n.toNat).toArray⟩) (.inl ?_) (by simp [RepT, RepA])
    simp only [execOp, ho, hv, Sem.run_bind]
    rw [run_convert_bytes_string w src dst e ad n' c h1 h3 h2]
    cases ad with
    | none =>
      have : ns = [] := by simpa [Builtin.firstCells] using hc
      subst this
      simp [Conv.bytesToString]
      rfl
    | some ad =>
      have hc2 : (loadCells ad n').run P w = .ok (ns.map (Value.int .u8)).toArray w := by simpa [Builtin.firstCells] using hc
      rw [run_bytesToString w ad n' c ns hc2, foldl_push]
      simp
  
theorem run_mapM_list {α β : Type} (f : α → Sem β) (r : α → β) (w : World) : ∀ l : List α, (∀ x ∈ l, (f x).run P w = .ok (r x) w) → (l.mapM f).run P w = .ok (l.map r) w
  | [], _ => by simp
  | x :: l, h => by
    rw [List.mapM_cons]
    simp only [Sem.run_bind, h x (by simp), Result.andThen_ok, run_mapM_list f r w l (fun y hy => h y (by simp [hy])), Sem.run_pure, List.map_cons]

def szO (P : Program) (t : TypeId) : Option Nat := (P.info? t).map (·.size)

/-- Where a struct's fields lie. -/
def fieldAt' (P : Program) (fs : Array Field) (i : Nat) : Option (Nat × Nat) := (fs[i]?).bind fun f => (szO P f.type).map fun s => (f.offset, s)

theorem run_build_struct {ty : TypeId} {fs : Array Field} {i : TypeInfo} {z : Value} {parts : Array (Nat × Value)} {cells : Array Value} (hd : P.underlying ty = some (.struct fs)) (hi : P.info? ty = some i) (hz : i.zero = some z)
    (hall : fs.all (fun f => (szO P f.type).isSome) = true) (hf : Instr.fill (fieldAt' P fs) z.cells parts.toList = some cells) : (Instr.build ty parts).run P w = .ok (.agg cells) w := by
  have rz : (zeroValue ty).run P w = .ok z w := by simp [zeroValue, typeInfo, hi, hz]
  have hm : (fs.mapM fun (f : Field) => (do pure (f.offset, ← Go.sizeOf f.type) : Sem (Nat × Nat))).run P w = .ok (fs.map fun f => (f.offset, (szO P f.type).getD 0)) w := by
    rw [Array.mapM_eq_mapM_toList]
    simp only [map_eq_pure_bind, Sem.run_bind]
    rw [run_mapM_list _ (fun f => (f.offset, (szO P f.type).getD 0)) w fs.toList (fun f hf => by
      have : (szO P f.type).isSome = true := by
        rw [Array.all_eq_true_iff_forall_mem] at hall
        exact hall f (by simpa using hf)
      cases hq : P.info? f.type with
      | none => simp [szO, hq] at this
      | some inf => simp [Go.sizeOf, typeInfo, hq, szO])]
    simp
    apply Array.ext'
    simp
  have hpl : (fun j => (fs.map fun f => (f.offset, (szO P f.type).getD 0))[j]?) = fieldAt' P fs := by
    funext j
    simp only [fieldAt', Array.getElem?_map]
    cases hj : fs[j]? with
    | none => rfl
    | some f =>
      have : (szO P f.type).isSome = true := by
        rw [Array.all_eq_true_iff_forall_mem] at hall
        exact hall f (Array.mem_of_getElem? hj)
      obtain ⟨s, hs⟩ := Option.isSome_iff_exists.1 this
      simp [hs]
  unfold Instr.build
  simp only [Sem.run_bind, rz, Result.andThen_ok, run_underlying hd, hm, hpl, hf, Sem.run_pure]

theorem run_build_array {ty e : TypeId} {len s : Nat} {i : TypeInfo} {z : Value} {parts : Array (Nat × Value)} {cells : Array Value} (hd : P.underlying ty = some (.array len e)) (hi : P.info? ty = some i) (hz : i.zero = some z)
    (hs : szO P e = some s) (hf : Instr.fill (fun i => some (i * s, s)) z.cells parts.toList = some cells) : (Instr.build ty parts).run P w = .ok (.agg cells) w := by
  have rz : (zeroValue ty).run P w = .ok z w := by simp [zeroValue, typeInfo, hi, hz]
  have rs : (Go.sizeOf e).run P w = .ok s w := by
    cases hq : P.info? e with
    | none => simp [szO, hq] at hs
    | some inf => simp [szO, hq] at hs; simp [Go.sizeOf, typeInfo, hq, hs]
  unfold Instr.build
  simp only [Sem.run_bind, rz, Result.andThen_ok, run_underlying hd, rs, hf, Sem.run_pure]

def placesOf (place : Nat → Option (Nat × Nat)) : List (Nat × Operand) → Option (List (Nat × Nat × Opd))
  | [] => some []
  | (i, x) :: r => (place i).bind fun (o, s) => (placesOf place r).map fun qs => (o, s, compX x) :: qs

theorem placesOf_spec {place : Nat → Option (Nat × Nat)} : ∀ {ps : List (Nat × Operand)} {qs : List (Nat × Nat × Opd)}, placesOf place ps = some qs →
    All2 (fun (q : Nat × Nat × Opd) (p : Nat × Operand) => place p.1 = some (q.1, q.2.1) ∧ q.2.2 = compX p.2) qs ps
  | [], qs, h => by simp only [placesOf, Option.some.injEq] at h; subst h; exact .nil
  | (i, x) :: r, qs, h => by
    simp only [placesOf, Option.bind_eq_some_iff, Option.map_eq_some_iff, Prod.exists] at h
    obtain ⟨o, s, h1, qs', h2, rfl⟩ := h
    exact .cons ⟨h1, rfl⟩ (placesOf_spec h2)

def inOrder (j : Nat) : List (Nat × Operand) → Option (List Operand)
  | [] => some []
  | (i, x) :: r => if i = j then (inOrder (j + 1) r).map (x :: ·) else none

theorem inOrder_spec : ∀ {j : Nat} {ps : List (Nat × Operand)} {xs : List Operand}, inOrder j ps = some xs → ps = (xs.zipIdx j).map fun p => (p.2, p.1)
  | j, [], xs, h => by simp only [inOrder, Option.some.injEq] at h; subst h; rfl
  | j, (i, x) :: r, xs, h => by
    simp only [inOrder] at h
    split at h
    · rename_i e
      subst e
      simp only [Option.map_eq_some_iff] at h
      obtain ⟨ys, hy, rfl⟩ := h
      rw [inOrder_spec hy]
      rfl
    · cases h

abbrev Pol := List (Nat × Nat)
def polOf (p : Pol) (d : Option Nat) (dflt : Nat) : Nat := ((p.find? fun q => some q.1 == d).map (·.2)).getD dflt

def isEq : BinOp → Option Bool
  | .eql => some false
  | .neq => some true
  | _ => none

def compBin (P : Program) (op : BinOp) (xt : TypeId) (x y : Operand) : Option AI :=
  match P.underlying xt with
  | some (.int _) => some (.bi op (compX x) (compX y))
  | some .string => some (.bi op (compX x) (compX y))
  | some .bool => (isEq op).map fun neq => .bq neq (compX x) (compX y)
  | some (.pointer _) => (isEq op).bind fun neq => match y with | .const (.pointer none) => some (.ni 0 neq (compX x)) | _ => none
  | some (.interface _) => (isEq op).bind fun neq => match y with | .const .nilIface => some (.ni 1 neq (compX x)) | _ => none
  | some (.func _ _ _) => (isEq op).bind fun neq => match y with | .const .nilFunc => some (.ni 2 neq (compX x)) | _ => none
  | _ => none

def isU8 (P : Program) (e : TypeId) : Bool :=
  match P.underlying e with
  | some (.int .u8) => true
  | _ => false

theorem isU8_spec {e : TypeId} (h : isU8 P e = true) : P.underlying e = some (.int .u8) := by
  unfold isU8 at h
  split at h
  · assumption
  · cases h

def compConv (P : Program) (pol : Pol) (dst : Option Nat) (s t : TypeId) (x : Operand) : Option AI :=
  match P.underlying s, P.underlying t with
  | some (.int _), some (.int k) => some (.cv k (compX x))
  | some .string, some (.slice e) => if isU8 P e = true then some (.s2b (polOf pol dst 0) (compX x)) else none
  | some (.slice e), some .string => if isU8 P e = true then some (.b2s (compX x)) else none
  | _, _ => none

def isSrc (P : Program) (u : TypeId) : Bool :=
  match P.underlying u with
  | some (.slice _) => true
  | some .string => true
  | _ => false

theorem isSrc_spec {u : TypeId} (h : isSrc P u = true) : (∃ e', P.underlying u = some (.slice e')) ∨ P.underlying u = some .string := by
  unfold isSrc at h
  split at h
  · rename_i e' h2; exact .inl ⟨e', h2⟩
  · rename_i h2; exact .inr h2
  · cases h

def compBuiltin (P : Program) (pol : Pol) (dst : Option Nat) (b : Builtin) (args : List Operand) (tys : List TypeId) : Option AI :=
  match b, args, tys with
  | .len, [x], [t] => match P.underlying t with
    | some .string => some (.sn (compX x))
    | some (.slice _) => some (.ln (compX x))
    | _ => none
  | .append, [x, y], [t, u] => match P.underlying t with
    | some (.slice e) => match P.info? e with
      | some i => match i.zero with
        | some z => if z.cells.size = i.size ∧ isSrc P u = true then some (.ap (polOf pol dst 0) i.size i.bytes (compX x) (compX y)) else none
        | none => none
      | none => none
    | _ => none
  | .copy, [x, y], [t, _] => match P.underlying t with
    | some (.slice e) => (P.info? e).map fun i => .cp i.size (compX x) (compX y)
    | _ => none
  | .max, [x, y], _ => some (.mm true (compX x) (compX y))
  | .min, [x, y], _ => some (.mm false (compX x) (compX y))
  | _, _, _ => none

end
end SL
