import Derived.Test.YtgkiaoodalnceaaDoorClSlJ
/- The simulation logic, part K: every operation that calls nothing. -/
namespace SL
open Go
set_option linter.unusedVariables false
set_option linter.unusedSimpArgs false

def compBuild (P : Program) (t : TypeId) (ps : List (Nat × Operand)) : Option AI :=
  match P.info? t with
  | some i => match i.zero with
    | some z => match P.underlying t with
      | some (.struct fs) => if fs.all (fun f => (szO P f.type).isSome) = true then (placesOf (fieldAt' P fs) ps).map fun qs => .bd z.cells.toList qs else none
      | some (.array _ e) => (szO P e).bind fun s => (placesOf (fun i => some (i * s, s)) ps).map fun qs => .bd z.cells.toList qs
      | _ => none
    | none => none
  | none => none

def compI (P : Program) (pol : Pol) (o : Oper) : Option AI :=
  match o.op with
  | .move x => some (.mv (compX x))
  | .assign x => some (.mv (compX x))
  | .pick c x y => some (.pk (compX c) (compX x) (compX y))
  | .alloc e => match P.info? e with
    | some i => match i.zero with
      | some z => some (.al (polOf pol o.dst 0) z.cells.toList)
      | none => none
    | none => none
  | .box _ x => some (.bx (polOf pol o.dst 0) (compX x))
  | .build t ps => compBuild P t ps.toList
  | .buildSlice t len ps => match P.underlying t with
    | some (.slice e) => match P.info? e with
      | some i => if i.zero.isSome = true then (inOrder 0 ps.toList).bind fun xs => if len = xs.length then some (.bs (polOf pol o.dst 2) i.size (xs.map compX)) else none else none
      | none => none
    | _ => none
  | .load t x => match P.underlying t with
    | some dd => if dd.isRow then (szO P t).map fun n => .ldn n (compX x) else some (.ld (compX x))
    | none => none
  | .store t x y => match P.underlying t with
    | some dd => (szO P t).bind fun n => if dd.isRow then some (.son n (compX x) (compX y)) else if n = 1 then some (.so (compX x) (compX y)) else none
    | none => none
  | .nilCheck x => some (.nc (compX x))
  | .binOp op xt x y _ => compBin P op xt x y
  | .unOp op _ x => some (.un op (compX x))
  | .convert s t x => compConv P pol o.dst s t x
  | .makeFunc f fi ca => some (.mf f (fi.toList.map compX) (ca.toList.map compX))
  | .makeInterface t x => match P.underlying t with
    | some (.interface _) => none
    | some _ => some (.mi t (compX x))
    | none => none
  | .makeSlice t l c => match P.underlying t with
    | some (.slice e) => match P.info? e with
      | some i => match i.zero with
        | some z => some (.ms (polOf pol o.dst 0) i.size i.bytes z.cells.toList (compX l) (compX c))
        | none => none
      | none => none
    | _ => none
  | .slice t x lo hi none => match P.underlying t with
    | some .string => some (.ss (compX x) (optX lo) (optX hi))
    | some (.slice e) => (szO P e).map fun n => .sl n (compX x) (optX lo) (optX hi)
    | _ => none
  | .fieldAddr t x i => match P.underlying t with
    | some (.struct fs) => (fs[i]?).bind fun f => (szO P f.type).bind fun n => if n = 0 then none else some (.fa f.offset (compX x))
    | _ => none
  | .field t x i => match P.underlying t with
    | some (.struct fs) => (fs[i]?).bind fun f => (P.underlying f.type).bind fun dd => if dd.isRow then (szO P f.type).map fun n => .fln f.offset n (compX x) else some (.fl f.offset (compX x))
    | _ => none
  | .indexAddr t x i => match P.underlying t with
    | some (.slice e) => (szO P e).map fun n => .ix n (compX x) (compX i)
    | some (.array len e) => (szO P e).map fun n => .ia n len (compX x) (compX i)
    | _ => none
  | .index t x i => match P.underlying t with
    | some .string => some (.xs (compX x) (compX i))
    | some (.array len e) => (P.underlying e).bind fun dd => if dd.isRow = false ∧ szO P e = some 1 then some (.xa len (compX x) (compX i)) else none
    | _ => none
  | .extract x i => some (.ex i (compX x))
  | .call c => match c.callee with
    | .builtin b => compBuiltin P pol o.dst b c.args.toList c.argTypes.toList
    | _ => none
  | _ => none

section
variable {P : Program} {k : K} {g : G} {la : La} {m m' : Mem} {w : World} {a : Act} {t : Nat → TV} {o : Oper} {d : Nat} {x : TV} {pol : Pol} {i : AI}

theorem arr1 {α : Type} {xs : Array α} {x : α} (h : xs.toList = [x]) : xs = #[x] := by apply Array.ext'; simpa using h
theorem arr2 {α : Type} {xs : Array α} {x y : α} (h : xs.toList = [x, y]) : xs = #[x, y] := by apply Array.ext'; simpa using h

theorem isEq_spec {op : BinOp} {neq : Bool} (h : isEq op = some neq) : op = if neq then .neq else .eql := by
  cases op <;> simp [isEq] at h <;> subst h <;> rfl

theorem bin_sound (S : SimC k g la m w) (ht : ∀ i, RepT g la w (t i) (a.tmps.getD i undef)) {op : BinOp} {xt yt : TypeId} {p q : Operand} (ho : o.op = .binOp op xt p q yt)
    (hc : compBin P op xt p q = some i) (he : aev d t m i = some (x, m')) : Out P k g la w o a x m' := by
  unfold compBin at hc
  split at hc
  · cases hc; exact op_bi S ht ho he
  · cases hc; exact op_bi S ht ho he
  · rename_i hty
    simp only [Option.map_eq_some_iff] at hc
    obtain ⟨neq, hn, rfl⟩ := hc
    exact op_bq S ht ho hty neq (isEq_spec hn) he
  · rename_i e hty
    simp only [Option.bind_eq_some_iff] at hc
    obtain ⟨neq, hn, hc⟩ := hc
    split at hc
    · cases hc
      exact op_ni S ht ho (isEq_spec hn) (.inl ⟨rfl, rfl, _, hty⟩) he
    · cases hc
  · rename_i e hty
    simp only [Option.bind_eq_some_iff] at hc
    obtain ⟨neq, hn, hc⟩ := hc
    split at hc
    · cases hc
      exact op_ni S ht ho (isEq_spec hn) (.inr (.inl ⟨rfl, rfl, _, hty⟩)) he
    · cases hc
  · rename_i e1 e2 e3 hty
    simp only [Option.bind_eq_some_iff] at hc
    obtain ⟨neq, hn, hc⟩ := hc
    split at hc
    · cases hc
      exact op_ni S ht ho (isEq_spec hn) (.inr (.inr ⟨rfl, rfl, _, _, _, hty⟩)) he
    · cases hc
  · cases hc

theorem conv_sound (S : SimC k g la m w) (ht : ∀ i, RepT g la w (t i) (a.tmps.getD i undef)) {src dst : TypeId} {p : Operand} {dd : Option Nat} (ho : o.op = .convert src dst p)
    (hc : compConv P pol dd src dst p = some i) (he : aev d t m i = some (x, m')) : Out P k g la w o a x m' := by
  unfold compConv at hc
  split at hc
  · rename_i h1 h2; cases hc; exact op_cv S ht ho h1 h2 he
  · rename_i h1 h2
    split at hc
    · rename_i h3; cases hc; exact op_s2b S ht ho h1 h2 (isU8_spec h3) he
    · cases hc
  · rename_i h1 h2
    split at hc
    · rename_i h3; cases hc; exact op_b2s S ht ho h1 h2 (isU8_spec h3) he
    · cases hc
  · cases hc

theorem builtin_sound (S : SimC k g la m w) (ht : ∀ i, RepT g la w (t i) (a.tmps.getD i undef)) {c : Call} {b : Builtin} {dd : Option Nat} (ho : o.op = .call c) (hb : c.callee = .builtin b)
    (hc : compBuiltin P pol dd b c.args.toList c.argTypes.toList = some i) (he : aev d t m i = some (x, m')) : Out P k g la w o a x m' := by
  obtain ⟨callee, args, tys⟩ := c
  simp only at hb hc
  subst hb
  unfold compBuiltin at hc
  split at hc
  · rename_i p ty e1 e2
    rw [arr1 e1, arr1 e2] at ho
    split at hc
    · rename_i hty; cases hc; exact op_sn S ht ho hty he
    · rename_i hty; cases hc; exact op_ln S ht ho hty he
    · cases hc
  · rename_i p q ty tx e1 e2
    rw [arr2 e1, arr2 e2] at ho
    split at hc
    · rename_i e hty
      split at hc
      · rename_i inf hi
        split at hc
        · rename_i z hz
          split at hc
          · rename_i hcond
            cases hc
            exact op_ap S ht ho hty (isSrc_spec hcond.2) hi hz hcond.1 he
          · cases hc
        · cases hc
      · cases hc
    · cases hc
  · rename_i p q ty tx e1 e2
    rw [arr2 e1, arr2 e2] at ho
    split at hc
    · rename_i e hty
      simp only [Option.map_eq_some_iff] at hc
      obtain ⟨inf, hi, rfl⟩ := hc
      exact op_cp S ht ho hty hi he
    · cases hc
  · rename_i p q e1
    rw [arr2 e1] at ho
    cases hc
    exact op_mm (mx := true) S ht ho he
  · rename_i p q e1
    rw [arr2 e1] at ho
    cases hc
    exact op_mm (mx := false) S ht ho he
  · cases hc

theorem build_sound (S : SimC k g la m w) (ht : ∀ i, RepT g la w (t i) (a.tmps.getD i undef)) {ty : TypeId} {ps : Array (Nat × Operand)} (ho : o.op = .build ty ps)
    (hc : compBuild P ty ps.toList = some i) (he : aev d t m i = some (x, m')) : Out P k g la w o a x m' := by
  have hparts : ((ps.map fun (p : Nat × Operand) => (p.1, a.eval p.2)).toList) = (ps.toList.map fun p => (p.1, a.eval p.2)) := by simp
  unfold compBuild at hc
  split at hc
  · rename_i inf hi
    split at hc
    · rename_i z hz
      split at hc
      · rename_i fs hty
        split at hc
        · rename_i hall
          simp only [Option.map_eq_some_iff] at hc
          obtain ⟨qs, hq, rfl⟩ := hc
          exact op_bd S ht ho hi hz (placesOf_spec hq) (fun cells hf => run_build_struct hty hi hz hall (by rw [← hparts] at hf; exact hf)) he
        · cases hc
      · rename_i n e hty
        simp only [Option.bind_eq_some_iff, Option.map_eq_some_iff] at hc
        obtain ⟨s, hs, qs, hq, rfl⟩ := hc
        exact op_bd S ht ho hi hz (placesOf_spec hq) (fun cells hf => run_build_array hty hi hz hs (by rw [← hparts] at hf; exact hf)) he
      · cases hc
    · cases hc
  · cases hc

theorem op_sound (S : SimC k g la m w) (ht : ∀ i, RepT g la w (t i) (a.tmps.getD i undef)) (hc : compI P pol o = some i) (he : aev d t m i = some (x, m')) : Out P k g la w o a x m' := by
  unfold compI at hc
  split at hc
  · rename_i ho; cases hc; exact op_mv S ht (.inl ho) he
  · rename_i ho; cases hc; exact op_mv S ht (.inr ho) he
  · rename_i ho; cases hc; exact op_pk S ht ho he
  · rename_i ho
    split at hc
    · rename_i inf hi
      split at hc
      · rename_i z hz; cases hc; exact op_al S ht ho hi hz he
      · cases hc
    · cases hc
  · rename_i ho; cases hc; exact op_bx S ht ho he
  · rename_i ho; exact build_sound S ht ho hc he
  · rename_i ho
    split at hc
    · rename_i e hty
      split at hc
      · rename_i inf hi
        split at hc
        · rename_i hz
          obtain ⟨z, hz⟩ := Option.isSome_iff_exists.1 hz
          simp only [Option.bind_eq_some_iff] at hc
          obtain ⟨xs, hx, hc⟩ := hc
          split at hc
          · rename_i hl
            cases hc
            exact op_bs S ht ho hty hi hz (inOrder_spec hx) hl he
          · cases hc
        · cases hc
      · cases hc
    · cases hc
  · rename_i ho
    split at hc
    · rename_i dd hty
      split at hc
      · rename_i hr
        simp only [Option.map_eq_some_iff] at hc
        obtain ⟨n, hn, rfl⟩ := hc
        exact op_ldn S ht ho hty hr hn he
      · rename_i hr; cases hc; exact op_ld S ht ho hty (by simpa using hr) he
    · cases hc
  · rename_i ho
    split at hc
    · rename_i dd hty
      simp only [Option.bind_eq_some_iff] at hc
      obtain ⟨n, hn, hc⟩ := hc
      split at hc
      · cases hc; exact op_son S ht ho hn he
      · split at hc
        · rename_i h1; subst h1; cases hc; exact op_so S ht ho hn he
        · cases hc
    · cases hc
  · rename_i ho; cases hc; exact op_nc S ht ho he
  · rename_i ho; exact bin_sound S ht ho hc he
  · rename_i ho; cases hc; exact op_un S ht ho he
  · rename_i ho; exact conv_sound S ht ho hc he
  · rename_i ho; cases hc; exact op_mf S ht ho he
  · rename_i ho
    split at hc
    · cases hc
    · rename_i dd hnot hty; cases hc; exact op_mi S ht ho hty (fun ms e => hnot ms e) he
    · cases hc
  · rename_i ho
    split at hc
    · rename_i e hty
      split at hc
      · rename_i inf hi
        split at hc
        · rename_i z hz; cases hc; exact op_ms S ht ho hty hi hz he
        · cases hc
      · cases hc
    · cases hc
  · rename_i ho
    split at hc
    · rename_i hty; cases hc; exact op_ss S ht ho hty he
    · rename_i e hty
      simp only [Option.map_eq_some_iff] at hc
      obtain ⟨n, hn, rfl⟩ := hc
      exact op_sl S ht ho hty hn he
    · cases hc
  · rename_i ho
    split at hc
    · rename_i fs hty
      simp only [Option.bind_eq_some_iff] at hc
      obtain ⟨f, hf, n, hn, hc⟩ := hc
      split at hc
      · cases hc
      · rename_i h0; cases hc; exact op_fa S ht ho hty hf hn h0 he
    · cases hc
  · rename_i ho
    split at hc
    · rename_i fs hty
      simp only [Option.bind_eq_some_iff] at hc
      obtain ⟨f, hf, dd, hd, hc⟩ := hc
      split at hc
      · rename_i hr
        simp only [Option.map_eq_some_iff] at hc
        obtain ⟨n, hn, rfl⟩ := hc
        exact op_fln S ht ho hty hf hd hr hn he
      · rename_i hr; cases hc; exact op_fl S ht ho hty hf hd (by simpa using hr) he
    · cases hc
  · rename_i ho
    split at hc
    · rename_i e hty
      simp only [Option.map_eq_some_iff] at hc
      obtain ⟨n, hn, rfl⟩ := hc
      exact op_ix S ht ho hty hn he
    · rename_i len e hty
      simp only [Option.map_eq_some_iff] at hc
      obtain ⟨n, hn, rfl⟩ := hc
      exact op_ia S ht ho hty hn he
    · cases hc
  · rename_i ho
    split at hc
    · rename_i hty; cases hc; exact op_xs S ht ho hty he
    · rename_i len e hty
      simp only [Option.bind_eq_some_iff] at hc
      obtain ⟨dd, hd, hc⟩ := hc
      split at hc
      · rename_i hr; cases hc; exact op_xa S ht ho hty hr.2 hd hr.1 he
      · cases hc
    · cases hc
  · rename_i ho; cases hc; exact op_ex S ht ho he
  · rename_i c ho
    split at hc
    · rename_i b hb; exact builtin_sound S ht ho hb hc he
    · cases hc
  · cases hc

end
end SL
