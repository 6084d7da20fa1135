import Derived.Test.YtgkiaoodalnceaaDoorClSlK
/- The simulation logic, part La: quiet operations: what only reads; on which temporaries an operation hangs. -/
namespace SL
open Go
set_option linter.unusedVariables false
set_option linter.unusedSimpArgs false

def plainP : List (Nat × Nat × TV) → Bool
  | [] => true
  | (_, _, .v _) :: r => plainP r
  | _ :: _ => false

/-- The value of an operation that changes nothing. -/
def qv (t : Nat → TV) (m : Mem) : AI → Option TV
  | .mv x => some (ev t x)
  | .pk c a b => pkT (ev t c) (ev t a) (ev t b)
  | .bi op x y => (biT op (ev t x) (ev t y)).map .v
  | .bq neq x y => (bqT neq (ev t x) (ev t y)).map .v
  | .ni kd neq x => (isNil kd (ev t x)).map fun b => .v (.sc (.bool (b != neq)))
  | .un op x => (unT op (ev t x)).map .v
  | .cv k x => (cvT k (ev t x)).map .v
  | .b2s x => (b2sT m (ev t x)).map .v
  | .ln x => (lnT (ev t x)).map .v
  | .sn x => (snT (ev t x)).map .v
  | .ex i x => (exT i (ev t x)).map .v
  | .ld x => ld1 m (ev t x)
  | .ldn n x => (rdT m (ev t x)).bind fun cs => if n ≤ cs.length then (avs (cs.take n)).map fun as => .v (.agg as) else none
  | .fa off x => faT off (ev t x)
  | .fl off x => (flT off (ev t x)).map .v
  | .fln off n x => (flnT off n (ev t x)).map .v
  | .ix sz x i => ixT sz m (ev t x) (ev t i)
  | .ia sz n x i => iaT sz n (ev t x) (ev t i)
  | .xs x i => (xsT (ev t x) (ev t i)).map .v
  | .xa n x i => (xaT n (ev t x) (ev t i)).map .v
  | .nc x => ncT (ev t x)
  | .bs p sz ps => if p = 2 then (bsC sz (ps.map (ev t))).bind fun cs => if ps.length * sz ≤ 16777216 then (avs cs).map fun as => .v (.vec (chunk sz ps.length as)) else none else none
  | .bd z ps => if plainP (ps.map fun (o, s, x) => (o, s, ev t x)) = true then (fillT (z.map AV.sc) (ps.map fun (o, s, x) => (o, s, ev t x))).map fun cs => .v (.agg cs) else none
  | .ss x lo hi => (ssT t (ev t x) lo hi).map .v
  | .mm mx x y => (mmT mx (ev t x) (ev t y)).map .v
  | .mi ty x => match ev t x with
    | .v a => some (.v (.ifc ty a))
    | _ => none
  | _ => none

def rdMem : AI → Bool
  | .b2s _ | .ld _ | .ldn _ _ => true
  | _ => false

theorem fzs_avs {m : Mem} : ∀ {cs : List TV} {as : List AV}, avs cs = some as → fzs m cs = some (as, m)
  | [], as, h => by simp only [avs, Option.some.injEq] at h; subst h; rfl
  | .v a :: r, as, h => by
    simp only [avs, Option.map_eq_some_iff] at h
    obtain ⟨bs, hb, rfl⟩ := h
    simp [fzs, fz, fzs_avs hb]
  | .lp _ _ _ :: r, as, h => by simp [avs] at h
  | .vp _ :: r, as, h => by simp [avs] at h
  | .ls _ _ _ _ :: r, as, h => by simp [avs] at h

theorem fzP_plain {m : Mem} : ∀ {qs : List (Nat × Nat × TV)}, plainP qs = true → fzP m qs = some (qs, m)
  | [], _ => rfl
  | (o, s, .v a) :: r, h => by
    simp only [plainP] at h
    simp [fzP, fz, fzP_plain h]
  | (o, s, .lp _ _ _) :: r, h => by simp [plainP] at h
  | (o, s, .vp _) :: r, h => by simp [plainP] at h
  | (o, s, .ls _ _ _ _) :: r, h => by simp [plainP] at h

theorem qv_aev {t : Nat → TV} {m : Mem} {i : AI} {x : TV} (d : Nat) (h : qv t m i = some x) : aev d t m i = some (x, m) := by
  cases i <;> simp only [qv, reduceCtorEq] at h <;> simp only [aev]
  case mv => simpa using h
  case ldn n y =>
    simp only [Option.bind_eq_some_iff] at h
    obtain ⟨cs, hcs, h⟩ := h
    split at h
    · rename_i hn
      simp only [Option.map_eq_some_iff] at h
      obtain ⟨as, has, rfl⟩ := h
      simp [ldnT, hcs, hn, fzs_avs has]
    · cases h
  case bs p sz ps =>
    split at h
    · rename_i hp
      subst hp
      simp only [Option.bind_eq_some_iff] at h
      obtain ⟨cs, hcs, h⟩ := h
      split at h
      · rename_i hn
        simp only [Option.map_eq_some_iff] at h
        obtain ⟨as, has, rfl⟩ := h
        simp [hcs, hn, newSlT, fzs_avs has]
      · cases h
    · cases h
  case bd z ps =>
    split at h
    · rename_i hp
      simp only [Option.map_eq_some_iff] at h
      obtain ⟨cs, hcs, rfl⟩ := h
      simp [fzP_plain hp, hcs]
    · cases h
  case mi ty y =>
    split at h
    · rename_i a e
      cases h
      simp [miT, e, fz]
    · cases h
  all_goals first
    | (simp only [h, Option.map_some]; done)
    | (simp only [Option.map_eq_some_iff] at h; obtain ⟨u, hu, rfl⟩ := h; simp only [hu, Option.map_some])

theorem qv_free {t : Nat → TV} {m m' : Mem} {i : AI} (h : rdMem i = false) : qv t m i = qv t m' i := by
  cases i <;> first | rfl | (simp [rdMem] at h; done)

def opT : Opd → List Nat
  | .t n => [n]
  | _ => []
def opO : Option Opd → List Nat
  | some x => opT x
  | none => []

/-- The temporaries that an operation reads. -/
def rdI : AI → List Nat
  | .mv x | .ni _ _ x | .un _ x | .cv _ x | .s2b _ x | .b2s x | .ln x | .sn x | .ex _ x | .ld x | .ldn _ x | .fa _ x | .fl _ x | .fln _ _ x | .nc x | .bx _ x | .mi _ x => opT x
  | .pk c a b => opT c ++ opT a ++ opT b
  | .bi _ x y | .bq _ x y | .so x y | .son _ x y | .ix _ x y | .ia _ _ x y | .xs x y | .xa _ x y | .ms _ _ _ _ x y | .ap _ _ _ x y | .cp _ x y | .mm _ x y => opT x ++ opT y
  | .al _ _ => []
  | .bd _ ps => ps.flatMap fun q => opT q.2.2
  | .bs _ _ ps => ps.flatMap opT
  | .sl _ x lo hi | .ss x lo hi => opT x ++ opO lo ++ opO hi
  | .mf _ fi ca => fi.flatMap opT ++ ca.flatMap opT

theorem ev_congr {t t' : Nat → TV} {x : Opd} (h : ∀ n ∈ opT x, t n = t' n) : ev t x = ev t' x := by
  cases x <;> simp [ev]
  exact h _ (by simp [opT])

theorem evs_congr {t t' : Nat → TV} : ∀ {xs : List Opd}, (∀ n ∈ xs.flatMap opT, t n = t' n) → xs.map (ev t) = xs.map (ev t')
  | [], _ => rfl
  | x :: xs, h => by
    simp only [List.flatMap_cons, List.mem_append] at h
    rw [List.map_cons, List.map_cons, ev_congr (fun n hn => h n (.inl hn)), evs_congr (fun n hn => h n (.inr hn))]

theorem bnd_congr {t t' : Nat → TV} {d : Int} {x : Option Opd} (h : ∀ n ∈ opO x, t n = t' n) : bnd d t x = bnd d t' x := by
  cases x with
  | none => rfl
  | some x => simp only [bnd, ev_congr h]

theorem bdm_congr {t t' : Nat → TV} : ∀ {ps : List (Nat × Nat × Opd)}, (∀ n ∈ ps.flatMap (fun q => opT q.2.2), t n = t' n) → (ps.map fun (o, s, x) => (o, s, ev t x)) = ps.map fun (o, s, x) => (o, s, ev t' x)
  | [], _ => rfl
  | (o, s, x) :: ps, h => by
    simp only [List.flatMap_cons, List.mem_append] at h
    rw [List.map_cons, List.map_cons, bdm_congr (fun n hn => h n (.inr hn))]
    simp only [ev_congr (fun n hn => h n (.inl hn))]

theorem slT_congr {t t' : Nat → TV} {sz : Nat} {m : Mem} {x : TV} {lo hi : Option Opd} (h1 : ∀ n ∈ opO lo, t n = t' n) (h2 : ∀ n ∈ opO hi, t n = t' n) : slT sz t m x lo hi = slT sz t' m x lo hi := by
  unfold slT
  simp only [fun d => bnd_congr (d := d) h1, fun d => bnd_congr (d := d) h2]
theorem ssT_congr {t t' : Nat → TV} {x : TV} {lo hi : Option Opd} (h1 : ∀ n ∈ opO lo, t n = t' n) (h2 : ∀ n ∈ opO hi, t n = t' n) : ssT t x lo hi = ssT t' x lo hi := by
  unfold ssT
  simp only [fun d => bnd_congr (d := d) h1, fun d => bnd_congr (d := d) h2]

theorem aev_congr {t t' : Nat → TV} {d : Nat} {m : Mem} {i : AI} (h : ∀ n ∈ rdI i, t n = t' n) : aev d t m i = aev d t' m i := by
  have one : ∀ {x : Opd}, (∀ n ∈ opT x, n ∈ rdI i) → ev t x = ev t' x := fun hx => ev_congr fun n hn => h n (hx n hn)
  cases i <;> simp only [aev]
  case bd z ps => rw [bdm_congr (by simpa [rdI] using h)]
  case bs p sz ps => rw [evs_congr (by simpa [rdI] using h)]
  case mf f fi ca =>
    rw [evs_congr (xs := fi) (fun n hn => h n (by simp only [rdI, List.mem_append]; exact .inl hn)), evs_congr (xs := ca) (fun n hn => h n (by simp only [rdI, List.mem_append]; exact .inr hn))]
  case sl sz x lo hi =>
    rw [one (fun n hn => by simp [rdI, hn]), slT_congr (fun n hn => h n (by simp [rdI, hn])) (fun n hn => h n (by simp [rdI, hn]))]
  case ss x lo hi =>
    rw [one (fun n hn => by simp [rdI, hn]), ssT_congr (fun n hn => h n (by simp [rdI, hn])) (fun n hn => h n (by simp [rdI, hn]))]
  all_goals (repeat rw [one])
  all_goals (intro n hn; simp [rdI, hn])

theorem qv_congr {t t' : Nat → TV} {m : Mem} {i : AI} (h : ∀ n ∈ rdI i, t n = t' n) : qv t m i = qv t' m i := by
  have one : ∀ {x : Opd}, (∀ n ∈ opT x, n ∈ rdI i) → ev t x = ev t' x := fun hx => ev_congr fun n hn => h n (hx n hn)
  cases i <;> simp only [qv]
  case bd z ps => rw [bdm_congr (by simpa [rdI] using h)]
  case bs p sz ps => rw [evs_congr (by simpa [rdI] using h)]
  case ss x lo hi =>
    rw [one (fun n hn => by simp [rdI, hn]), ssT_congr (fun n hn => h n (by simp [rdI, hn])) (fun n hn => h n (by simp [rdI, hn]))]
  all_goals (repeat rw [one])
  all_goals (intro n hn; simp [rdI, hn])

end SL
