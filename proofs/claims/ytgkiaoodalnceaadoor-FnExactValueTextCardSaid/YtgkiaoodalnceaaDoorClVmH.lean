import Derived.Test.YtgkiaoodalnceaaDoorClSlW
import Derived.Test.YtgkiaoodalnceaaDoorClVmT
/- Trees in the heap. -/
namespace VM
open Go SL
set_option linter.unusedVariables false
set_option linter.unusedSimpArgs false

theorem _root_.SL.SlH.ln {h : Heap} {a : AV} {l : List AV} (x : SlH h a l) : lnT (.v a) = some (.sc (.int .i64 l.length)) := by
  rcases x with ⟨rfl, rfl⟩ | ⟨_, _, rfl, _⟩ <;> simp [nilS, lnT, goI]
theorem _root_.SL.SlH.get {h : Heap} {a : AV} {l : List AV} (x : SlH h a l) {k : IntKind} {i : Nat} {v : AV} (hi : l[i]? = some v) :
    ∃ n o, (∀ m, ixT 1 m (.v a) (.v (.sc (.int k i))) = some (.v (.ptr n o))) ∧ (∃ cs, h.m n = some cs ∧ cs[o]? = some v) := by
  have hlt : i < l.length := (List.getElem?_eq_some_iff.1 hi).1
  rcases x with ⟨rfl, rfl⟩ | ⟨n, _, rfl, hm⟩
  · simp at hlt
  · exact ⟨n, 0 + i * 1, fun m => by simp only [ixT_sl]; rw [if_pos ⟨trivial, by omega, by omega⟩]; rfl, l, hm, by simpa using hi⟩
theorem _root_.SL.SlH.hx {h h' : Heap} {a : AV} {l : List AV} (x : SlH h a l) (hw : HW h) (hx : HX h h') : SlH h' a l := by
  rcases x with x | ⟨n, h1, h2, h3⟩
  · exact .inl x
  · exact .inr ⟨n, h1, h2, hx.get hw h3⟩
theorem ld_ptr {m : Mem} {n o : Nat} {cs : List AV} {v : AV} (h1 : m.h.m n = some cs) (h2 : cs[o]? = some v) : ld1 m (.v (.ptr n o)) = some (.v v) := by
  simp [ld1, h1, h2]

theorem fzs_vs {m : Mem} : ∀ l : List AV, fzs m (l.map TV.v) = some (l, m)
  | [] => rfl
  | a :: r => by simp [fzs_cons, fzs_vs r]
theorem fzs_rep3 {m : Mem} {n : Nat} (a b c : AV) : fzs m (List.replicate n [TV.v a, TV.v b, TV.v c]).flatten = some ((List.replicate n [a, b, c]).flatten, m) := by
  have e : (List.replicate n [TV.v a, TV.v b, TV.v c]).flatten = ((List.replicate n [a, b, c]).flatten).map TV.v := by simp
  rw [e, fzs_vs]
mutual
/-- A type's tree in the heap. -/
def TyAt (h : Heap) : Ty → AV → Prop
  | .mk k n kids, a => ∃ b o cs ps l, a = .ptr b o ∧ h.m b = some cs ∧ cs[o]? = some (.sc (.int .i64 k)) ∧ cs[o + 1]? = some (.sc (.int .i64 n)) ∧ cs[o + 2]? = some ps ∧ SlH h ps l ∧ TysAt h kids l
def TysAt (h : Heap) : List Ty → List AV → Prop
  | [], l => l = []
  | t :: r, l => ∃ a s, l = a :: s ∧ TyAt h t a ∧ TysAt h r s
end
mutual
/-- A value's tree in the heap. -/
def VlAt (h : Heap) : Vl → AV → Prop
  | .mk n x kids, a => ∃ b o cs ps l, a = .ptr b o ∧ h.m b = some cs ∧ cs[o]? = some (.sc (.int .i64 n)) ∧ cs[o + 1]? = some (.sc (.string (bs x))) ∧ cs[o + 2]? = some ps ∧ SlH h ps l ∧ VlsAt h kids l
def VlsAt (h : Heap) : List Vl → List AV → Prop
  | [], l => l = []
  | t :: r, l => ∃ a s, l = a :: s ∧ VlAt h t a ∧ VlsAt h r s
end
theorem TyAt.open {h : Heap} {t : Ty} {a : AV} (x : TyAt h t a) : ∃ b o cs ps l, a = .ptr b o ∧ h.m b = some cs ∧ cs[o]? = some (.sc (.int .i64 t.kind)) ∧ cs[o + 1]? = some (.sc (.int .i64 t.n)) ∧ cs[o + 2]? = some ps ∧ SlH h ps l ∧ TysAt h t.kids l := by
  cases t; exact x
theorem VlAt.open {h : Heap} {t : Vl} {a : AV} (x : VlAt h t a) : ∃ b o cs ps l, a = .ptr b o ∧ h.m b = some cs ∧ cs[o]? = some (.sc (.int .i64 t.n)) ∧ cs[o + 1]? = some (.sc (.string (bs t.text))) ∧ cs[o + 2]? = some ps ∧ SlH h ps l ∧ VlsAt h t.kids l := by
  cases t; exact x
theorem TysAt.len {h : Heap} : ∀ {ts : List Ty} {l : List AV}, TysAt h ts l → l.length = ts.length
  | [], _, x => by simp only [TysAt] at x; subst x; rfl
  | t :: r, _, x => by simp only [TysAt] at x; obtain ⟨a, s, rfl, _, h2⟩ := x; simp [TysAt.len h2]
theorem VlsAt.len {h : Heap} : ∀ {ts : List Vl} {l : List AV}, VlsAt h ts l → l.length = ts.length
  | [], _, x => by simp only [VlsAt] at x; subst x; rfl
  | t :: r, _, x => by simp only [VlsAt] at x; obtain ⟨a, s, rfl, _, h2⟩ := x; simp [VlsAt.len h2]
theorem TysAt.get {h : Heap} : ∀ {ts : List Ty} {l : List AV}, TysAt h ts l → ∀ {i : Nat} {t : Ty}, ts[i]? = some t → ∃ a, l[i]? = some a ∧ TyAt h t a
  | [], _, _, _, _, e => by simp at e
  | t :: r, _, x, i, u, e => by
    simp only [TysAt] at x; obtain ⟨a, s, rfl, h1, h2⟩ := x
    cases i with
    | zero => simp at e; subst e; exact ⟨a, rfl, h1⟩
    | succ i => simpa using h2.get (i := i) (by simpa using e)
theorem VlsAt.get {h : Heap} : ∀ {ts : List Vl} {l : List AV}, VlsAt h ts l → ∀ {i : Nat} {t : Vl}, ts[i]? = some t → ∃ a, l[i]? = some a ∧ VlAt h t a
  | [], _, _, _, _, e => by simp at e
  | t :: r, _, x, i, u, e => by
    simp only [VlsAt] at x; obtain ⟨a, s, rfl, h1, h2⟩ := x
    cases i with
    | zero => simp at e; subst e; exact ⟨a, rfl, h1⟩
    | succ i => simpa using h2.get (i := i) (by simpa using e)
mutual
theorem TyAt.hx {h h' : Heap} (hw : HW h) (hx : HX h h') : ∀ {t : Ty} {a : AV}, TyAt h t a → TyAt h' t a
  | .mk k n kids, a, x => by
    simp only [TyAt] at x ⊢
    obtain ⟨b, o, cs, ps, l, rfl, h1, h2, h3, h4, h5, h6⟩ := x
    exact ⟨b, o, cs, ps, l, rfl, hx.get hw h1, h2, h3, h4, h5.hx hw hx, TysAt.hx hw hx h6⟩
theorem TysAt.hx {h h' : Heap} (hw : HW h) (hx : HX h h') : ∀ {ts : List Ty} {l : List AV}, TysAt h ts l → TysAt h' ts l
  | [], _, x => by simp only [TysAt] at x ⊢; exact x
  | t :: r, _, x => by
    simp only [TysAt] at x ⊢
    obtain ⟨a, s, rfl, h1, h2⟩ := x
    exact ⟨a, s, rfl, TyAt.hx hw hx h1, TysAt.hx hw hx h2⟩
end
mutual
theorem VlAt.hx {h h' : Heap} (hw : HW h) (hx : HX h h') : ∀ {t : Vl} {a : AV}, VlAt h t a → VlAt h' t a
  | .mk k n kids, a, x => by
    simp only [VlAt] at x ⊢
    obtain ⟨b, o, cs, ps, l, rfl, h1, h2, h3, h4, h5, h6⟩ := x
    exact ⟨b, o, cs, ps, l, rfl, hx.get hw h1, h2, h3, h4, h5.hx hw hx, VlsAt.hx hw hx h6⟩
theorem VlsAt.hx {h h' : Heap} (hw : HW h) (hx : HX h h') : ∀ {ts : List Vl} {l : List AV}, VlsAt h ts l → VlsAt h' ts l
  | [], _, x => by simp only [VlsAt] at x ⊢; exact x
  | t :: r, _, x => by
    simp only [VlsAt] at x ⊢
    obtain ⟨a, s, rfl, h1, h2⟩ := x
    exact ⟨a, s, rfl, VlAt.hx hw hx h1, VlsAt.hx hw hx h2⟩
end

/-! ### How a tree is laid -/
def Row3 (cells : List AV) (j : Nat) (c : AV × AV) (a : AV) : Prop := cells[j * 3]? = some c.1 ∧ cells[j * 3 + 1]? = some c.2 ∧ cells[j * 3 + 2]? = some a
def DoneH (h : Heap) (B : Nat) (cells : List AV) (n0 i : Nat) (c : Nat → AV × AV) (f : Nat → List AV) : Prop :=
  ∀ j, j < i → ∃ a, Row3 cells j (c j) a ∧ SlH h a (f j) ∧ ∀ n s o q, a = .sl n s o q → B < n ∧ n < n0
/-- The nodes ahead of i are laid. -/
def StH (h0 h : Heap) (B N i : Nat) (c : Nat → AV × AV) (f : Nat → List AV) (cells : List AV) : Prop :=
  HW h ∧ HX h0 h ∧ h0.nx ≤ B ∧ B < h.nx ∧ h.m B = some cells ∧ cells.length = N * 3 ∧ DoneH h B cells h.nx i c f
/-- The node i too, but of its parts those of l alone. -/
def StI (h0 h : Heap) (B N i : Nat) (c : Nat → AV × AV) (f : Nat → List AV) (l : List AV) (cells : List AV) (a : AV) : Prop :=
  HW h ∧ HX h0 h ∧ h0.nx ≤ B ∧ B < h.nx ∧ h.m B = some cells ∧ cells.length = N * 3 ∧ Row3 cells i (c i) a ∧ SlH h a l ∧
    ∃ n0, n0 ≤ h.nx ∧ DoneH h B cells n0 i c f ∧ ∀ n s o q, a = .sl n s o q → n0 ≤ n ∧ B < n
theorem _root_.SL.SlH.eq {h h' : Heap} {a : AV} {l : List AV} (x : SlH h a l) (e : ∀ n s o q, a = .sl n s o q → h'.m n = h.m n) : SlH h' a l := by
  rcases x with x | ⟨n, h1, rfl, h3⟩
  · exact .inl x
  · exact .inr ⟨n, h1, rfl, (e n _ _ _ rfl).trans h3⟩
theorem StH.start {h0 h : Heap} {N : Nat} {c : Nat → AV × AV} {f : Nat → List AV} {cells : List AV} (hw : HW h) (hx : HX h0 h) (hc : cells.length = N * 3) :
    StH h0 ⟨upd h.m h.nx (some cells), h.nx + 1⟩ h.nx N 0 c f cells :=
  ⟨hw.new _, hx.newR _, hx.1, Nat.lt_succ_self _, upd_eq _ _ _, hc, fun j hj => absurd hj (Nat.not_lt_zero _)⟩
theorem splice_in {α : Type} {xs cs : List α} {off k : Nat} (hk : k < xs.length) (ho : off + xs.length ≤ cs.length) : (splice off xs cs)[off + k]? = xs[k]? := by
  unfold splice
  rw [List.append_assoc, List.getElem?_append_right (by simp; omega), List.getElem?_append_left (by simp; omega)]
  congr 1; simp; omega
theorem splice_out {α : Type} {xs cs : List α} {off k : Nat} (hk : k < off) (ho : off + xs.length ≤ cs.length) : (splice off xs cs)[k]? = cs[k]? := by
  unfold splice
  rw [List.append_assoc, List.getElem?_append_left (by simp; omega), List.getElem?_take, if_pos hk]
theorem splice_len {α : Type} {xs cs : List α} {off : Nat} (ho : off + xs.length ≤ cs.length) : (splice off xs cs).length = cs.length := by
  unfold splice; simp; omega
theorem StH.node {h0 h : Heap} {B N i : Nat} {c : Nat → AV × AV} {f : Nat → List AV} {cells : List AV} (S : StH h0 h B N i c f cells) (hi : i < N) :
    StI h0 ⟨upd h.m B (some (splice (i * 3) [(c i).1, (c i).2, nilS] cells)), h.nx⟩ B N i c f [] (splice (i * 3) [(c i).1, (c i).2, nilS] cells) nilS := by
  obtain ⟨s1, s2, s3, s4, s5, s6, s7⟩ := S
  have ho : i * 3 + [(c i).1, (c i).2, nilS].length ≤ cells.length := by simp; omega
  refine ⟨s1.upd s4 _, s2.upd s3 _, s3, s4, upd_eq _ _ _, by rw [splice_len ho, s6], ⟨?_, ?_, ?_⟩, .inl ⟨rfl, rfl⟩, h.nx, Nat.le_refl _, fun j hj => ?_, fun n s o q e => by simp [nilS] at e⟩
  · simpa using splice_in (k := 0) (by simp) ho
  · simpa using splice_in (k := 1) (by simp) ho
  · simpa using splice_in (k := 2) (by simp) ho
  · obtain ⟨a, ⟨r1, r2, r3⟩, r4, r5⟩ := s7 j hj
    refine ⟨a, ⟨?_, ?_, ?_⟩, r4.eq fun n s o q e => upd_ne _ _ _ _ (by have := (r5 n s o q e).1; omega), r5⟩
    · rw [splice_out (by omega) ho]; exact r1
    · rw [splice_out (by omega) ho]; exact r2
    · rw [splice_out (by omega) ho]; exact r3
/-- The heap when the node has one more part. -/
def partH (h : Heap) (B i : Nat) (l cells : List AV) (a v : AV) : Heap := ⟨upd (growH h a l v).m B (some (cells.set (i * 3 + 2) (.sl h.nx 1 0 (l.length + 1)))), (growH h a l v).nx⟩
theorem StI.grow {h0 h : Heap} {B N i : Nat} {c : Nat → AV × AV} {f : Nat → List AV} {l cells : List AV} {a : AV} (S : StI h0 h B N i c f l cells a) (v : AV) : (growH h a l v).m B = some cells := by
  obtain ⟨s1, s2, s3, s4, s5, s6, s7, s8, n0, s9, s10, s11⟩ := S
  rw [growH_ne s4 fun s o q e => by have := (s11 B s o q e).2; omega]; exact s5
theorem StI.part {h0 h : Heap} {B N i : Nat} {c : Nat → AV × AV} {f : Nat → List AV} {l cells : List AV} {a : AV} (S : StI h0 h B N i c f l cells a) (hi : i < N) (v : AV) :
    StI h0 (partH h B i l cells a v) B N i c f (l ++ [v]) (cells.set (i * 3 + 2) (.sl h.nx 1 0 (l.length + 1))) (.sl h.nx 1 0 (l.length + 1)) := by
  obtain ⟨s1, s2, s3, s4, s5, s6, s7, s8, n0, s9, s10, s11⟩ := S
  have hx0 := s2.1
  have hB : B < (growH h a l v).nx := by rw [growH_nx]; omega
  refine ⟨(growH_hw s1).upd hB _, (growH_hx s2 fun n s o q e => by have := (s11 n s o q e).2; omega).upd s3 _, s3, hB, upd_eq _ _ _, by simpa using s6, ⟨?_, ?_, ?_⟩, ?_, n0, by show n0 ≤ (growH h a l v).nx; rw [growH_nx]; omega, fun j hj => ?_, fun n s o q e => ?_⟩
  · rw [List.getElem?_set_ne (by omega)]; exact s7.1
  · rw [List.getElem?_set_ne (by omega)]; exact s7.2.1
  · rw [List.getElem?_set_self (by omega)]
  · refine SlH.eq SlH.grow fun n s o q e => upd_ne _ _ _ _ ?_
    have : h.nx = n := by injection e
    omega
  · obtain ⟨b, ⟨r1, r2, r3⟩, r4, r5⟩ := s10 j hj
    refine ⟨b, ⟨?_, ?_, ?_⟩, r4.eq fun n s o q e => ?_, r5⟩
    · rw [List.getElem?_set_ne (by omega)]; exact r1
    · rw [List.getElem?_set_ne (by omega)]; exact r2
    · rw [List.getElem?_set_ne (by omega)]; exact r3
    · have hn := r5 n s o q e
      show upd _ B _ n = h.m n
      rw [upd_ne _ _ _ _ (by omega), growH_ne (by omega) fun s' o' q' e' => by have := (s11 n s' o' q' e').1; omega]
  · have : h.nx = n := by injection e
    omega
theorem StI.done {h0 h : Heap} {B N i : Nat} {c : Nat → AV × AV} {f : Nat → List AV} {l cells : List AV} {a : AV} (S : StI h0 h B N i c f l cells a) (hl : l = f i) : StH h0 h B N (i + 1) c f cells := by
  subst hl
  obtain ⟨s1, s2, s3, s4, s5, s6, s7, s8, n0, s9, s10, s11⟩ := S
  refine ⟨s1, s2, s3, s4, s5, s6, fun j hj => ?_⟩
  by_cases e : j = i
  · subst e
    refine ⟨a, s7, s8, fun n s o q e => ⟨(s11 n s o q e).2, ?_⟩⟩
    rcases s8 with ⟨_, rfl⟩ | ⟨n', _, rfl, h3⟩
    · simp [nilS] at e
    · have : n' = n := by injection e
      subst this
      exact s1.lt h3
  · obtain ⟨b, r1, r2, r3⟩ := s10 j (by omega)
    exact ⟨b, r1, r2, fun n s o q e => ⟨(r3 n s o q e).1, by have := (r3 n s o q e).2; omega⟩⟩
theorem TysAt.map {α : Type} {h : Heap} {g : α → Ty} {p : α → AV} : ∀ {l : List α}, (∀ x ∈ l, TyAt h (g x) (p x)) → TysAt h (l.map g) (l.map p)
  | [], _ => by simp [TysAt]
  | x :: r, hx => by
    simp only [List.map_cons, TysAt]
    exact ⟨_, _, rfl, hx x (by simp), TysAt.map fun y hy => hx y (by simp [hy])⟩
theorem VlsAt.map {α : Type} {h : Heap} {g : α → Vl} {p : α → AV} : ∀ {l : List α}, (∀ x ∈ l, VlAt h (g x) (p x)) → VlsAt h (l.map g) (l.map p)
  | [], _ => by simp [VlsAt]
  | x :: r, hx => by
    simp only [List.map_cons, VlsAt]
    exact ⟨_, _, rfl, hx x (by simp), VlsAt.map fun y hy => hx y (by simp [hy])⟩
def ptA (B k : Nat) : AV := .ptr B (k * 3)
theorem StH.ty {h0 h : Heap} {B : Nat} {lt : List TN} {c : Nat → AV × AV} {cells : List AV} (S : StH h0 h B lt.length lt.length c (fun k => (under (lt.map TN.up) k).map (ptA B)) cells)
    (hc : ∀ k x, lt[k]? = some x → c k = (.sc (.int .i64 x.kind), .sc (.int .i64 x.n))) : ∀ (f k : Nat), k < lt.length → lt.length ≤ f + k → TyAt h (treeF f lt k) (ptA B k)
  | 0, k, h1, h2 => by omega
  | f + 1, k, h1, h2 => by
    have ek : lt[k]? = some lt[k] := List.getElem?_eq_getElem h1
    obtain ⟨a, ⟨r1, r2, r3⟩, r4, r5⟩ := S.2.2.2.2.2.2 k h1
    have e := hc k _ ek
    simp only [treeF, ek, TyAt]
    rw [e] at r1 r2
    refine ⟨B, k * 3, cells, a, _, rfl, S.2.2.2.2.1, r1, r2, r3, r4, TysAt.map fun j hj => ?_⟩
    have := under_lt hj
    rw [List.length_map] at this
    exact StH.ty S hc f j this.2.1 (by omega)
theorem StH.vl {h0 h : Heap} {B : Nat} {lt : List VN} {c : Nat → AV × AV} {cells : List AV} (S : StH h0 h B lt.length lt.length c (fun k => (under (lt.map VN.up) k).map (ptA B)) cells)
    (hc : ∀ k x, lt[k]? = some x → c k = (.sc (.int .i64 x.n), .sc (.string (bs x.text)))) : ∀ (f k : Nat), k < lt.length → lt.length ≤ f + k → VlAt h (vtreeF f lt k) (ptA B k)
  | 0, k, h1, h2 => by omega
  | f + 1, k, h1, h2 => by
    have ek : lt[k]? = some lt[k] := List.getElem?_eq_getElem h1
    obtain ⟨a, ⟨r1, r2, r3⟩, r4, r5⟩ := S.2.2.2.2.2.2 k h1
    have e := hc k _ ek
    simp only [vtreeF, ek, VlAt]
    rw [e] at r1 r2
    refine ⟨B, k * 3, cells, a, _, rfl, S.2.2.2.2.1, r1, r2, r3, r4, VlsAt.map fun j hj => ?_⟩
    have := under_lt hj
    rw [List.length_map] at this
    exact StH.vl S hc f j this.2.1 (by omega)
/-- What a list of parts tells, in every later heap. -/
def PartAt (h : Heap) (ps : AV) (i : Nat) (p : AV) : Prop :=
  ∃ n o cs, (∀ k m, ixT 1 m (.v ps) (.v (.sc (.int k i))) = some (.v (.ptr n o))) ∧ (∀ h', HX h h' → h'.m n = some cs) ∧ cs[o]? = some p
theorem _root_.SL.SlH.partAt {h : Heap} {ps : AV} {l : List AV} (x : SlH h ps l) (hw : HW h) {i : Nat} {p : AV} (hi : l[i]? = some p) : PartAt h ps i p := by
  have hlt : i < l.length := (List.getElem?_eq_some_iff.1 hi).1
  rcases x with ⟨rfl, rfl⟩ | ⟨n, _, rfl, hm⟩
  · simp at hlt
  · exact ⟨n, 0 + i * 1, l, fun k m => by simp only [ixT_sl]; rw [if_pos ⟨trivial, by omega, by omega⟩]; rfl, fun h' hx => hx.get hw hm, by simpa using hi⟩
theorem TyAt.facts {h : Heap} {t : Ty} {a : AV} (x : TyAt h t a) (hw : HW h) : ∃ b o cs ps, a = .ptr b o ∧ (∀ h', HX h h' → h'.m b = some cs) ∧ cs[o]? = some (.sc (.int .i64 t.kind)) ∧ cs[o + 1]? = some (.sc (.int .i64 t.n)) ∧
    cs[o + 2]? = some ps ∧ lnT (.v ps) = some (.sc (.int .i64 t.kids.length)) ∧ ∀ i k, t.kids[i]? = some k → ∃ p, PartAt h ps i p ∧ TyAt h k p := by
  obtain ⟨b, o, cs, ps, l, rfl, h1, h2, h3, h4, h5, h6⟩ := x.open
  refine ⟨b, o, cs, ps, rfl, fun h' hx => hx.get hw h1, h2, h3, h4, by rw [h5.ln, h6.len], fun i k hk => ?_⟩
  obtain ⟨p, hp, hT⟩ := h6.get hk
  exact ⟨p, h5.partAt hw hp, hT⟩
theorem VlAt.facts {h : Heap} {t : Vl} {a : AV} (x : VlAt h t a) (hw : HW h) : ∃ b o cs ps, a = .ptr b o ∧ (∀ h', HX h h' → h'.m b = some cs) ∧ cs[o]? = some (.sc (.int .i64 t.n)) ∧ cs[o + 1]? = some (.sc (.string (bs t.text))) ∧
    cs[o + 2]? = some ps ∧ lnT (.v ps) = some (.sc (.int .i64 t.kids.length)) ∧ ∀ i k, t.kids[i]? = some k → ∃ p, PartAt h ps i p ∧ VlAt h k p := by
  obtain ⟨b, o, cs, ps, l, rfl, h1, h2, h3, h4, h5, h6⟩ := x.open
  refine ⟨b, o, cs, ps, rfl, fun h' hx => hx.get hw h1, h2, h3, h4, by rw [h5.ln, h6.len], fun i k hk => ?_⟩
  obtain ⟨p, hp, hT⟩ := h6.get hk
  exact ⟨p, h5.partAt hw hp, hT⟩
theorem PartAt.hx {h h1 : Heap} {ps : AV} {i : Nat} {p : AV} (x : PartAt h ps i p) (hx : HX h h1) : PartAt h1 ps i p := by
  obtain ⟨n, o, cs, g1, g2, g3⟩ := x
  exact ⟨n, o, cs, g1, fun h' hx' => g2 h' (hx.trans hx'), g3⟩
theorem VlAt.ptr {h : Heap} {t : Vl} {a : AV} (x : VlAt h t a) : ∃ b o, a = .ptr b o := by
  obtain ⟨b, o, _, _, _, rfl, _⟩ := x.open; exact ⟨b, o, rfl⟩
theorem TyAt.ptr {h : Heap} {t : Ty} {a : AV} (x : TyAt h t a) : ∃ b o, a = .ptr b o := by
  obtain ⟨b, o, _, _, _, rfl, _⟩ := x.open; exact ⟨b, o, rfl⟩
end VM
