import Derived.Test.YtgkiaoodalnceaaDoorClSlP
import Derived.Below
import Derived.Lib.LaidTab
import Derived.Lib.ItoaNum
import Derived.Lib.Join
import Derived.Shelf.Unicode.DecodeSlow
import Derived.Sort.Grow
/- The simulation logic, part S: one value for another; contracts of the library. -/
namespace SL
open Go Go.RowKit Go.Sort
set_option linter.unusedVariables false
set_option linter.unusedSimpArgs false

/-- What the one stands for, the other stands for too. -/
def Sub (a b : AV) : Prop := ∀ g w v, RepA g w a v → RepA g w b v
def SubL (a b : List AV) : Prop := ∀ g w v, RepL g w a v → RepL g w b v
def SubLL (a b : List (List AV)) : Prop := a.length = b.length ∧ ∀ g w v, RepLL g w a v → RepLL g w b v

theorem Sub.refl (a : AV) : Sub a a := fun _ _ _ h => h
theorem Sub.trans {a b c : AV} (h : Sub a b) (k : Sub b c) : Sub a c := fun _ _ _ x => k _ _ _ (h _ _ _ x)
theorem SubL.refl (a : List AV) : SubL a a := fun _ _ _ h => h
theorem SubLL.refl (a : List (List AV)) : SubLL a a := ⟨rfl, fun _ _ _ h => h⟩
theorem SubL.nil : SubL [] [] := SubL.refl _
theorem SubL.cons {a b : AV} {us bs : List AV} (h : Sub a b) (k : SubL us bs) : SubL (a :: us) (b :: bs) := by
  intro g w v hr
  simp only [RepL] at hr ⊢
  obtain ⟨x, xs, e, h1, h2⟩ := hr
  exact ⟨x, xs, e, h _ _ _ h1, k _ _ _ h2⟩
theorem SubLL.nil : SubLL [] [] := SubLL.refl _
theorem SubLL.cons {a b : List AV} {us bs : List (List AV)} (h : SubL a b) (k : SubLL us bs) : SubLL (a :: us) (b :: bs) := by
  refine ⟨by simp [k.1], fun g w v hr => ?_⟩
  simp only [RepLL] at hr ⊢
  obtain ⟨x, xs, e, h1, h2⟩ := hr
  exact ⟨x, xs, e, h _ _ _ h1, k.2 _ _ _ h2⟩
theorem Sub.nilv : Sub (.sc (.slice none 0 0)) (.vec []) := by
  intro g w v h
  simp only [RepA] at h ⊢
  exact ⟨none, 0, 0, h, rfl, Nat.le_refl _, .inl trivial⟩
theorem Sub.agg {us bs : List AV} (h : SubL us bs) : Sub (.agg us) (.agg bs) := by
  intro g w v hr
  simp only [RepA] at hr ⊢
  obtain ⟨vs, e, h1⟩ := hr
  exact ⟨vs, e, h _ _ _ h1⟩
theorem Sub.tup {us bs : List AV} (h : SubL us bs) : Sub (.tup us) (.tup bs) := by
  intro g w v hr
  simp only [RepA] at hr ⊢
  obtain ⟨vs, e, h1⟩ := hr
  exact ⟨vs, e, h _ _ _ h1⟩
theorem Sub.vec {us bs : List (List AV)} (h : SubLL us bs) : Sub (.vec us) (.vec bs) := by
  intro g w v hr
  simp only [RepA] at hr ⊢
  obtain ⟨ad, len, cap, e, e2, e3, h1⟩ := hr
  refine ⟨ad, len, cap, e, by rw [e2, h.1], e3, ?_⟩
  rcases h1 with h1 | ⟨b, off, vs, h2, h3, h4⟩
  · subst h1
    exact .inl (List.eq_nil_of_length_eq_zero (by simpa using h.1.symm))
  · exact .inr ⟨b, off, vs, h2, h3, h.2 _ _ _ h4⟩

section
variable {P : Program}

theorem ACalls.sub {f : Nat} {args : List AV} {h : Heap} {R : AV → Heap → Prop} (hc : ACalls P f args h fun r h' => ∃ r', Sub r r' ∧ R r' h') : ACalls P f args h R :=
  ⟨hc.1, fun g w vs hG hs ha => (hc.2 g w vs hG hs ha).mono fun e w' ⟨r, h', g', v, e1, ⟨r', s, hR⟩, hr, rest⟩ => ⟨r', h', g', v, e1, hR, s _ _ _ hr, rest⟩⟩

theorem ACalls.suba {f : Nat} {args args' : List AV} {h : Heap} {R : AV → Heap → Prop} (s : SubL args args') (hc : ACalls P f args' h R) : ACalls P f args h R :=
  ⟨hc.1, fun g w vs hG hs ha => hc.2 g w vs hG hs (s _ _ _ ha)⟩

theorem turn_below {w w' : World} (h : Below w.heap.size w w') : Turn w w' none :=
  ⟨h.os, h.tape, h.output, h.size, fun x hx _ => h.block x hx, fun x y hs => by rw [shape_same (h.block x (shape_lt hs))]; exact hs⟩

/-- A call of the library's that turns nothing that was there. -/
theorem acalls_below {f : Nat} {args : List AV} {h : Heap} {R : AV → Heap → Prop} (hok : okFunc P f = true)
    (hc : ∀ g w vs, Glob P g w → HSim g h w → RepL g w args vs → Calls P f vs.toArray w fun e w' => ∃ r v, e = .returned v ∧ R r h ∧ (∀ g' w', RepA g' w' r v) ∧ Below w.heap.size w w') : ACalls P f args h R :=
  ⟨hok, fun g w vs hG hs ha => (hc g w vs hG hs ha).mono fun e w' ⟨r, v, e1, hR, hr, hb⟩ => by
    have S := (sim0 hs).turn0 (turn_below hb)
    exact ⟨r, h, g, v, e1, hR, hr _ _, S.hs, S.ext⟩⟩

theorem below_grow {w : World} {k : Nat} {os : Array Obj} : Below w.heap.size w (grow (w.drewN k) os) :=
  ⟨rfl, rfl, rfl, by simp [grow, World.drewN], fun i hi => by
    simp only [grow, World.drewN]
    rw [Array.getElem?_append_left hi]⟩

theorem glob_tab {g : G} {w : World} (hG : Glob P g w) {nm : String} {l : List Value} {b : Nat} (hm : (nm, l) ∈ knownTabs) (hb : P.globalNamed nm = some b) : w.var? P nm = some l.toArray := (hG _ hm b hb).2

theorem glob_pow10 {g : G} {w : World} (hG : Glob P g w) {b : Nat} (hb : P.globalNamed "internal/strconv.uint64pow10" = some b) : Lib.TabIs P w "internal/strconv.uint64pow10" .u64 Lib.pow10Tab := by
  have := glob_tab hG (l := (List.range 20).map fun i => .int .u64 (10 ^ i)) (by simp [knownTabs]) hb
  unfold Lib.TabIs
  rw [this]
  simp [Lib.pow10Tab, List.map_map, Function.comp_def]

theorem glob_utf8 {g : G} {w : World} (hG : Glob P g w) {a b : Nat} (ha : P.globalNamed "unicode/utf8.first" = some a) (hb : P.globalNamed "unicode/utf8.acceptRanges" = some b) : Lib.Utf8Tabs a b w := by
  have h1 := glob_tab hG (l := (List.range 256).map fun c => .int .u8 (firstV c)) (by simp [knownTabs]) ha
  have h2 := glob_tab hG (l := [128, 191, 160, 191, 128, 159, 144, 191, 128, 143, 0, 0, 0, 0, 0, 0, 0, 0, 0, 0, 0, 0, 0, 0, 0, 0, 0, 0, 0, 0, 0, 0].map fun n => .int .u8 n) (by simp [knownTabs]) hb
  refine ⟨fun c hc => ?_, fun i hi => ?_⟩
  · rw [World.var?_cell ha h1]
    have e : firstV c = ((Lib.firstT c : Nat) : Int) := by
      unfold firstV Lib.firstT
      repeat' split
      all_goals rfl
    simp [hc, e]
  · rw [World.var?_cell hb h2, World.var?_cell hb h2]
    have key : ∀ i : Fin 16, ((([128, 191, 160, 191, 128, 159, 144, 191, 128, 143, 0, 0, 0, 0, 0, 0, 0, 0, 0, 0, 0, 0, 0, 0, 0, 0, 0, 0, 0, 0, 0, 0] : List Int)[2 * i.val]?) = some (Lib.accLo i.val : Int)) ∧ ((([128, 191, 160, 191, 128, 159, 144, 191, 128, 143, 0, 0, 0, 0, 0, 0, 0, 0, 0, 0, 0, 0, 0, 0, 0, 0, 0, 0, 0, 0, 0, 0] : List Int)[2 * i.val + 1]?) = some (Lib.accHi i.val : Int)) := by decide
    have hk := key ⟨i, hi⟩
    simp only [List.getElem?_toArray, List.getElem?_map]
    rw [hk.1, hk.2]
    exact ⟨rfl, rfl⟩

theorem acalls_itoa {f b : Nat} (hok : okFunc P f = true) (hb : P.globalNamed "internal/strconv.uint64pow10" = some b)
    (hc : ∀ (n : Int) (h0 : -9223372036854775808 ≤ n) (h1 : n ≤ 9223372036854775807) (w : World) (htab : Lib.TabIs P w "internal/strconv.uint64pow10" .u64 Lib.pow10Tab),
      Calls P f #[.int .i64 n] w fun e w' => e = .returned (.string ⟨(Lib.itoa n).toArray⟩) ∧ ∃ k os, w' = grow (w.drewN k) os)
    {n : Int} (h0 : -9223372036854775808 ≤ n) (h1 : n ≤ 9223372036854775807) {h : Heap} :
    ACalls P f [.sc (.int .i64 n)] h fun r h' => r = .sc (.string ⟨(Lib.itoa n).toArray⟩) ∧ h' = h := by
  refine acalls_below hok fun g w vs hG hs ha => ?_
  simp only [RepL, RepA] at ha
  obtain ⟨x, xs, rfl, rfl, rfl⟩ := ha
  refine (hc n h0 h1 w (glob_pow10 hG hb)).mono ?_
  rintro e w' ⟨rfl, k, os, rfl⟩
  exact ⟨_, _, rfl, ⟨rfl, rfl⟩, fun _ _ => by simp [RepA], below_grow⟩

theorem acalls_rune {f a b : Nat} (hok : okFunc P f = true) (ha : P.globalNamed "unicode/utf8.first" = some a) (hb : P.globalNamed "unicode/utf8.acceptRanges" = some b)
    (hc : ∀ (s : ByteArray) (w : World) (hT : Lib.Utf8Tabs a b w),
      Calls P f #[.string s] w fun e w' => e = .returned (.tuple #[.int .i32 (Lib.decodeGo s).1, .int .i64 (Lib.decodeGo s).2]) ∧ Below w.heap.size w w') {s : ByteArray} {h : Heap} :
    ACalls P f [.sc (.string s)] h fun r h' => r = .tup [.sc (.int .i32 (Lib.decodeGo s).1), .sc (.int .i64 (Lib.decodeGo s).2)] ∧ h' = h := by
  refine acalls_below hok fun g w vs hG hs hr => ?_
  simp only [RepL, RepA] at hr
  obtain ⟨x, xs, rfl, rfl, rfl⟩ := hr
  refine (hc s w (glob_utf8 hG ha hb)).mono ?_
  rintro e w' ⟨rfl, hbl⟩
  exact ⟨_, _, rfl, ⟨rfl, rfl⟩, fun _ _ => by simp [RepA, RepL], hbl⟩

theorem repLL_strings {g : G} {w : World} : ∀ {xs : List ByteArray} {vs : List Value}, RepLL g w (xs.map fun s => [AV.sc (.string s)]) vs → vs = xs.map Value.string
  | [], vs, h => by simpa [RepLL] using h
  | x :: xs, vs, h => by
    simp only [List.map_cons, RepLL, RepL, RepA] at h
    obtain ⟨y, ys, rfl, ⟨z, zs, rfl, rfl, rfl⟩, h2⟩ := h
    rw [repLL_strings h2]
    rfl

theorem acalls_join {f : Nat} (hok : okFunc P f = true)
    (h0 : ∀ (a : Option Addr) (c : Nat) (sep : ByteArray) (w : World), Calls P f #[.slice a 0 c, .string sep] w fun e w' => e = .returned (.string ⟨#[]⟩) ∧ w' = w)
    (hc : ∀ (bk o c : Nat) (xs : List ByteArray) (sep : ByteArray) (w : World) (hcells : ∀ (j : Nat) x, xs[j]? = some x → w.cell? ⟨bk, o + j, none⟩ = some (.string x)) (hbk : bk < w.heap.size) (hN : xs.length ≤ 140737488355328) (hcap : xs.length ≤ c) (hlen : (Lib.join (xs.map (·.data.toList)) sep.data.toList).length ≤ 140737488355328),
      Calls P f #[.slice (some ⟨bk, o, none⟩) xs.length c, .string sep] w fun e w' => e = .returned (.string ⟨(Lib.join (xs.map (·.data.toList)) sep.data.toList).toArray⟩) ∧ Below w.heap.size w w')
    {xs : List ByteArray} {sep : ByteArray} {h : Heap} (hN : xs.length ≤ 140737488355328) (hlen : (Lib.join (xs.map (·.data.toList)) sep.data.toList).length ≤ 140737488355328) :
    ACalls P f [.vec (xs.map fun s => [.sc (.string s)]), .sc (.string sep)] h fun r h' => r = .sc (.string ⟨(Lib.join (xs.map (·.data.toList)) sep.data.toList).toArray⟩) ∧ h' = h := by
  refine acalls_below hok fun g w vs hG hs hr => ?_
  simp only [RepL, RepA] at hr
  obtain ⟨x, xs', rfl, ⟨ad, len, cap, rfl, e2, e3, hh⟩, y, ys, rfl, rfl, rfl⟩ := hr
  rw [List.length_map] at e2
  subst e2
  have fin : ∀ (e : Ending) (w' : World), e = .returned (.string ⟨(Lib.join (xs.map (·.data.toList)) sep.data.toList).toArray⟩) ∧ Below w.heap.size w w' → ∃ r v, e = .returned v ∧ (r = AV.sc (.string ⟨(Lib.join (xs.map (·.data.toList)) sep.data.toList).toArray⟩) ∧ h = h) ∧ (∀ g' w', RepA g' w' r v) ∧ Below w.heap.size w w' := by
    rintro e w' ⟨rfl, hbl⟩
    exact ⟨_, _, rfl, ⟨rfl, rfl⟩, fun _ _ => by simp [RepA], hbl⟩
  by_cases hxs : xs = []
  · subst hxs
    refine (h0 ad cap sep w).mono ?_
    rintro e w' ⟨rfl, rfl⟩
    exact fin _ _ ⟨by simp [Lib.join_nil], Below.refl _ _⟩
  · rcases hh with hh | ⟨b, off, us, rfl, hp, hl⟩
    · simp at hh; exact absurd hh hxs
    · have hu := repLL_strings hl
      refine (hc b off cap xs sep w ?_ (hs.pin b hp.1) hN e3 hlen).mono fun e w' h => fin e w' h
      intro j z hz
      refine hp.2 j _ ?_
      rw [hu, List.getElem?_map, hz]
      rfl

end
end SL
