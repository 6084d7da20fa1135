import Derived.Test.YtgkiaoodalnceaaDoorClSlB
/- The simulation logic, part C: operations, told abstractly, and their making out of the program's own. -/
namespace SL
open Go
set_option linter.unusedVariables false
set_option linter.unusedSimpArgs false

inductive Opd where
  | t (n : Nat)
  | k (v : Value)
  | f (n : Nat)
  deriving Inhabited

def ofV : Value → AV
  | .agg cs => .agg (cs.toList.map AV.sc)
  | v => .sc v

def ev (t : Nat → TV) : Opd → TV
  | .t n => t n
  | .k v => .v (ofV v)
  | .f n => .v (.fn (.func n) [] [])

inductive AI where
  | mv (x : Opd)
  | pk (c a b : Opd)
  | bi (op : BinOp) (x y : Opd)
  | bq (neq : Bool) (x y : Opd)
  | ni (kd : Nat) (neq : Bool) (x : Opd)
  | un (op : UnOp) (x : Opd)
  | cv (k : IntKind) (x : Opd)
  | s2b (p : Nat) (x : Opd)
  | b2s (x : Opd)
  | ln (x : Opd)
  | sn (x : Opd)
  | ex (i : Nat) (x : Opd)
  | ld (x : Opd)
  | ldn (n : Nat) (x : Opd)
  | so (x y : Opd)
  | son (n : Nat) (x y : Opd)
  | fa (off : Nat) (x : Opd)
  | fl (off : Nat) (x : Opd)
  | fln (off n : Nat) (x : Opd)
  | ix (sz : Nat) (x i : Opd)
  | ia (sz n : Nat) (x i : Opd)
  | xs (x i : Opd)
  | xa (n : Nat) (x i : Opd)
  | nc (x : Opd)
  | al (p : Nat) (z : List Value)
  | bx (p : Nat) (x : Opd)
  | bd (z : List Value) (ps : List (Nat × Nat × Opd))
  | bs (p sz : Nat) (ps : List Opd)
  | ms (p sz bytes : Nat) (z : List Value) (x y : Opd)
  | sl (sz : Nat) (x : Opd) (lo hi : Option Opd)
  | ss (x : Opd) (lo hi : Option Opd)
  | ap (p sz bytes : Nat) (x y : Opd)
  | cp (sz : Nat) (x y : Opd)
  | mf (f : Fn) (fi ca : List Opd)
  | mi (t : Nat) (x : Opd)
  | mm (mx : Bool) (x y : Opd)
  deriving Inhabited

abbrev Res := Option (TV × Mem)

def intBin (op : BinOp) (k : IntKind) (a b : Int) : Option Value :=
  match op with
  | .add => some (.int k (k.wrap (a + b)))
  | .sub => some (.int k (k.wrap (a - b)))
  | .mul => some (.int k (k.wrap (a * b)))
  | .quo => if b = 0 then none else some (.int k (k.wrap (a.tdiv b)))
  | .rem => if b = 0 then none else some (.int k (a.tmod b))
  | .and => some (.int k (k.wrap (BitVec.ofInt k.bits a &&& BitVec.ofInt k.bits b).toNat))
  | .or => some (.int k (k.wrap (BitVec.ofInt k.bits a ||| BitVec.ofInt k.bits b).toNat))
  | .xor => some (.int k (k.wrap (BitVec.ofInt k.bits a ^^^ BitVec.ofInt k.bits b).toNat))
  | .andNot => some (.int k (k.wrap (BitVec.ofInt k.bits a &&& ~~~ (BitVec.ofInt k.bits b)).toNat))
  | .eql => some (.bool (a == b))
  | .neq => some (.bool (a != b))
  | .lss => some (.bool (a < b))
  | .leq => some (.bool (a ≤ b))
  | .gtr => some (.bool (a > b))
  | .geq => some (.bool (a ≥ b))
  | _ => none

def strBin (op : BinOp) (x y : ByteArray) : Option Value :=
  match op with
  | .add => if x.size + y.size ≤ 140737488355328 then some (.string (x ++ y)) else none
  | .eql => some (.bool (x.toList == y.toList))
  | .neq => some (.bool (!(x.toList == y.toList)))
  | .lss => some (.bool (Op.bytesLess x.toList y.toList))
  | .leq => some (.bool (Op.bytesLess x.toList y.toList || x.toList == y.toList))
  | .gtr => some (.bool (!(Op.bytesLess x.toList y.toList || x.toList == y.toList)))
  | .geq => some (.bool (!(Op.bytesLess x.toList y.toList)))
  | _ => none

def shBin (op : BinOp) (k : IntKind) (a b : Int) : Option Value :=
  if b < 0 then none else
  match op with
  | .shl => some (.int k (k.wrap (a * 2 ^ (min b.toNat k.bits))))
  | .shr => some (.int k (a.fdiv (2 ^ (min b.toNat k.bits))))
  | _ => none

def isSh : BinOp → Bool
  | .shl | .shr => true
  | _ => false

def scBin (op : BinOp) : Value → Value → Option Value
  | .int k a, .int k' b => if isSh op then shBin op k a b else if k = k' then intBin op k a b else none
  | .string a, .string b => strBin op a b
  | _, _ => none

def biT (op : BinOp) : TV → TV → Option AV
  | .v (.sc p), .v (.sc q) => (scBin op p q).map .sc
  | _, _ => none

def bqT (neq : Bool) : TV → TV → Option AV
  | .v (.sc (.bool a)), .v (.sc (.bool b)) => some (.sc (.bool ((a == b) != neq)))
  | _, _ => none

/-- Is it nil: a pointer (0), an interface (1), a function (2)? -/
def isNil (kd : Nat) : TV → Option Bool
  | .v (.sc (.pointer none)) => if kd = 0 then some true else none
  | .v (.sc .nilIface) => if kd = 1 then some true else none
  | .v (.sc .nilFunc) => if kd = 2 then some true else none
  | .v (.ptr _ _) => if kd = 0 then some false else none
  | .lp _ _ _ => if kd = 0 then some false else none
  | .vp _ => if kd = 0 then some false else none
  | .v (.ifc _ _) => if kd = 1 then some false else none
  | .v (.fn _ _ _) => if kd = 2 then some false else none
  | _ => none

def unT (op : UnOp) : TV → Option AV
  | .v (.sc (.int k n)) => match op with
    | .neg => some (.sc (.int k (k.wrap (0 - n))))
    | .xor => some (.sc (.int k (k.wrap (BitVec.ofInt k.bits (if k.signed then -1 else k.max) ^^^ BitVec.ofInt k.bits n).toNat)))
    | _ => none
  | .v (.sc (.bool b)) => match op with | .not => some (.sc (.bool (!b))) | _ => none
  | _ => none

def pkT : TV → TV → TV → Option TV
  | .v (.sc (.bool b)), x, y => some (if b then x else y)
  | _, _, _ => none

def cvT (k : IntKind) : TV → Option AV
  | .v (.sc (.int _ n)) => some (.sc (.int k (k.wrap n)))
  | _ => none

def goI (n : Nat) : AV := .sc (.int .i64 n)

def snT : TV → Option AV
  | .v (.sc (.string s)) => some (goI s.size)
  | _ => none

def lnT : TV → Option AV
  | .v (.sc (.slice none 0 0)) => some (goI 0)
  | .v (.vec es) => some (goI es.length)
  | .v (.sl _ _ _ len) => some (goI len)
  | .ls _ _ _ len => some (goI len)
  | _ => none

def exT (i : Nat) : TV → Option AV
  | .v (.tup vs) => vs[i]?
  | _ => none

def LE.get (e : LE) (ver : Nat) : Option (List TV) :=
  match e with
  | .mu v cs => if v = ver then some cs else none
  | .fr v cs => if v = ver then some cs else none
  | .no => none

/-- The cells from a place on. -/
def rdT (m : Mem) : TV → Option (List TV)
  | .v (.ptr n off) => (m.h.m n).map fun cs => (cs.drop off).map TV.v
  | .lp s ver off => ((m.l s).get ver).map fun cs => cs.drop off
  | .vp cs => some (cs.map TV.v)
  | _ => none

def ld1 (m : Mem) : TV → Option TV
  | .v (.ptr n off) => (m.h.m n).bind fun cs => (cs[off]?).map TV.v
  | .lp s ver off => ((m.l s).get ver).bind fun cs => cs[off]?
  | .vp cs => (cs[0]?).map TV.v
  | _ => none

def chunk (sz : Nat) : Nat → List AV → List (List AV)
  | 0, _ => []
  | n + 1, as => as.take sz :: chunk sz n (as.drop sz)

/-- A temporary as a plain value: a slice of the call's own is fixed from then on. -/
def fz (m : Mem) : TV → Option (AV × Mem)
  | .v a => some (a, m)
  | .ls s ver sz len => match m.l s with
    | .mu v cs => if v = ver ∧ len * sz ≤ cs.length then (avs (cs.take (len * sz))).map fun as => (.vec (chunk sz len as), ⟨upd m.l s (.fr ver cs), m.c, m.h⟩) else none
    | .fr v cs => if v = ver ∧ len * sz ≤ cs.length then (avs (cs.take (len * sz))).map fun as => (.vec (chunk sz len as), m) else none
    | .no => none
  | _ => none

def fzs (m : Mem) : List TV → Option (List AV × Mem)
  | [] => some ([], m)
  | x :: r => (fz m x).bind fun (a, m1) => (fzs m1 r).map fun (as, m2) => (a :: as, m2)

def ldnT (n : Nat) (m : Mem) (p : TV) : Res :=
  (rdT m p).bind fun cs => if n ≤ cs.length then (fzs m (cs.take n)).map fun (as, m1) => (.v (.agg as), m1) else none

/-- One cell's value? -/
def cellA : AV → Bool
  | .sc (.agg _) => false
  | .sc (.tuple _) => false
  | .agg _ => false
  | .tup _ => false
  | _ => true

def cellT : TV → Bool
  | .v a => cellA a
  | _ => true

def soT (m : Mem) : TV → TV → Option Mem
  | .lp s ver off, y => match m.l s with
    | .mu v cs => if v = ver ∧ off < cs.length ∧ cellT y = true then some ⟨upd m.l s (.mu ver (cs.set off y)), m.c, m.h⟩ else none
    | _ => none
  | .v (.ptr n off), y => (fz m y).bind fun (a, m1) => (m1.h.m n).bind fun cs =>
      if off < cs.length ∧ cellA a = true then some ⟨m1.l, m1.c, ⟨upd m1.h.m n (some (cs.set off a)), m1.h.nx⟩⟩ else none
  | _, _ => none

def splice {α : Type} (off : Nat) (as cs : List α) : List α := cs.take off ++ as ++ cs.drop (off + as.length)

def sonT (n : Nat) (m : Mem) : TV → TV → Option Mem
  | .lp s ver off, .v (.agg as) => match m.l s with
    | .mu v cs => if v = ver ∧ as.length = n ∧ off + n ≤ cs.length ∧ as.all cellA = true then some ⟨upd m.l s (.mu ver (splice off (as.map TV.v) cs)), m.c, m.h⟩ else none
    | _ => none
  | .v (.ptr b off), .v (.agg as) => (m.h.m b).bind fun cs =>
      if as.length = n ∧ off + n ≤ cs.length ∧ as.all cellA = true then some ⟨m.l, m.c, ⟨upd m.h.m b (some (splice off as cs)), m.h.nx⟩⟩ else none
  | _, _ => none

def faT (k : Nat) : TV → Option TV
  | .v (.ptr n off) => some (.v (.ptr n (off + k)))
  | .lp s ver off => some (.lp s ver (off + k))
  | .vp cs => some (.vp (cs.drop k))
  | _ => none

def flT (off : Nat) : TV → Option AV
  | .v (.agg cs) => cs[off]?
  | _ => none

def flnT (off n : Nat) : TV → Option AV
  | .v (.agg cs) => if off + n ≤ cs.length then some (.agg ((cs.drop off).take n)) else none
  | _ => none

def ixT (sz : Nat) (m : Mem) : TV → TV → Option TV
  | .v (.vec es), .v (.sc (.int _ i)) => if 0 ≤ i ∧ i < (es.length : Int) then (es[i.toNat]?).bind fun e => if es.all (fun e => e.length == sz) = true then some (.vp e) else none else none
  | .v (.sl n sz' off len), .v (.sc (.int _ i)) => if sz' = sz ∧ 0 ≤ i ∧ i < (len : Int) then some (.v (.ptr n (off + i.toNat * sz))) else none
  | .ls s ver sz' len, .v (.sc (.int _ i)) => if sz' = sz ∧ 0 ≤ i ∧ i < (len : Int) then some (.lp s ver (i.toNat * sz)) else none
  | _, _ => none

def iaT (sz n : Nat) : TV → TV → Option TV
  | p, .v (.sc (.int _ i)) => if 0 ≤ i ∧ i < (n : Int) then faT (i.toNat * sz) p else none
  | _, _ => none

def xsT : TV → TV → Option AV
  | .v (.sc (.string s)), .v (.sc (.int _ i)) => if 0 ≤ i then (s[i.toNat]?).map fun b => .sc (.int .u8 b.toNat) else none
  | _, _ => none

def xaT (n : Nat) : TV → TV → Option AV
  | .v (.agg cs), .v (.sc (.int _ i)) => if 0 ≤ i ∧ i < (n : Int) then cs[i.toNat]? else none
  | _, _ => none

def ncT : TV → Option TV
  | .v (.ptr n off) => some (.v (.ptr n off))
  | .lp s ver off => some (.lp s ver off)
  | .vp cs => some (.vp cs)
  | _ => none

def newL (d : Nat) (m : Mem) (cs : List TV) : Mem := ⟨upd m.l d (.mu m.c cs), m.c + 1, m.h⟩
def newH (m : Mem) (cs : List AV) : Mem := ⟨m.l, m.c, ⟨upd m.h.m m.h.nx (some cs), m.h.nx + 1⟩⟩

/-- A new variable. -/
def newVarT (p d : Nat) (m : Mem) (cs : List TV) : Res :=
  match p with
  | 0 => some (.lp d m.c 0, newL d m cs)
  | 1 => (fzs m cs).map fun (as, m1) => (.v (.ptr m1.h.nx 0), newH m1 as)
  | _ => none

/-- A new slice of n elements. -/
def newSlT (p d : Nat) (sz n : Nat) (m : Mem) (cs : List TV) : Res :=
  match p with
  | 0 => some (.ls d m.c sz n, newL d m cs)
  | 1 => (fzs m cs).map fun (as, m1) => (.v (.sl m1.h.nx sz 0 n), newH m1 as)
  | _ => (fzs m cs).map fun (as, m1) => (.v (.vec (chunk sz n as)), m1)

def cellsO : TV → Option (List TV)
  | .v (.agg as) => some (as.map TV.v)
  | x => if cellT x = true then some [x] else none

def fillT : List AV → List (Nat × Nat × TV) → Option (List AV)
  | cs, [] => some cs
  | cs, (off, sz, x) :: r => match x with
    | .v (.agg as) => if as.length = sz ∧ off + sz ≤ cs.length then fillT (splice off as cs) r else none
    | .v (.tup _) => none
    | .v a => if sz = 1 ∧ off < cs.length ∧ cellA a = true then fillT (cs.set off a) r else none
    | _ => none

/-- The fields of a literal: slices of the call's own among them are fixed. -/
def fzP (m : Mem) : List (Nat × Nat × TV) → Option (List (Nat × Nat × TV) × Mem)
  | [] => some ([], m)
  | (o, s, x) :: r => (fz m x).bind fun (a, m1) => (fzP m1 r).map fun (as, m2) => ((o, s, .v a) :: as, m2)

def bsC (sz : Nat) : List TV → Option (List TV)
  | [] => some []
  | x :: r => (cellsO x).bind fun ys => if ys.length = sz then (bsC sz r).map fun cs => ys ++ cs else none

def msT (p d sz bytes : Nat) (z : List Value) (m : Mem) : TV → TV → Res
  | .v (.sc (.int _ l)), .v (.sc (.int _ c)) => if 0 ≤ l ∧ l ≤ c ∧ (bytes : Int) * c ≤ 281474976710656 ∧ c ≤ 9223372036854775807 ∧ z.length = sz then
      newSlT p d sz l.toNat m ((List.replicate l.toNat (z.map fun v => TV.v (.sc v))).flatten) else none
  | _, _ => none

def bnd (dflt : Int) (t : Nat → TV) : Option Opd → Option Int
  | none => some dflt
  | some o => match ev t o with
    | .v (.sc (.int _ i)) => some i
    | _ => none

def ssT (t : Nat → TV) (x : TV) (lo hi : Option Opd) : Option AV :=
  match x with
  | .v (.sc (.string s)) => (bnd 0 t lo).bind fun l => (bnd s.size t hi).bind fun h =>
      if 0 ≤ l ∧ l ≤ h ∧ h ≤ (s.size : Int) then some (.sc (.string (s.extract l.toNat h.toNat))) else none
  | _ => none

def slT (sz : Nat) (t : Nat → TV) (m : Mem) (x : TV) (lo hi : Option Opd) : Res :=
  match x with
  | .v (.sc (.slice none 0 0)) => (bnd 0 t lo).bind fun l => (bnd 0 t hi).bind fun h => if l = 0 ∧ h = 0 then some (.v (.sc (.slice none 0 0)), m) else none
  | .v (.vec es) => (bnd 0 t lo).bind fun l => (bnd es.length t hi).bind fun h =>
      if 0 ≤ l ∧ l ≤ h ∧ h ≤ (es.length : Int) ∧ es.all (fun e => e.length == sz) = true then some (.v (.vec ((es.drop l.toNat).take (h.toNat - l.toNat))), m) else none
  | .v (.sl n sz' off len) => (bnd 0 t lo).bind fun l => (bnd len t hi).bind fun h =>
      if sz' = sz ∧ 0 ≤ l ∧ l ≤ h ∧ h ≤ (len : Int) then (if l = 0 then some (.v (.sl n sz off h.toNat), m) else if l < (len : Int) then some (.v (.sl n sz (off + l.toNat * sz) (h.toNat - l.toNat)), m) else some (.v (.vec []), m)) else none
  | .ls s ver sz' len => (bnd 0 t lo).bind fun l => (bnd len t hi).bind fun h =>
      if sz' = sz ∧ l = 0 ∧ 0 ≤ h ∧ h ≤ (len : Int) then some (.ls s ver sz h.toNat, m) else none
  | _ => none

/-- What an append takes from its second argument: how many elements, their cells. -/
def srcT (sz : Nat) (m : Mem) : TV → Option (Nat × List TV)
  | .v (.sc (.string s)) => some (s.size, s.data.toList.map fun b => TV.v (.sc (.int .u8 b.toNat)))
  | .v (.sc (.slice none 0 0)) => some (0, [])
  | .v (.vec es) => some (es.length, es.flatten.map TV.v)
  | .v (.sl n sz' off len) => (m.h.m n).bind fun cs => if sz' = sz ∧ off + len * sz ≤ cs.length then some (len, ((cs.drop off).take (len * sz)).map TV.v) else none
  | .ls s ver sz' len => ((m.l s).get ver).bind fun cs => if sz' = sz ∧ len * sz ≤ cs.length then some (len, cs.take (len * sz)) else none
  | _ => none

def apT (p d sz bytes : Nat) (m : Mem) (x y : TV) : Res :=
  (srcT sz m y).bind fun (n, news) =>
    if news.length = n * sz ∧ news.all cellT = true ∧ 0 < sz then
      match x with
      | .v (.sc (.slice none 0 0)) => if n * bytes ≤ 140737488355328 ∧ n ≤ 9223372036854775807 then (if n = 0 then some (x, m) else newSlT p d sz n m news) else none
      | .ls s ver sz' len => match m.l s with
        | .mu v cs => if v = ver ∧ sz' = sz ∧ len * sz ≤ cs.length ∧ (len + n) * bytes ≤ 140737488355328 ∧ len + n ≤ 9223372036854775807 then
            some (.ls d m.c sz (len + n), newL d ⟨upd m.l s .no, m.c, m.h⟩ (cs.take (len * sz) ++ news)) else none
        | _ => none
      | .v (.sl b sz' off len) => (fzs m news).bind fun (as, m1) => (m1.h.m b).bind fun cs =>
          if off = 0 ∧ sz' = sz ∧ len * sz ≤ cs.length ∧ (len + n) * bytes ≤ 140737488355328 ∧ len + n ≤ 9223372036854775807 then
            some (.v (.sl m1.h.nx sz 0 (len + n)), newH ⟨m1.l, m1.c, ⟨upd m1.h.m b none, m1.h.nx⟩⟩ (cs.take (len * sz) ++ as)) else none
      | _ => none
    else none

def cpT (sz : Nat) (m : Mem) (x y : TV) : Res :=
  (srcT sz m y).bind fun (n, news) =>
    if news.length = n * sz ∧ news.all cellT = true ∧ 0 < sz then
      match x with
      | .v (.sl b sz' off len) => (fzs m news).bind fun (as, m1) => (m1.h.m b).bind fun cs =>
          if sz' = sz ∧ off + len * sz ≤ cs.length then
            some (.v (goI (min n len)), ⟨m1.l, m1.c, ⟨upd m1.h.m b (some (splice off (as.take (min n len * sz)) cs)), m1.h.nx⟩⟩) else none
      | .ls s ver sz' len => match m.l s with
        | .mu v cs => if v = ver ∧ sz' = sz ∧ len * sz ≤ cs.length then
            some (.v (goI (min n len)), ⟨upd m.l s (.mu ver (splice 0 (news.take (min n len * sz)) cs)), m.c, m.h⟩) else none
        | _ => none
      | .v (.vec []) => some (.v (goI 0), m)
      | .v (.sc (.slice none 0 0)) => some (.v (goI 0), m)
      | _ => none
    else none

def byteOfA : AV → Option UInt8
  | .sc (.int .u8 n) => some (UInt8.ofNat n.toNat)
  | _ => none

def bytesOfA : List AV → Option (List UInt8)
  | [] => some []
  | a :: r => (byteOfA a).bind fun b => (bytesOfA r).map (b :: ·)

def b2sT (m : Mem) (x : TV) : Option AV :=
  match x with
  | .v (.sc (.string _)) => none
  | x => (srcT 1 m x).bind fun (n, cs) => if cs.length = n then (avs cs).bind fun as => (bytesOfA as).map fun l => .sc (.string ⟨l.toArray⟩) else none

def s2bT (p d : Nat) (m : Mem) : TV → Res
  | .v (.sc (.string s)) => if s.size ≤ 140737488355328 then newSlT p d 1 s.size m (s.data.toList.map fun b => TV.v (.sc (.int .u8 b.toNat))) else none
  | _ => none

def miT (ty : Nat) (m : Mem) (x : TV) : Res := (fz m x).map fun (a, m1) => (.v (.ifc ty a), m1)

def mmT (mx : Bool) : TV → TV → Option AV
  | .v (.sc (.int k x)), .v (.sc (.int _ y)) => some (.sc (.int k (if mx then (if y > x then y else x) else (if y < x then y else x))))
  | _, _ => none

/-- An operation that calls nothing. -/
def aev (d : Nat) (t : Nat → TV) (m : Mem) : AI → Res
  | .mv x => some (ev t x, m)
  | .pk c a b => (pkT (ev t c) (ev t a) (ev t b)).map (·, m)
  | .bi op x y => (biT op (ev t x) (ev t y)).map (.v ·, m)
  | .bq neq x y => (bqT neq (ev t x) (ev t y)).map (.v ·, m)
  | .ni kd neq x => (isNil kd (ev t x)).map fun b => (.v (.sc (.bool (b != neq))), m)
  | .un op x => (unT op (ev t x)).map (.v ·, m)
  | .cv k x => (cvT k (ev t x)).map (.v ·, m)
  | .s2b p x => s2bT p d m (ev t x)
  | .b2s x => (b2sT m (ev t x)).map (.v ·, m)
  | .ln x => (lnT (ev t x)).map (.v ·, m)
  | .sn x => (snT (ev t x)).map (.v ·, m)
  | .ex i x => (exT i (ev t x)).map (.v ·, m)
  | .ld x => (ld1 m (ev t x)).map (·, m)
  | .ldn n x => ldnT n m (ev t x)
  | .so x y => (soT m (ev t x) (ev t y)).map (.v (.sc undef), ·)
  | .son n x y => (sonT n m (ev t x) (ev t y)).map (.v (.sc undef), ·)
  | .fa off x => (faT off (ev t x)).map (·, m)
  | .fl off x => (flT off (ev t x)).map (.v ·, m)
  | .fln off n x => (flnT off n (ev t x)).map (.v ·, m)
  | .ix sz x i => (ixT sz m (ev t x) (ev t i)).map (·, m)
  | .ia sz n x i => (iaT sz n (ev t x) (ev t i)).map (·, m)
  | .xs x i => (xsT (ev t x) (ev t i)).map (.v ·, m)
  | .xa n x i => (xaT n (ev t x) (ev t i)).map (.v ·, m)
  | .nc x => (ncT (ev t x)).map (·, m)
  | .al p z => newVarT p d m (z.map fun v => .v (.sc v))
  | .bx p x => (cellsO (ev t x)).bind fun cs => newVarT p d m cs
  | .bd z ps => (fzP m (ps.map fun (o, s, x) => (o, s, ev t x))).bind fun (qs, m1) => (fillT (z.map AV.sc) qs).map fun cs => (.v (.agg cs), m1)
  | .bs p sz ps => (bsC sz (ps.map (ev t))).bind fun cs => if ps.length * sz ≤ 16777216 then newSlT p d sz ps.length m cs else none
  | .ms p sz bytes z x y => msT p d sz bytes z m (ev t x) (ev t y)
  | .sl sz x lo hi => slT sz t m (ev t x) lo hi
  | .ss x lo hi => (ssT t (ev t x) lo hi).map (.v ·, m)
  | .ap p sz bytes x y => apT p d sz bytes m (ev t x) (ev t y)
  | .cp sz x y => cpT sz m (ev t x) (ev t y)
  | .mf f fi ca => (fzs m (fi.map (ev t))).bind fun (as, m1) => (fzs m1 (ca.map (ev t))).map fun (bs, m2) => (.v (.fn f as bs), m2)
  | .mi ty x => miT ty m (ev t x)
  | .mm mx x y => (mmT mx (ev t x) (ev t y)).map (.v ·, m)

end SL
