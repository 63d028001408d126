/-
  Proved here, for every program: a part of the soundness of an abstract machine against the model: the abstract machine's definition: trees for values, paths for pointers, a table of blocks. Conditions: none.
-/
import Derived.Orders
import Derived.KernelRfl
/-
  An abstract machine for Go code as the model elaborates it: values are trees, pointers are paths, memory is a table of blocks; what the tape
  decides (an append's room, a region's order) does not occur in it. This text holds its definition alone.
-/
namespace Go.Proofs.YtnnebakkcdclmaaGreat.AM

inductive Step where
  | fd (t i : Nat)
  | ix (t j : Nat)
  deriving DecidableEq, Inhabited

inductive V where
  | B (x : Bool)
  | I (k : IntKind) (n : Int)
  | F (k : FloatKind) (bits : Nat)
  | X (k : FloatKind) (re im : Nat)
  | S (x : ByteArray)
  | P (b : Nat) (p : List Step)
  | P0
  | L (b : Nat) (p : List Step) (t st len cap : Nat) (op : Bool)
  | L0
  | M (b : Nat)
  | M0
  | Fn (f : Fn) (first captured : List V)
  | Fn0
  | If (t : TypeId) (v : V)
  | If0
  | St (t : TypeId) (vs : List V)
  | Ar (t : TypeId) (vs : List V)
  | T (vs : List V)
  deriving Inhabited

abbrev dd : V := .T []

mutual
def V.eq : V → V → Bool
  | .B x, .B y => x == y
  | .I k n, .I k' n' => decide (k = k') && decide (n = n')
  | .F k n, .F k' n' => decide (k = k') && decide (n = n')
  | .X k n m, .X k' n' m' => decide (k = k') && decide (n = n') && decide (m = m')
  | .S x, .S y => decide (x = y)
  | .P b p, .P b' p' => decide (b = b') && decide (p = p')
  | .P0, .P0 => true
  | .L b p t s l c o, .L b' p' t' s' l' c' o' => decide (b = b') && decide (p = p') && decide (t = t') && decide (s = s') && decide (l = l') && decide (c = c') && decide (o = o')
  | .L0, .L0 => true
  | .M b, .M b' => decide (b = b')
  | .M0, .M0 => true
  | .Fn f a c, .Fn f' a' c' => decide (f = f') && V.eqs a a' && V.eqs c c'
  | .Fn0, .Fn0 => true
  | .If t v, .If t' v' => decide (t = t') && v.eq v'
  | .If0, .If0 => true
  | .St t vs, .St t' vs' => decide (t = t') && V.eqs vs vs'
  | .Ar t vs, .Ar t' vs' => decide (t = t') && V.eqs vs vs'
  | .T vs, .T vs' => V.eqs vs vs'
  | _, _ => false
def V.eqs : List V → List V → Bool
  | [], [] => true
  | v :: vs, u :: us => v.eq u && V.eqs vs us
  | _, _ => false
end

/-- What may be in a block. -/
inductive BK where
  | rw   -- the machine's own
  | ro   -- came in: read alone
  | op   -- an append made it: there may be more room than is seen
  deriving DecidableEq, Inhabited

inductive Blk where
  | c (k : BK) (v : V)
  | m (es : List (V × V))
  deriving Inhabited

/-- A table of blocks by numbers. -/
inductive Tr where
  | nil
  | node (l : Tr) (x : Option Blk) (r : Tr)

def Tr.get : Tr → Nat → Option Blk
  | .nil, _ => none
  | .node l x r, n => if n = 0 then x else if n % 2 = 1 then l.get (n / 2) else r.get (n / 2 - 1)

def Tr.set : Nat → Tr → Nat → Option Blk → Tr
  | 0, .nil, _, x => .node .nil x .nil
  | 0, .node l _ r, _, x => .node l x r
  | f + 1, .nil, n, x => if n = 0 then .node .nil x .nil else if n % 2 = 1 then .node (Tr.set f .nil (n / 2) x) none .nil else .node .nil none (Tr.set f .nil (n / 2 - 1) x)
  | f + 1, .node l y r, n, x => if n = 0 then .node l x r else if n % 2 = 1 then .node (Tr.set f l (n / 2) x) y r else .node l y (Tr.set f r (n / 2 - 1) x)

structure H where
  tr : Tr
  next : Nat

def H.get (h : H) (b : Nat) : Option Blk := h.tr.get b
def H.put (h : H) (b : Nat) (x : Option Blk) : H := ⟨h.tr.set b b x, h.next⟩
def H.new (h : H) (x : Blk) : H := ⟨h.tr.set h.next h.next (some x), h.next + 1⟩

/-- A value's part at a path; and the value with another part there. -/
def V.at : List Step → V → Option V
  | [], v => some v
  | .fd t i :: p, .St t' vs => if t = t' then (vs[i]?).bind (V.at p) else none
  | .ix t j :: p, .Ar t' vs => if t = t' then (vs[j]?).bind (V.at p) else none
  | _, _ => none

def V.put : List Step → V → V → Option V
  | [], _, x => some x
  | .fd t i :: p, .St t' vs, x => if t = t' then (vs[i]?).bind fun u => (V.put p u x).map fun u' => .St t' (vs.set i u') else none
  | .ix t j :: p, .Ar t' vs, x => if t = t' then (vs[j]?).bind fun u => (V.put p u x).map fun u' => .Ar t' (vs.set j u') else none
  | _, _, _ => none

/-- A type's make: a struct (by its own number), an array (of what, how many), one cell. -/
inductive LK where
  | s (t : Nat)
  | a (e n : Nat)
  | l
  deriving DecidableEq, Inhabited

def V.leaf : V → Bool
  | .St .. | .Ar .. | .T .. => false
  | _ => true

def LK.ok : LK → V → Bool
  | .s t, .St t' _ => decide (t = t')
  | .a e n, .Ar e' vs => decide (e = e') && decide (vs.length = n)
  | .l, v => v.leaf
  | _, _ => false

def fieldsOf (P : Program) (t : TypeId) : Option (List Field) :=
  match P.info? t with
  | some { desc := .struct fs, .. } => some fs.toList
  | _ => none

/-- The fields lie one behind the other, and are as many cells as the whole. -/
def fieldsFit (P : Program) : List Field → Nat → Nat → Bool
  | [], off, size => decide (off = size)
  | f :: fs, off, size => decide (f.offset = off) && (P.info? f.type).isSome && fieldsFit P fs (off + P.cellsOf f.type) size

def kind (P : Program) (t : TypeId) : Option LK :=
  match P.underlying t with
  | some (.struct _) =>
    let u := P.underlyingId t
    match fieldsOf P u with
    | some fs => if fieldsFit P fs 0 (P.cellsOf t) && decide (P.cellsOf u = P.cellsOf t) && decide (0 < P.cellsOf t) then some (.s u) else none
    | none => none
  | some (.array n e) => if decide (P.cellsOf t = n * P.cellsOf e) && decide (0 < P.cellsOf t) then some (.a e n) else none
  | some (.tuple _) | some .invalid => none
  | some _ => if decide (P.cellsOf t = 1) then some .l else none
  | none => none

/-- Types' zeros. -/
def zeroV (P : Program) : Nat → TypeId → V
  | 0, _ => dd
  | d + 1, t =>
    match P.underlying t with
    | some .bool => .B false
    | some (.int k) => .I k 0
    | some (.float k) => .F k 0
    | some (.complex k) => .X k 0 0
    | some .string => .S ⟨#[]⟩
    | some (.pointer _) => .P0
    | some (.slice _) => .L0
    | some (.map _ _) => .M0
    | some (.func _ _ _) => .Fn0
    | some (.interface _) => .If0
    | some (.struct fs) => .St (P.underlyingId t) (fs.toList.map fun f => zeroV P d f.type)
    | some (.array n e) => .Ar e (List.replicate n (zeroV P d e))
    | _ => dd

/-- Constants. -/
def constV : Value → Option V
  | .bool x => some (.B x)
  | .int k n => some (.I k n)
  | .float k n => some (.F k n)
  | .complex k n m => some (.X k n m)
  | .string s => some (.S s)
  | .pointer none => some .P0
  | .slice none 0 0 => some .L0
  | .map none => some .M0
  | .nilFunc => some .Fn0
  | .nilIface => some .If0
  | _ => none

/-- Is a tree of leaves without blocks a row of cells? -/
def eqLeaf (v : V) (x : Value) : Bool :=
  match v, x with
  | .B a, .bool c => a == c
  | .I k n, .int k' n' => decide (k = k') && decide (n = n')
  | .F k n, .float k' n' => decide (k = k') && decide (n = n')
  | .X k n m, .complex k' n' m' => decide (k = k') && decide (n = n') && decide (m = m')
  | .S a, .string c => decide (a = c)
  | .P0, .pointer none => true
  | .L0, .slice none 0 0 => true
  | .M0, .map none => true
  | .Fn0, .nilFunc => true
  | .If0, .nilIface => true
  | _, _ => false

mutual
/-- v's cells stand at the front of a list: the rest. -/
def eqCells (P : Program) : V → List Value → Option (List Value)
  | .St t vs, cs =>
    match fieldsOf P t with
    | some fs =>
      if decide (vs.length = fs.length) then
        match eqFields P fs 0 vs cs with
        | some r => if decide (cs.length = r.length + P.cellsOf t) then some r else none
        | none => none
      else none
    | none => none
  | .Ar t vs, cs => eqElems P (P.cellsOf t) vs cs
  | .T _, _ => none
  | .B x, c :: cs => if eqLeaf (.B x) c then some cs else none
  | .I k n, c :: cs => if eqLeaf (.I k n) c then some cs else none
  | .F k n, c :: cs => if eqLeaf (.F k n) c then some cs else none
  | .X k n m, c :: cs => if eqLeaf (.X k n m) c then some cs else none
  | .S x, c :: cs => if eqLeaf (.S x) c then some cs else none
  | .P0, c :: cs => if eqLeaf .P0 c then some cs else none
  | .L0, c :: cs => if eqLeaf .L0 c then some cs else none
  | .M0, c :: cs => if eqLeaf .M0 c then some cs else none
  | .Fn0, c :: cs => if eqLeaf .Fn0 c then some cs else none
  | .If0, c :: cs => if eqLeaf .If0 c then some cs else none
  | _, _ => none
def eqFields (P : Program) : List Field → Nat → List V → List Value → Option (List Value)
  | f :: fs, off, v :: vs, cs =>
    match eqCells P v cs with
    | some r => if decide (f.offset = off) && decide (cs.length = r.length + P.cellsOf f.type) then eqFields P fs (off + P.cellsOf f.type) vs r else none
    | none => none
  | [], _, _ :: _, _ => none
  | _, _, [], cs => some cs
def eqElems (P : Program) (n : Nat) : List V → List Value → Option (List Value)
  | v :: vs, cs =>
    match eqCells P v cs with
    | some r => if decide (cs.length = r.length + n) then eqElems P n vs r else none
    | none => none
  | [], cs => some cs
end

/-- A type's zero, held against the table's. -/
def zeroOf (P : Program) (t : TypeId) : Option V :=
  match kind P t, (P.info? t).bind (·.zero) with
  | some k, some z =>
    let v := zeroV P 12 t
    if LK.ok k v && (match eqCells P v z.cells.toList with | some [] => true | _ => false) && (match z with | .agg _ => !v.leaf | _ => v.leaf) then some v else none
  | _, _ => none

abbrev Env := Nat → V

def Env.upd (E : Env) (nt : Nat) (d : Option Nat) (v : V) : Env :=
  match d with
  | none => E
  | some d => if d < nt then fun t => if t = d then v else E t else E

def opv (E : Env) : Operand → V
  | .tmp t => E t
  | .const v => (constV v).getD dd
  | .func f => .Fn (.func f) [] []
  | .global _ => dd

/-! What operations give. -/

def ld (k : LK) (x : V) (h : H) : Option V :=
  match x with
  | .P b p =>
    match h.get b with
    | some (.c _ v) =>
      match V.at p v with
      | some u => if LK.ok k u then some u else none
      | none => none
    | _ => none
  | _ => none

def sto (k : LK) (a x : V) (h : H) : Option H :=
  match a with
  | .P b p =>
    match h.get b with
    | some (.c bk v) =>
      if bk = .ro then none else
      match V.at p v with
      | some u =>
        if LK.ok k u && LK.ok k x then
          match V.put p v x with
          | some v' => some (h.put b (some (.c bk v')))
          | none => none
        else none
      | none => none
    | _ => none
  | _ => none

def nilc : V → Option V
  | .P0 | .If0 | .Fn0 => none
  | .Fn (.method _) _ _ => none
  | v => some v

def ints (op : BinOp) (x y : V) : Option V :=
  match x, y with
  | .I k a, .I k' c =>
    match op with
    | .shl => if c < 0 then none else some (.I k (k.wrap (a * 2 ^ (min c.toNat k.bits))))
    | .shr => if c < 0 then none else some (.I k (a.fdiv (2 ^ (min c.toNat k.bits))))
    | op =>
      if k = k' then
        match op with
        | .add => some (.I k (k.wrap (a + c)))
        | .sub => some (.I k (k.wrap (a - c)))
        | .mul => some (.I k (k.wrap (a * c)))
        | .quo => if c = 0 then none else some (.I k (k.wrap (a.tdiv c)))
        | .rem => if c = 0 then none else some (.I k (a.tmod c))
        | .and => some (.I k (k.wrap (BitVec.ofInt k.bits a &&& BitVec.ofInt k.bits c).toNat))
        | .or => some (.I k (k.wrap (BitVec.ofInt k.bits a ||| BitVec.ofInt k.bits c).toNat))
        | .xor => some (.I k (k.wrap (BitVec.ofInt k.bits a ^^^ BitVec.ofInt k.bits c).toNat))
        | .andNot => some (.I k (k.wrap (BitVec.ofInt k.bits a &&& ~~~ BitVec.ofInt k.bits c).toNat))
        | .eql => some (.B (a == c))
        | .neq => some (.B (a != c))
        | .lss => some (.B (decide (a < c)))
        | .leq => some (.B (decide (a ≤ c)))
        | .gtr => some (.B (decide (a > c)))
        | .geq => some (.B (decide (a ≥ c)))
        | _ => none
      else none
  | _, _ => none

/-- Kinds of types whose values are alike or not, without parts. -/
inductive QK where
  | bo | pt | sl | mp | fn | nf
  deriving DecidableEq, Inhabited

/-- Is it alike? -/
def same : QK → V → V → Option Bool
  | .bo, .B a, .B c => some (a == c)
  | .pt, .P0, .P0 => some true
  | .pt, .P0, .P _ _ => some false
  | .pt, .P _ _, .P0 => some false
  | .sl, .L0, .L0 => some true
  | .sl, .L0, .L .. => some false
  | .sl, .L .., .L0 => some false
  | .mp, .M0, .M0 => some true
  | .mp, .M0, .M _ => some false
  | .mp, .M _, .M0 => some false
  | .fn, .Fn0, .Fn0 => some true
  | .fn, .Fn0, .Fn .. => some false
  | .fn, .Fn .., .Fn0 => some false
  | .nf, .If0, .If .. => some false
  | .nf, .If .., .If0 => some false
  | _, _, _ => none

def eqs (q : QK) (op : BinOp) (x y : V) : Option V :=
  match op with
  | .eql => (same q x y).map .B
  | .neq => (same q x y).map fun r => .B (!r)
  | _ => none

/-- What of a float, or a complex number, comes without the tape. -/
def pure? {α : Type} (P : Program) : Sem α → Option α
  | .pure a => some a
  | .program k => pure? P (k P)
  | _ => none

def valF : V → Option Value
  | .F k n => some (.float k n)
  | .X k n m => some (.complex k n m)
  | .I k n => some (.int k n)
  | .B x => some (.bool x)
  | .S x => some (.string x)
  | _ => none

def ofVal : Value → Option V
  | .float k n => some (.F k n)
  | .complex k n m => some (.X k n m)
  | .int k n => some (.I k n)
  | .bool x => some (.B x)
  | .string x => some (.S x)
  | _ => none

/-- Floats and complex numbers, and strings' order: as the model reckons. -/
def nums (P : Program) (op : BinOp) (t : TypeId) (x y : V) : Option V :=
  match valF x, valF y with
  | some a, some c => (pure? P (binOp op t a c)).bind ofVal
  | _, _ => none

/-- How two operands of a type are reckoned with. -/
inductive BKd where
  | ints | like (q : QK) | nums | no

def binKind (P : Program) (t : TypeId) : BKd :=
  match P.underlying t with
  | some (.int _) => .ints
  | some .bool => .like .bo
  | some (.pointer _) => .like .pt
  | some (.slice _) => .like .sl
  | some (.map _ _) => .like .mp
  | some (.func _ _ _) => .like .fn
  | some (.interface _) => .like .nf
  | some .string | some (.float _) | some (.complex _) => .nums
  | _ => .no

def bin (P : Program) (op : BinOp) (t : TypeId) (x y : V) : Option V :=
  match binKind P t with
  | .ints => ints op x y
  | .like q => eqs q op x y
  | .nums => nums P op t x y
  | .no => none

def una (op : UnOp) (x : V) : Option V :=
  match op, x with
  | .not, .B a => some (.B (!a))
  | .neg, .I k n => some (.I k (k.wrap (0 - n)))
  | .neg, .F k n => some (.F k (Op.negFloat k n))
  | .neg, .X k n m => some (.X k (Op.negFloat k n) (Op.negFloat k m))
  | _, _ => none

def cnv (P : Program) (src dst : TypeId) (x : V) : Option V :=
  match P.underlying src, P.underlying dst, x with
  | some (.int _), some (.int k), .I _ n => some (.I k (k.wrap n))
  | some (.int _), some (.float k), .I _ n => some (.F k (k.nearest n))
  | some (.float _), some (.int k), .F s c =>
    match (s.decode c).toInt .zero with
    | some n => if k.min ≤ n ∧ n ≤ k.max then some (.I k n) else none
    | none => none
  | _, _, _ => none

def intOf (x : V) : Option Int := match x with | .I _ n => some n | _ => none

/-- A slice expression's bounds: low, high, and the room's end; of what has n places, and room for c. -/
def bnds (n c : Nat) (lo hi mx : Option Int) : Option (Nat × Nat × Nat) :=
  let m := mx.getD c
  let h := match hi with | some h => h | none => (n : Int)
  let l := lo.getD 0
  if 0 ≤ l ∧ l ≤ h ∧ h ≤ m ∧ m ≤ c ∧ (hi.isSome ∨ mx.isNone) then some (l.toNat, h.toNat, m.toNat) else none

def optInt : Option V → Option (Option Int)
  | none => some none
  | some (.I _ n) => some (some n)
  | _ => none

/-- A slice of a slice of e's. -/
def slc (e : Nat) (x : V) (lo hi mx : Option V) : Option V :=
  match optInt lo, optInt hi, optInt mx with
  | some lo, some hi, some mx =>
    match x with
    | .L0 => (bnds 0 0 lo hi mx).map fun _ => .L0
    | .L b p t s n c op =>
      if t = e then
        (bnds n c lo hi mx).map fun (l, h, m) =>
          if mx.isSome then (if m = l then .L b p t s (h - l) (m - l) false else .L b p t (s + l) (h - l) (m - l) false)
          else if l = c then (if op then .L b p t (s + l) 0 0 true else .L b p t s 0 0 false)
          else .L b p t (s + l) (h - l) (c - l) op
      else none
    | _ => none
  | _, _, _ => none

def slcStr (x : V) (lo hi : Option V) : Option V :=
  match optInt lo, optInt hi, x with
  | some lo, some hi, .S a => (bnds a.size a.size lo hi none).map fun (l, h, _) => .S (a.extract l h)
  | _, _, _ => none

/-- A slice of an array that is a variable. -/
def slcA (e n : Nat) (x : V) (lo hi mx : Option V) : Option V :=
  match optInt lo, optInt hi, optInt mx, x with
  | some lo, some hi, some mx, .P b p =>
    (bnds n n lo hi mx).map fun (l, h, m) => if m = l then .L b p e 0 (h - l) (m - l) false else .L b p e l (h - l) (m - l) false
  | _, _, _, _ => none

def slcOf (P : Program) (t : TypeId) (x : V) (lo hi mx : Option V) : Option V :=
  match P.underlying t with
  | some (.array n e) => if (P.info? e).isSome then slcA e n x lo hi mx else none
  | some (.slice e) => if (P.info? e).isSome then slc e x lo hi mx else none
  | some .string => if mx.isSome then none else slcStr x lo hi
  | _ => none

def fldA (t i : Nat) : V → Option V
  | .P b p => some (.P b (p ++ [.fd t i]))
  | _ => none

def fldAOf (P : Program) (s : TypeId) (x : V) (i : Nat) : Option V :=
  match kind P s, fieldsOf P (P.underlyingId s) with
  | some (.s u), some fs => if u = P.underlyingId s then
      match fs[i]? with
      | some f => if P.cellsOf f.type = 0 then none else fldA u i x
      | none => none
    else none
  | _, _ => none

def fld (t i : Nat) : V → Option V
  | .St t' vs => if t = t' then vs[i]? else none
  | _ => none

def fldOf (P : Program) (s : TypeId) (x : V) (i : Nat) : Option V :=
  match kind P s with
  | some (.s u) =>
    match fieldsOf P u with
    | some fs =>
      match fs[i]? with
      | some f => (match kind P f.type with
        | some k => (fld u i x).bind fun v => if LK.ok k v then some v else none
        | none => none)
      | none => none
    | none => none
  | _ => none

/-- An element's place: of an array that is a variable; of a slice. -/
def idxA (e n : Nat) (x ix : V) : Option V :=
  match x, ix with
  | .P b p, .I _ j => if 0 ≤ j ∧ j < n then some (.P b (p ++ [.ix e j.toNat])) else none
  | _, _ => none

def idxS (e : Nat) (x ix : V) : Option V :=
  match x, ix with
  | .L b p t s n _ _, .I _ j => if t = e ∧ 0 ≤ j ∧ j < n then some (.P b (p ++ [.ix t (s + j.toNat)])) else none
  | _, _ => none

def idxAOf (P : Program) (t : TypeId) (x ix : V) : Option V :=
  match P.underlying t with
  | some (.array n e) => if (P.info? e).isSome then idxA e n x ix else none
  | some (.slice e) => if (P.info? e).isSome then idxS e x ix else none
  | _ => none

def idxV (e n : Nat) (k : LK) (x ix : V) : Option V :=
  match x, ix with
  | .Ar e' vs, .I _ j => if e = e' ∧ 0 ≤ j ∧ j < n ∧ vs.length = n then (vs[j.toNat]?).bind fun v => if LK.ok k v then some v else none else none
  | _, _ => none

def idxStr (x ix : V) : Option V :=
  match x, ix with
  | .S a, .I _ j => if 0 ≤ j then (a[j.toNat]?).map fun c => .I .u8 c.toNat else none
  | _, _ => none

def idxOf (P : Program) (t : TypeId) (x ix : V) : Option V :=
  match P.underlying t with
  | some (.array n e) =>
    match kind P e with
    | some k => idxV e n k x ix
    | none => none
  | some .string => idxStr x ix
  | _ => none

def ext (i : Nat) : V → Option V
  | .T vs => vs[i]?
  | _ => none

def tas (t : TypeId) (z : V) (ok : Bool) : V → Option V
  | .If0 => if ok then some (.T [z, .B false]) else none
  | .If t' v => if t' = t then (if ok then some (.T [v, .B true]) else some v) else if ok then some (.T [z, .B false]) else none
  | _ => none

def tasOf (P : Program) (t : TypeId) (ok : Bool) (x : V) : Option V :=
  match P.underlying t, zeroOf P t with
  | some (.interface _), _ => none
  | some _, some z => tas t z ok x
  | _, _ => none

/-- The parts that a literal names, put into a list. -/
def fillV : List (Nat × LK × V) → List V → Option (List V)
  | [], vs => some vs
  | (i, k, v) :: ps, vs => if i < vs.length ∧ LK.ok k v = true then fillV ps (vs.set i v) else none

def partKinds (P : Program) (fs : List Field) : List (Nat × Operand) → Option (List (Nat × LK × Operand))
  | [] => some []
  | (i, x) :: ps =>
    match fs[i]? with
    | some f => match kind P f.type, partKinds P fs ps with
      | some k, some r => some ((i, k, x) :: r)
      | _, _ => none
    | none => none

def bldS (t : Nat) (zs : List V) (ps : List (Nat × LK × V)) : Option V := (fillV ps zs).map (.St t)
def bldA (e : Nat) (zs : List V) (ps : List (Nat × LK × V)) : Option V := (fillV ps zs).map (.Ar e)

def parts (E : Env) (ps : List (Nat × LK × Operand)) : List (Nat × LK × V) := ps.map fun (i, k, x) => (i, k, opv E x)

def buildOf (P : Program) (E : Env) (t : TypeId) (ps : List (Nat × Operand)) : Option V :=
  match zeroOf P t with
  | some (.St u zs) =>
    match fieldsOf P u with
    | some fs => match partKinds P fs ps with
      | some ks => bldS u zs (parts E ks)
      | none => none
    | none => none
  | some (.Ar e zs) =>
    match kind P e with
    | some k => bldA e zs (parts E (ps.map fun (i, x) => (i, k, x)))
    | none => none
  | _ => none

/-- A map's entry by an integer. -/
def findI (k : IntKind) (n : Int) : List (V × V) → Nat → Option (Option (Nat × V))
  | [], _ => some none
  | (.I k' n', v) :: es, i => if k = k' then (if n == n' then some (some (i, v)) else findI k n es (i + 1)) else none
  | _ :: _, _ => none

def lkp (z : V) (ok : Bool) (m key : V) (h : H) : Option V :=
  match key with
  | .I k n =>
    match m with
    | .M0 => some (if ok then .T [z, .B false] else z)
    | .M b =>
      match h.get b with
      | some (.m es) =>
        match findI k n es 0 with
        | some (some (_, v)) => some (if ok then .T [v, .B true] else v)
        | some none => some (if ok then .T [z, .B false] else z)
        | none => none
      | _ => none
    | _ => none
  | _ => none

def mapElem (P : Program) (t : TypeId) : Option V :=
  match P.underlying t with
  | some (.map k e) =>
    match P.underlying k with
    | some (.int _) => zeroOf P e
    | _ => none
  | _ => none

def mup (m key x : V) (h : H) : Option H :=
  match m, key with
  | .M b, .I k n =>
    match h.get b with
    | some (.m es) =>
      match findI k n es 0 with
      | some (some (i, _)) => some (h.put b (some (.m (es.set i (key, x)))))
      | some none => some (h.put b (some (.m (es ++ [(key, x)]))))
      | none => none
    | _ => none
  | _, _ => none

def mdel (m key : V) (h : H) : Option H :=
  match m, key with
  | .M0, .I _ _ => some h
  | .M b, .I k n =>
    match h.get b with
    | some (.m es) =>
      match findI k n es 0 with
      | some (some (i, _)) => some (h.put b (some (.m (es.eraseIdx i))))
      | some none => some h
      | none => none
    | _ => none
  | _, _ => none

def mclr (m : V) (h : H) : Option H :=
  match m with
  | .M0 => some h
  | .M b =>
    match h.get b with
    | some (.m _) => some (h.put b (some (.m [])))
    | _ => none
  | _ => none

/-! Maps whose keys are arrays of integers. -/
structure AK where
  e : TypeId
  n : Nat
  q : IntKind

def arrK (P : Program) (kt : TypeId) : Option AK :=
  match P.underlying kt with
  | some (.array n e) =>
    match P.underlying e with
    | some (.int q) => if decide (P.cellsOf e = 1) && decide (P.cellsOf kt = n) && decide (0 < P.types.size) then some ⟨e, n, q⟩ else none
    | _ => none
  | _ => none

def intsOk (q : IntKind) : List V → Bool
  | [] => true
  | .I q' i :: vs => decide (q' = q) && (decide (q.min ≤ i) && decide (i ≤ q.max)) && intsOk q vs
  | _ :: _ => false

def keyOkA (a : AK) : V → Bool
  | .Ar e vs => decide (e = a.e) && decide (vs.length = a.n) && intsOk a.q vs
  | _ => false

/-- The entries with a key; none, if a key is of another make. -/
def findA (a : AK) (key : V) : List (V × V) → Nat → Option (List (Nat × V))
  | [], _ => some []
  | (k', v) :: es, i => if keyOkA a k' then (findA a key es (i + 1)).map fun l => if k'.eq key then (i, v) :: l else l else none

def entsA (m : V) (h : H) : Option (List (V × V)) :=
  match m with
  | .M0 => some []
  | .M b => match h.get b with | some (.m es) => some es | _ => none
  | _ => none

def lkpA (a : AK) (z : V) (ok : Bool) (m key : V) (h : H) : Option V :=
  if keyOkA a key then
    match entsA m h with
    | some es =>
      match findA a key es 0 with
      | some [] => some (if ok then .T [z, .B false] else z)
      | some [(_, v)] => some (if ok then .T [v, .B true] else v)
      | _ => none
    | none => none
  else none

def mupA (a : AK) (m key x : V) (h : H) : Option H :=
  if keyOkA a key then
    match m with
    | .M b =>
      match h.get b with
      | some (.m es) =>
        match findA a key es 0 with
        | some [] => some (h.put b (some (.m (es ++ [(key, x)]))))
        | some [(i, _)] => some (h.put b (some (.m (es.set i (key, x)))))
        | _ => none
      | _ => none
    | _ => none
  else none

def mapElemA (P : Program) (t : TypeId) : Option (AK × V) :=
  match P.underlying t with
  | some (.map k e) =>
    match arrK P k, zeroOf P e with
    | some a, some z => some (a, z)
    | _, _ => none
  | _ => none

/-- The values that a slice has. -/
def elems (e : Nat) (x : V) (h : H) : Option (List V) :=
  match x with
  | .L0 => some []
  | .L b p t s n _ _ =>
    if n = 0 then some [] else
    match h.get b with
    | some (.c _ v) =>
      match V.at p v with
      | some (.Ar t' vs) => if t = e ∧ t' = e ∧ s + n ≤ vs.length then some ((vs.drop s).take n) else none
      | _ => none
    | _ => none
  | _ => none

def lenS : V → Option Nat
  | .L0 => some 0
  | .L _ _ _ _ n _ _ => some n
  | _ => none

/-- Lists, one laid over another from a place on. -/
def lay (vs : List V) (i : Nat) (xs : List V) : List V := vs.take i ++ xs ++ vs.drop (i + xs.length)

def allOk (k : LK) (vs : List V) : Bool := vs.all (LK.ok k)

/-- append: e the elements' type, k its make. -/
def app (e : Nat) (k : LK) (x y : V) (h : H) : Option (V × H) :=
  match elems e y h with
  | none => none
  | some ys =>
    if allOk k ys = false then none else
    match x with
    | .L0 =>
      if ys.isEmpty then some (.L0, h)
      else if 16777216 < ys.length then none
      else some (.L h.next [] e 0 ys.length ys.length true, h.new (.c .op (.Ar e ys)))
    | .L b p t s n c op =>
      if t ≠ e then none else
      if ys.isEmpty then some (.L b p t s n c op, h) else
      if n + ys.length ≤ c then
        match h.get b with
        | some (.c bk v) =>
          if bk = .ro then none else
          match V.at p v with
          | some (.Ar t' vs) =>
            if t' = e ∧ s + n + ys.length ≤ vs.length then
              match V.put p v (.Ar e (lay vs (s + n) ys)) with
              | some v' => some (.L b p t s (n + ys.length) c op, h.put b (some (.c bk v')))
              | none => none
            else none
          | _ => none
        | _ => none
      else
        match elems e x h with
        | none => none
        | some xs =>
          if allOk k xs = false ∨ 16777216 < n + ys.length then none else
          let h1 := if op then (match h.get b with | some (.c .op _) => if p = [] then some (h.put b none) else none | _ => none) else some h
          match h1 with
          | some h1 => some (.L h.next [] e 0 (n + ys.length) (n + ys.length) true, h1.new (.c .op (.Ar e (xs ++ ys))))
          | none => none
    | _ => none

/-- copy. -/
def cpy (e : Nat) (k : LK) (x y : V) (h : H) : Option (V × H) :=
  match elems e y h, lenS x with
  | some ys, some n =>
    let zs := ys.take n
    if allOk k zs = false then none else
    match x with
    | .L0 => some (.I .i64 0, h)
    | .L b p t s n0 _ _ =>
      if n0 = 0 then some (.I .i64 0, h) else
      match h.get b with
      | some (.c bk v) =>
        if bk = .ro then none else
        match V.at p v with
        | some (.Ar t' vs) =>
          if t = e ∧ t' = e ∧ s + zs.length ≤ vs.length then
            match V.put p v (.Ar e (lay vs s zs)) with
            | some v' => some (.I .i64 zs.length, h.put b (some (.c bk v')))
            | none => none
          else none
        | _ => none
      | _ => none
    | _ => none
  | _, _ => none

def minGo (f : Int → Int → Bool) (k : IntKind) (n : Int) : List V → Option V
  | [] => some (.I k n)
  | .I k' m :: vs => if k = k' then minGo f k (if f m n then m else n) vs else none
  | _ => none

def minI (f : Int → Int → Bool) : List V → Option V
  | .I k n :: vs => minGo f k n vs
  | _ => none

/-! Operations: what only reads (`evV`), what makes a block (`evA`), what acts (`evE`). -/

def mkIf (t : TypeId) (x : V) : Option V :=
  match x with
  | .T _ => none
  | v => some (.If t v)

def okOp (nt : Nat) : Operand → Bool
  | .tmp t => decide (t < nt)
  | .const v => (constV v).isSome
  | .func _ => true
  | .global _ => false

def evV (P : Program) (E : Env) (h : H) (o : Oper) : Option V :=
  match o.op with
  | .move x | .assign x => some (opv E x)
  | .pick c a b => match opv E c with | .B t => some (if t then opv E a else opv E b) | _ => none
  | .load t a => match kind P t with | some k => ld k (opv E a) h | none => none
  | .nilCheck x => nilc (opv E x)
  | .binOp op t x y _ => bin P op t (opv E x) (opv E y)
  | .unOp op _ x => una op (opv E x)
  | .convert src dst x => cnv P src dst (opv E x)
  | .makeInterface t x => match P.underlying t with | some (.interface _) => none | some _ => mkIf t (opv E x) | none => none
  | .makeFunc fn first cap => some (.Fn fn (first.toList.map (opv E)) (cap.toList.map (opv E)))
  | .slice t x lo hi mx => slcOf P t (opv E x) (lo.map (opv E)) (hi.map (opv E)) (mx.map (opv E))
  | .fieldAddr s x f => fldAOf P s (opv E x) f
  | .field t x f => fldOf P t (opv E x) f
  | .indexAddr t x ix => idxAOf P t (opv E x) (opv E ix)
  | .index t x ix => idxOf P t (opv E x) (opv E ix)
  | .lookup t m k ok => match mapElem P t with | some z => lkp z ok (opv E m) (opv E k) h | none => match mapElemA P t with | some (a, z) => lkpA a z ok (opv E m) (opv E k) h | none => none
  | .typeAssert x _ t ok => tasOf P t ok (opv E x)
  | .extract x i => ext i (opv E x)
  | .build t ps => buildOf P E t ps.toList
  | .call c =>
    match c.callee with
    | .builtin .len =>
      match c.argTypes[0]?, c.args[0]? with
      | some t, some x =>
        match P.underlying t with
        | some (.slice _) => (lenS (opv E x)).map fun n => .I .i64 n
        | some .string => match opv E x with | .S a => some (.I .i64 a.size) | _ => none
        | some (.array n _) => some (.I .i64 n)
        | _ => none
      | _, _ => none
    | .builtin .min => minI (fun m n => decide (m < n)) (c.args.toList.map (opv E))
    | .builtin .max => minI (fun m n => decide (m > n)) (c.args.toList.map (opv E))
    | .builtin .real => match c.args.toList.map (opv E) with | [.X k a _] => some (.F k a) | _ => none
    | .builtin .imag => match c.args.toList.map (opv E) with | [.X k _ a] => some (.F k a) | _ => none
    | .builtin .complex => match c.args.toList.map (opv E) with | [.F k a, .F k' b] => if k = k' then some (.X k a b) else none | _ => none
    | _ => none
  | _ => none

/-- A new block, and how its value is made of its number. -/
inductive Mk where
  | ptr
  | map
  | sl (e len cap : Nat)

def Mk.val (b : Nat) : Mk → V
  | .ptr => .P b []
  | .map => .M b
  | .sl e len cap => .L b [] e 0 len cap false

def mks (e : Nat) (bytes : Nat) (z : V) (l c : V) : Option (Blk × Mk) :=
  match l, c with
  | .I .i64 l, .I .i64 c => if 0 ≤ l ∧ l ≤ c ∧ c ≤ 16777216 ∧ bytes ≤ 1048576 then some (.c .rw (.Ar e (List.replicate c.toNat z)), .sl e l.toNat c.toNat) else none
  | _, _ => none

def bls (e : Nat) (zs : List V) (ps : List (Nat × LK × V)) (len : Nat) : Option (Blk × Mk) :=
  (fillV ps zs).map fun vs => (.c .rw (.Ar e vs), .sl e len len)

def evA (P : Program) (E : Env) (o : Oper) : Option (Blk × Mk) :=
  match o.op with
  | .alloc t => (zeroOf P t).map fun z => (.c .rw z, .ptr)
  | .box t x => match kind P t with | some k => if LK.ok k (opv E x) then some (.c .rw (opv E x), .ptr) else none | none => none
  | .buildSlice t len ps =>
    match P.underlying t with
    | some (.slice e) =>
      match kind P e, zeroOf P e with
      | some k, some z => if len * P.cellsOf e ≤ 65536 then bls e (List.replicate len z) (parts E (ps.toList.map fun (i, x) => (i, k, x))) len else none
      | _, _ => none
    | _ => none
  | .makeSlice t l c =>
    match P.underlying t with
    | some (.slice e) =>
      match zeroOf P e with
      | some z => mks e (P.bytesOf e) z (opv E l) (opv E c)
      | none => none
    | _ => none
  | .makeMap t none => match P.underlying t with | some (.map _ _) => some (.m [], .map) | _ => none
  | _ => none

/-- A method of an interface's value: the plain ones alone. -/
def methodOf (P : Program) (t : TypeId) (name : String) : Option FuncId :=
  match P.info? t with
  | some i =>
    match i.methods.find? (·.name == name) with
    | some m =>
      if m.path.isEmpty then
        match m.func, P.underlying t with
        | some (f, true), some (.pointer _) => some f
        | some (_, false), some (.pointer _) => none
        | some (f, false), some _ => some f
        | _, _ => none
      else none
    | none => none
  | none => none

abbrev CallT := FuncId → List V → H → Option (V × H)

def evE (P : Program) (call : CallT) (E : Env) (h : H) (o : Oper) : Option (V × H) :=
  match o.op with
  | .store t a x => match kind P t with | some k => (sto k (opv E a) (opv E x) h).map fun h => (dd, h) | none => none
  | .mapUpdate t m k x | .insert t m k x =>
    match P.underlying t with
    | some (.map kt et) =>
      match P.underlying kt, kind P et with
      | some (.int _), some ke => if LK.ok ke (opv E x) then (mup (opv E m) (opv E k) (opv E x) h).map fun h => (dd, h) else none
      | some (.array _ _), some ke =>
        match arrK P kt with
        | some a => if LK.ok ke (opv E x) then (mupA a (opv E m) (opv E k) (opv E x) h).map fun h => (dd, h) else none
        | none => none
      | _, _ => none
    | _ => none
  | .call c =>
    match c.callee with
    | .value f =>
      match opv E f with
      | .Fn (.func g) first cap => call g (first ++ c.args.toList.map (opv E) ++ cap) h
      | _ => none
    | .invoke recv name =>
      match opv E recv with
      | .If t v =>
        match methodOf P t name with
        | some f => call f (v :: c.args.toList.map (opv E)) h
        | none => none
      | _ => none
    | .builtin .append =>
      match c.argTypes.toList, c.args.toList with
      | [t, u], [x, y] =>
        match P.underlying t, P.underlying u with
        | some (.slice e), some (.slice _) =>
          match kind P e, zeroOf P e with
          | some k, some _ => if P.bytesOf e = 0 ∨ 1048576 < P.bytesOf e then none else app e k (opv E x) (opv E y) h
          | _, _ => none
        | _, _ => none
      | _, _ => none
    | .builtin .copy =>
      match c.argTypes.toList, c.args.toList with
      | [t, u], [x, y] =>
        match P.underlying t, P.underlying u with
        | some (.slice e), some (.slice _) =>
          match kind P e with
          | some k => cpy e k (opv E x) (opv E y) h
          | none => none
        | _, _ => none
      | _, _ => none
    | .builtin .delete =>
      match c.argTypes.toList, c.args.toList with
      | t :: _, [m, k] =>
        match P.underlying t with
        | some (.map kt _) =>
          match P.underlying kt with
          | some (.int _) => (mdel (opv E m) (opv E k) h).map fun h => (dd, h)
          | _ => none
        | _ => none
      | _, _ => none
    | .builtin .clear =>
      match c.argTypes.toList, c.args.toList with
      | t :: _, [m] =>
        match P.underlying t with
        | some (.map _ _) => (mclr (opv E m) h).map fun h => (dd, h)
        | _ => none
      | _, _ => none
    | _ => none
  | _ => none

/-- 0: reckons; 1: reads memory; 2: makes a block; 3: acts; 4: isn't taken. -/
def cls : Op → Nat
  | .move _ | .assign _ | .pick .. | .nilCheck _ | .binOp .. | .unOp .. | .convert .. | .makeInterface .. | .makeFunc .. | .slice .. | .fieldAddr .. | .field .. | .indexAddr .. | .index ..
  | .typeAssert .. | .extract .. | .build .. => 0
  | .load .. | .lookup .. => 1
  | .alloc _ | .box .. | .buildSlice .. | .makeSlice .. | .makeMap .. => 2
  | .store .. | .mapUpdate .. | .insert .. => 3
  | .call c =>
    match c.callee with
    | .value _ | .invoke _ _ | .builtin .append | .builtin .copy | .builtin .delete | .builtin .clear => 3
    | .builtin .len | .builtin .min | .builtin .max | .builtin .real | .builtin .imag | .builtin .complex => 0
    | _ => 4
  | _ => 4

/-- Is an operation wanted? -/
def wants (ops : List Oper) (E : Env) (o : Oper) : Bool :=
  match o.guard with
  | none => true
  | some (j, w) =>
    match (ops[j]?).bind (·.dst) with
    | some t => match E t with | .B x => x == w | _ => false
    | none => false

def gV (w : Bool) (x : Unit → Option V) : Option V := if w then x () else some dd
def gE (w : Bool) (h : H) (x : Unit → Option (V × H)) : Option (V × H) := if w then x () else some (dd, h)
def mkB (h : H) (x : Option (Blk × Mk)) : Option (V × H) :=
  match x with
  | some (blk, m) => some (m.val h.next, h.new blk)
  | none => none

/-- One operation, behind which it goes on. -/
def evOp {R : Type} (P : Program) (call : CallT) (nt : Nat) (ops : List Oper) (o : Oper) (E : Env) (h : H) (k : Env → H → Option R) : Option R :=
  match cls o.op with
  | 0 | 1 => (gV (wants ops E o) fun _ => evV P E h o).bind fun v => k (E.upd nt o.dst v) h
  | 2 => (gE (wants ops E o) h fun _ => mkB h (evA P E o)).bind fun r => k (E.upd nt o.dst r.1) r.2
  | 3 => (gE (wants ops E o) h fun _ => evE P call E h o).bind fun r => k (E.upd nt o.dst r.1) r.2
  | _ => none

def evOps {R : Type} (P : Program) (call : CallT) (nt : Nat) (ops : List Oper) : List Oper → Env → H → (Env → H → Option R) → Option R
  | [], E, h, k => k E h
  | o :: os, E, h, k => evOp P call nt ops o E h fun E h => evOps P call nt ops os E h k

/-! Regions whose order is open. -/

def looks (ops : List Oper) (o : Oper) : List Nat :=
  (o.op.operands.toList.filterMap fun | .tmp t => some t | _ => none) ++
  (match o.guard with
   | some (g, _) => ((ops[g]?).bind (·.dst)).toList
   | none => [])

/-- What stands ahead of each operation, as bits. -/
def anc (ops : List Oper) : List Nat :=
  ops.foldl (fun acc o => acc ++ [o.after.toList.foldl (fun s e => if Region.binds .any e then s ||| 2 ^ e.on ||| acc.getD e.on 0 else s) 0]) []

/-- An order: what reckons and reads as early as may be; blocks are made late. -/
def planGo (ops : List Oper) (an : List Nat) : Nat → List Nat → List Nat
  | 0, done => done
  | n + 1, done =>
    let rdy := (List.range ops.length).filter fun i => !done.contains i && ((ops[i]?).map fun o => o.after.toList.all fun e => !Region.binds .any e || done.contains e.on).getD false
    let c (i : Nat) : Nat := ((ops[i]?).map fun o => cls o.op).getD 4
    let nextE := (List.range ops.length).filter fun i => !done.contains i && c i == 3
    match rdy.filter fun i => decide (c i ≤ 1) with
    | i :: _ => planGo ops an n (done ++ [i])
    | [] => match rdy.filter fun i => c i == 3 with
      | i :: _ => planGo ops an n (done ++ [i])
      | [] =>
        match rdy.filter fun i => nextE.any fun e => (an.getD e 0).testBit i with
        | i :: _ => planGo ops an n (done ++ [i])
        | [] => match rdy with
          | i :: _ => planGo ops an n (done ++ [i])
          | [] => done

def plan (ops : List Oper) : List Nat := planGo ops (anc ops) ops.length []

/-- A read that was made: by whom, in which frame, what it gave. -/
structure Rd where
  i : Nat
  E : Env
  w : Bool
  v : V

def chk (w : Bool) (x : Unit → Option V) (v : V) : Option Unit :=
  if w then (match x () with | some u => if u.eq v then some () else none | none => none) else some ()

def chks (P : Program) (ops : List Oper) (h : H) (an : Nat) : List Rd → Option Unit
  | [] => some ()
  | r :: rs => if an.testBit r.i then chks P ops h an rs else
    match ops[r.i]? with
    | some o => (chk r.w (fun _ => evV P r.E h o) r.v).bind fun _ => chks P ops h an rs
    | none => none

/-- hs: memory behind the last act; h: that, with the blocks made since. -/
def evDraw {R : Type} (P : Program) (call : CallT) (nt : Nat) (ops : List Oper) (an : List Nat) : List Nat → List Rd → Env → H → H → (Env → H → Option R) → Option R
  | [], _, E, _, h, k => k E h
  | i :: is, rs, E, hs, h, k =>
    match ops[i]? with
    | none => none
    | some o =>
      match cls o.op with
      | 0 => (gV (wants ops E o) fun _ => evV P E hs o).bind fun v => evDraw P call nt ops an is rs (E.upd nt o.dst v) hs h k
      | 1 => (gV (wants ops E o) fun _ => evV P E hs o).bind fun v => evDraw P call nt ops an is (rs ++ [⟨i, E, wants ops E o, v⟩]) (E.upd nt o.dst v) hs h k
      | 2 => (gE (wants ops E o) h fun _ => mkB h (evA P E o)).bind fun r => evDraw P call nt ops an is rs (E.upd nt o.dst r.1) hs r.2 k
      | 3 => (gE (wants ops E o) h fun _ => evE P call E h o).bind fun r =>
          (chks P ops r.2 (an.getD i 0) rs).bind fun _ => evDraw P call nt ops an is rs (E.upd nt o.dst r.1) r.2 r.2 k
      | _ => none

/-- May a region be taken so? -/
def drawOk (nt : Nat) (ops : List Oper) : Bool :=
  let an := anc ops
  let pl := plan ops
  let c (i : Nat) : Nat := ((ops[i]?).map fun o => cls o.op).getD 4
  let pos (i : Nat) : Nat := pl.idxOf i
  let b (j i : Nat) : Bool := (an.getD j 0).testBit i
  decide (pl.length = ops.length) && decide pl.Nodup && pl.all (fun i => decide (i < ops.length)) && (List.range ops.length).all (fun i => pl.contains i) &&
  (List.range ops.length).all fun j =>
    (List.range ops.length).all fun i =>
      (!b j i || (decide (i < j) && decide (pos i < pos j))) &&
      (i == j ||
       (match (ops[i]?).bind (·.dst), ops[j]? with
        | some d, some oj => (oj.dst != some d) && decide (d < nt) && (!(looks ops oj).contains d || b j i || b i j)
        | _, _ => true)) &&
      (!(c i == 3 && c j == 3) || i == j || b j i || b i j) &&
      (!(c i == 2 && c j == 3 && decide (pos i < pos j)) || b j i) &&
      (!(decide (c i ≤ 1) && c j == 3 && decide (pos j < pos i)) || b i j)

def opsOk (nt : Nat) (ops : List Oper) : Bool := ops.all fun o => o.op.operands.all (okOp nt) && (match o.dst with | some d => decide (d < nt) | none => true)

/-! Code. -/

inductive Ex where
  | norm
  | exit (id : Nat)
  | goto (l : Nat)
  | ret

abbrev K (R : Type) := Ex → Env → H → Option R

def iter {R : Type} (body : Env → H → K R → Option R) : Nat → Env → H → K R → Option R
  | 0, _, _, _ => none
  | n + 1, E, h, k => body E h fun ex E h => match ex with | .norm => iter body n E h k | ex => k ex E h

def hasLabel : Code → Nat → Bool
  | .seq a b, l => hasLabel a l || hasLabel b l
  | .label l', l => l' == l
  | _, _ => false

/-- Back to a label, so often. -/
def jumps {R : Type} (l : Nat) (body : Env → H → K R → Option R) : Nat → Env → H → K R → Option R
  | 0, _, _, _ => none
  | n + 1, E, h, k => body E h fun ex E h => match ex with | .goto l' => if l' = l then jumps l body n E h k else none | ex => k ex E h

def condV {R : Type} (x : V) (a b : Unit → Option R) : Option R := match x with | .B t => if t then a () else b () | _ => none

mutual
def evC {R : Type} (P : Program) (call : CallT) (nt N : Nat) : Code → Env → H → K R → Option R
  | .skip, E, h, k => k .norm E h
  | .label _, E, h, k => k .norm E h
  | .region _ ops draw, E, h, k =>
    if opsOk nt ops.toList then
      if draw then
        if drawOk nt ops.toList then evDraw P call nt ops.toList (anc ops.toList) (plan ops.toList) [] E h h fun E h => k .norm E h else none
      else evOps P call nt ops.toList ops.toList E h fun E h => k .norm E h
    else none
  | .seq a b, E, h, k => evC P call nt N a E h fun ex E h => match ex with | .norm => evC P call nt N b E h k | ex => k ex E h
  | .cond c x y, E, h, k => if okOp nt c then condV (opv E c) (fun _ => evC P call nt N x E h k) (fun _ => evC P call nt N y E h k) else none
  | .block id c, E, h, k => evC P call nt N c E h fun ex E h => match ex with | .exit i => if i = id then k .norm E h else k (.exit i) E h | ex => k ex E h
  | .loop c, E, h, k => iter (fun E h k => evC P call nt N c E h k) N E h k
  | .exit id, E, h, k => k (.exit id) E h
  | .goto l, E, h, k => k (.goto l) E h
  | .ret, E, h, k => k .ret E h
  | .scope c, E, h, k => evC P call nt N c E h fun ex E h => match ex with | .goto l => if hasLabel c l then jumps l (fun E h k => evL P call nt N l c E h k) N E h k else none | ex => k ex E h
  | _, _, _, _ => none
/-- Code from a label on. -/
def evL {R : Type} (P : Program) (call : CallT) (nt N : Nat) (l : Nat) : Code → Env → H → K R → Option R
  | .seq a b, E, h, k => if hasLabel a l then evL P call nt N l a E h fun ex E h => match ex with | .norm => evC P call nt N b E h k | ex => k ex E h
    else evL P call nt N l b E h k
  | .label l', E, h, k => if l' == l then k .norm E h else none
  | _, _, _, _ => none
end

def evR (P : Program) (E : Env) (h : H) : List ResultVar → Option (List V)
  | [] => some []
  | .tmp t :: rs => (evR P E h rs).map fun vs => E t :: vs
  | .cell a t :: rs =>
    match kind P t with
    | some k => (ld k (E a) h).bind fun v => (evR P E h rs).map fun vs => v :: vs
    | none => none

def retV (vs : List V) : V := match vs with | [v] => v | vs => .T vs

def resOk (nt : Nat) : ResultVar → Bool
  | .tmp t => decide (t < nt)
  | .cell a _ => decide (a < nt)

def evB (P : Program) (call : CallT) (N : Nat) (fn : Func) (args : List V) (h : H) : Option (V × H) :=
  match fn.body with
  | some c =>
    if decide (args.length ≤ fn.ntmps) && fn.results.toList.all (resOk fn.ntmps) && !(fn.name == "runtime.NumGoroutine") then
      evC P call fn.ntmps N c (fun t => args.getD t dd) h fun ex E h =>
        match ex with
        | .norm | .ret => (evR P E h fn.results.toList).map fun vs => (retV vs, h)
        | _ => none
    else none
  | none => none

def evF (P : Program) (N : Nat) : Nat → CallT
  | 0, _, _, _ => none
  | d + 1, f, args, h =>
    match P.funcs[f]? with
    | some fn => evB P (evF P N d) N fn args h
    | none => none

end Go.Proofs.YtnnebakkcdclmaaGreat.AM
