/-
  A part of an abstract machine that runs a function's text over symbolic values, and of the proof that the machine is sound over the model. No condition.
-/
import Derived.Calls
import Derived.Scope
import Derived.Orders
import Derived.KernelRfl
namespace Go.Am
open Go

structure A where
  n : Nat
  o : Nat
  d : Nat

mutual
inductive V where
  | dk
  | b (v : Bool)
  | i (k : IntKind) (v : Int)
  | s (v : List Int)
  | p (a : Option A)
  | sl (a : Option A) (len cap : Nat)
  | sq (a : A) (w len : Nat)
  | fn (f : Nat) (first caps : List V)
  | nf
  | ag (cs : List Seg)
  | tu (vs : List V)
  | ni
  | ifc (t : Nat) (v : V)
  | mp (n : Option Nat)
inductive Seg where
  | ints (k : IntKind) (n : Nat) (xs : List Int)
  | fam (n : Nat) (g : Nat → V)
  | vs (l : List V)
end


abbrev Fr := List (Nat × V)
abbrev Hp := List (Nat × Option (List Seg))

def get : Fr → Nat → V
  | [], _ => .dk
  | (a, v) :: f, t => bif Nat.beq a t then v else get f t

def hget : Hp → Nat → Option (List Seg)
  | [], _ => none
  | (a, v) :: f, t => bif Nat.beq a t then v else hget f t

inductive Tree : Type 1 where
  | ret (v : V) (h : Hp) (nx : Nat)
  | head (todo : List Item) (f : Fr) (h : Hp) (nx : Nat)
  | all (α : Type) (k : α → Tree)
  | asm (p : Prop) (t : Tree)
  | fail

def splitB (b : Bool) (K : Bool → Tree) : Tree := bif b then K true else K false

/-! cells -/
def Seg.len : Seg → Nat
  | .ints _ n _ => n
  | .fam n _ => n
  | .vs l => l.length

def sub (n d len : Nat) (xs : List Int) : List Int := bif Nat.beq d 0 && Nat.beq len n then xs else (xs.drop d).take len
def splice (n d m : Nat) (ys xs : List Int) : List Int := bif Nat.beq d 0 && Nat.beq m n then ys else xs.take d ++ ys ++ xs.drop (d + m)

def rdS : Seg → Nat → Bool × V
  | .ints k n xs, j => (Nat.ble (j + 1) n, .i k (xs.getD j 0))
  | .fam n g, j => (Nat.ble (j + 1) n, g j)
  | .vs l, j => match l[j]? with | some v => (true, v) | none => (false, .dk)

def rd1 : List Seg → Nat → Nat → Bool × V
  | [], _, _ => (false, .dk)
  | s :: r, o, d => match r with
    | [] => rdS s (d + o)
    | _ => bif Nat.ble s.len o then rd1 r (o - s.len) d else rdS s (d + o)

def rdR : List Seg → Nat → Nat → Nat → Bool × List Seg
  | [], _, _, len => (Nat.beq len 0, [])
  | s :: r, o, d, len => match r with
    | [] => match s with
      | .ints k n xs => (Nat.ble (d + o + len) n, [.ints k len (sub n (d + o) len xs)])
      | .vs l => (Nat.ble (d + o + len) l.length, [.vs ((l.drop (d + o)).take len)])
      | .fam n g => (Nat.ble (d + o + len) n, [.fam len (fun j => g (j + (d + o)))])
    | _ => bif Nat.ble s.len o then rdR r (o - s.len) d len else
      match s with
      | .ints k n xs => bif Nat.ble (d + o + len) n then (true, [.ints k len (sub n (d + o) len xs)])
        else let q := rdR r 0 0 (len - n); (Nat.beq (d + o) 0 && q.1, s :: q.2)
      | .vs l => bif Nat.ble (d + o + len) l.length then (true, [.vs ((l.drop (d + o)).take len)])
        else let q := rdR r 0 0 (d + o + len - l.length); (Nat.ble (d + o) l.length && q.1, .vs (l.drop (d + o)) :: q.2)
      | .fam _ _ => (false, [])

def kEq (a b : IntKind) : Bool := match a, b with
  | .i8, .i8 | .i16, .i16 | .i32, .i32 | .i64, .i64 | .u8, .u8 | .u16, .u16 | .u32, .u32 | .u64, .u64 => true
  | _, _ => false

/-- is this surely a value of one cell -/
def oneV : V → Bool
  | .dk | .ag _ | .tu _ => false
  | _ => true

def lenC : List Seg → Nat
  | [] => 0
  | s :: r => s.len + lenC r

def wrS : Seg → Nat → V → Bool × Seg
  | .ints k n xs, j, v => match v with
    | .i k' z => (kEq k k' && Nat.ble (j + 1) n, .ints k n (xs.set j z))
    | _ => (false, .ints k n xs)
  | .fam n g, j, v => (Nat.ble (j + 1) n && oneV v, .fam n (fun t => bif Nat.beq t j then v else g t))
  | .vs l, j, v => (Nat.ble (j + 1) l.length && oneV v, .vs (l.set j v))

def wr1 : List Seg → Nat → Nat → V → Bool × List Seg
  | [], _, _, _ => (false, [])
  | s :: r, o, d, v => match r with
    | [] => let q := wrS s (d + o) v; (q.1, [q.2])
    | _ => bif Nat.ble s.len o then let q := wr1 r (o - s.len) d v; (q.1, s :: q.2) else let q := wrS s (d + o) v; (q.1, q.2 :: r)

/-- writes new segments over a range: one segment into one, or segment by segment at the same layout -/
def wrR : List Seg → Nat → Nat → List Seg → Bool × List Seg
  | ss, _, _, [] => (true, ss)
  | [], _, _, _ :: _ => (false, [])
  | s :: r, o, d, nw :: ns =>
    bif (match r with | [] => false | _ => Nat.ble s.len o) then let q := wrR r (o - s.len) d (nw :: ns); (q.1, s :: q.2) else
    match s, nw with
    | .ints k n xs, .ints k' m ys => match ns with
      | [] => (kEq k k' && Nat.ble (d + o + m) n, .ints k n (splice n (d + o) m ys xs) :: r)
      | _ => let q := wrR r 0 0 ns; (kEq k k' && Nat.beq (d + o) 0 && Nat.beq m n && q.1, .ints k n ys :: q.2)
    | .vs l, .vs l' => match ns with
      | [] => (Nat.ble (d + o + l'.length) l.length, .vs (l.take (d + o) ++ l' ++ l.drop (d + o + l'.length)) :: r)
      | _ => let q := wrR r 0 0 ns; (Nat.beq (d + o) 0 && Nat.beq l'.length l.length && q.1, .vs l' :: q.2)
    | .fam n _, .fam m g' => match ns with
      | [] => (Nat.beq (d + o) 0 && Nat.beq m n, .fam n g' :: r)
      | _ => (false, [])
    | _, _ => (false, [])

/-! types -/
def fuelT : Nat := 12

def intOf (P : Program) (t : TypeId) : Option IntKind := match P.underlying t with
  | some (.int k) => some k
  | _ => none

/-- the whole numbers' kind of which all cells of a type are -/
def hom (P : Program) : Nat → TypeId → Option IntKind
  | 0, _ => none
  | n + 1, t => match P.underlying t with
    | some (.int k) => some k
    | some (.array _ e) => hom P n e
    | _ => none

def zeroV : TypeDesc → V
  | .bool => .b false
  | .int k => .i k 0
  | .string => .s []
  | .pointer _ => .p none
  | .slice _ => .sl none 0 0
  | .map _ _ => .mp none
  | .func _ _ _ => .nf
  | .interface _ => .ni
  | _ => .dk

def zsegs (P : Program) : Nat → TypeId → List Seg
  | 0, _ => []
  | n + 1, t => match P.underlying t with
    | some (.int k) => [.ints k 1 [0]]
    | some (.array m e) => match hom P n t with
      | some k => [.ints k (P.cellsOf t) (List.replicate (P.cellsOf t) 0)]
      | none => (List.replicate m (zsegs P n e)).flatten
    | some (.struct fs) => fs.toList.flatMap fun f => zsegs P n f.type
    | some d => [.vs [zeroV d]]
    | none => []

def aggOf (P : Program) (t : TypeId) : Bool := match P.underlying t with
  | some (.struct _) | some (.array _ _) => true
  | _ => false

/-- may this be laid into a new place -/
def boxable : V → Bool
  | .dk | .tu _ => false
  | _ => true

def tyOk (P : Program) (t : TypeId) : Bool := (P.info? t).isSome

/-- is this a struct's, or an array's, type, if it is one -/
def aggK (P : Program) (t : TypeId) : Option Bool := (P.underlying t).map fun d => match d with
  | .struct _ | .array _ _ => true
  | _ => false

def vM : V → Value → Bool
  | .b x, .bool y => x == y
  | .i k x, .int k' y => kEq k k' && decide (x = y)
  | .s [], .string s => s.data.toList.isEmpty
  | .p none, .pointer none => true
  | .sl none a b, .slice none c d => Nat.beq a c && Nat.beq b d
  | .mp none, .map none => true
  | .nf, .nilFunc => true
  | .ni, .nilIface => true
  | _, _ => false

def intsM (k : IntKind) : List Int → List Value → Option (List Value)
  | [], ys => some ys
  | x :: xs, .int k' y :: ys => bif kEq k k' && decide (x = y) then intsM k xs ys else none
  | _ :: _, _ => none

def vsM : List V → List Value → Option (List Value)
  | [], ys => some ys
  | v :: vs, y :: ys => bif vM v y then vsM vs ys else none
  | _ :: _, [] => none

/-- are these cells those values -/
def mtch : List Seg → List Value → Bool
  | [], ys => ys.isEmpty
  | .ints k n xs :: r, ys => Nat.beq xs.length n && (match intsM k xs ys with | some zs => mtch r zs | none => false)
  | .vs l :: r, ys => match vsM l ys with | some zs => mtch r zs | none => false
  | .fam _ _ :: _, _ => false

/-- a type's zero cells -/
def zcells (P : Program) (t : TypeId) : Option (List Value) := match P.info? t with
  | some i => i.zero.map fun z => z.cells.toList
  | none => none

def zok (P : Program) (t : TypeId) : Bool := match zcells P t with
  | some l => mtch (zsegs P fuelT t) l
  | none => false

/-- a value's cells -/
def segsOf : V → List Seg
  | .ag cs => cs
  | .i k n => [.ints k 1 [n]]
  | v => [.vs [v]]

/-! results of one operation -/
structure Res where
  ok : Bool
  v : V
  h : Hp
  nx : Nat

def bad : Res := ⟨false, .dk, [], 0⟩

def ofVal : Value → V
  | .bool b => .b b
  | .int k n => .i k n
  | .string s => .s (s.data.toList.map fun b => (b.toNat : Int))
  | .pointer none => .p none
  | .slice none l c => .sl none l c
  | .map none => .mp none
  | .nilFunc => .nf
  | .nilIface => .ni
  | _ => .dk

def ev (f : Fr) : Operand → V
  | .tmp t => get f t
  | .const v => ofVal v
  | .global _ => .dk
  | .func g => .fn g [] []

def bitv (op : BinOp) (k : IntKind) (x y : Int) : Int :=
  match op with
  | .and => k.wrap (BitVec.ofInt k.bits x &&& BitVec.ofInt k.bits y).toNat
  | .or => k.wrap (BitVec.ofInt k.bits x ||| BitVec.ofInt k.bits y).toNat
  | .xor => k.wrap (BitVec.ofInt k.bits x ^^^ BitVec.ofInt k.bits y).toNat
  | _ => k.wrap (BitVec.ofInt k.bits x &&& ~~~BitVec.ofInt k.bits y).toNat

/-- the kinds of a value's cells, where all are whole numbers -/
def segKs : List Seg → Option (List IntKind)
  | [] => some []
  | .ints k n _ :: r => (segKs r).map (List.replicate n k ++ ·)
  | _ :: _ => none

/-- the kinds of a type's cells, where all are whole numbers, compared cell by cell -/
def tyKs (P : Program) : Nat → TypeId → Option (List IntKind)
  | 0, _ => none
  | d + 1, t => match P.underlying t with
    | some (.int k) => bif Nat.beq (P.cellsOf t) 1 then some [k] else none
    | some (.array n e) => match tyKs P d e with
      | some l => bif Nat.beq l.length (P.cellsOf e) && Nat.beq (P.cellsOf t) (n * P.cellsOf e) then some (List.replicate n l).flatten else none
      | none => none
    | some (.struct fs) => bif P.stoodInHeld t then none else fldKs (fun e => tyKs P d e) (P.cellsOf) fs.toList 0
    | _ => none
where fldKs (rec : TypeId → Option (List IntKind)) (sz : TypeId → Nat) : List Field → Nat → Option (List IntKind)
  | [], _ => some []
  | f :: fs, off => match rec f.type with
    | some l => bif Nat.beq f.offset off && Nat.beq l.length (sz f.type) && !(f.name == "_") then (fldKs rec sz fs (off + l.length)).map (l ++ ·) else none
    | none => none

def ksEq : List IntKind → List IntKind → Bool
  | [], [] => true
  | a :: l, b :: r => kEq a b && ksEq l r
  | _, _ => false

def segsEq : List Seg → List Seg → Option Bool
  | [], [] => some true
  | [.ints _ n xs], [.ints _ m ys] => bif Nat.beq n m then some (xs == ys) else none
  | .ints _ n xs :: r, .ints _ m ys :: r' => bif Nat.beq n m then (segsEq r r').map (fun q => (xs == ys) && q) else none
  | _, _ => none

/-- may values of this type, of whole numbers alone, be compared cell by cell -/
def flatOk (P : Program) (t : TypeId) (cs ds : List Seg) : Bool := match tyKs P 8 t, segKs cs, segKs ds with
  | some k, some k1, some k2 => ksEq k k1 && ksEq k k2 && aggOf P t && !P.eqGuardType P.depth t
  | _, _, _ => false

def isBoolT (P : Program) (t : TypeId) : Bool := match P.underlying t with | some .bool => true | _ => false
def isPtrT (P : Program) (t : TypeId) : Bool := match P.underlying t with | some (.pointer _) => true | _ => false
def isSlT (P : Program) (t : TypeId) : Bool := match P.underlying t with | some (.slice _) => true | _ => false
def isFnT (P : Program) (t : TypeId) : Bool := match P.underlying t with | some (.func _ _ _) => true | _ => false

/-- == of two values: whether it is told, and what it is -/
def eqV (P : Program) (t : TypeId) : V → V → Bool × Bool
  | .b x, .b y => (isBoolT P t, x == y)
  | .p none, .p none => (isPtrT P t, true)
  | .p none, .p (some _) => (isPtrT P t, false)
  | .p (some _), .p none => (isPtrT P t, false)
  | .sl (some _) _ _, .sl none _ _ => (isSlT P t, false)
  | .sl none _ _, .sl none _ _ => (isSlT P t, true)
  | .sl none _ _, .sl (some _) _ _ => (isSlT P t, false)
  | .nf, .nf => (isFnT P t, true)
  | .nf, .fn _ _ _ => (isFnT P t, false)
  | .fn _ _ _, .nf => (isFnT P t, false)
  | .ag xs, .ag ys => match segsEq xs ys with | some q => (flatOk P t xs ys, q) | none => (false, false)
  | _, _ => (false, false)

def binV (P : Program) (t : TypeId) (op : BinOp) (x y : V) : Bool × V :=
  match x, y with
  | .i k a, .i k' c => match op with
    | .shl => (decide (0 ≤ c), .i k (k.wrap (a * 2 ^ (min c.toNat k.bits))))
    | .shr => (decide (0 ≤ c), .i k (a.fdiv (2 ^ (min c.toNat k.bits))))
    | op => bif kEq k k' then
      match op with
      | .add => (true, .i k (k.wrap (a + c)))
      | .sub => (true, .i k (k.wrap (a - c)))
      | .mul => (true, .i k (k.wrap (a * c)))
      | .quo => (!decide (c = 0), .i k (k.wrap (a.tdiv c)))
      | .rem => (!decide (c = 0), .i k (a.tmod c))
      | .and => (true, .i k (bitv .and k a c))
      | .or => (true, .i k (bitv .or k a c))
      | .xor => (true, .i k (bitv .xor k a c))
      | .andNot => (true, .i k (bitv .andNot k a c))
      | .eql => (true, .b (a == c))
      | .neq => (true, .b (a != c))
      | .lss => (true, .b (decide (a < c)))
      | .leq => (true, .b (decide (a ≤ c)))
      | .gtr => (true, .b (decide (a > c)))
      | .geq => (true, .b (decide (a ≥ c)))
      | _ => (false, .dk)
    else (false, .dk)
  | .s a, .s c => match op with
    | .add => (Nat.ble (a.length + c.length) 9223372036854775807, .s (a ++ c))
    | .eql => (true, .b (a == c))
    | .neq => (true, .b !(a == c))
    | _ => (false, .dk)
  | x, y => match op with
    | .eql => let q := eqV P t x y; (q.1, .b q.2)
    | .neq => let q := eqV P t x y; (q.1, .b !q.2)
    | _ => (false, .dk)

def A.addO (a : A) (n : Nat) : A := { a with o := a.o + n }
def A.addD (a : A) (n : Nat) : A := { a with d := n + a.d }


/-- a slice expression's bounds: all is well, and from where to where, and the new capacity's end -/
def bnd (len cap : Nat) (lo hi mx : Option V) : Bool × Nat × Nat × Nat :=
  match mx with
  | none => match hi with
    | none => match lo with
      | none => (true, 0, len, cap)
      | some (.i _ l) => (decide (0 ≤ l) && Nat.ble l.toNat len, l.toNat, len, cap)
      | _ => (false, 0, 0, 0)
    | some (.i _ u) => match lo with
      | none => (decide (0 ≤ u) && Nat.ble u.toNat cap, 0, u.toNat, cap)
      | some (.i _ l) => (decide (0 ≤ u) && Nat.ble u.toNat cap && decide (0 ≤ l) && Nat.ble l.toNat u.toNat, l.toNat, u.toNat, cap)
      | _ => (false, 0, 0, 0)
    | _ => (false, 0, 0, 0)
  | some (.i _ m) => match hi with
    | some (.i _ u) => match lo with
      | none => (decide (0 ≤ m) && Nat.ble m.toNat cap && decide (0 ≤ u) && Nat.ble u.toNat m.toNat, 0, u.toNat, m.toNat)
      | some (.i _ l) => (decide (0 ≤ m) && Nat.ble m.toNat cap && decide (0 ≤ u) && Nat.ble u.toNat m.toNat && decide (0 ≤ l) && Nat.ble l.toNat u.toNat, l.toNat, u.toNat, m.toNat)
      | _ => (false, 0, 0, 0)
    | _ => (false, 0, 0, 0)
  | _ => (false, 0, 0, 0)

/-- the address behind so many elements -/
def step (P : Program) (e : TypeId) (a : A) (i : Nat) : A :=
  match hom P fuelT e with
  | some _ => bif Nat.beq (P.cellsOf e) 1 then a.addD i else a.addD (i * P.cellsOf e)
  | none => a.addO (i * P.cellsOf e)

def alen : V → Option Nat
  | .sl _ n _ => some n
  | .sq _ _ n => some n
  | .s l => some l.length
  | _ => none

/-- a value laid over cells -/
def putP (cs : List Seg) (off : Nat) (v : V) : Bool × List Seg := match v with
  | .ag ns => wrR cs off 0 ns
  | v => wr1 cs off 0 v

/-- fills parts into cells -/
def fillP (P : Program) (place : Nat → Option (Nat × Nat)) : List Seg → List (Nat × V) → Bool × List Seg
  | cs, [] => (true, cs)
  | cs, (i, v) :: r => match place i with
    | none => (false, [])
    | some (off, size) =>
      let nw := segsOf v
      let q := putP cs off v
      bif q.1 && Nat.beq (lenC nw) size && !Nat.beq size 0 then fillP P place q.2 r else (false, [])

/-- the zero cells of so many elements, a number that is told: whether they are, and they -/
def zrow (P : Program) (e : TypeId) (len : Nat) : Bool × List Seg :=
  match zcells P e with
  | some l =>
    let z := match hom P fuelT e with
      | some k => [.ints k (len * P.cellsOf e) (List.replicate (len * P.cellsOf e) 0)]
      | none => match aggK P e with
        | some true => (List.replicate len (zsegs P fuelT e)).flatten
        | _ => match P.underlying e with
          | some d => [.vs (List.replicate len (zeroV d))]
          | none => []
    (Nat.beq l.length (P.cellsOf e) && !Nat.beq l.length 0 && mtch z (List.replicate len l).flatten, z)
  | none => (false, [])

/-- so many cells of so many elements -/
def mulw (n w : Nat) : Nat := bif Nat.beq w 1 then n else n * w

/-- is an element's zero value of whole numbers alone, or of one cell -/
def zone (P : Program) (e : TypeId) : Bool := match zcells P e with
  | some l => Nat.beq l.length (P.cellsOf e) && !Nat.beq l.length 0 && (match hom P fuelT e with
    | some k => mtch [.ints k (P.cellsOf e) (List.replicate (P.cellsOf e) 0)] l
    | none => match P.underlying e with
      | some d => mtch [.vs [zeroV d]] l
      | none => false)
  | none => false

/-- may elements of this type be appended, and copied: their cells are as many as they are told, and some -/
def apOk (P : Program) (e : TypeId) : Bool := match zcells P e with
  | some l => Nat.beq l.length (P.cellsOf e) && !Nat.beq l.length 0 && !Nat.beq (P.bytesOf e) 0
  | none => false

/-- is what is appended no number of zeros -/
def apArg (P : Program) (ts : Array TypeId) : Bool := match ts[1]? with
  | some t => (match P.underlying t with
    | some (.int _) => false
    | some _ => true
    | none => false)
  | none => true

/-- is this a type of which such a value's length is told -/
def lenTy (P : Program) (ts : Array TypeId) (v : V) : Bool := match ts[0]? with
  | some t => (match P.underlying t, v with
    | some .string, .s _ => true
    | some (.slice _), .sl _ _ _ => true
    | some (.slice _), .sq _ _ _ => true
    | _, _ => false)
  | none => false

/-- have so many elements room -/
def apFit (P : Program) (e : TypeId) (n : Nat) : Bool := Nat.ble (n * P.bytesOf e) 140737488355328

def isBytes (P : Program) (t : TypeId) : Bool := match P.underlying t with
  | some (.slice e) => (match P.underlying e with | some (.int .u8) => true | _ => false)
  | _ => false

def fieldsAt (P : Program) (t : TypeId) : Option (List Field) := match P.underlying t with
  | some (.struct fs) => some fs.toList
  | _ => none

/-- the first so many elements (of so many cells each) behind a slice's, or a string's, begin -/
def contentN (h : Hp) (w k : Nat) : V → Bool × List Seg
  | .sl none _ _ => (Nat.beq k 0, [])
  | .sl (some a) _ _ => match hget h a.n with
    | some cs => rdR cs a.o a.d (mulw k w)
    | none => (false, [])
  | .sq a _ _ => match hget h a.n with
    | some cs => rdR cs a.o a.d (mulw k w)
    | none => (false, [])
  | .s l => (Nat.beq w 1 && Nat.ble k l.length, [.ints .u8 k (sub l.length 0 k l)])
  | _ => (false, [])

def content (h : Hp) (w : Nat) (v : V) : Bool × Nat × List Seg := match alen v with
  | some n => let q := contentN h w n v; (q.1, n, q.2)
  | none => (false, 0, [])

/-- cells, and more behind them -/
def join : List Seg → List Seg → List Seg
  | [], t => t
  | [.ints k n xs], [.ints k' m ys] => bif kEq k k' then [.ints k (n + m) (xs ++ ys)] else [.ints k n xs, .ints k' m ys]
  | [.vs l], [.vs l'] => [.vs (l ++ l')]
  | [.fam n g], [.vs [v]] => [.fam (n + 1) (fun j => bif Nat.beq j n then v else g j)]
  | s, t => s ++ t

def ev1 (P : Program) (ρ : Operand → V) (h : Hp) (nx : Nat) (o : Op) : Res :=
  match o with
  | .move x | .assign x => ⟨true, ρ x, h, nx⟩
  | .pick c a b => match ρ c with
    | .b t => bif t then ⟨true, ρ a, h, nx⟩ else ⟨true, ρ b, h, nx⟩
    | _ => bad
  | .alloc t => ⟨zok P t, .p (some ⟨nx, 0, 0⟩), (nx, some (zsegs P fuelT t)) :: h, nx + 1⟩
  | .box _ x => ⟨boxable (ρ x), .p (some ⟨nx, 0, 0⟩), (nx, some (segsOf (ρ x))) :: h, nx + 1⟩
  | .build t parts => match P.underlying t with
    | some (.struct fs) =>
      let q := fillP P (fun i => (fs[i]?).map fun g => (g.offset, P.cellsOf g.type)) (zsegs P fuelT t) (parts.toList.map fun (i, x) => (i, ρ x))
      ⟨q.1 && zok P t && fs.toList.all (fun g => tyOk P g.type), .ag q.2, h, nx⟩
    | some (.array _ e) =>
      let q := fillP P (fun i => some (i * P.cellsOf e, P.cellsOf e)) (zsegs P fuelT t) (parts.toList.map fun (i, x) => (i, ρ x))
      ⟨q.1 && zok P t && tyOk P e, .ag q.2, h, nx⟩
    | _ => bad
  | .buildSlice t len parts => match P.underlying t with
    | some (.slice e) =>
      let w := P.cellsOf e
      let z := zrow P e len
      let q := fillP P (fun i => some (i * w, w)) z.2 (parts.toList.map fun (i, x) => (i, ρ x))
      ⟨q.1 && z.1 && Nat.ble (len * w) 16777216, bif Nat.beq len 0 then .sq ⟨nx, 0, 0⟩ w 0 else .sl (some ⟨nx, 0, 0⟩) len len, (nx, some q.2) :: h, nx + 1⟩
    | _ => bad
  | .load t x => match ρ x with
    | .p (some a) => match hget h a.n with
      | some cs => match aggK P t with
        | some true => let q := rdR cs a.o a.d (P.cellsOf t); ⟨q.1, .ag q.2, h, nx⟩
        | some false => let q := rd1 cs a.o a.d; ⟨q.1, q.2, h, nx⟩
        | none => bad
      | none => bad
    | _ => bad
  | .store t x y => match ρ x with
    | .p (some a) => match hget h a.n with
      | some cs => bif tyOk P t then (match ρ y with
        | .ag ns => let q := wrR cs a.o a.d ns; ⟨q.1 && Nat.beq (lenC ns) (P.cellsOf t), .dk, (a.n, some q.2) :: h, nx⟩
        | v => let q := wr1 cs a.o a.d v; ⟨q.1 && Nat.beq (P.cellsOf t) 1, .dk, (a.n, some q.2) :: h, nx⟩) else bad
      | none => bad
    | _ => bad
  | .nilCheck x => match ρ x with
    | .p (some a) => ⟨true, .p (some a), h, nx⟩
    | .fn g l l' => ⟨true, .fn g l l', h, nx⟩
    | _ => bad
  | .binOp op t x y _ => let q := binV P t op (ρ x) (ρ y); ⟨q.1, q.2, h, nx⟩
  | .unOp op _ x => match op, ρ x with
    | .neg, .i k n => ⟨true, .i k (k.wrap (0 - n)), h, nx⟩
    | .xor, .i k n => ⟨true, .i k (bitv .xor k (if k.signed then -1 else k.max) n), h, nx⟩
    | .not, .b b => ⟨true, .b !b, h, nx⟩
    | _, _ => bad
  | .convert s t x => match ρ x with
    | .i _ n => match P.underlying t with
      | some (.int k) => ⟨(P.underlying s).isSome, .i k (k.wrap n), h, nx⟩
      | _ => bad
    | .s l => match P.underlying t with
      | some .string => ⟨(match P.underlying s with | some .string => true | _ => false), .s l, h, nx⟩
      | some (.slice e) => match P.underlying e with
        | some (.int .u8) => ⟨(match P.underlying s with | some .string => true | _ => false), .sq ⟨nx, 0, 0⟩ 1 l.length, (nx, some [.ints .u8 l.length l]) :: h, nx + 1⟩
        | _ => bad
      | _ => bad
    | .sl none _ _ => match P.underlying t with
      | some .string => ⟨isBytes P s, .s [], h, nx⟩
      | _ => bad
    | .sl (some a) len _ | .sq a _ len => match P.underlying t with
      | some .string => match hget h a.n with
        | some [.ints .u8 n xs] => ⟨isBytes P s && Nat.ble (a.d + a.o + len) n, .s ((sub n (a.d + a.o) len xs).map fun z => ((z.toNat % 256 : Nat) : Int)), h, nx⟩
        | _ => bad
      | _ => bad
    | _ => bad
  | .sliceToArrayPointer t x => match P.underlying t with
    | some (.array n _) => match ρ x with
      | .sl (some a) len _ => ⟨Nat.ble n len && !Nat.beq n 0, .p (some a), h, nx⟩
      | .sq a _ len => ⟨Nat.ble n len && !Nat.beq n 0, .p (some a), h, nx⟩
      | _ => bad
    | _ => bad
  | .makeInterface t x => match P.underlying t with
    | some (.interface _) => bad
    | some _ => ⟨true, .ifc t (ρ x), h, nx⟩
    | none => bad
  | .makeFunc fn first caps => match fn with
    | .func g => ⟨true, .fn g (first.toList.map ρ) (caps.toList.map ρ), h, nx⟩
    | _ => bad
  | .makeSlice t l c => match P.underlying t with
    | some (.slice e) => match ρ l, ρ c with
      | .i _ n, .i _ m =>
        let w := P.cellsOf e
        let z := match hom P fuelT e with
          | some k => [.ints k (mulw m.toNat w) (List.replicate (mulw m.toNat w) 0)]
          | none => match P.underlying e with
            | some d => [.fam m.toNat (fun _ => zeroV d)]
            | none => []
        ⟨!Nat.beq (P.bytesOf e) 0 && zone P e && decide (0 ≤ n) && decide (n ≤ m) && decide ((P.bytesOf e : Int) * m ≤ 281474976710656), .sl (some ⟨nx, 0, 0⟩) n.toNat m.toNat, (nx, some z) :: h, nx + 1⟩
      | _, _ => bad
    | _ => bad
  | .slice t x lo hi mx => match P.underlying t, ρ x with
    | some .string, .s l => match mx with
      | none => let q := bnd l.length l.length (lo.map ρ) (hi.map ρ) none; ⟨q.1, .s ((l.drop q.2.1).take (q.2.2.1 - q.2.1)), h, nx⟩
      | _ => bad
    | some (.array n e), .p (some a) => let q := bnd n n (lo.map ρ) (hi.map ρ) (mx.map ρ); ⟨q.1 && tyOk P e, .sl (some (step P e a q.2.1)) (q.2.2.1 - q.2.1) (q.2.2.2 - q.2.1), h, nx⟩
    | some (.slice e), .sl (some a) len cap => let q := bnd len cap (lo.map ρ) (hi.map ρ) (mx.map ρ); ⟨q.1 && tyOk P e, .sl (some (step P e a q.2.1)) (q.2.2.1 - q.2.1) (q.2.2.2 - q.2.1), h, nx⟩
    | some (.slice e), .sl none len cap => let q := bnd len cap (lo.map ρ) (hi.map ρ) (mx.map ρ); ⟨q.1 && tyOk P e && Nat.ble len cap, .sl none (q.2.2.1 - q.2.1) (q.2.2.2 - q.2.1), h, nx⟩
    | some (.slice e), .sq a w len => let q := bnd len len (lo.map ρ) (hi.map ρ) (mx.map ρ); ⟨q.1 && Nat.beq w (P.cellsOf e) && tyOk P e, .sq (step P e a q.2.1) w (q.2.2.1 - q.2.1), h, nx⟩
    | _, _ => bad
  | .fieldAddr t x j => match ρ x, fieldsAt P t with
    | .p (some a), some fs => match fs[j]? with
      | some g => ⟨tyOk P g.type && !Nat.beq (P.cellsOf g.type) 0, .p (some (a.addO g.offset)), h, nx⟩
      | none => bad
    | _, _ => bad
  | .field t x j => match ρ x, fieldsAt P t with
    | .ag cs, some fs => match fs[j]? with
      | some g => match aggK P g.type with
        | some true => let q := rdR cs g.offset 0 (P.cellsOf g.type); ⟨q.1, .ag q.2, h, nx⟩
        | some false => let q := rd1 cs g.offset 0; ⟨q.1, q.2, h, nx⟩
        | none => bad
      | none => bad
    | _, _ => bad
  | .indexAddr t x ix => match ρ ix with
    | .i _ j => match P.underlying t, ρ x with
      | some (.array n e), .p (some a) => ⟨decide (0 ≤ j) && Nat.ble (j.toNat + 1) n && tyOk P e, .p (some (step P e a j.toNat)), h, nx⟩
      | some (.slice e), .sl (some a) len _ => ⟨decide (0 ≤ j) && Nat.ble (j.toNat + 1) len && tyOk P e, .p (some (step P e a j.toNat)), h, nx⟩
      | some (.slice e), .sq a _ len => ⟨decide (0 ≤ j) && Nat.ble (j.toNat + 1) len && tyOk P e, .p (some (step P e a j.toNat)), h, nx⟩
      | _, _ => bad
    | _ => bad
  | .index t x ix => match ρ ix with
    | .i _ j => match P.underlying t, ρ x with
      | some (.array n e), .ag cs => match aggK P e with
        | some true => let q := rdR cs (j.toNat * P.cellsOf e) 0 (P.cellsOf e); ⟨decide (0 ≤ j) && Nat.ble (j.toNat + 1) n && q.1, .ag q.2, h, nx⟩
        | some false => let q := (match hom P fuelT e with | some _ => rd1 cs 0 j.toNat | none => rd1 cs j.toNat 0); ⟨decide (0 ≤ j) && Nat.ble (j.toNat + 1) n && q.1 && Nat.beq (P.cellsOf e) 1, q.2, h, nx⟩
        | none => bad
      | some .string, .s l => ⟨decide (0 ≤ j) && Nat.ble (j.toNat + 1) l.length, .i .u8 (l.getD j.toNat 0), h, nx⟩
      | _, _ => bad
    | _ => bad
  | .extract x j => match ρ x with
    | .tu vs => match vs[j]? with
      | some v => ⟨true, v, h, nx⟩
      | none => bad
    | _ => bad
  | .call c => match c.callee with
    | .builtin .len => match (c.args[0]?).map ρ with
      | some v => match alen v with
        | some n => ⟨lenTy P c.argTypes v, .i .i64 n, h, nx⟩
        | none => bad
      | none => bad
    | .builtin .append => match c.argTypes[0]?, c.args.toList.map ρ with
      | some ty, [s, x] => bif !apArg P c.argTypes then bad else match P.underlying ty with
        | some (.slice e) => bif !apOk P e then bad else
          let w := P.cellsOf e
          let nw := content h w x
          match s with
          | .sl none len cap => ⟨nw.1 && Nat.beq len 0 && Nat.beq cap 0 && apFit P e nw.2.1, .sq ⟨nx, 0, 0⟩ w nw.2.1, (nx, some nw.2.2) :: h, nx + 1⟩
          | .sq a w' len => match hget h a.n with
            | some cs => let old := rdR cs 0 0 (mulw len w)
              ⟨nw.1 && old.1 && Nat.beq w' w && Nat.beq (a.d + a.o) 0 && apFit P e (len + nw.2.1), .sq ⟨nx, 0, 0⟩ w (len + nw.2.1), (nx, some (join old.2 nw.2.2)) :: (a.n, none) :: h, nx + 1⟩
            | none => bad
          | .sl (some a) len cap => match hget h a.n with
            | some cs => let old := rdR cs a.o a.d (mulw len w)
              ⟨nw.1 && old.1 && Nat.ble (cap + 1) (len + nw.2.1) && apFit P e (len + nw.2.1), .sq ⟨nx, 0, 0⟩ w (len + nw.2.1), (nx, some (join old.2 nw.2.2)) :: h, nx + 1⟩
            | none => bad
          | _ => bad
        | _ => bad
      | _, _ => bad
    | .builtin .copy => match c.argTypes[0]?, c.args.toList.map ρ with
      | some ty, [s, x] => match P.underlying ty, alen s, alen x with
        | some (.slice e), some n, some m => bif !apOk P e then bad else
          let w := P.cellsOf e
          let k := Nat.min m n
          match s with
          | .sl none _ _ => ⟨(contentN h w k x).1, .i .i64 k, h, nx⟩
          | .sq a _ _ | .sl (some a) _ _ => match hget h a.n with
            | some cs =>
              let nw := contentN h w k x
              let q := wrR cs a.o a.d nw.2
              ⟨nw.1 && q.1, .i .i64 k, (a.n, some q.2) :: h, nx⟩
            | none => bad
          | _ => bad
        | _, _, _ => bad
      | _, _ => bad
    | .builtin .cap => match (c.args[0]?).map ρ with
      | some (.sl a len cap) => ⟨lenTy P c.argTypes (.sl a len cap), .i .i64 cap, h, nx⟩
      | _ => bad
    | .builtin .max => match c.args.toList.map ρ with
      | [.i k a, .i _ b] => ⟨true, .i k (if b > a then b else a), h, nx⟩
      | _ => bad
    | .builtin .min => match c.args.toList.map ρ with
      | [.i k a, .i _ b] => ⟨true, .i k (if b < a then b else a), h, nx⟩
      | _ => bad
    | _ => bad
  | _ => bad

end Go.Am
