/-
  A part of an abstract machine that runs a function's text over symbolic values, and of the proof that the machine is sound over the model. No condition.
-/
import Derived.Test.YtpojjdohonmnaaaRRRAmEval
namespace Go.Am
open Go

/-! names, and values by other names -/
def nmsV : Nat → V → List Nat
  | 0, _ => []
  | k + 1, v => match v with
    | .p (some a) => [a.n]
    | .sl (some a) _ _ => [a.n]
    | .sq a _ _ => [a.n]
    | .fn _ l l' => (l ++ l').flatMap (nmsV k)
    | .ag cs => cs.flatMap fun s => match s with
      | .vs l => l.flatMap (nmsV k)
      | _ => []
    | .tu l => l.flatMap (nmsV k)
    | .ifc _ v => nmsV k v
    | .mp (some n) => [n]
    | _ => []

def nmsC (k : Nat) (cs : List Seg) : List Nat := nmsV (k + 1) (.ag cs)

def memN (n : Nat) : List Nat → Bool
  | [] => false
  | a :: l => bif Nat.beq a n then true else memN n l

def addN : List Nat → List Nat → List Nat
  | L, [] => L
  | L, n :: ns => addN (bif memN n L then L else L ++ [n]) ns

def nmsAt (h : Hp) (n : Nat) : List Nat := match hget h n with
  | some cs => nmsC 4 cs
  | none => []

def clo (h : Hp) : Nat → List Nat → List Nat
  | 0, L => L
  | k + 1, L => clo h k (addN L (L.flatMap (nmsAt h)))

def idxN (n : Nat) : List Nat → Nat → Option Nat
  | [], _ => none
  | a :: l, i => bif Nat.beq a n then some i else idxN n l (i + 1)

def renA (L : List Nat) (a : A) : Option A := (idxN a.n L 0).map fun i => { a with n := i }

def renV (L : List Nat) : Nat → V → V
  | 0, _ => .dk
  | k + 1, v => match v with
    | .p (some a) => match renA L a with | some a' => .p (some a') | none => .dk
    | .sl (some a) n c => match renA L a with | some a' => .sl (some a') n c | none => .dk
    | .sq a w n => match renA L a with | some a' => .sq a' w n | none => .dk
    | .fn g l l' => .fn g (l.map (renV L k)) (l'.map (renV L k))
    | .ag cs => .ag (cs.map fun s => match s with
      | .vs l => .vs (l.map (renV L k))
      | .fam n g => .fam n (fun j => renV L k (g j))
      | .ints a b c => .ints a b c)
    | .tu l => .tu (l.map (renV L k))
    | .ifc t v => .ifc t (renV L k v)
    | .mp (some n) => match idxN n L 0 with | some i => .mp (some i) | none => .dk
    | v => v

def renC (L : List Nat) (cs : List Seg) : List Seg := match renV L 6 (.ag cs) with
  | .ag cs => cs
  | _ => []

def renH (L : List Nat) (h : Hp) : Hp := go L 0
where go : List Nat → Nat → Hp
  | [], _ => []
  | n :: l, i => (i, (hget h n).map (renC L)) :: go l (i + 1)

/-- at a head: which slots live on, and which of them are lists of the function's own (whole numbers of a kind) -/
structure HeadSpec where
  live : List (Nat × Option (IntKind × Nat))

def nilList : V → Bool
  | .sl none n m => Nat.beq n 0 && Nat.beq m 0
  | _ => false

def coerce (f : Fr) (h : Hp) (nx : Nat) : List (Nat × Option (IntKind × Nat)) → Fr × Hp × Nat
  | [] => ([], h, nx)
  | (t, c) :: l => match c with
    | some (k, w) => bif nilList (get f t) then
        let q := coerce f ((nx, some [.ints k 0 []]) :: h) (nx + 1) l; ((t, .sq ⟨nx, 0, 0⟩ w 0) :: q.1, q.2)
      else let q := coerce f h nx l; ((t, get f t) :: q.1, q.2)
    | none => let q := coerce f h nx l; ((t, get f t) :: q.1, q.2)

def mkHead (m : Nat) (hs : HeadSpec) (todo : List Item) (f : Fr) (h : Hp) (nx : Nat) : Tree :=
  let q := coerce f h nx hs.live
  let L := clo q.2.1 6 (addN (List.range m) (q.1.flatMap fun p => nmsV 5 p.2))
  .head todo (q.1.map fun p => (p.1, renV L 6 p.2)) (renH L q.2.1) L.length

def mkRet (m : Nat) (v : V) (h : Hp) (_nx : Nat) : Tree :=
  let L := clo h 6 (addN (List.range m) (nmsV 5 v))
  .ret (renV L 6 v) (renH L h) L.length

/-- what is known of a function that is called -/
inductive Sp : Type 1 where
  | pure (g : List V → Hp → Bool × V)
  | gen (g : List V → Hp → Nat → (V → Hp → Nat → Tree) → Tree)

structure Ann where
  blks : List (Nat × HeadSpec) := []
  lbls : List (Nat × HeadSpec) := []
  regs : List (Nat × HeadSpec) := []
  /-- names below this one are only read -/
  r : Nat := 0

structure Stat where
  r : Nat
  m : Nat
  sz : Nat
  rs : List ResultVar
  ann : Ann
  hd : Bool
  armed : Bool

def lk {α : Type _} : List (Nat × α) → Nat → Option α
  | [], _ => none
  | (a, v) :: l, n => bif Nat.beq a n then some v else lk l n

def put (f : Fr) (d : Option Nat) (v : V) : Fr := match d with
  | some d => (d, v) :: f
  | none => f

def dstOk (sz : Nat) (d : Option Nat) : Bool := match d with
  | some d => Nat.blt d sz
  | none => true

/-- which operations' answers are guards of others -/
def srcs (ops : List Oper) : List Nat := ops.filterMap fun o => o.guard.map (·.1)

def resV (P : Program) (f : Fr) (h : Hp) : ResultVar → Bool × V
  | .tmp t => (true, get f t)
  | .cell a t => let r := ev1 P (ev f) h 0 (.load t (.tmp a)); (r.ok, r.v)

def resVs (P : Program) (f : Fr) (h : Hp) : List ResultVar → Bool × List V
  | [] => (true, [])
  | r :: l => let q := resV P f h r; let q' := resVs P f h l; (q.1 && q'.1, q.2 :: q'.2)

def finish (P : Program) (rs : List ResultVar) (f : Fr) (h : Hp) (nx : Nat) (D : V → Hp → Nat → Tree) : Tree :=
  let q := resVs P f h rs
  bif q.1 then (match q.2 with
    | [v] => D v h nx
    | vs => D (.tu vs) h nx) else .fail

def isCall (o : Op) : Bool := match o with
  | .call c => match c.callee with
    | .value _ => true
    | _ => false
  | _ => false

/-- names that an operation touches: reads, writes -/
def nmOf : V → List Nat
  | .p (some a) => [a.n]
  | .sl (some a) _ _ => [a.n]
  | .sq a _ _ => [a.n]
  | _ => []

def foot (ρ : Operand → V) (h : Hp) (o : Op) : List Nat × List Nat :=
  match o with
  | .load _ x => (nmOf (ρ x), [])
  | .store _ x _ => (nmOf (ρ x), nmOf (ρ x))
  | .convert _ _ x => (nmOf (ρ x), [])
  | .call c => match c.callee with
    | .builtin .append => match c.args.toList.map ρ with
      | [s, x] => (nmOf s ++ nmOf x, match s with | .sq a _ _ => [a.n] | _ => [])
      | _ => ([], [])
    | .builtin .copy => match c.args.toList.map ρ with
      | [s, x] => (nmOf s ++ nmOf x, nmOf s)
      | _ => ([], [])
    | .builtin _ => ([], [])
    | _ => (clo h 4 (addN [] ((c.operands.toList.map ρ).flatMap (nmsV 5))), [])
  | _ => ([], [])

def wrOk (r : Nat) (ns : List Nat) : Bool := ns.all fun n => Nat.ble r n

abbrev Caller := List V → Nat → Hp → Nat → (V → Hp → Nat → Tree) → Tree

def evCall (r : Nat) (E : List (Nat × Sp)) (inl : Caller) (ρ : Operand → V) (h : Hp) (nx : Nat) (c : Call) (K : V → Hp → Nat → Tree) : Tree :=
  match c.callee with
  | .value x => match ρ x with
    | .fn g first caps =>
      let args := first ++ c.args.toList.map ρ ++ caps
      match lk E g with
      | some (.pure sp) => let q := sp args h; bif q.1 then K q.2 h nx else .fail
      | some (.gen sp) => bif Nat.beq r 0 then sp args h nx K else .fail
      | none => inl args g h nx K
    | _ => .fail
  | _ => .fail

def evOps (P : Program) (r : Nat) (E : List (Nat × Sp)) (inl : Caller) (ops : Array Oper) (sr : List Nat) (sz : Nat) :
    List Oper → Nat → Fr → Hp → Nat → (Fr → Hp → Nat → Tree) → Tree
  | [], _, f, h, nx, K => K f h nx
  | o :: l, i, f, h, nx, K =>
    let next (v : V) (h : Hp) (nx : Nat) : Tree :=
      bif memN i sr then (match v with
        | .b b => splitB b fun b => evOps P r E inl ops sr sz l (i + 1) (put f o.dst (.b b)) h nx K
        | _ => .fail)
      else evOps P r E inl ops sr sz l (i + 1) (put f o.dst v) h nx K
    bif dstOk sz o.dst then
      let run : Tree := match o.op with
        | .call c => match c.callee with
          | .value _ => evCall r E inl (ev f) h nx c next
          | _ => let q := ev1 P (ev f) h nx o.op; bif q.ok && wrOk r (foot (ev f) h o.op).2 then next q.v q.h q.nx else .fail
        | op => let q := ev1 P (ev f) h nx op; bif q.ok && wrOk r (foot (ev f) h op).2 then next q.v q.h q.nx else .fail
      match o.guard with
      | none => run
      | some (j, want) => match (ops[j]?).bind (·.dst) with
        | some d => match get f d with
          | .b t => bif (bif want then t else !t) then run else evOps P r E inl ops sr sz l (i + 1) (put f o.dst .dk) h nx K
          | _ => .fail
        | none => .fail
    else .fail

/-! regions whose order is open -/
def mask (h : Hp) (ns : List Nat) : Hp := ns.map fun n => (n, hget h n)

def tmpsOf (o : Oper) (ops : Array Oper) : List Nat :=
  (o.op.operands.toList.filterMap fun | .tmp t => some t | _ => none) ++
  (match o.guard with | some (j, _) => ((ops[j]?).bind (·.dst)).toList | none => [])

/-- what an operation touches: slots read, slot written, names read, names written, all that it must stand behind -/
structure Foot where
  rt : List Nat
  wt : Option Nat
  rn : List Nat
  wn : List Nat
  after : Nat

def meet (a b : List Nat) : Bool := match a with
  | [] => false
  | n :: a => memN n b || meet a b

def Foot.clash (a b : Foot) : Bool :=
  (match a.wt with | some t => memN t b.rt || (match b.wt with | some u => Nat.beq t u | none => false) | none => false) ||
  (match b.wt with | some t => memN t a.rt | none => false) ||
  meet a.wn b.rn || meet b.wn a.rn || meet a.wn b.wn

/-- does this one stand behind all those of the list that it clashes with (the list: latest first, the i-th operation's place is its length less one less ..) -/
def fits (x : Foot) : List Foot → Bool
  | [] => true
  | y :: l => (!x.clash y || Nat.testBit x.after l.length) && fits x l

/-- the set of what an operation stands behind, as bits -/
def beforeOf (bs : List Nat) (o : Oper) : Nat :=
  o.after.toList.foldl (fun s e => bif Region.binds .any e then s ||| 2 ^ e.on ||| bs.getD e.on 0 else s) 0

def befores : List Oper → List Nat → List Nat
  | [], bs => bs
  | o :: l, bs => befores l (bs ++ [beforeOf bs o])

/-- how many operations at the end stand behind all that are ahead of them: the rest's number -/
def headLen (bs : List Nat) : Nat := go bs.reverse bs.length
where go : List Nat → Nat → Nat
  | [], n => n
  | b :: l, n => bif Nat.beq b (2 ^ (n - 1) - 1) then go l (n - 1) else n

def upd (h r : Hp) (ns : List Nat) : Hp := (ns.map fun n => (n, hget r n)) ++ h

def ltAll (nx : Nat) (ns : List Nat) : Bool := ns.all fun n => Nat.blt n nx

structure DR where
  ok : Bool
  v : V
  h : Hp
  nx : Nat
  rn : List Nat
  wn : List Nat

def DR.bad : DR := ⟨false, .dk, [], 0, [], []⟩

def drawEv1 (P : Program) (r : Nat) (ρ : Operand → V) (h : Hp) (nx : Nat) (op : Op) : DR :=
  let ft := foot ρ h op
  let q := ev1 P ρ (mask h (ft.1 ++ ft.2)) nx op
  let wn := ft.2 ++ List.range' nx (q.nx - nx)
  ⟨q.ok && ltAll nx (ft.1 ++ ft.2) && wrOk r ft.2, q.v, upd h q.h wn, q.nx, ft.1, wn⟩

def drawOne (P : Program) (r : Nat) (E : List (Nat × Sp)) (ρ : Operand → V) (h : Hp) (nx : Nat) (op : Op) : DR := match op with
  | .call c => match c.callee with
    | .value x => match ρ x with
      | .fn g first caps => match lk E g with
        | some (.pure sp) =>
          let ft := foot ρ h (.call c)
          let q := sp (first ++ c.args.toList.map ρ ++ caps) (mask h (ft.1 ++ ft.2))
          ⟨q.1 && ltAll nx (ft.1 ++ ft.2), q.2, h, nx, ft.1, []⟩
        | _ => DR.bad
      | _ => DR.bad
    | _ => drawEv1 P r ρ h nx (.call c)
  | op => drawEv1 P r ρ h nx op

def evDraw (P : Program) (r : Nat) (E : List (Nat × Sp)) (ops : Array Oper) (sr : List Nat) (sz : Nat) (bs : List Nat) :
    List Oper → Nat → List Foot → Fr → Hp → Nat → (Fr → Hp → Nat → Tree) → Tree
  | [], _, _, f, h, nx, K => K f h nx
  | o :: l, i, fs, f, h, nx, K =>
    bif dstOk sz o.dst then
      let ts := tmpsOf o ops
      let run : Tree :=
        let q := drawOne P r E (ev (ts.map fun t => (t, get f t))) h nx o.op
        let x : Foot := ⟨ts, o.dst, q.rn, q.wn, bs.getD i 0⟩
        bif q.ok && fits x fs then (bif memN i sr then (match q.v with
          | .b b => splitB b fun b => evDraw P r E ops sr sz bs l (i + 1) (x :: fs) (put f o.dst (.b b)) q.h q.nx K
          | _ => .fail)
        else evDraw P r E ops sr sz bs l (i + 1) (x :: fs) (put f o.dst q.v) q.h q.nx K) else .fail
      match o.guard with
      | none => run
      | some (j, want) => match (ops[j]?).bind (·.dst) with
        | some d => match get f d with
          | .b t => bif (bif want then t else !t) then run else
            let x : Foot := ⟨ts, o.dst, [], [], bs.getD i 0⟩
            bif fits x fs then evDraw P r E ops sr sz bs l (i + 1) (x :: fs) (put f o.dst .dk) h nx K else .fail
          | _ => .fail
        | none => .fail
    else .fail

/-- every binding edge leads back -/
def backOk : List Oper → Nat → Bool
  | [], _ => true
  | o :: l, i => o.after.toList.all (fun e => !Region.binds .any e || Nat.blt e.on i) && backOk l (i + 1)

abbrev Walker := Stat → List Item → Fr → Hp → Nat → (V → Hp → Nat → Tree) → Tree

/-- a function by its text, where it is called -/
def inlOf (P : Program) (ih : Walker) (r : Nat) : Caller := fun args g h nx K => match P.funcs[g]? with
  | some fn => match fn.body with
    | some b => ih { r := r, m := 0, sz := fn.ntmps, rs := fn.results.toList, ann := {}, hd := false, armed := true } [.code b] (args.zipIdx.map fun p => (p.2, p.1)) h nx K
    | none => .fail
  | none => .fail

def segStep (P : Program) (E : List (Nat × Sp)) (ih : Walker) : Walker := fun st todo f h nx D =>
  match todo with
  | [] => finish P st.rs f h nx D
  | .inBlock _ :: k => ih st k f h nx D
  | .inScope _ :: k => ih st k f h nx D
  | .inLoop body :: k => match k with
    | .inBlock id :: _ => match lk st.ann.blks id with
      | some hs => bif st.hd then mkHead st.m hs (.code body :: .inLoop body :: k) f h nx else .fail
      | none => ih st (.code body :: .inLoop body :: k) f h nx D
    | _ => ih st (.code body :: .inLoop body :: k) f h nx D
  | .code c :: k => match c with
    | .ret => finish P st.rs f h nx D
    | .skip => ih st k f h nx D
    | .label l => match lk st.ann.lbls l with
      | some hs => bif st.hd then mkHead st.m hs k f h nx else .fail
      | none => ih st k f h nx D
    | .seq a b => ih st (.code a :: .code b :: k) f h nx D
    | .cond o a b => match ev f o with
      | .b t => bif t then ih st (.code a :: k) f h nx D else ih st (.code b :: k) f h nx D
      | _ => .fail
    | .block id body => ih st (.code body :: .inBlock id :: k) f h nx D
    | .loop body => match k with
      | .inBlock id :: _ => match lk st.ann.blks id with
        | some hs => bif st.hd then mkHead st.m hs (.code body :: .inLoop body :: k) f h nx else .fail
        | none => ih st (.code body :: .inLoop body :: k) f h nx D
      | _ => ih st (.code body :: .inLoop body :: k) f h nx D
    | .scope body => ih st (.code body :: .inScope body :: k) f h nx D
    | .exit id => match exitTo id k with
      | some k' => ih st k' f h nx D
      | none => .fail
    | .goto l => match gotoIn l k with
      | some k' => match lk st.ann.lbls l with
        | some hs => bif st.hd then (match k' with
          | .code (.seq .skip y) :: k2 => mkHead st.m hs (.code y :: k2) f h nx
          | .code .skip :: k2 => mkHead st.m hs k2 f h nx
          | _ => mkHead st.m hs k' f h nx) else .fail
        | none => ih st k' f h nx D
      | none => .fail
    | .region id ops dr =>
      bif st.armed && (lk st.ann.regs id).isSome then (match lk st.ann.regs id with
        | some hs => bif st.hd then mkHead st.m hs (.code (.region id ops dr) :: k) f h nx else .fail
        | none => .fail) else
      let inl : Caller := inlOf P ih st.r
      let l := ops.toList
      let sr := srcs l
      let st := { st with armed := true }
      bif dr then
        let bs := befores l []
        let t := headLen bs
        bif !backOk l 0 then .fail else
        evDraw P st.r E ops sr st.sz bs (l.take t) 0 [] f h nx fun f h nx =>
          evOps P st.r E inl ops sr st.sz (l.drop t) t f h nx fun f h nx => ih st k f h nx D
      else evOps P st.r E inl ops sr st.sz l 0 f h nx fun f h nx => ih st k f h nx D
    | _ => .fail
  | _ => .fail

noncomputable def seg (P : Program) (E : List (Nat × Sp)) (n : Nat) : Walker := Nat.rec (fun _ _ _ _ _ _ => .fail) (fun _ ih => segStep P E ih) n

/-- a call of a function by its text -/
noncomputable def segF (P : Program) (E : List (Nat × Sp)) (n : Nat) (g : Nat) (ann : Ann) (args : List V) (h : Hp) (nx : Nat) : Tree :=
  match P.funcs[g]? with
  | some fn => match fn.body with
    | some b => seg P E n { r := ann.r, m := nx, sz := fn.ntmps, rs := fn.results.toList, ann, hd := true, armed := true } [.code b] (args.zipIdx.map fun p => (p.2, p.1)) h nx (mkRet nx)
    | none => .fail
  | none => .fail

end Go.Am
