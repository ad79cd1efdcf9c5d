/- The compact form of the translated code, how it is made out of the model's own code, and its evaluator over a heap of named blocks. -/
import Derived.Calls
import Derived.Orders
import Derived.Laws.Sem
import Derived.Laws.Cells
import Derived.Laws.Slices
namespace Go.Proofs.YtepddcemoofmlaaGreat.AE
open Go

/-! ### Values and their references -/
mutual
def refsLt (n : Nat) : Value → Bool
  | .pointer (some a) => decide (a.block < n) && a.spot.isNone
  | .slice (some a) _ _ => decide (a.block < n) && a.spot.isNone
  | .map (some r) => decide (r < n)
  | .chan (some _) => false
  | .func (.func _) f c => refsLtA n f && refsLtA n c
  | .func _ _ _ => false
  | .iface _ _ => false
  | .agg cs => refsLtA n cs
  | .tuple cs => refsLtA n cs
  | _ => true
def refsLtA (n : Nat) : Array Value → Bool
  | ⟨l⟩ => refsLtL n l
def refsLtL (n : Nat) : List Value → Bool
  | [] => true
  | v :: l => refsLt n v && refsLtL n l
 end

/-- Is it the value of one cell? -/
def one : Value → Bool
  | .agg _ => false
  | .tuple _ => false
  | _ => true

inductive IV where
  | t (n : Nat)
  | c (v : Value)
  | g (b : Nat)

def IV.ev (R : List Value) : IV → Value
  | .t n => R.getD n undef
  | .c v => v
  | .g b => .pointer (some ⟨b, 0, none⟩)

inductive AObj where
  | cells (e : TypeId) (c : List Value)
  | view (c : List Value)
  | amap (es : List (Int × Value))
  | dead
  deriving Inhabited

structure St where
  blks : List AObj
  wr : Nat
  esc : Nat

def St.push (S : St) (o : AObj) : St := ⟨S.blks ++ [o], S.wr, S.esc⟩

inductive EqT where
  | int | bool | ptr | slice | func | map
  | plain (ks : List (Option IntKind))

inductive IOp where
  | mv (x : IV)
  | pick (c a b : IV)
  | new (e : TypeId) (zs : List Value)
  | box (e : TypeId) (n : Nat) (x : IV)
  | build (zs : List Value) (ps : List (Nat × Nat × IV))
  | buildSlice (e : TypeId) (zs : List Value) (len : Nat) (ps : List (Nat × Nat × IV))
  | load (agg : Bool) (n : Nat) (x : IV)
  | store (n : Nat) (x v : IV)
  | nilCheck (x : IV)
  | bin (op : BinOp) (t : EqT) (x y : IV)
  | un (op : UnOp) (x : IV)
  | conv (k : IntKind) (x : IV)
  | mkFunc (f : FuncId) (first captured : List IV)
  | mkMap
  | mkSlice (e : TypeId) (z : Value) (bytes : Nat) (l c : IV)
  | slice (e : TypeId) (x : IV) (lo hi mx : Option IV)
  | addOff (off : Nat) (x : IV)
  | field (agg : Bool) (off n : Nat) (x : IV)
  | idxS (sz : Nat) (x i : IV)
  | idxA (len sz : Nat) (x i : IV)
  | idxV (len : Nat) (agg : Bool) (sz : Nat) (x i : IV)
  | lookup (z : Value) (ok : Bool) (m k : IV)
  | mapSet (m k v : IV)
  | extract (x : IV) (i : Nat)
  | call (f : IV) (args : List IV) (q : Bool)
  | lenS (x : IV)
  | lenM (x : IV)
  | append (e : TypeId) (sz bytes : Nat) (s x : IV)
  | minmax (mx : Bool) (x : IV) (xs : List IV)
  | delete (m k : IV)

/-- 'pre', 'post', 'snap': in a region whose order is open: a reader looks again at the states ahead of these writers; a writer lets these readers look again; a writer's state is kept. -/
structure IOper where
  dst : Option Nat
  op : IOp
  guard : Option (Nat × Bool)
  pre : List Nat := []
  post : List Nat := []
  snap : Bool := false

inductive ICode where
  | skip
  | region (l : List IOper)
  | seq (a b : ICode)
  | cond (c : IV) (a b : ICode)
  | block (id : Nat) (b : ICode)
  | loop (b : ICode)
  | exit (id : Nat)
  | ret

inductive IRes where
  | tmp (t : Nat)
  | cell (t : Nat) (agg : Bool) (n : Nat)

structure IFun where
  ntmps : Nat
  body : ICode
  res : List IRes

/-! ### The evaluator -/
def evInt (op : BinOp) (k : IntKind) (a b : Int) : Option Value :=
  match op with
  | .add => some (.int k (k.wrap (a + b)))
  | .sub => some (.int k (k.wrap (a - b)))
  | .mul => some (.int k (k.wrap (a * b)))
  | .quo => if b = 0 then none else some (.int k (k.wrap (a.tdiv b)))
  | .rem => if b = 0 then none else some (.int k (a.tmod b))
  | .and => some (.int k (k.wrap (BitVec.ofInt k.bits a &&& BitVec.ofInt k.bits b).toNat))
  | .or => some (.int k (k.wrap (BitVec.ofInt k.bits a ||| BitVec.ofInt k.bits b).toNat))
  | .xor => some (.int k (k.wrap (BitVec.ofInt k.bits a ^^^ BitVec.ofInt k.bits b).toNat))
  | .andNot => some (.int k (k.wrap (BitVec.ofInt k.bits a &&& ~~~ BitVec.ofInt k.bits b).toNat))
  | .eql => some (.bool (a == b))
  | .neq => some (.bool (a != b))
  | .lss => some (.bool (decide (a < b)))
  | .leq => some (.bool (decide (a ≤ b)))
  | .gtr => some (.bool (decide (a > b)))
  | .geq => some (.bool (decide (a ≥ b)))
  | _ => none

def evShift (op : BinOp) (k : IntKind) (a b : Int) : Option Value :=
  if b < 0 then none else
  match op with
  | .shl => some (.int k (k.wrap (a * 2 ^ (min b.toNat k.bits))))
  | .shr => some (.int k (a.fdiv (2 ^ (min b.toNat k.bits))))
  | _ => none

def eqCells : List (Option IntKind) → List Value → List Value → Option Bool
  | [], [], [] => some true
  | some _ :: ks, .int k a :: xs, .int k' b :: ys =>
    if k = k' then (eqCells ks xs ys).map (fun r => a == b && r) else none
  | none :: ks, .bool a :: xs, .bool b :: ys => (eqCells ks xs ys).map (fun r => a == b && r)
  | _, _, _ => none

def evEq : EqT → Value → Value → Option Bool
  | .bool, .bool a, .bool b => some (a == b)
  | .ptr, .pointer none, .pointer b => some b.isNone
  | .ptr, .pointer (some _), .pointer none => some false
  | .slice, .slice none _ _, .slice b _ _ => some b.isNone
  | .slice, .slice (some _) _ _, .slice none _ _ => some false
  | .map, .map none, .map b => some b.isNone
  | .map, .map (some _), .map none => some false
  | .func, .nilFunc, .nilFunc => some true
  | .func, .nilFunc, .func _ _ _ => some false
  | .func, .func _ _ _, .nilFunc => some false
  | .plain ks, .agg xs, .agg ys => eqCells ks xs.toList ys.toList
  | _, _, _ => none

def evBin (op : BinOp) (t : EqT) (x y : Value) : Option Value :=
  match x, y with
  | .int k a, .int k' b => (match op with
    | .shl => evShift .shl k a b
    | .shr => evShift .shr k a b
    | op => if k = k' then evInt op k a b else none)
  | x, y => (match op with
    | .eql => (evEq t x y).map Value.bool
    | .neq => (evEq t x y).map fun b => Value.bool (!b)
    | _ => none)

def evUn (op : UnOp) (x : Value) : Option Value :=
  match op, x with
  | .neg, .int k n => some (.int k (k.wrap (0 - n)))
  | .xor, .int k n => evInt .xor k (if k.signed then -1 else k.max) n
  | .not, .bool b => some (.bool !b)
  | _, _ => none

def evFill : List (Nat × Nat × Value) → List Value → Option (List Value)
  | [], cs => some cs
  | (off, sz, v) :: r, cs =>
    if v.cells.size = sz ∧ off + sz ≤ cs.length then evFill r (cs.take off ++ (v.cells.toList ++ cs.drop (off + sz))) else none

def cut (agg : Bool) (n off : Nat) (c : List Value) : Option Value :=
  if agg then (if ((c.drop off).take n).length = n then some (.agg ((c.drop off).take n).toArray) else none) else c[off]?

def evMin (mx : Bool) : Value → List Value → Option Value
  | x, [] => some x
  | .int k x, .int _ y :: r => evMin mx (.int k (if mx then (if y > x then y else x) else (if y < x then y else x))) r
  | _, _ => none

def nth (x : Value) (len sz : Nat) (i : Value) (a : Addr) : Option Value :=
  match x, i with
  | _, .int _ n => if 0 ≤ n ∧ n < (len : Int) then some (.pointer (some ⟨a.block, a.off + n.toNat * sz, none⟩)) else none
  | _, _ => none

def evPure (R : List Value) : IOp → Option Value
  | .mv x => some (x.ev R)
  | .pick c a b => match c.ev R with
    | .bool true => some (a.ev R)
    | .bool false => some (b.ev R)
    | _ => none
  | .build zs ps => (evFill (ps.map fun p => (p.1, p.2.1, p.2.2.ev R)) zs).map fun cs => .agg cs.toArray
  | .nilCheck x => match x.ev R with
    | .pointer (some a) => some (.pointer (some a))
    | .func (.func f) first captured => some (.func (.func f) first captured)
    | .slice a n c => some (.slice a n c)
    | .map r => some (.map r)
    | _ => none
  | .bin op t x y => evBin op t (x.ev R) (y.ev R)
  | .un op x => evUn op (x.ev R)
  | .conv k x => match x.ev R with
    | .int _ n => some (.int k (k.wrap n))
    | _ => none
  | .mkFunc f first captured => some (.func (.func f) (first.map (IV.ev R)).toArray (captured.map (IV.ev R)).toArray)
  | .addOff off x => match x.ev R with
    | .pointer (some a) => some (.pointer (some ⟨a.block, a.off + off, none⟩))
    | _ => none
  | .field agg off n x => match x.ev R with
    | .agg cs => cut agg n off cs.toList
    | _ => none
  | .idxS sz x i => match x.ev R with
    | .slice (some a) len _ => nth (x.ev R) len sz (i.ev R) a
    | _ => none
  | .idxA len sz x i => match x.ev R with
    | .pointer (some a) => nth (x.ev R) len sz (i.ev R) a
    | _ => none
  | .idxV len agg sz x i => match x.ev R, i.ev R with
    | .agg cs, .int _ n => if 0 ≤ n ∧ n < (len : Int) then cut agg sz (n.toNat * sz) cs.toList else none
    | _, _ => none
  | .extract x i => match x.ev R with
    | .tuple vs => vs.toList[i]?
    | _ => none
  | .lenS x => match x.ev R with
    | .slice _ n _ => some (.int .i64 n)
    | _ => none
  | .minmax mx x xs => match x.ev R with
    | .int k n => evMin mx (.int k n) (xs.map (IV.ev R))
    | _ => none
  | _ => none

def cellsAt (m : Nat → Option AObj) (b : Nat) : Option (List Value) :=
  match m b with
  | some (.cells _ c) => some c
  | some (.view c) => some c
  | _ => none

/-- As cellsAt, but a row of elements of just this type. -/
def rowAt (m : Nat → Option AObj) (e : TypeId) (b : Nat) : Option (List Value) :=
  match m b with
  | some (.cells e' c) => if e' = e then some c else none
  | some (.view c) => some c
  | _ => none

def cutS (m : Nat → Option AObj) (e : TypeId) (a : Addr) (len : Nat) (l h : Int) : Option Value :=
  match rowAt m e a.block with
  | some c =>
    if a.off + len ≤ c.length ∧ 0 ≤ l ∧ l ≤ h ∧ h ≤ (len : Int) ∧ (l = 0 ∨ l < h) then
      some (.slice (some ⟨a.block, a.off + l.toNat, none⟩) (h.toNat - l.toNat) 0)
    else none
  | none => none

def evSlice (m : Nat → Option AObj) (e : TypeId) (x : Value) (lo hi mx : Option Value) : Option Value :=
  match x, lo, hi, mx with
  | .slice (some a) len 0, some (.int _ l), some (.int _ h), none => cutS m e a len l h
  | .slice (some a) len 0, none, some (.int _ h), none => cutS m e a len 0 h
  | .slice none 0 0, none, some (.int _ 0), some (.int _ 0) => some (.slice none 0 0)
  | .slice (some a) _ 0, none, some (.int _ 0), some (.int _ 0) => some (.slice (some a) 0 1)
  | _, _, _, _ => none

def findM (k : Int) : List (Int × Value) → Option Value
  | [] => none
  | (j, v) :: es => if k == j then some v else findM k es

def evRead (R : List Value) (m : Nat → Option AObj) : IOp → Option Value
  | .load agg n x => match x.ev R with
    | .pointer (some a) => match cellsAt m a.block with
      | some c => cut agg n a.off c
      | none => none
    | _ => none
  | .slice e x lo hi mx => evSlice m e (x.ev R) (lo.map (IV.ev R)) (hi.map (IV.ev R)) (mx.map (IV.ev R))
  | .lookup z ok mp k => match mp.ev R, k.ev R with
    | .map none, .int .i64 _ => some (if ok then .tuple #[z, .bool false] else z)
    | .map (some r), .int .i64 k => match m r with
      | some (.amap es) => match findM k es with
        | some v => some (if ok then .tuple #[v, .bool true] else v)
        | none => some (if ok then .tuple #[z, .bool false] else z)
      | _ => none
    | _, _ => none
  | .lenM x => match x.ev R with
    | .map none => some (.int .i64 0)
    | .map (some r) => match m r with
      | some (.amap es) => some (.int .i64 es.length)
      | _ => none
    | _ => none
  | _ => none

/-- A new block, and what refers to it. -/
def evAlloc (R : List Value) : IOp → Option (AObj × (Nat → Value))
  | .new e zs => some (.cells e zs, fun b => .pointer (some ⟨b, 0, none⟩))
  | .box e n x =>
    let vs := (x.ev R).cells.toList
    if vs.length = n ∧ vs.all one = true then some (.cells e vs, fun b => .pointer (some ⟨b, 0, none⟩)) else none
  | .buildSlice e zs len ps => match evFill (ps.map fun p => (p.1, p.2.1, p.2.2.ev R)) zs with
    | some cs => if cs.all one = true then some (.cells e cs, fun b => .slice (some ⟨b, 0, none⟩) len 0) else none
    | none => none
  | .mkMap => some (.amap [], fun b => .map (some b))
  | .mkSlice e z bytes l c => match l.ev R, c.ev R with
    | .int .i64 n, .int .i64 m => if n = m ∧ 0 ≤ n ∧ n ≤ 1000000000000000 ∧ (bytes : Int) * n ≤ 281474976710656 then some (.cells e (List.replicate n.toNat z), fun b => .slice (some ⟨b, 0, none⟩) n.toNat 0) else none
    | _, _ => none
  | _ => none

def St.wrote (S : St) (b : Nat) (o : AObj) (v : Value) : St :=
  ⟨S.blks.set b o, min S.wr b, if refsLt (b + 1) v then S.esc else min S.esc b⟩

def setM (k : Int) (v : Value) : List (Int × Value) → List (Int × Value)
  | [] => [(k, v)]
  | (j, u) :: es => if k == j then (j, v) :: es else (j, u) :: setM k v es

def delM (k : Int) : List (Int × Value) → List (Int × Value)
  | [] => []
  | (j, u) :: es => if k == j then es else (j, u) :: delM k es

def rowOf (m : Nat → Option AObj) (sz : Nat) : Value → Option (Nat × List Value)
  | .slice none n _ => if n = 0 then some (0, []) else none
  | .slice (some a) n _ => match cellsAt m a.block with
    | some c => if ((c.drop a.off).take (n * sz)).length = n * sz ∧ ((c.drop a.off).take (n * sz)).all one = true then some (n, (c.drop a.off).take (n * sz)) else none
    | none => none
  | _ => none

def evWrite (R : List Value) (S : St) : IOp → Option (Value × St)
  | .store n x v => match x.ev R with
    | .pointer (some a) => match S.blks[a.block]? with
      | some (.cells e c) =>
        match (v.ev R).cells.toList with
        | [u] => if n = 1 ∧ one u = true ∧ a.off < c.length then some (undef, S.wrote a.block (.cells e (c.set a.off u)) (v.ev R)) else none
        | vs => if vs.length = n ∧ vs.all one = true ∧ a.off + n ≤ c.length then
            some (undef, S.wrote a.block (.cells e (c.take a.off ++ (vs ++ c.drop (a.off + n)))) (v.ev R)) else none
      | _ => none
    | _ => none
  | .mapSet m k v => match m.ev R, k.ev R with
    | .map (some r), .int .i64 k => match S.blks[r]? with
      | some (.amap es) => some (undef, S.wrote r (.amap (setM k (v.ev R) es)) (v.ev R))
      | _ => none
    | _, _ => none
  | .delete m k => match m.ev R, k.ev R with
    | .map none, .int .i64 _ => some (.tuple #[], S)
    | .map (some r), .int .i64 k => match S.blks[r]? with
      | some (.amap es) => some (.tuple #[], S.wrote r (.amap (delM k es)) (.tuple #[]))
      | _ => none
    | _, _ => none
  | .append e sz bytes s x => match rowOf (S.blks[·]?) sz (x.ev R) with
    | none => none
    | some (n, xs) => match s.ev R with
      | .slice none 0 0 =>
        if n = 0 then some (.slice none 0 0, S)
        else if (2 * n + 768) * bytes ≤ 281474976710656 ∧ n ≤ 1000000000000000 then some (.slice (some ⟨S.blks.length, 0, none⟩) n 0, S.push (.cells e xs)) else none
      | .slice (some a) len 0 => match S.blks[a.block]? with
        | some (.cells e' c) =>
          if e' = e ∧ a.off = 0 ∧ c.length = len * sz ∧ 0 < sz then
            if n = 0 then some (.slice (some a) len 0, S)
            else if (2 * (len + n) + 768) * bytes ≤ 281474976710656 ∧ len + n ≤ 1000000000000000 then
              some (.slice (some ⟨S.blks.length, 0, none⟩) (len + n) 0, ⟨S.blks.set a.block .dead ++ [.cells e (c ++ xs)], min S.wr a.block, S.esc⟩)
            else none
          else none
        | _ => none
      | .slice (some a) 0 1 =>
        if n = 0 then some (.slice (some a) 0 1, S)
        else if (2 * n + 768) * bytes ≤ 281474976710656 ∧ n ≤ 1000000000000000 then some (.slice (some ⟨S.blks.length, 0, none⟩) n 0, S.push (.cells e xs)) else none
      | _ => none
  | _ => none

inductive Kd where
  | P | L | A | N | Z
  deriving DecidableEq

def kd : IOp → Kd
  | .load _ _ _ => .L
  | .slice _ _ _ _ _ => .L
  | .lookup _ _ _ _ => .L
  | .lenM _ => .L
  | .new _ _ => .A
  | .box _ _ _ => .A
  | .buildSlice _ _ _ _ => .A
  | .mkMap => .A
  | .mkSlice _ _ _ _ _ => .A
  | .call _ _ q => if q then .N else .Z
  | .store _ _ _ => .Z
  | .mapSet _ _ _ => .Z
  | .delete _ _ => .Z
  | .append _ _ _ _ _ => .Z
  | _ => .P

/-- What a call comes to: its value, the state, and whether all old blocks stood as they were. -/
abbrev CallS := FuncId → List Value → St → Option (Value × St × Bool)

def evCall (C : CallS) (R : List Value) (S : St) : IOp → Option (Value × St)
  | .call f args q => match f.ev R with
    | .func (.func fid) first captured =>
      match C fid (first.toList ++ (args.map (IV.ev R) ++ captured.toList)) S with
      | some (v, S', q') => if q && !q' then none else some (v, S')
      | none => none
    | _ => none
  | _ => none

def evOp (C : CallS) (R : List Value) (S : St) (o : IOp) : Option (Value × St) :=
  match o with
  | .call f args q => evCall C R S (.call f args q)
  | .load agg n x => (evRead R (S.blks[·]?) (.load agg n x)).map (·, S)
  | .slice e x lo hi mx => (evRead R (S.blks[·]?) (.slice e x lo hi mx)).map (·, S)
  | .lookup z ok m k => (evRead R (S.blks[·]?) (.lookup z ok m k)).map (·, S)
  | .lenM x => (evRead R (S.blks[·]?) (.lenM x)).map (·, S)
  | .new e zs => (evAlloc R (.new e zs)).map fun p => (p.2 S.blks.length, S.push p.1)
  | .box e n x => (evAlloc R (.box e n x)).map fun p => (p.2 S.blks.length, S.push p.1)
  | .buildSlice e zs len ps => (evAlloc R (.buildSlice e zs len ps)).map fun p => (p.2 S.blks.length, S.push p.1)
  | .mkMap => (evAlloc R .mkMap).map fun p => (p.2 S.blks.length, S.push p.1)
  | .mkSlice e z bytes l c => (evAlloc R (.mkSlice e z bytes l c)).map fun p => (p.2 S.blks.length, S.push p.1)
  | .store n x v => evWrite R S (.store n x v)
  | .mapSet m k v => evWrite R S (.mapSet m k v)
  | .delete m k => evWrite R S (.delete m k)
  | .append e sz bytes s x => evWrite R S (.append e sz bytes s x)
  | o => (evPure R o).map (·, S)

def put (R : List Value) (d : Option Nat) (v : Value) : List Value :=
  match d with
  | some d => R.set d v
  | none => R

def wantedI (g : Option (Nat × Bool)) (R : List Value) : Bool :=
  match g with
  | none => true
  | some (t, w) => match R[t]? with
    | some (.bool b) => b == w
    | _ => false

mutual
def sameV : Value → Value → Bool
  | .int k a, .int k' b => decide (k = k') && decide (a = b)
  | .bool a, .bool b => a == b
  | .pointer a, .pointer b => decide (a = b)
  | .slice a n c, .slice b m d => decide (a = b) && decide (n = m) && decide (c = d)
  | .map a, .map b => decide (a = b)
  | .agg xs, .agg ys => sameA xs ys
  | _, _ => false
def sameA : Array Value → Array Value → Bool
  | ⟨xs⟩, ⟨ys⟩ => sameL xs ys
def sameL : List Value → List Value → Bool
  | [], [] => true
  | x :: xs, y :: ys => sameV x y && sameL xs ys
  | _, _ => false
 end

def stAt (j : Nat) : List (Nat × St) → Option St
  | [] => none
  | (i, S) :: l => if i = j then some S else stAt j l

def preOk (pre : List Nat) (op : IOp) (H : List (Nat × St)) (R : List Value) (v : Value) : Bool :=
  pre.all fun j => match stAt j H with
    | some S => (match evRead R (S.blks[·]?) op with | some u => sameV u v | none => false)
    | none => true

def postOk (post : List Nat) (al : List IOper) (R : List Value) (S : St) : Bool :=
  post.all fun i => match al[i]? with
    | some o => !wantedI o.guard R || (match o.dst, evRead R (S.blks[·]?) o.op with | some d, some u => sameV u (R.getD d undef) | _, _ => false)
    | none => false

def evOps (C : CallS) (al : List IOper) : List IOper → Nat → List (Nat × St) → List Value → St → Option (List Value × St)
  | [], _, _, R, S => some (R, S)
  | o :: l, p, H, R, S =>
    if wantedI o.guard R then
      match evOp C R S o.op with
      | some (v, S') =>
        if preOk o.pre o.op H R v && postOk o.post al (put R o.dst v) S' then
          evOps C al l (p + 1) (if o.snap then (p, S) :: H else H) (put R o.dst v) S'
        else none
      | none => none
    else evOps C al l (p + 1) H (put R o.dst undef) S

inductive Out where
  | norm | ret
  | exit (id : Nat)
  deriving DecidableEq

def iter (f : List Value → St → Option (Out × List Value × St)) : Nat → List Value → St → Option (Out × List Value × St)
  | 0, _, _ => none
  | n + 1, R, S => match f R S with
    | some (.norm, R', S') => iter f n R' S'
    | some (.ret, R', S') => some (.ret, R', S')
    | some (.exit id, R', S') => some (.exit id, R', S')
    | none => none

/-- How many rounds a loop may have. -/
def rounds : Nat := 1000000000000000000

def evCode (C : CallS) : ICode → List Value → St → Option (Out × List Value × St)
  | .skip, R, S => some (.norm, R, S)
  | .region l, R, S => match evOps C l l 0 [] R S with
    | some (R', S') => some (.norm, R', S')
    | none => none
  | .seq a b, R, S => match evCode C a R S with
    | some (.norm, R', S') => evCode C b R' S'
    | some (.ret, R', S') => some (.ret, R', S')
    | some (.exit id, R', S') => some (.exit id, R', S')
    | none => none
  | .cond c a b, R, S => match c.ev R with
    | .bool true => evCode C a R S
    | .bool false => evCode C b R S
    | _ => none
  | .block id b, R, S => match evCode C b R S with
    | some (.exit id', R', S') => if id' = id then some (.norm, R', S') else some (.exit id', R', S')
    | r => r
  | .loop b, R, S => iter (fun R S => evCode C b R S) rounds R S
  | .exit id, R, S => some (.exit id, R, S)
  | .ret, R, S => some (.ret, R, S)

def evRes1 (R : List Value) (S : St) : IRes → Option Value
  | .tmp t => some (R.getD t undef)
  | .cell t agg n => match R.getD t undef with
    | .pointer (some a) => match cellsAt (S.blks[·]?) a.block with
      | some c => cut agg n a.off c
      | none => none
    | _ => none

def evResL (R : List Value) (S : St) : List IRes → Option (List Value)
  | [] => some []
  | r :: l => match evRes1 R S r with
    | some v => (evResL R S l).map (v :: ·)
    | none => none

def evRes (R : List Value) (S : St) (l : List IRes) : Option Value :=
  match evResL R S l with
  | some [v] => some v
  | some vs => some (.tuple vs.toArray)
  | none => none

/-- What a call leaves: the state, cut back where nothing new is referred to. -/
def leave (S S1 : St) (v : Value) : Value × St × Bool :=
  let n := S.blks.length
  if decide (n ≤ S1.wr) && refsLt n v then (v, S, true)
  else if decide (n ≤ S1.esc) && refsLt n v then (v, ⟨S1.blks.take n, min S.wr S1.wr, min S.esc S1.esc⟩, false)
  else (v, ⟨S1.blks, min S.wr S1.wr, min S.esc S1.esc⟩, decide (n ≤ S1.wr))

def evFun (prog : Nat → Option IFun) (C : CallS) : CallS := fun f args S =>
  match prog f with
  | none => none
  | some fn =>
    match evCode C fn.body (args ++ List.replicate (fn.ntmps - args.length) undef) ⟨S.blks, S.blks.length, S.blks.length⟩ with
    | some (.norm, R, S1) => (evRes R S1 fn.res).map fun v => leave S S1 v
    | some (.ret, R, S1) => (evRes R S1 fn.res).map fun v => leave S S1 v
    | _ => none

/-- Calls, so deep at most. -/
def calls (prog : Nat → Option IFun) : Nat → CallS
  | 0 => fun _ _ _ => none
  | n + 1 => evFun prog (calls prog n)

/-! ### How the compact form is made -/
def aggOf (P : Program) (t : TypeId) : Option Bool :=
  match P.underlying t with
  | none => none
  | some (.struct _) => some true
  | some (.array _ _) => some true
  | some _ => some false

def szOf (P : Program) (t : TypeId) : Option Nat := (P.info? t).map (·.size)
def zOf (P : Program) (t : TypeId) : Option Value := (P.info? t).bind (·.zero)

/-- Zero cells of a type: no references, each the value of one cell, as many as the type has. -/
def zsOf (P : Program) (t : TypeId) : Option (List Value) :=
  match zOf P t, szOf P t with
  | some z, some n => if refsLtL 0 z.cells.toList && z.cells.toList.all one && z.cells.size == n then some z.cells.toList else none
  | _, _ => none

def cIV (nG : Nat) : Operand → Option IV
  | .tmp t => some (.t t)
  | .const v => if refsLt 0 v then some (.c v) else none
  | .global g => if g < nG then some (.g g) else none
  | .func f => some (.c (.func (.func f) #[] #[]))

def cIVs (nG : Nat) : List Operand → Option (List IV)
  | [] => some []
  | x :: l => match cIV nG x, cIVs nG l with
    | some y, some r => some (y :: r)
    | _, _ => none

/-- A struct of integers and bools alone, one behind the other. -/
def plainK (P : Program) : List Field → Nat → Option (List (Option IntKind))
  | [], _ => some []
  | f :: l, i =>
    if f.offset = i ∧ f.name ≠ "_" then
      match P.underlying f.type, plainK P l (i + 1) with
      | some (.int k), some r => some (some k :: r)
      | some .bool, some r => some (none :: r)
      | _, _ => none
    else none

def eqOf (P : Program) (t : TypeId) : Option EqT :=
  match P.underlying t with
  | some (.int _) => some .int
  | some .bool => some .bool
  | some (.pointer _) => some .ptr
  | some (.slice _) => some .slice
  | some (.func _ _ _) => some .func
  | some (.map _ _) => some .map
  | some (.struct fs) => if P.stoodInHeld t = false ∧ P.eqGuardType P.depth t = false then (plainK P fs.toList 0).map .plain else none
  | _ => none

def cParts (P : Program) (nG : Nat) (place : Nat → Option (Nat × Nat)) : List (Nat × Operand) → Option (List (Nat × Nat × IV))
  | [] => some []
  | (i, x) :: l => match place i, cIV nG x, cParts P nG place l with
    | some (off, sz), some y, some r => some ((off, sz, y) :: r)
    | _, _, _ => none

def fieldPlaces (P : Program) : List Field → Option (List (Nat × Nat))
  | [] => some []
  | f :: l => match szOf P f.type, fieldPlaces P l with
    | some n, some r => some ((f.offset, n) :: r)
    | _, _ => none

def cOpt (nG : Nat) : Option Operand → Option (Option IV)
  | none => some none
  | some x => (cIV nG x).map some

def intKey (P : Program) (t : TypeId) : Bool :=
  match P.underlying t with
  | some (.int .i64) => true
  | _ => false

def cBuiltin (P : Program) (nG : Nat) (b : Builtin) (c : Call) : Option IOp :=
  match b, c.args.toList with
  | .len, [x] => match (c.argTypes[0]?).bind P.underlying, cIV nG x with
    | some (.slice _), some y => some (.lenS y)
    | some (.map _ _), some y => some (.lenM y)
    | some (.array n _), some _ => some (.mv (.c (.int .i64 n)))
    | _, _ => none
  | .append, [s, x] => match (c.argTypes[0]?).bind P.underlying, cIV nG s, cIV nG x with
    | some (.slice e), some s, some x =>
      match P.info? e, zsOf P e, ((c.argTypes[1]?).bind P.underlying) with
      | some i, some _, some (.slice _) => some (.append e i.size i.bytes s x)
      | _, _, _ => none
    | _, _, _ => none
  | .max, x :: l => match cIV nG x, cIVs nG l with
    | some y, some r => some (.minmax true y r)
    | _, _ => none
  | .min, x :: l => match cIV nG x, cIVs nG l with
    | some y, some r => some (.minmax false y r)
    | _, _ => none
  | .delete, [m, k] => match (c.argTypes[0]?).bind P.underlying, cIV nG m, cIV nG k with
    | some (.map key _), some m, some k => if intKey P key then some (.delete m k) else none
    | _, _, _ => none
  | _, _ => none

def cOp (P : Program) (nG : Nat) (Q : FuncId → Bool) : Op → Option IOp
  | .move x => (cIV nG x).map .mv
  | .assign x => (cIV nG x).map .mv
  | .pick c a b => match cIV nG c, cIV nG a, cIV nG b with
    | some c, some a, some b => some (.pick c a b)
    | _, _, _ => none
  | .alloc e => (zsOf P e).map (.new e)
  | .box e x => match szOf P e, cIV nG x with
    | some n, some x => some (.box e n x)
    | _, _ => none
  | .build t parts => match zsOf P t, P.underlying t with
    | some zs, some (.struct fs) => match fieldPlaces P fs.toList with
      | some pl => (cParts P nG (fun i => pl[i]?) parts.toList).map (.build zs)
      | none => none
    | some zs, some (.array _ e) => match szOf P e with
      | some n => (cParts P nG (fun i => some (i * n, n)) parts.toList).map (.build zs)
      | none => none
    | _, _ => none
  | .buildSlice t len parts => match P.underlying t with
    | some (.slice e) => match szOf P e, zsOf P e with
      | some n, some zs =>
        if len * n ≤ 16777216 ∧ 0 < n then (cParts P nG (fun i => some (i * n, n)) parts.toList).map (.buildSlice e (List.flatten (List.replicate len zs)) len) else none
      | _, _ => none
    | _ => none
  | .insert t m k v => match P.underlying t, cIV nG m, cIV nG k, cIV nG v with
    | some (.map key _), some m, some k, some v => if intKey P key then some (.mapSet m k v) else none
    | _, _, _, _ => none
  | .mapUpdate t m k v => match P.underlying t, cIV nG m, cIV nG k, cIV nG v with
    | some (.map key _), some m, some k, some v => if intKey P key then some (.mapSet m k v) else none
    | _, _, _, _ => none
  | .load t x => match aggOf P t, szOf P t, cIV nG x with
    | some a, some n, some x => some (.load a n x)
    | _, _, _ => none
  | .store t x v => match szOf P t, cIV nG x, cIV nG v with
    | some n, some x, some v => some (.store n x v)
    | _, _, _ => none
  | .nilCheck x => (cIV nG x).map .nilCheck
  | .binOp op t x y _ => match eqOf P t, cIV nG x, cIV nG y with
    | some e, some x, some y => some (.bin op e x y)
    | _, _, _ => none
  | .unOp op _ x => (cIV nG x).map (.un op)
  | .convert src dst x => match P.underlying src, P.underlying dst, cIV nG x with
    | some _, some (.int k), some x => some (.conv k x)
    | _, _, _ => none
  | .makeFunc (.func f) first captured => match cIVs nG first.toList, cIVs nG captured.toList with
    | some a, some b => some (.mkFunc f a b)
    | _, _ => none
  | .makeMap _ none => some .mkMap
  | .makeSlice t l c => match P.underlying t, cIV nG l, cIV nG c with
    | some (.slice e), some l, some c => match P.info? e, zsOf P e with
      | some i, some [z] => some (.mkSlice e z i.bytes l c)
      | _, _ => none
    | _, _, _ => none
  | .slice t x lo hi mx => match P.underlying t, cIV nG x, cOpt nG lo, cOpt nG hi, cOpt nG mx with
    | some (.slice e), some x, some lo, some hi, some mx => if szOf P e = some 1 then some (.slice e x lo hi mx) else none
    | _, _, _, _, _ => none
  | .fieldAddr s x f => match P.underlying s, cIV nG x with
    | some (.struct fs), some x => match fs[f]? with
      | some fd => match szOf P fd.type with
        | some (_ + 1) => some (.addOff fd.offset x)
        | _ => none
      | none => none
    | _, _ => none
  | .field t x f => match P.underlying t, cIV nG x with
    | some (.struct fs), some x => match fs[f]? with
      | some fd => match aggOf P fd.type, szOf P fd.type with
        | some a, some n => some (.field a fd.offset n x)
        | _, _ => none
      | none => none
    | _, _ => none
  | .indexAddr t x i => match P.underlying t, cIV nG x, cIV nG i with
    | some (.slice e), some x, some i => (szOf P e).map fun n => .idxS n x i
    | some (.array len e), some x, some i => (szOf P e).map fun n => .idxA len n x i
    | _, _, _ => none
  | .index t x i => match P.underlying t, cIV nG x, cIV nG i with
    | some (.array len e), some x, some i => match aggOf P e, szOf P e with
      | some a, some n => some (.idxV len a n x i)
      | _, _ => none
    | _, _, _ => none
  | .lookup t m k ok => match P.underlying t, cIV nG m, cIV nG k with
    | some (.map key e), some m, some k => match zOf P e with
      | some z => if intKey P key ∧ refsLt 0 z = true then some (.lookup z ok m k) else none
      | none => none
    | _, _, _ => none
  | .extract x i => (cIV nG x).map fun x => .extract x i
  | .call c => match c.callee with
    | .value f => match cIV nG f, cIVs nG c.args.toList with
      | some f', some args => some (.call f' args (match f with | .func n => Q n | _ => false))
      | _, _ => none
    | .builtin b => cBuiltin P nG b c
    | .invoke _ _ => none
  | _ => none

/-- The bits of all (by their numbers) that must come ahead of an operation; 'done': of those that stand ahead of it in the order that is looked at. -/
def bitsOf (done : List (Nat × Nat)) (j : Nat) : Nat :=
  match done with
  | [] => 0
  | (i, b) :: l => if i = j then b else bitsOf l j

def aheadOf (done : List (Nat × Nat)) : List Edge → Nat
  | [] => 0
  | e :: l => if Region.binds .any e then aheadOf done l ||| ((1 <<< e.on) ||| bitsOf done e.on) else aheadOf done l

def aheads (ops : Array Oper) : List Nat → List (Nat × Nat) → List (Nat × Nat)
  | [], done => done
  | i :: l, done => aheads ops l (done ++ [(i, match ops[i]? with | some o => aheadOf done o.after.toList | none => 0)])

/-- Every edge leads to something that stands ahead. -/
def edgesBack (ops : Array Oper) : List Nat → List Nat → Bool
  | [], _ => true
  | i :: l, done => (match ops[i]? with
    | some o => o.after.toList.all fun e => !Region.binds .any e || done.contains e.on
    | none => false) && edgesBack ops l (done ++ [i])

def mayPart : Kd → Kd → Bool
  | .P, _ => true
  | _, .P => true
  | .L, .L => true
  | .L, .A => true
  | .A, .L => true
  | .L, .N => true
  | .N, .L => true
  | .L, .Z => true
  | .Z, .L => true
  | .A, .A => true
  | .N, .A => true
  | .Z, .A => true
  | _, _ => false

def IV.ts : IV → List Nat
  | .t n => [n]
  | _ => []

def IOp.ivs : IOp → List IV
  | .mv x => [x]
  | .pick c a b => [c, a, b]
  | .new _ _ => []
  | .box _ _ x => [x]
  | .build _ ps => ps.map fun p => p.2.2
  | .buildSlice _ _ _ ps => ps.map fun p => p.2.2
  | .load _ _ x => [x]
  | .store _ x v => [x, v]
  | .nilCheck x => [x]
  | .bin _ _ x y => [x, y]
  | .un _ x => [x]
  | .conv _ x => [x]
  | .mkFunc _ f c => f ++ c
  | .mkMap => []
  | .mkSlice _ _ _ l c => [l, c]
  | .slice _ x lo hi mx => x :: (lo.toList ++ (hi.toList ++ mx.toList))
  | .addOff _ x => [x]
  | .field _ _ _ x => [x]
  | .idxS _ x i => [x, i]
  | .idxA _ _ x i => [x, i]
  | .idxV _ _ _ x i => [x, i]
  | .lookup _ _ m k => [m, k]
  | .mapSet m k v => [m, k, v]
  | .extract x _ => [x]
  | .call f args _ => f :: args
  | .lenS x => [x]
  | .lenM x => [x]
  | .append _ _ _ s x => [s, x]
  | .minmax _ x xs => x :: xs
  | .delete m k => [m, k]

/-- The temporaries that an operation looks at. -/
def IOper.names (o : IOper) : List Nat :=
  o.op.ivs.flatMap IV.ts ++ (match o.guard with | some (t, _) => [t] | none => [])

def apartI (a b : IOper) : Bool :=
  (match a.dst with | some d => !b.names.contains d && b.dst != some d | none => true) &&
  (match b.dst with | some d => !a.names.contains d | none => true)

/-- A reader at place i, a writer at place k behind it: may the reader be asked again behind the writer? -/
def askAgain (io : List IOper) (i k : Nat) : Bool :=
  match io[i]? with
  | some o => (match o.dst with | some d => !o.names.contains d | none => false) && ((List.range (k + 1)).all fun m => decide (m ≤ i) || match io[m]? with
    | some u => (match u.dst with | some d => !o.names.contains d && o.dst != some d | none => true)
    | none => true)
  | none => false

/-- What is to be looked at again, of two that may come in either order. -/
def again (io : List IOper) (i k : Nat) (a b : IOper) : Bool :=
  match kd a.op, kd b.op with
  | .L, .Z => b.post.contains i && askAgain io i k
  | .Z, .L => b.pre.contains i && a.snap
  | _, _ => true

/-- Of any two, one must wait for the other, or they are apart. -/
def apartAll (io : List IOper) (ord : List Nat) (ah : List (Nat × Nat)) : Bool :=
  (List.range ord.length).all fun k => (List.range k).all fun i =>
    match ord[i]?, ord[k]? with
    | some x, some y => x != y && ((bitsOf ah y).testBit x ||
      (match io[i]?, io[k]? with
       | some a, some b => apartI a b && mayPart (kd a.op) (kd b.op) && again io i k a b
       | _, _ => false))
    | _, _ => false

def okDraw (ops : Array Oper) (io : List IOper) (ord : List Nat) : Bool :=
  ord.length == ops.size && io.length == ops.size && (List.range ops.size).all (fun i => ord.contains i) &&
  edgesBack ops ord [] && apartAll io ord (aheads ops ord [])

/-- The looks again that are wanted. -/
def withLooks (io : List IOper) (ord : List Nat) (ah : List (Nat × Nat)) : List IOper :=
  let free (i k : Nat) : Bool := match ord[i]?, ord[k]? with
    | some x, some y => !(bitsOf ah y).testBit x
    | _, _ => false
  let kind (i : Nat) : Kd := match io[i]? with | some o => kd o.op | none => .P
  (List.range io.length).filterMap fun k => match io[k]? with
    | none => none
    | some o => some { o with
        pre := if kd o.op = .L then (List.range k).filter fun i => kind i = .Z && free i k else []
        post := if kd o.op = .Z then (List.range k).filter fun i => kind i = .L && free i k else []
        snap := kd o.op = .Z && (List.range io.length).any fun j => decide (k < j) && (kind j = .L) && free k j }

/-- An order in which new blocks are made late. -/
def late (ops : Array Oper) (io : List IOper) : Nat → List Nat → List Nat
  | 0, done => done
  | n + 1, done =>
    let may := (List.range ops.size).filter fun i => !done.contains i &&
      (match ops[i]? with | some o => o.after.toList.all (fun e => !Region.binds .any e || done.contains e.on) | none => false)
    let quick := may.filter fun i => match io[i]? with | some o => kd o.op != .A | none => false
    match quick, may with
    | i :: _, _ => late ops io n (done ++ [i])
    | [], i :: _ => late ops io n (done ++ [i])
    | [], [] => done

/-- The operations of a region in the order in which the evaluator takes them. -/
def inOrder (ops : Array Oper) (io : List IOper) (draw : Bool) : Option (List IOper) :=
  if !draw then some io
  else
    let ord := List.range ops.size
    let io1 := withLooks io ord (aheads ops ord [])
    if okDraw ops io1 ord then some io1
    else
      let ord := late ops io ops.size []
      let io2 := withLooks (ord.filterMap (io[·]?)) ord (aheads ops ord [])
      if okDraw ops io2 ord then some io2 else none

def cGuard (ops : Array Oper) : Option (Nat × Bool) → Option (Option (Nat × Bool))
  | none => some none
  | some (j, w) => match (ops[j]?).bind (·.dst) with
    | some t => some (some (t, w))
    | none => none

def cOper (P : Program) (nG : Nat) (Q : FuncId → Bool) (ops : Array Oper) (o : Oper) : Option IOper :=
  match cOp P nG Q o.op, cGuard ops o.guard with
  | some op, some g => some { dst := o.dst, op := op, guard := g }
  | _, _ => none

def cOpers (P : Program) (nG : Nat) (Q : FuncId → Bool) (ops : Array Oper) : List Oper → Option (List IOper)
  | [] => some []
  | o :: l => match cOper P nG Q ops o, cOpers P nG Q ops l with
    | some x, some r => some (x :: r)
    | _, _ => none

def cCode (P : Program) (nG : Nat) (Q : FuncId → Bool) : Code → Option ICode
  | .skip => some .skip
  | .region _ ops draw => match cOpers P nG Q ops ops.toList with
    | some io => (inOrder ops io draw).map .region
    | none => none
  | .seq a b => match cCode P nG Q a, cCode P nG Q b with
    | some a, some b => some (.seq a b)
    | _, _ => none
  | .cond c a b => match cIV nG c, cCode P nG Q a, cCode P nG Q b with
    | some c, some a, some b => some (.cond c a b)
    | _, _, _ => none
  | .block id b => (cCode P nG Q b).map (.block id)
  | .loop b => (cCode P nG Q b).map .loop
  | .exit id => some (.exit id)
  | .scope b => cCode P nG Q b
  | .label _ => some .skip
  | .ret => some .ret
  | _ => none

def cRes (P : Program) : ResultVar → Option IRes
  | .tmp t => some (.tmp t)
  | .cell a t => match aggOf P t, szOf P t with
    | some g, some n => some (.cell a g n)
    | _, _ => none

def cResL (P : Program) : List ResultVar → Option (List IRes)
  | [] => some []
  | r :: l => match cRes P r, cResL P l with
    | some x, some y => some (x :: y)
    | _, _ => none

def cFun (P : Program) (nG : Nat) (Q : FuncId → Bool) (fn : Func) : Option IFun :=
  match fn.body with
  | none => none
  | some b => match cCode P nG Q b, cResL P fn.results.toList with
    | some b, some r => if fn.name ≠ "runtime.NumGoroutine" then some ⟨fn.ntmps, b, r⟩ else none
    | _, _ => none

end Go.Proofs.YtepddcemoofmlaaGreat.AE
