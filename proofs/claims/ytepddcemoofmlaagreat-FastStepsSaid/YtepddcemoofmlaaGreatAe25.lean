/- Each kind of step as a function of its own, over a reading of the temporaries (written by program out of Ae1's text). -/
import Derived.Test.YtepddcemoofmlaaGreatAe24
import Derived.KernelRfl
namespace Go.Proofs.YtepddcemoofmlaaGreat.AE
open Go

def fIadd (k : IntKind) (a b : Int) : Option Value := some (.int k (k.wrap (a + b)))
def fIsub (k : IntKind) (a b : Int) : Option Value := some (.int k (k.wrap (a - b)))
def fImul (k : IntKind) (a b : Int) : Option Value := some (.int k (k.wrap (a * b)))
def fIquo (k : IntKind) (a b : Int) : Option Value := if b = 0 then none else some (.int k (k.wrap (a.tdiv b)))
def fIrem (k : IntKind) (a b : Int) : Option Value := if b = 0 then none else some (.int k (a.tmod b))
def fIand (k : IntKind) (a b : Int) : Option Value := some (.int k (k.wrap (BitVec.ofInt k.bits a &&& BitVec.ofInt k.bits b).toNat))
def fIor (k : IntKind) (a b : Int) : Option Value := some (.int k (k.wrap (BitVec.ofInt k.bits a ||| BitVec.ofInt k.bits b).toNat))
def fIxor (k : IntKind) (a b : Int) : Option Value := some (.int k (k.wrap (BitVec.ofInt k.bits a ^^^ BitVec.ofInt k.bits b).toNat))
def fIandNot (k : IntKind) (a b : Int) : Option Value := some (.int k (k.wrap (BitVec.ofInt k.bits a &&& ~~~ BitVec.ofInt k.bits b).toNat))
def fIeql (_k : IntKind) (a b : Int) : Option Value := some (.bool (a == b))
def fIneq (_k : IntKind) (a b : Int) : Option Value := some (.bool (a != b))
def fIlss (_k : IntKind) (a b : Int) : Option Value := some (.bool (decide (a < b)))
def fIleq (_k : IntKind) (a b : Int) : Option Value := some (.bool (decide (a ≤ b)))
def fIgtr (_k : IntKind) (a b : Int) : Option Value := some (.bool (decide (a > b)))
def fIgeq (_k : IntKind) (a b : Int) : Option Value := some (.bool (decide (a ≥ b)))
def fInone (_k : IntKind) (_a _b : Int) : Option Value := none

noncomputable def fIntOp (op : BinOp) (k : IntKind) (a b : Int) : Option Value :=
  BinOp.rec (motive := fun _ => IntKind → Int → Int → Option Value) fIadd fIsub fImul fIquo fIrem fIand fIor fIxor fInone fInone fIandNot fIeql fIneq fIlss fIleq fIgtr fIgeq op k a b

def fSame (k k' : IntKind) (x : Option Value) : Option Value := if k = k' then x else none

noncomputable def fII (op : BinOp) (k k' : IntKind) (a b : Int) : Option Value :=
  BinOp.rec (motive := fun _ => Option Value) (fSame k k' (fIadd k a b)) (fSame k k' (fIsub k a b)) (fSame k k' (fImul k a b)) (fSame k k' (fIquo k a b)) (fSame k k' (fIrem k a b)) (fSame k k' (fIand k a b)) (fSame k k' (fIor k a b)) (fSame k k' (fIxor k a b))
    (evShift .shl k a b) (evShift .shr k a b) (fSame k k' (fIandNot k a b)) (fSame k k' (fIeql k a b)) (fSame k k' (fIneq k a b)) (fSame k k' (fIlss k a b)) (fSame k k' (fIleq k a b)) (fSame k k' (fIgtr k a b)) (fSame k k' (fIgeq k a b)) op

def fOther (op : BinOp) (t : EqT) (x y : Value) : Option Value :=
  match op with
    | .eql => (evEq t x y).map Value.bool
    | .neq => (evEq t x y).map fun b => Value.bool (!b)
    | _ => none

noncomputable def fBin (op : BinOp) (t : EqT) (x y : Value) : Option Value :=
  match x, y with
  | .int k a, .int k' b => fII op k k' a b
  | x, y => fOther op t x y

theorem fBin_eq (op : BinOp) (t : EqT) (x y : Value) : fBin op t x y = evBin op t x y := by
  unfold fBin evBin
  split
  · cases op <;> rfl
  · rename_i x y hno
    split
    · rename_i k a k' b
      exact absurd rfl (hno k a k' b rfl)
    · rfl

noncomputable def IV.evG (g : Nat → Value) (x : IV) : Value :=
  IV.rec (motive := fun _ => Value) (fun n => g n) (fun v => v) (fun b => .pointer (some ⟨b, 0, none⟩)) x

noncomputable def gMv0 (g : Nat → Value) (x : IV) : Option Value := some (x.evG g)

noncomputable def gMv (g : Nat → Value) (S : St) (x : IV) : Option (Value × St) := (gMv0 g x).map (·, S)

noncomputable def gPick0 (g : Nat → Value) (c : IV) (a : IV) (b : IV) : Option Value := match c.evG g with
    | .bool true => some (a.evG g)
    | .bool false => some (b.evG g)
    | _ => none

noncomputable def gPick (g : Nat → Value) (S : St) (c : IV) (a : IV) (b : IV) : Option (Value × St) := (gPick0 g c a b).map (·, S)

noncomputable def gNew0 (_g : Nat → Value) (e : TypeId) (zs : List Value) : Option (AObj × (Nat → Value)) := some (.cells e zs, fun b => .pointer (some ⟨b, 0, none⟩))

noncomputable def gNew (g : Nat → Value) (S : St) (e : TypeId) (zs : List Value) : Option (Value × St) := (gNew0 g e zs).map fun p => (p.2 S.blks.length, S.push p.1)

noncomputable def gBox0 (g : Nat → Value) (e : TypeId) (n : Nat) (x : IV) : Option (AObj × (Nat → Value)) :=
    let vs := (x.evG g).cells.toList
    if vs.length = n ∧ vs.all one = true then some (.cells e vs, fun b => .pointer (some ⟨b, 0, none⟩)) else none

noncomputable def gBox (g : Nat → Value) (S : St) (e : TypeId) (n : Nat) (x : IV) : Option (Value × St) := (gBox0 g e n x).map fun p => (p.2 S.blks.length, S.push p.1)

noncomputable def gBuild0 (g : Nat → Value) (zs : List Value) (ps : List (Nat × Nat × IV)) : Option Value := (evFill (ps.map fun p => (p.1, p.2.1, p.2.2.evG g)) zs).map fun cs => .agg cs.toArray

noncomputable def gBuild (g : Nat → Value) (S : St) (zs : List Value) (ps : List (Nat × Nat × IV)) : Option (Value × St) := (gBuild0 g zs ps).map (·, S)

noncomputable def gBuildSlice0 (g : Nat → Value) (e : TypeId) (zs : List Value) (len : Nat) (ps : List (Nat × Nat × IV)) : Option (AObj × (Nat → Value)) := match evFill (ps.map fun p => (p.1, p.2.1, p.2.2.evG g)) zs with
    | some cs => if cs.all one = true then some (.cells e cs, fun b => .slice (some ⟨b, 0, none⟩) len 0) else none
    | none => none

noncomputable def gBuildSlice (g : Nat → Value) (S : St) (e : TypeId) (zs : List Value) (len : Nat) (ps : List (Nat × Nat × IV)) : Option (Value × St) := (gBuildSlice0 g e zs len ps).map fun p => (p.2 S.blks.length, S.push p.1)

noncomputable def gLoad0 (g : Nat → Value) (m : Nat → Option AObj) (agg : Bool) (n : Nat) (x : IV) : Option Value := match x.evG g with
    | .pointer (some a) => match cellsAt m a.block with
      | some c => cut agg n a.off c
      | none => none
    | _ => none

noncomputable def gLoad (g : Nat → Value) (S : St) (agg : Bool) (n : Nat) (x : IV) : Option (Value × St) := (gLoad0 g (S.blks[·]?) agg n x).map (·, S)

noncomputable def gStore (g : Nat → Value) (S : St) (n : Nat) (x : IV) (v : IV) : Option (Value × St) := match x.evG g with
    | .pointer (some a) => match S.blks[a.block]? with
      | some (.cells e c) =>
        match (v.evG g).cells.toList with
        | [u] => if n = 1 ∧ one u = true ∧ a.off < c.length then some (undef, S.wrote a.block (.cells e (c.set a.off u)) (v.evG g)) else none
        | vs => if vs.length = n ∧ vs.all one = true ∧ a.off + n ≤ c.length then
            some (undef, S.wrote a.block (.cells e (c.take a.off ++ (vs ++ c.drop (a.off + n)))) (v.evG g)) else none
      | _ => none
    | _ => none

noncomputable def gNilCheck0 (g : Nat → Value) (x : IV) : Option Value := match x.evG g with
    | .pointer (some a) => some (.pointer (some a))
    | .func (.func f) first captured => some (.func (.func f) first captured)
    | .slice a n c => some (.slice a n c)
    | .map r => some (.map r)
    | _ => none

noncomputable def gNilCheck (g : Nat → Value) (S : St) (x : IV) : Option (Value × St) := (gNilCheck0 g x).map (·, S)

noncomputable def gBin0 (g : Nat → Value) (op : BinOp) (t : EqT) (x : IV) (y : IV) : Option Value := fBin op t (x.evG g) (y.evG g)

noncomputable def gBin (g : Nat → Value) (S : St) (op : BinOp) (t : EqT) (x : IV) (y : IV) : Option (Value × St) := (gBin0 g op t x y).map (·, S)

noncomputable def gUn0 (g : Nat → Value) (op : UnOp) (x : IV) : Option Value := evUn op (x.evG g)

noncomputable def gUn (g : Nat → Value) (S : St) (op : UnOp) (x : IV) : Option (Value × St) := (gUn0 g op x).map (·, S)

noncomputable def gConv0 (g : Nat → Value) (k : IntKind) (x : IV) : Option Value := match x.evG g with
    | .int _ n => some (.int k (k.wrap n))
    | _ => none

noncomputable def gConv (g : Nat → Value) (S : St) (k : IntKind) (x : IV) : Option (Value × St) := (gConv0 g k x).map (·, S)

noncomputable def gMkFunc0 (g : Nat → Value) (f : FuncId) (first : List IV) (captured : List IV) : Option Value := some (.func (.func f) (first.map (IV.evG g)).toArray (captured.map (IV.evG g)).toArray)

noncomputable def gMkFunc (g : Nat → Value) (S : St) (f : FuncId) (first : List IV) (captured : List IV) : Option (Value × St) := (gMkFunc0 g f first captured).map (·, S)

noncomputable def gMkMap0 (_g : Nat → Value)  : Option (AObj × (Nat → Value)) := some (.amap [], fun b => .map (some b))

noncomputable def gMkMap (g : Nat → Value) (S : St)  : Option (Value × St) := (gMkMap0 g).map fun p => (p.2 S.blks.length, S.push p.1)

noncomputable def gMkSlice0 (g : Nat → Value) (e : TypeId) (z : Value) (bytes : Nat) (l : IV) (c : IV) : Option (AObj × (Nat → Value)) := match l.evG g, c.evG g with
    | .int .i64 n, .int .i64 m => if n = m ∧ 0 ≤ n ∧ n ≤ 1000000000000000 ∧ (bytes : Int) * n ≤ 281474976710656 then some (.cells e (List.replicate n.toNat z), fun b => .slice (some ⟨b, 0, none⟩) n.toNat 0) else none
    | _, _ => none

noncomputable def gMkSlice (g : Nat → Value) (S : St) (e : TypeId) (z : Value) (bytes : Nat) (l : IV) (c : IV) : Option (Value × St) := (gMkSlice0 g e z bytes l c).map fun p => (p.2 S.blks.length, S.push p.1)

noncomputable def gSlice0 (g : Nat → Value) (m : Nat → Option AObj) (e : TypeId) (x : IV) (lo : Option IV) (hi : Option IV) (mx : Option IV) : Option Value := evSlice m e (x.evG g) (lo.map (IV.evG g)) (hi.map (IV.evG g)) (mx.map (IV.evG g))

noncomputable def gSlice (g : Nat → Value) (S : St) (e : TypeId) (x : IV) (lo : Option IV) (hi : Option IV) (mx : Option IV) : Option (Value × St) := (gSlice0 g (S.blks[·]?) e x lo hi mx).map (·, S)

noncomputable def gAddOff0 (g : Nat → Value) (off : Nat) (x : IV) : Option Value := match x.evG g with
    | .pointer (some a) => some (.pointer (some ⟨a.block, a.off + off, none⟩))
    | _ => none

noncomputable def gAddOff (g : Nat → Value) (S : St) (off : Nat) (x : IV) : Option (Value × St) := (gAddOff0 g off x).map (·, S)

noncomputable def gField0 (g : Nat → Value) (agg : Bool) (off : Nat) (n : Nat) (x : IV) : Option Value := match x.evG g with
    | .agg cs => cut agg n off cs.toList
    | _ => none

noncomputable def gField (g : Nat → Value) (S : St) (agg : Bool) (off : Nat) (n : Nat) (x : IV) : Option (Value × St) := (gField0 g agg off n x).map (·, S)

noncomputable def gIdxS0 (g : Nat → Value) (sz : Nat) (x : IV) (i : IV) : Option Value := match x.evG g with
    | .slice (some a) len _ => nth (x.evG g) len sz (i.evG g) a
    | _ => none

noncomputable def gIdxS (g : Nat → Value) (S : St) (sz : Nat) (x : IV) (i : IV) : Option (Value × St) := (gIdxS0 g sz x i).map (·, S)

noncomputable def gIdxA0 (g : Nat → Value) (len : Nat) (sz : Nat) (x : IV) (i : IV) : Option Value := match x.evG g with
    | .pointer (some a) => nth (x.evG g) len sz (i.evG g) a
    | _ => none

noncomputable def gIdxA (g : Nat → Value) (S : St) (len : Nat) (sz : Nat) (x : IV) (i : IV) : Option (Value × St) := (gIdxA0 g len sz x i).map (·, S)

noncomputable def gIdxV0 (g : Nat → Value) (len : Nat) (agg : Bool) (sz : Nat) (x : IV) (i : IV) : Option Value := match x.evG g, i.evG g with
    | .agg cs, .int _ n => if 0 ≤ n ∧ n < (len : Int) then cut agg sz (n.toNat * sz) cs.toList else none
    | _, _ => none

noncomputable def gIdxV (g : Nat → Value) (S : St) (len : Nat) (agg : Bool) (sz : Nat) (x : IV) (i : IV) : Option (Value × St) := (gIdxV0 g len agg sz x i).map (·, S)

noncomputable def gLookup0 (g : Nat → Value) (m : Nat → Option AObj) (z : Value) (ok : Bool) (mp : IV) (k : IV) : Option Value := match mp.evG g, k.evG g with
    | .map none, .int .i64 _ => some (if ok then .tuple #[z, .bool false] else z)
    | .map (some r), .int .i64 k => match m r with
      | some (.amap es) => match findM k es with
        | some v => some (if ok then .tuple #[v, .bool true] else v)
        | none => some (if ok then .tuple #[z, .bool false] else z)
      | _ => none
    | _, _ => none

noncomputable def gLookup (g : Nat → Value) (S : St) (z : Value) (ok : Bool) (mp : IV) (k : IV) : Option (Value × St) := (gLookup0 g (S.blks[·]?) z ok mp k).map (·, S)

noncomputable def gMapSet (g : Nat → Value) (S : St) (m : IV) (k : IV) (v : IV) : Option (Value × St) := match m.evG g, k.evG g with
    | .map (some r), .int .i64 k => match S.blks[r]? with
      | some (.amap es) => some (undef, S.wrote r (.amap (setM k (v.evG g) es)) (v.evG g))
      | _ => none
    | _, _ => none

noncomputable def gExtract0 (g : Nat → Value) (x : IV) (i : Nat) : Option Value := match x.evG g with
    | .tuple vs => vs.toList[i]?
    | _ => none

noncomputable def gExtract (g : Nat → Value) (S : St) (x : IV) (i : Nat) : Option (Value × St) := (gExtract0 g x i).map (·, S)

noncomputable def gCall (C : CallS) (g : Nat → Value) (S : St) (f : IV) (args : List IV) (q : Bool) : Option (Value × St) :=
  match f.evG g with
    | .func (.func fid) first captured =>
      match C fid (first.toList ++ (args.map (IV.evG g) ++ captured.toList)) S with
      | some (v, S', q') => if q && !q' then none else some (v, S')
      | none => none
    | _ => none

noncomputable def gLenS0 (g : Nat → Value) (x : IV) : Option Value := match x.evG g with
    | .slice _ n _ => some (.int .i64 n)
    | _ => none

noncomputable def gLenS (g : Nat → Value) (S : St) (x : IV) : Option (Value × St) := (gLenS0 g x).map (·, S)

noncomputable def gLenM0 (g : Nat → Value) (m : Nat → Option AObj) (x : IV) : Option Value := match x.evG g with
    | .map none => some (.int .i64 0)
    | .map (some r) => match m r with
      | some (.amap es) => some (.int .i64 es.length)
      | _ => none
    | _ => none

noncomputable def gLenM (g : Nat → Value) (S : St) (x : IV) : Option (Value × St) := (gLenM0 g (S.blks[·]?) x).map (·, S)

noncomputable def gAppend (g : Nat → Value) (S : St) (e : TypeId) (sz : Nat) (bytes : Nat) (s : IV) (x : IV) : Option (Value × St) := match rowOf (S.blks[·]?) sz (x.evG g) with
    | none => none
    | some (n, xs) => match s.evG g with
      | .slice none 0 0 =>
        if n = 0 then some (.slice none 0 0, S)
        else if (2 * n + 768) * bytes ≤ 281474976710656 ∧ n ≤ 1000000000000000 then some (.slice (some ⟨S.blks.length, 0, none⟩) n 0, S.push (.cells e xs)) else none
      | .slice (some a) len 0 => match S.blks[a.block]? with
        | some (.cells e' c) =>
          if e' = e ∧ a.off = 0 ∧ c.length = len * sz ∧ 0 < sz then
            if n = 0 then some (.slice (some a) len 0, S)
            else if (2 * (len + n) + 768) * bytes ≤ 281474976710656 ∧ len + n ≤ 1000000000000000 then
              some (.slice (some ⟨S.blks.length, 0, none⟩) (len + n) 0, ⟨S.blks.set a.block .dead ++ [.cells e (c ++ xs)], min S.wr a.block, S.esc⟩)
            else none
          else none
        | _ => none
      | .slice (some a) 0 1 =>
        if n = 0 then some (.slice (some a) 0 1, S)
        else if (2 * n + 768) * bytes ≤ 281474976710656 ∧ n ≤ 1000000000000000 then some (.slice (some ⟨S.blks.length, 0, none⟩) n 0, S.push (.cells e xs)) else none
      | _ => none

noncomputable def gMinmax0 (g : Nat → Value) (mx : Bool) (x : IV) (xs : List IV) : Option Value := match x.evG g with
    | .int k n => evMin mx (.int k n) (xs.map (IV.evG g))
    | _ => none

noncomputable def gMinmax (g : Nat → Value) (S : St) (mx : Bool) (x : IV) (xs : List IV) : Option (Value × St) := (gMinmax0 g mx x xs).map (·, S)

noncomputable def gDelete (g : Nat → Value) (S : St) (m : IV) (k : IV) : Option (Value × St) := match m.evG g, k.evG g with
    | .map none, .int .i64 _ => some (.tuple #[], S)
    | .map (some r), .int .i64 k => match S.blks[r]? with
      | some (.amap es) => some (.tuple #[], S.wrote r (.amap (delM k es)) (.tuple #[]))
      | _ => none
    | _, _ => none

/-- A step. -/
noncomputable def gOp (C : CallS) (g : Nat → Value) (S : St) (o : IOp) : Option (Value × St) :=
  IOp.rec (motive := fun _ => Option (Value × St)) (gMv g S) (gPick g S) (gNew g S) (gBox g S) (gBuild g S) (gBuildSlice g S) (gLoad g S) (gStore g S) (gNilCheck g S) (gBin g S) (gUn g S) (gConv g S) (gMkFunc g S) (gMkMap g S) (gMkSlice g S) (gSlice g S) (gAddOff g S) (gField g S) (gIdxS g S) (gIdxA g S) (gIdxV g S) (gLookup g S) (gMapSet g S) (gExtract g S) (gCall C g S) (gLenS g S) (gLenM g S) (gAppend g S) (gMinmax g S) (gDelete g S) o

theorem gOp_eq (C : CallS) {g : Nat → Value} {R : List Value} (hg : g = fun n => R.getD n undef) (S : St) (o : IOp) : gOp C g S o = evOp C R S o := by
  have he : IV.evG g = IV.ev R := by
    funext x
    subst hg
    cases x <;> rfl
  cases o with
  | bin op t x y =>
    show (fBin op t (x.evG g) (y.evG g)).map _ = (evBin op t (x.ev R) (y.ev R)).map _
    rw [he, fBin_eq]
  | _ => subst hg; show gOp C (fun n => R.getD n undef) S _ = evOp C R S _; kernel_rfl

/-- What a code comes to. -/
inductive FR where
  | no
  | norm (T : Tr) (S : St)
  | ret (T : Tr) (S : St)
  | exit (id : Nat) (T : Tr) (S : St)

abbrev FX := Tr → St → FR

def gWant (T : Tr → Nat → Value) (g : Option (Nat × Bool)) (R : Tr) : Bool :=
  match g with
  | none => true
  | some (t, w) => match T R t with
    | .bool b => b == w
    | _ => false

noncomputable def fPut (T : Tr) (d : Option Nat) (v : Value) : Tr :=
  match d with
  | some d => T.set d v
  | none => T

def toL (n : Nat) (T : Nat → Value) : List Value := (List.range n).map T

/-- The looks again: rare: by the list. -/
noncomputable def fPre (n : Nat) (pre : List Nat) (op : IOp) (H : List (Nat × St)) (T : Tr) (v : Value) : Bool :=
  match pre with
  | [] => true
  | p :: pre => preOk (p :: pre) op H (toL n T.get) v

noncomputable def fPost (n : Nat) (post : List Nat) (al : List IOper) (T : Tr) (S : St) : Bool :=
  match post with
  | [] => true
  | p :: post => postOk (p :: post) al (toL n T.get) S

def fHist (o : IOper) (p : Nat) (S : St) (H : List (Nat × St)) : List (Nat × St) := cond o.snap ((p, S) :: H) H

abbrev FO := Nat → List (Nat × St) → Tr → St → FR

noncomputable def fStep (n : Nat) (al : List IOper) (o : IOper) (k : FO) (p : Nat) (H : List (Nat × St)) (T : Tr) (S : St) (v : Value) (S' : St) : FR :=
  cond (fPre n o.pre o.op H T v && fPost n o.post al (fPut T o.dst v) S') (k (p + 1) (fHist o p S H) (fPut T o.dst v) S') .no

noncomputable def fTry (n : Nat) (al : List IOper) (o : IOper) (k : FO) (p : Nat) (H : List (Nat × St)) (T : Tr) (S : St) (r : Option (Value × St)) : FR :=
  match r with
  | some (v, S') => fStep n al o k p H T S v S'
  | none => .no

noncomputable def fOper (C : CallS) (n : Nat) (al : List IOper) (o : IOper) (k : FO) : FO := fun p H T S =>
  cond (gWant Tr.get o.guard T) (fTry n al o k p H T S (gOp C T.get S o.op)) (k (p + 1) H (fPut T o.dst undef) S)

noncomputable def fOps (C : CallS) (n : Nat) (al : List IOper) (l : List IOper) : FO :=
  List.rec (motive := fun _ => FO) (fun _ _ T S => .norm T S) (fun o _ k => fOper C n al o k) l

noncomputable def kRegion (C : CallS) (n : Nat) (l : List IOper) : FX := fun T S => fOps C n l l 0 [] T S
noncomputable def kSeq (a b : FX) : FX := fun T S => FR.rec (motive := fun _ => FR) .no b .ret .exit (a T S)
def kIf (x : Value) (a b : FR) : FR :=
  match x with
  | .bool t => cond t a b
  | _ => .no
noncomputable def kCond (x : IV) (a b : FX) : FX := fun T S => kIf (x.evG T.get) (a T S) (b T S)
noncomputable def kBlock (id : Nat) (b : FX) : FX := fun T S => FR.rec (motive := fun _ => FR) .no .norm .ret (fun id' T S => cond (Nat.beq id' id) (.norm T S) (.exit id' T S)) (b T S)
noncomputable def kLoop (b : FX) (n : Nat) : FX := Nat.rec (motive := fun _ => FX) (fun _ _ => .no) (fun _ k T S => FR.rec (motive := fun _ => FR) .no k .ret .exit (b T S)) n

noncomputable def fCode (C : CallS) (n : Nat) (c : ICode) : FX :=
  ICode.rec (motive := fun _ => FX) (fun T S => .norm T S) (fun l => kRegion C n l) (fun _ _ a b => kSeq a b) (fun x _ _ a b => kCond x a b) (fun id _ b => kBlock id b) (fun _ b => kLoop b rounds) (fun id T S => .exit id T S) (fun T S => .ret T S) c

def FRok : FR → Option (Out × List Value × St) → Prop
  | .no, _ => True
  | .norm T S, r => ∃ R, r = some (.norm, R, S) ∧ Like T R
  | .ret T S, r => ∃ R, r = some (.ret, R, S) ∧ Like T R
  | .exit id T S, r => ∃ R, r = some (.exit id, R, S) ∧ Like T R

theorem like_toL {T : Tr} {R : List Value} {n : Nat} (h : Like T R) (hn : R.length = n) : toL n T.get = R := by
  apply List.ext_getElem?
  intro m
  simp only [toL, List.getElem?_map]
  by_cases hm : m < n
  · simp only [List.getElem?_range hm, Option.map_some, h.get, List.getD_eq_getElem?_getD]
    rw [List.getElem?_eq_getElem (by omega)]; rfl
  · rw [List.getElem?_eq_none (by simpa using hm), List.getElem?_eq_none (by omega)]; rfl

theorem gWant_eq {T : Tr} {R : List Value} (h : Like T R) (g : Option (Nat × Bool)) : gWant Tr.get g T = wantedI g R := by
  unfold gWant wantedI
  cases g with
  | none => rfl
  | some x =>
    obtain ⟨t, w⟩ := x
    simp only [h.get, List.getD_eq_getElem?_getD]
    cases R[t]? with
    | none => rfl
    | some v => cases v <;> rfl

theorem like_put {T : Tr} {R : List Value} (h : Like T R) (d : Option Nat) (v : Value) : Like (fPut T d v) (put R d v) := by
  cases d with
  | none => exact h
  | some d => exact h.set d v

theorem fPre_eq {T : Tr} {R : List Value} {n : Nat} (h : Like T R) (hn : R.length = n) (pre : List Nat) (op : IOp) (H : List (Nat × St)) (v : Value) : fPre n pre op H T v = preOk pre op H R v := by
  cases pre with
  | nil => rfl
  | cons p pre => simp only [fPre, like_toL h hn]

theorem fPost_eq {T : Tr} {R : List Value} {n : Nat} (h : Like T R) (hn : R.length = n) (post : List Nat) (al : List IOper) (S : St) : fPost n post al T S = postOk post al R S := by
  cases post with
  | nil => rfl
  | cons p pre => simp only [fPost, like_toL h hn]

theorem fOps_ok {C : CallS} {n : Nat} {al : List IOper} : ∀ (l : List IOper) (p : Nat) (H : List (Nat × St)) {T : Tr} {R : List Value} {S : St}, Like T R → R.length = n →
    fOps C n al l p H T S = .no ∨ ∃ T' R' S', fOps C n al l p H T S = .norm T' S' ∧ evOps C al l p H R S = some (R', S') ∧ Like T' R' ∧ R'.length = n
  | [], p, H, T, R, S, h, hn => .inr ⟨T, R, S, rfl, rfl, h, hn⟩
  | o :: l, p, H, T, R, S, h, hn => by
    have e : fOps C n al (o :: l) p H T S = cond (gWant Tr.get o.guard T) (fTry n al o (fOps C n al l) p H T S (gOp C T.get S o.op)) (fOps C n al l (p + 1) H (fPut T o.dst undef) S) := rfl
    rw [e, gWant_eq h, gOp_eq C h.fn]
    simp only [evOps]
    cases hw : wantedI o.guard R with
    | false =>
      simp only [cond_false, Bool.false_eq_true, if_false]
      exact fOps_ok l (p + 1) H (like_put h o.dst undef) (by rw [put_len]; exact hn)
    | true =>
      simp only [cond_true, if_true]
      cases hv : evOp C R S o.op with
      | none => exact .inl rfl
      | some x =>
        obtain ⟨v, S'⟩ := x
        have e2 : fTry n al o (fOps C n al l) p H T S (some (v, S')) = cond (fPre n o.pre o.op H T v && fPost n o.post al (fPut T o.dst v) S') (fOps C n al l (p + 1) (fHist o p S H) (fPut T o.dst v) S') .no := rfl
        rw [e2, fPre_eq h hn, fPost_eq (like_put h o.dst v) (by rw [put_len]; exact hn)]
        simp only
        cases hc : preOk o.pre o.op H R v && postOk o.post al (put R o.dst v) S' with
        | false => exact .inl rfl
        | true =>
          simp only [cond_true, if_true]
          have eh : fHist o p S H = (if o.snap = true then (p, S) :: H else H) := by
            unfold fHist; cases o.snap <;> rfl
          rw [eh]
          exact fOps_ok l (p + 1) _ (like_put h o.dst v) (by rw [put_len]; exact hn)

/-- With the length kept. -/
def FRok2 (n : Nat) : FR → Option (Out × List Value × St) → Prop
  | .no, _ => True
  | .norm T S, r => ∃ R, r = some (.norm, R, S) ∧ Like T R ∧ R.length = n
  | .ret T S, r => ∃ R, r = some (.ret, R, S) ∧ Like T R ∧ R.length = n
  | .exit id T S, r => ∃ R, r = some (.exit id, R, S) ∧ Like T R ∧ R.length = n

theorem fCode_ok {C : CallS} {n : Nat} : ∀ (c : ICode) {T : Tr} {R : List Value} {S : St}, Like T R → R.length = n → FRok2 n (fCode C n c T S) (evCode C c R S) := by
  intro c
  induction c with
  | skip => intro T R S h hn; exact ⟨R, rfl, h, hn⟩
  | exit id => intro T R S h hn; exact ⟨R, rfl, h, hn⟩
  | ret => intro T R S h hn; exact ⟨R, rfl, h, hn⟩
  | region l =>
    intro T R S h hn
    show FRok2 n (fOps C n l l 0 [] T S) _
    rcases fOps_ok l 0 [] h hn (C := C) (al := l) (S := S) with h1 | ⟨T', R', S', h1, h2, h3, h4⟩
    · rw [h1]; trivial
    · rw [h1]; exact ⟨R', by simp only [evCode, h2], h3, h4⟩
  | seq a b iha ihb =>
    intro T R S h hn
    have e : fCode C n (.seq a b) T S = FR.rec (motive := fun _ => FR) .no (fCode C n b) .ret .exit (fCode C n a T S) := rfl
    rw [e]
    have ia := iha (S := S) h hn
    cases ha : fCode C n a T S with
    | no => trivial
    | norm T' S' =>
      rw [ha] at ia
      obtain ⟨R', h1, h2, h3⟩ := ia
      have := ihb (S := S') h2 h3
      show FRok2 n (fCode C n b T' S') _
      simp only [evCode, h1]; exact this
    | ret T' S' =>
      rw [ha] at ia
      obtain ⟨R', h1, h2, h3⟩ := ia
      exact ⟨R', by simp only [evCode, h1], h2, h3⟩
    | exit id T' S' =>
      rw [ha] at ia
      obtain ⟨R', h1, h2, h3⟩ := ia
      exact ⟨R', by simp only [evCode, h1], h2, h3⟩
  | cond x a b iha ihb =>
    intro T R S h hn
    have e : fCode C n (.cond x a b) T S = kIf (x.evG T.get) (fCode C n a T S) (fCode C n b T S) := rfl
    have hx : x.evG T.get = x.ev R := by rw [h.fn]; cases x <;> rfl
    rw [e, hx]
    cases hv : x.ev R with
    | bool t =>
      cases t with
      | true => show FRok2 n (fCode C n a T S) _; simp only [evCode, hv]; exact iha h hn
      | false => show FRok2 n (fCode C n b T S) _; simp only [evCode, hv]; exact ihb h hn
    | _ => trivial
  | block id b ih =>
    intro T R S h hn
    have e : fCode C n (.block id b) T S = FR.rec (motive := fun _ => FR) .no .norm .ret (fun id' T S => cond (Nat.beq id' id) (.norm T S) (.exit id' T S)) (fCode C n b T S) := rfl
    rw [e]
    have ia := ih (S := S) h hn
    cases ha : fCode C n b T S with
    | no => trivial
    | norm T' S' =>
      rw [ha] at ia
      obtain ⟨R', h1, h2, h3⟩ := ia
      exact ⟨R', by simp only [evCode, h1], h2, h3⟩
    | ret T' S' =>
      rw [ha] at ia
      obtain ⟨R', h1, h2, h3⟩ := ia
      exact ⟨R', by simp only [evCode, h1], h2, h3⟩
    | exit id' T' S' =>
      rw [ha] at ia
      obtain ⟨R', h1, h2, h3⟩ := ia
      show FRok2 n (cond (Nat.beq id' id) (.norm T' S') (.exit id' T' S')) _
      by_cases hid : id' = id
      · subst hid
        have : Nat.beq id' id' = true := Nat.beq_refl id'
        rw [this]
        exact ⟨R', by simp only [evCode, h1, if_true], h2, h3⟩
      · rw [beq_no hid]
        exact ⟨R', by simp only [evCode, h1, if_neg hid], h2, h3⟩
  | loop b ih =>
    intro T R S h hn
    have key : ∀ (k : Nat) {T : Tr} {R : List Value} {S : St}, Like T R → R.length = n → FRok2 n (kLoop (fCode C n b) k T S) (iter (fun R S => evCode C b R S) k R S) := by
      intro k
      induction k with
      | zero => intro T R S _ _; trivial
      | succ k ihk =>
        intro T R S h hn
        have e : kLoop (fCode C n b) (k + 1) T S = FR.rec (motive := fun _ => FR) .no (kLoop (fCode C n b) k) .ret .exit (fCode C n b T S) := rfl
        rw [e]
        have ia := ih (S := S) h hn
        cases ha : fCode C n b T S with
        | no => trivial
        | norm T' S' =>
          rw [ha] at ia
          obtain ⟨R', h1, h2, h3⟩ := ia
          show FRok2 n (kLoop (fCode C n b) k T' S') _
          simp only [iter, h1]; exact ihk h2 h3
        | ret T' S' =>
          rw [ha] at ia
          obtain ⟨R', h1, h2, h3⟩ := ia
          exact ⟨R', by simp only [iter, h1], h2, h3⟩
        | exit id T' S' =>
          rw [ha] at ia
          obtain ⟨R', h1, h2, h3⟩ := ia
          exact ⟨R', by simp only [iter, h1], h2, h3⟩
    have e : fCode C n (.loop b) = kLoop (fCode C n b) rounds := by kernel_rfl
    have e2 : evCode C (.loop b) R S = iter (fun R S => evCode C b R S) rounds R S := by simp only [evCode]
    rw [e, e2]
    exact key rounds h hn

/-! ### Calls -/
noncomputable def fRes1 (g : Nat → Value) (S : St) (r : IRes) : Option Value :=
  match r with
  | .tmp t => some (g t)
  | .cell t agg n => match g t with
    | .pointer (some a) => match cellsAt (S.blks[·]?) a.block with
      | some c => cut agg n a.off c
      | none => none
    | _ => none

noncomputable def fResL (g : Nat → Value) (S : St) : List IRes → Option (List Value)
  | [] => some []
  | r :: l => match fRes1 g S r with
    | some v => (fResL g S l).map (v :: ·)
    | none => none

def fPack (x : Option (List Value)) : Option Value :=
  match x with
  | some [v] => some v
  | some vs => some (.tuple vs.toArray)
  | none => none

theorem fResL_eq {T : Tr} {R : List Value} (h : Like T R) (S : St) : ∀ l, fResL T.get S l = evResL R S l
  | [] => rfl
  | r :: l => by
    have e : fRes1 T.get S r = evRes1 R S r := by
      cases r with
      | tmp t => simp only [fRes1, evRes1, h.get]
      | cell t a n => simp only [fRes1, evRes1, h.get]; rfl
    simp only [fResL, evResL, e, fResL_eq h S l]; rfl

noncomputable def fEnd (S : St) (rs : List IRes) (T : Tr) (S1 : St) : Option (Value × St × Bool) := (fPack (fResL T.get S1 rs)).map fun v => leave S S1 v

noncomputable def fRun (C : CallS) (fn : IFun) (args : List Value) (S : St) : Option (Value × St × Bool) :=
  cond (Nat.blt (args.length + (fn.ntmps - args.length)) 1000000)
    (FR.rec (motive := fun _ => Option (Value × St × Bool)) none (fEnd S fn.res) (fEnd S fn.res) (fun _ _ _ => none)
      (fCode C (args.length + (fn.ntmps - args.length)) fn.body (Tr.start fn.ntmps args) ⟨S.blks, S.blks.length, S.blks.length⟩))
    none

noncomputable def fFun (prog : Nat → Option IFun) (C : CallS) : CallS := fun f args S =>
  match prog f with
  | none => none
  | some fn => fRun C fn args S

noncomputable def fCalls (prog : Nat → Option IFun) (n : Nat) : CallS :=
  Nat.rec (motive := fun _ => CallS) (fun _ _ _ => none) (fun _ C => fFun prog C) n

theorem fRun_ok {C : CallS} {prog : Nat → Option IFun} {f : FuncId} {fn : IFun} {args : List Value} {S : St} {x : Value × St × Bool} (hf : prog f = some fn) (h : fRun C fn args S = some x) : evFun prog C f args S = some x := by
  unfold fRun at h
  cases hb : Nat.blt (args.length + (fn.ntmps - args.length)) 1000000 with
  | false => rw [hb] at h; cases h
  | true =>
    rw [hb] at h
    have ok := fCode_ok (C := C) fn.body (S := ⟨S.blks, S.blks.length, S.blks.length⟩) (like_start hb) (n := args.length + (fn.ntmps - args.length)) (by simp)
    have hend : ∀ {T : Tr} {R : List Value} {S1 : St}, Like T R → fEnd S fn.res T S1 = some x → (evRes R S1 fn.res).map (fun v => leave S S1 v) = some x := by
      intro T R S1 hl he
      unfold fEnd at he
      rw [fResL_eq hl] at he
      exact he
    unfold evFun
    simp only [hf]
    cases hc : fCode C (args.length + (fn.ntmps - args.length)) fn.body (Tr.start fn.ntmps args) ⟨S.blks, S.blks.length, S.blks.length⟩ with
    | no => rw [hc] at h; cases h
    | norm T S1 =>
      rw [hc] at h ok
      obtain ⟨R, h1, h2, _⟩ := ok
      rw [h1]
      exact hend h2 h
    | ret T S1 =>
      rw [hc] at h ok
      obtain ⟨R, h1, h2, _⟩ := ok
      rw [h1]
      exact hend h2 h
    | exit id T S1 => rw [hc] at h; cases h

end Go.Proofs.YtepddcemoofmlaaGreat.AE
