/- A region without looks again, taken one operation after the other; a frame of which the known values are told. -/
import Derived.Test.YtepddcemoofmlaaGreatAe32
namespace Go.Proofs.YtepddcemoofmlaaGreat.AE
open Go

def plainOp (o : IOper) : Bool := o.pre.isEmpty && o.post.isEmpty && !o.snap

def runOps (C : CallS) : List IOper → List Value → St → Option (List Value × St)
  | [], R, S => some (R, S)
  | o :: l, R, S =>
    if wantedI o.guard R then
      match evOp C R S o.op with
      | some (v, S') => runOps C l (put R o.dst v) S'
      | none => none
    else runOps C l (put R o.dst undef) S

theorem runOps_eq {C : CallS} {al : List IOper} : ∀ {l : List IOper} {p : Nat} {R : List Value} {S : St}, l.all plainOp = true → evOps C al l p [] R S = runOps C l R S
  | [], _, _, _, _ => rfl
  | o :: l, p, R, S, h => by
    simp only [List.all_cons, Bool.and_eq_true] at h
    obtain ⟨ho, hl⟩ := h
    simp only [plainOp, Bool.and_eq_true, Bool.not_eq_true', List.isEmpty_iff] at ho
    obtain ⟨⟨h1, h2⟩, h3⟩ := ho
    simp only [evOps, runOps, h1, h2, h3, preOk, postOk, List.all_nil, Bool.and_self, if_true, Bool.false_eq_true, if_false]
    split
    · cases evOp C R S o.op with
      | none => rfl
      | some x => exact runOps_eq hl
    · exact runOps_eq hl

theorem ev_plain {C : CallS} {l : List IOper} {R : List Value} {S : St} (h : l.all plainOp = true) : evCode C (.region l) R S = regK (runOps C l R S) := by
  rw [ev_region, runOps_eq h]

/-- Operations: with a place for the value, without one, under a guard. -/
def ox (op : IOp) : IOper := ⟨none, op, none, [], [], false⟩
def oy (d : Nat) (op : IOp) : IOper := ⟨some d, op, none, [], [], false⟩
def oz (d : Nat) (t : Nat) (w : Bool) (op : IOp) : IOper := ⟨some d, op, some (t, w), [], [], false⟩

@[simp] theorem run_nil {C : CallS} {R : List Value} {S : St} : runOps C [] R S = some (R, S) := (rfl)
@[simp] theorem run_x {C : CallS} {l : List IOper} {op : IOp} {R : List Value} {S : St} : runOps C (ox op :: l) R S = stepK none (evOp C R S op) R fun R S => runOps C l R S := by
  simp only [runOps, ox, wantedI, if_true, stepK]; rfl
@[simp] theorem run_y {C : CallS} {l : List IOper} {d : Nat} {op : IOp} {R : List Value} {S : St} : runOps C (oy d op :: l) R S = stepK (some d) (evOp C R S op) R fun R S => runOps C l R S := by
  simp only [runOps, oy, wantedI, if_true, stepK]; rfl
@[simp] theorem run_z {C : CallS} {l : List IOper} {d t : Nat} {w : Bool} {op : IOp} {R : List Value} {S : St} :
    runOps C (oz d t w op :: l) R S = guardK (wantedI (some (t, w)) R) (fun _ => stepK (some d) (evOp C R S op) R fun R S => runOps C l R S) fun _ => runOps C l (wr R d undef) S := by
  cases h : wantedI (some (t, w)) R <;> simp only [runOps, oz, stepK, guardK, h, if_true, Bool.false_eq_true, if_false] <;> rfl

/-- What stands at a name. -/
def St.at (S : St) (b : Nat) : Option AObj := S.blks[b]?

/-- Where the next block will stand. -/
def St.top (S : St) : Nat := S.blks.length

/-! ### What each operation comes to, by what its operands are -/
def resK (S : St) (x : Option Value) : Option (Value × St) := match x with
  | some v => some (v, S)
  | none => none
@[simp] theorem resK_some {S : St} {v : Value} : resK S (some v) = some (v, S) := (rfl)
theorem resK_map {S : St} {x : Option Value} : x.map (·, S) = resK S x := by cases x <;> rfl

section
variable {C : CallS} {R : List Value} {S : St}

@[simp] theorem op_mv {x : IV} : evOp C R S (.mv x) = some (x.ev R, S) := (rfl)

def pickK (c a b : Value) : Option Value := match c with
  | .bool true => some a
  | .bool false => some b
  | _ => none
@[simp] theorem pickK_true {a b : Value} : pickK (.bool true) a b = some a := (rfl)
@[simp] theorem pickK_false {a b : Value} : pickK (.bool false) a b = some b := (rfl)
@[simp] theorem op_pick {c a b : IV} : evOp C R S (.pick c a b) = resK S (pickK (c.ev R) (a.ev R) (b.ev R)) := by
  simp only [evOp, evPure, resK_map, pickK]; rfl

@[simp] theorem op_bin {op : BinOp} {t : EqT} {x y : IV} : evOp C R S (.bin op t x y) = resK S (evBin op t (x.ev R) (y.ev R)) := by
  simp only [evOp, evPure, resK_map]
@[simp] theorem bin_add {t : EqT} {k : IntKind} {a b : Int} : evBin .add t (.int k a) (.int k b) = some (.int k (W k (a + b))) := by simp [evBin, evInt]
@[simp] theorem bin_sub {t : EqT} {k : IntKind} {a b : Int} : evBin .sub t (.int k a) (.int k b) = some (.int k (W k (a - b))) := by simp [evBin, evInt]
@[simp] theorem bin_mul {t : EqT} {k : IntKind} {a b : Int} : evBin .mul t (.int k a) (.int k b) = some (.int k (W k (a * b))) := by simp [evBin, evInt]
@[simp] theorem bin_quo {t : EqT} {k : IntKind} {a b : Int} : evBin .quo t (.int k a) (.int k b) = if b = 0 then none else some (.int k (W k (a.tdiv b))) := by simp [evBin, evInt]
@[simp] theorem bin_rem {t : EqT} {k : IntKind} {a b : Int} : evBin .rem t (.int k a) (.int k b) = if b = 0 then none else some (.int k (a.tmod b)) := by simp [evBin, evInt]
@[simp] theorem bin_eql {t : EqT} {k : IntKind} {a b : Int} : evBin .eql t (.int k a) (.int k b) = some (.bool (a == b)) := by simp [evBin, evInt]
@[simp] theorem bin_neq {t : EqT} {k : IntKind} {a b : Int} : evBin .neq t (.int k a) (.int k b) = some (.bool (a != b)) := by simp [evBin, evInt]
@[simp] theorem bin_lss {t : EqT} {k : IntKind} {a b : Int} : evBin .lss t (.int k a) (.int k b) = some (.bool (decide (a < b))) := by simp [evBin, evInt]
@[simp] theorem bin_leq {t : EqT} {k : IntKind} {a b : Int} : evBin .leq t (.int k a) (.int k b) = some (.bool (decide (a ≤ b))) := by simp [evBin, evInt]
@[simp] theorem bin_gtr {t : EqT} {k : IntKind} {a b : Int} : evBin .gtr t (.int k a) (.int k b) = some (.bool (decide (a > b))) := by simp [evBin, evInt]
@[simp] theorem bin_geq {t : EqT} {k : IntKind} {a b : Int} : evBin .geq t (.int k a) (.int k b) = some (.bool (decide (a ≥ b))) := by simp [evBin, evInt]

theorem bits_ex : ∃ f : BinOp → IntKind → Int → Int → Int, ∀ k a b, f .and k a b = k.wrap (BitVec.ofInt k.bits a &&& BitVec.ofInt k.bits b).toNat ∧ f .or k a b = k.wrap (BitVec.ofInt k.bits a ||| BitVec.ofInt k.bits b).toNat ∧
    f .xor k a b = k.wrap (BitVec.ofInt k.bits a ^^^ BitVec.ofInt k.bits b).toNat ∧ f .andNot k a b = k.wrap (BitVec.ofInt k.bits a &&& ~~~ BitVec.ofInt k.bits b).toNat ∧
    f .shl k a b = k.wrap (a * 2 ^ (min b.toNat k.bits)) ∧ f .shr k a b = a.fdiv (2 ^ (min b.toNat k.bits)) :=
  ⟨fun op k a b => match op with
    | .and => k.wrap (BitVec.ofInt k.bits a &&& BitVec.ofInt k.bits b).toNat
    | .or => k.wrap (BitVec.ofInt k.bits a ||| BitVec.ofInt k.bits b).toNat
    | .xor => k.wrap (BitVec.ofInt k.bits a ^^^ BitVec.ofInt k.bits b).toNat
    | .andNot => k.wrap (BitVec.ofInt k.bits a &&& ~~~ BitVec.ofInt k.bits b).toNat
    | .shl => k.wrap (a * 2 ^ (min b.toNat k.bits))
    | .shr => a.fdiv (2 ^ (min b.toNat k.bits))
    | _ => 0, fun _ _ _ => ⟨rfl, rfl, rfl, rfl, rfl, rfl⟩⟩

/-- What bits come to, as a name that nothing unfolds. -/
noncomputable def B : BinOp → IntKind → Int → Int → Int := Classical.choose bits_ex
theorem B_all (k : IntKind) (a b : Int) : B .and k a b = k.wrap (BitVec.ofInt k.bits a &&& BitVec.ofInt k.bits b).toNat ∧ B .or k a b = k.wrap (BitVec.ofInt k.bits a ||| BitVec.ofInt k.bits b).toNat ∧
    B .xor k a b = k.wrap (BitVec.ofInt k.bits a ^^^ BitVec.ofInt k.bits b).toNat ∧ B .andNot k a b = k.wrap (BitVec.ofInt k.bits a &&& ~~~ BitVec.ofInt k.bits b).toNat ∧
    B .shl k a b = k.wrap (a * 2 ^ (min b.toNat k.bits)) ∧ B .shr k a b = a.fdiv (2 ^ (min b.toNat k.bits)) := Classical.choose_spec bits_ex k a b

@[simp] theorem bin_and {t : EqT} {k : IntKind} {a b : Int} : evBin .and t (.int k a) (.int k b) = some (.int k (B .and k a b)) := by rw [(B_all k a b).1]; simp [evBin, evInt]
@[simp] theorem bin_or {t : EqT} {k : IntKind} {a b : Int} : evBin .or t (.int k a) (.int k b) = some (.int k (B .or k a b)) := by rw [(B_all k a b).2.1]; simp [evBin, evInt]
@[simp] theorem bin_xor {t : EqT} {k : IntKind} {a b : Int} : evBin .xor t (.int k a) (.int k b) = some (.int k (B .xor k a b)) := by rw [(B_all k a b).2.2.1]; simp [evBin, evInt]
@[simp] theorem bin_andNot {t : EqT} {k : IntKind} {a b : Int} : evBin .andNot t (.int k a) (.int k b) = some (.int k (B .andNot k a b)) := by rw [(B_all k a b).2.2.2.1]; simp [evBin, evInt]
@[simp] theorem bin_shl {t : EqT} {k k' : IntKind} {a b : Int} : evBin .shl t (.int k a) (.int k' b) = if b < 0 then none else some (.int k (B .shl k a b)) := by rw [(B_all k a b).2.2.2.2.1]; simp [evBin, evShift]
@[simp] theorem bin_shr {t : EqT} {k k' : IntKind} {a b : Int} : evBin .shr t (.int k a) (.int k' b) = if b < 0 then none else some (.int k (B .shr k a b)) := by rw [(B_all k a b).2.2.2.2.2]; simp [evBin, evShift]
@[simp] theorem bin_eqlb {a b : Bool} : evBin .eql .bool (.bool a) (.bool b) = some (.bool (a == b)) := (rfl)
@[simp] theorem bin_neqb {a b : Bool} : evBin .neq .bool (.bool a) (.bool b) = some (.bool (!(a == b))) := (rfl)
@[simp] theorem bin_eqlA {ks : List (Option IntKind)} {xs ys : Array Value} : evBin .eql (.plain ks) (.agg xs) (.agg ys) = (eqCells ks xs.toList ys.toList).map Value.bool := (rfl)
@[simp] theorem bin_neqA {ks : List (Option IntKind)} {xs ys : Array Value} : evBin .neq (.plain ks) (.agg xs) (.agg ys) = (eqCells ks xs.toList ys.toList).map fun b => Value.bool (!b) := (rfl)
@[simp] theorem bin_eql_pn {b : Option Addr} : evBin .eql .ptr (.pointer none) (.pointer b) = some (.bool b.isNone) := (rfl)
@[simp] theorem bin_eql_ps {a : Addr} : evBin .eql .ptr (.pointer (some a)) (.pointer none) = some (.bool false) := (rfl)
@[simp] theorem bin_neq_pn {b : Option Addr} : evBin .neq .ptr (.pointer none) (.pointer b) = some (.bool (!b.isNone)) := (rfl)
@[simp] theorem bin_neq_ps {a : Addr} : evBin .neq .ptr (.pointer (some a)) (.pointer none) = some (.bool true) := (rfl)
@[simp] theorem bin_eql_sn {b : Option Addr} {n c n' c' : Nat} : evBin .eql .slice (.slice none n c) (.slice b n' c') = some (.bool b.isNone) := (rfl)
@[simp] theorem bin_eql_ss {a : Addr} {n c n' c' : Nat} : evBin .eql .slice (.slice (some a) n c) (.slice none n' c') = some (.bool false) := (rfl)
@[simp] theorem bin_neq_sn {b : Option Addr} {n c n' c' : Nat} : evBin .neq .slice (.slice none n c) (.slice b n' c') = some (.bool (!b.isNone)) := (rfl)
@[simp] theorem bin_neq_ss {a : Addr} {n c n' c' : Nat} : evBin .neq .slice (.slice (some a) n c) (.slice none n' c') = some (.bool true) := (rfl)
@[simp] theorem bin_eql_fn : evBin .eql .func .nilFunc .nilFunc = some (.bool true) := (rfl)
@[simp] theorem bin_eql_fs {f : Fn} {a b : Array Value} : evBin .eql .func (.func f a b) .nilFunc = some (.bool false) := (rfl)
@[simp] theorem bin_neq_fn : evBin .neq .func .nilFunc .nilFunc = some (.bool false) := (rfl)
@[simp] theorem bin_neq_fs {f : Fn} {a b : Array Value} : evBin .neq .func (.func f a b) .nilFunc = some (.bool true) := (rfl)

@[simp] theorem eqCells_nil : eqCells [] [] [] = some true := (rfl)
@[simp] theorem eqCells_int {k : IntKind} {ks : List (Option IntKind)} {a b : Int} {xs ys : List Value} : eqCells (some k :: ks) (.int k a :: xs) (.int k b :: ys) = (eqCells ks xs ys).map (fun r => a == b && r) := by simp [eqCells]
@[simp] theorem eqCells_bool {ks : List (Option IntKind)} {a b : Bool} {xs ys : List Value} : eqCells (none :: ks) (.bool a :: xs) (.bool b :: ys) = (eqCells ks xs ys).map (fun r => a == b && r) := by simp [eqCells]

@[simp] theorem op_un {op : UnOp} {x : IV} : evOp C R S (.un op x) = resK S (evUn op (x.ev R)) := by
  simp only [evOp, evPure, resK_map]
@[simp] theorem un_not {b : Bool} : evUn .not (.bool b) = some (.bool (!b)) := (rfl)
@[simp] theorem un_neg {k : IntKind} {n : Int} : evUn .neg (.int k n) = some (.int k (W k (0 - n))) := by simp [evUn]
@[simp] theorem un_xor {n : Int} : evUn .xor (.int .u64 n) = some (.int .u64 (B .xor .u64 (IntKind.max .u64) n)) := by
  have h := bin_xor (t := .int) (k := .u64) (a := IntKind.max .u64) (b := n)
  simp only [evBin, if_true] at h
  simp only [evUn]
  exact h

def convK (k : IntKind) (x : Value) : Option Value := match x with
  | .int _ n => some (.int k (k.wrap n))
  | _ => none
@[simp] theorem convK_int {k k' : IntKind} {n : Int} : convK k (.int k' n) = some (.int k (W k n)) := by simp [convK]
@[simp] theorem op_conv {k : IntKind} {x : IV} : evOp C R S (.conv k x) = resK S (convK k (x.ev R)) := by
  simp only [evOp, evPure, resK_map, convK]; rfl

@[simp] theorem op_mkFunc {f : FuncId} {a b : List IV} : evOp C R S (.mkFunc f a b) = some (.func (.func f) (a.map (IV.ev R)).toArray (b.map (IV.ev R)).toArray, S) := (rfl)

def addOffK (off : Nat) (x : Value) : Option Value := match x with
  | .pointer (some a) => some (.pointer (some ⟨a.block, a.off + off, none⟩))
  | _ => none
@[simp] theorem addOffK_ptr {off : Nat} {a : Addr} : addOffK off (.pointer (some a)) = some (.pointer (some ⟨a.block, a.off + off, none⟩)) := (rfl)
@[simp] theorem op_addOff {off : Nat} {x : IV} : evOp C R S (.addOff off x) = resK S (addOffK off (x.ev R)) := by
  simp only [evOp, evPure, resK_map, addOffK]; rfl

def fieldK (agg : Bool) (off n : Nat) (x : Value) : Option Value := match x with
  | .agg cs => cut agg n off cs.toList
  | _ => none
@[simp] theorem fieldK_agg {agg : Bool} {off n : Nat} {cs : Array Value} : fieldK agg off n (.agg cs) = cut agg n off cs.toList := (rfl)
@[simp] theorem op_field {agg : Bool} {off n : Nat} {x : IV} : evOp C R S (.field agg off n x) = resK S (fieldK agg off n (x.ev R)) := by
  simp only [evOp, evPure, resK_map, fieldK]; rfl
@[simp] theorem cut_one {n off : Nat} {c : List Value} : cut false n off c = c[off]? := (rfl)
@[simp] theorem cut_agg {n off : Nat} {c : List Value} : cut true n off c = if ((c.drop off).take n).length = n then some (.agg ((c.drop off).take n).toArray) else none := (rfl)

def idxK (sz : Nat) (x i : Value) : Option Value := match x, i with
  | .slice (some a) len _, .int _ n => if 0 ≤ n ∧ n < (len : Int) then some (.pointer (some ⟨a.block, a.off + n.toNat * sz, none⟩)) else none
  | _, _ => none
@[simp] theorem idxK_int {sz len c : Nat} {a : Addr} {k : IntKind} {n : Int} : idxK sz (.slice (some a) len c) (.int k n) = if 0 ≤ n ∧ n < (len : Int) then some (.pointer (some ⟨a.block, a.off + n.toNat * sz, none⟩)) else none := (rfl)
@[simp] theorem op_idxS {sz : Nat} {x i : IV} : evOp C R S (.idxS sz x i) = resK S (idxK sz (x.ev R) (i.ev R)) := by
  simp only [evOp, evPure, resK_map]
  congr 1
  cases IV.ev R x with
  | slice a n c => cases a with
    | none => cases IV.ev R i <;> rfl
    | some a => simp only [nth]; cases IV.ev R i <;> rfl
  | _ => cases IV.ev R i <;> rfl

def idxAK (len sz : Nat) (x i : Value) : Option Value := match x, i with
  | .pointer (some a), .int _ n => if 0 ≤ n ∧ n < (len : Int) then some (.pointer (some ⟨a.block, a.off + n.toNat * sz, none⟩)) else none
  | _, _ => none
@[simp] theorem idxAK_int {sz len : Nat} {a : Addr} {k : IntKind} {n : Int} : idxAK len sz (.pointer (some a)) (.int k n) = if 0 ≤ n ∧ n < (len : Int) then some (.pointer (some ⟨a.block, a.off + n.toNat * sz, none⟩)) else none := (rfl)
@[simp] theorem op_idxA {len sz : Nat} {x i : IV} : evOp C R S (.idxA len sz x i) = resK S (idxAK len sz (x.ev R) (i.ev R)) := by
  simp only [evOp, evPure, resK_map]
  congr 1
  cases IV.ev R x with
  | pointer a => cases a with
    | none => cases IV.ev R i <;> rfl
    | some a => simp only [nth]; cases IV.ev R i <;> rfl
  | _ => cases IV.ev R i <;> rfl

def idxVK (len : Nat) (agg : Bool) (sz : Nat) (x i : Value) : Option Value := match x, i with
  | .agg cs, .int _ n => if 0 ≤ n ∧ n < (len : Int) then cut agg sz (n.toNat * sz) cs.toList else none
  | _, _ => none
@[simp] theorem idxVK_int {len sz : Nat} {agg : Bool} {cs : Array Value} {k : IntKind} {n : Int} : idxVK len agg sz (.agg cs) (.int k n) = if 0 ≤ n ∧ n < (len : Int) then cut agg sz (n.toNat * sz) cs.toList else none := (rfl)
@[simp] theorem op_idxV {len sz : Nat} {agg : Bool} {x i : IV} : evOp C R S (.idxV len agg sz x i) = resK S (idxVK len agg sz (x.ev R) (i.ev R)) := by
  simp only [evOp, evPure, resK_map, idxVK]; rfl

def extractK (x : Value) (i : Nat) : Option Value := match x with
  | .tuple vs => vs.toList[i]?
  | _ => none
@[simp] theorem extractK_tuple {vs : Array Value} {i : Nat} : extractK (.tuple vs) i = vs.toList[i]? := (rfl)
@[simp] theorem op_extract {x : IV} {i : Nat} : evOp C R S (.extract x i) = resK S (extractK (x.ev R) i) := by
  simp only [evOp, evPure, resK_map, extractK]; rfl

def lenK (x : Value) : Option Value := match x with
  | .slice _ n _ => some (.int .i64 n)
  | _ => none
@[simp] theorem lenK_slice {p : Option Addr} {n c : Nat} : lenK (.slice p n c) = some (.int .i64 n) := (rfl)
@[simp] theorem op_lenS {x : IV} : evOp C R S (.lenS x) = resK S (lenK (x.ev R)) := by
  simp only [evOp, evPure, resK_map, lenK]; rfl

@[simp] theorem op_build {zs : List Value} {ps : List (Nat × Nat × IV)} : evOp C R S (.build zs ps) = resK S ((evFill (ps.map fun p => (p.1, p.2.1, p.2.2.ev R)) zs).map fun cs => .agg cs.toArray) := by
  simp only [evOp, evPure, resK_map]
@[simp] theorem fill_nil {cs : List Value} : evFill [] cs = some cs := (rfl)
@[simp] theorem fill_one {off : Nat} {v : Value} {r : List (Nat × Nat × Value)} {cs : List Value} (hv : one v = true) : evFill ((off, 1, v) :: r) cs = if off < cs.length then evFill r (cs.set off v) else none := by
  have hc : v.cells = #[v] := by cases v <;> first | rfl | cases hv
  simp only [evFill, hc]
  by_cases h : off < cs.length
  · have : off + 1 ≤ cs.length := h
    have e : cs.take off ++ (#[v].toList ++ cs.drop (off + 1)) = cs.set off v := by
      rw [List.set_eq_take_append_cons_drop]; simp [h]
    rw [if_pos ⟨rfl, this⟩, if_pos h, e]
  · have : ¬ off + 1 ≤ cs.length := h
    simp [h, this]
@[simp] theorem fill_agg {off n : Nat} {vs : Array Value} {r : List (Nat × Nat × Value)} {cs : List Value} : evFill ((off, n, .agg vs) :: r) cs = if vs.size = n ∧ off + n ≤ cs.length then evFill r (cs.take off ++ (vs.toList ++ cs.drop (off + n))) else none := (rfl)
@[simp] theorem one_int {k : IntKind} {n : Int} : one (.int k n) = true := (rfl)
@[simp] theorem one_bool {b : Bool} : one (.bool b) = true := (rfl)
@[simp] theorem one_ptr {p : Option Addr} : one (.pointer p) = true := (rfl)
@[simp] theorem one_slice {p : Option Addr} {n c : Nat} : one (.slice p n c) = true := (rfl)
@[simp] theorem one_map {p : Option Nat} : one (.map p) = true := (rfl)
@[simp] theorem one_func {f : Fn} {a b : Array Value} : one (.func f a b) = true := (rfl)

def nilK (x : Value) : Option Value := match x with
  | .pointer (some a) => some (.pointer (some a))
  | .func (.func f) first captured => some (.func (.func f) first captured)
  | .slice a n c => some (.slice a n c)
  | .map r => some (.map r)
  | _ => none
@[simp] theorem nilK_ptr {a : Addr} : nilK (.pointer (some a)) = some (.pointer (some a)) := (rfl)
@[simp] theorem nilK_nil : nilK (.pointer none) = none := (rfl)
@[simp] theorem nilK_func {f : FuncId} {a b : Array Value} : nilK (.func (.func f) a b) = some (.func (.func f) a b) := (rfl)
@[simp] theorem nilK_slice {a : Option Addr} {n c : Nat} : nilK (.slice a n c) = some (.slice a n c) := (rfl)
@[simp] theorem nilK_map {r : Option Nat} : nilK (.map r) = some (.map r) := (rfl)
@[simp] theorem op_nil {x : IV} : evOp C R S (.nilCheck x) = resK S (nilK (x.ev R)) := by
  simp only [evOp, evPure, resK_map, nilK]; rfl

/-! ### What a heap says -/
def cutO (agg : Bool) (n off : Nat) : Option (List Value) → Option Value
  | some c => cut agg n off c
  | none => none
@[simp] theorem cutO_some {agg : Bool} {n off : Nat} {c : List Value} : cutO agg n off (some c) = cut agg n off c := (rfl)
def ldK (agg : Bool) (n : Nat) (x : Value) (S : St) : Option Value := match x with
  | .pointer (some a) => cutO agg n a.off (cellsOf (S.at a.block))
  | _ => none
@[simp] theorem ldK_ptr {agg : Bool} {n : Nat} {a : Addr} : ldK agg n (.pointer (some a)) S = cutO agg n a.off (cellsOf (S.at a.block)) := (rfl)
theorem ld_eq {agg : Bool} {n : Nat} {v : Value} : (match v with
    | .pointer (some a) => match cellsAt (S.blks[·]?) a.block with
      | some c => cut agg n a.off c
      | none => none
    | _ => none) = ldK agg n v S := by
  unfold ldK
  split
  · rename_i a
    rw [cellsAt_eq]
    show _ = cutO agg n a.off (cellsOf (S.blks[a.block]?))
    cases cellsOf (S.blks[a.block]?) <;> rfl
  · rfl
@[simp] theorem op_load {agg : Bool} {n : Nat} {x : IV} : evOp C R S (.load agg n x) = resK S (ldK agg n (x.ev R) S) := by
  rw [← ld_eq]
  simp only [evOp, evRead, resK_map]
  rfl

@[simp] theorem op_new {e : TypeId} {zs : List Value} : evOp C R S (.new e zs) = some (.pointer (some ⟨S.top, 0, none⟩), S.push (.cells e zs)) := (rfl)
def boxK (e : TypeId) (n : Nat) (v : Value) (S : St) : Option (Value × St) :=
  if v.cells.toList.length = n ∧ v.cells.toList.all one = true then some (.pointer (some ⟨S.top, 0, none⟩), S.push (.cells e v.cells.toList)) else none
@[simp] theorem op_box {e : TypeId} {n : Nat} {x : IV} : evOp C R S (.box e n x) = boxK e n (x.ev R) S := by
  simp only [evOp, evAlloc, boxK]
  by_cases h : (IV.ev R x).cells.toList.length = n ∧ (IV.ev R x).cells.toList.all one = true
  · rw [if_pos h, if_pos h]; rfl
  · rw [if_neg h, if_neg h]; rfl
@[simp] theorem boxK_agg {e : TypeId} {n : Nat} {l : List Value} : boxK e n (.agg ⟨l⟩) S = if l.length = n ∧ l.all one = true then some (.pointer (some ⟨S.top, 0, none⟩), S.push (.cells e l)) else none := (rfl)
@[simp] theorem boxK_one {e : TypeId} {v : Value} (hv : one v = true) : boxK e 1 v S = some (.pointer (some ⟨S.top, 0, none⟩), S.push (.cells e [v])) := by
  have hc : v.cells = #[v] := by cases v <;> first | rfl | cases hv
  simp [boxK, hc, hv]

def bSliceK (e : TypeId) (len : Nat) (x : Option (List Value)) (S : St) : Option (Value × St) := match x with
  | some cs => if cs.all one = true then some (.slice (some ⟨S.top, 0, none⟩) len 0, S.push (.cells e cs)) else none
  | none => none
@[simp] theorem bSliceK_some {e : TypeId} {len : Nat} {cs : List Value} : bSliceK e len (some cs) S = if cs.all one = true then some (.slice (some ⟨S.top, 0, none⟩) len 0, S.push (.cells e cs)) else none := (rfl)
@[simp] theorem op_buildSlice {e : TypeId} {zs : List Value} {len : Nat} {ps : List (Nat × Nat × IV)} : evOp C R S (.buildSlice e zs len ps) = bSliceK e len (evFill (ps.map fun p => (p.1, p.2.1, p.2.2.ev R)) zs) S := by
  simp only [evOp, evAlloc, bSliceK]
  cases evFill (ps.map fun p => (p.1, p.2.1, p.2.2.ev R)) zs with
  | none => rfl
  | some cs =>
    by_cases h : cs.all one = true
    · simp only [h, if_true]; rfl
    · simp only [h]; rfl
@[simp] theorem op_mkMap : evOp C R S .mkMap = some (.map (some S.top), S.push (.amap [])) := (rfl)
def mkSliceK (e : TypeId) (z : Value) (bytes : Nat) (l c : Value) (S : St) : Option (Value × St) := match l, c with
  | .int .i64 n, .int .i64 m => if n = m ∧ 0 ≤ n ∧ n ≤ 1000000000000000 ∧ (bytes : Int) * n ≤ 281474976710656 then some (.slice (some ⟨S.top, 0, none⟩) n.toNat 0, S.push (.cells e (List.replicate n.toNat z))) else none
  | _, _ => none
@[simp] theorem mkSliceK_int {e : TypeId} {z : Value} {bytes : Nat} {n m : Int} : mkSliceK e z bytes (.int .i64 n) (.int .i64 m) S = if n = m ∧ 0 ≤ n ∧ n ≤ 1000000000000000 ∧ (bytes : Int) * n ≤ 281474976710656 then some (.slice (some ⟨S.top, 0, none⟩) n.toNat 0, S.push (.cells e (List.replicate n.toNat z))) else none := (rfl)
@[simp] theorem op_mkSlice {e : TypeId} {z : Value} {bytes : Nat} {l c : IV} : evOp C R S (.mkSlice e z bytes l c) = mkSliceK e z bytes (l.ev R) (c.ev R) S := by
  simp only [evOp, evAlloc]
  generalize IV.ev R l = x
  generalize IV.ev R c = y
  unfold mkSliceK
  split
  · rename_i n m
    simp only
    by_cases h : n = m ∧ 0 ≤ n ∧ n ≤ 1000000000000000 ∧ (bytes : Int) * n ≤ 281474976710656
    · rw [if_pos h, if_pos h]; rfl
    · rw [if_neg h, if_neg h]; rfl
  · rename_i h
    split
    · rename_i u v; exact absurd rfl (h u v rfl)
    · rfl

def lookK (z : Value) (ok : Bool) (mp k : Value) (S : St) : Option Value := match mp, k with
  | .map none, .int .i64 _ => some (if ok then .tuple #[z, .bool false] else z)
  | .map (some r), .int .i64 k => match S.at r with
    | some (.amap es) => match findM k es with
      | some v => some (if ok then .tuple #[v, .bool true] else v)
      | none => some (if ok then .tuple #[z, .bool false] else z)
    | _ => none
  | _, _ => none
@[simp] theorem lookK_none {z : Value} {ok : Bool} {k : Int} : lookK z ok (.map none) (.int .i64 k) S = some (if ok then .tuple #[z, .bool false] else z) := (rfl)
@[simp] theorem lookK_some {z : Value} {ok : Bool} {r : Nat} {k : Int} : lookK z ok (.map (some r)) (.int .i64 k) S = match S.at r with
    | some (.amap es) => match findM k es with
      | some v => some (if ok then .tuple #[v, .bool true] else v)
      | none => some (if ok then .tuple #[z, .bool false] else z)
    | _ => none := (rfl)
@[simp] theorem op_lookup {z : Value} {ok : Bool} {m k : IV} : evOp C R S (.lookup z ok m k) = resK S (lookK z ok (m.ev R) (k.ev R) S) := by
  simp only [evOp, evRead, resK_map, lookK]; rfl
@[simp] theorem op_lenM {m : IV} : evOp C R S (.lenM m) = resK S (evRead R (S.blks[·]?) (.lenM m)) := by simp only [evOp, resK_map]
@[simp] theorem op_slice {e : TypeId} {x : IV} {lo hi mx : Option IV} : evOp C R S (.slice e x lo hi mx) = resK S (evSlice S.at e (x.ev R) (lo.map (IV.ev R)) (hi.map (IV.ev R)) (mx.map (IV.ev R))) := by simp only [evOp, evRead, resK_map]; rfl

def stK (n : Nat) (x v : Value) (S : St) : Option (Value × St) := match x with
  | .pointer (some a) => match S.at a.block with
    | some (.cells e c) => match v.cells.toList with
      | [u] => if n = 1 ∧ one u = true ∧ a.off < c.length then some (undef, S.wrote a.block (.cells e (c.set a.off u)) v) else none
      | vs => if vs.length = n ∧ vs.all one = true ∧ a.off + n ≤ c.length then some (undef, S.wrote a.block (.cells e (c.take a.off ++ (vs ++ c.drop (a.off + n)))) v) else none
    | _ => none
  | _ => none
@[simp] theorem op_store {n : Nat} {x v : IV} : evOp C R S (.store n x v) = stK n (x.ev R) (v.ev R) S := by
  simp only [evOp, evWrite, stK]; rfl
@[simp] theorem stK_one {a : Addr} {v : Value} (hv : one v = true) : stK 1 (.pointer (some a)) v S = match S.at a.block with
    | some (.cells e c) => if a.off < c.length then some (undef, S.wrote a.block (.cells e (c.set a.off v)) v) else none
    | _ => none := by
  have hc : v.cells = #[v] := by cases v <;> first | rfl | cases hv
  simp only [stK, hc]
  cases S.at a.block with
  | none => rfl
  | some o =>
    cases o with
    | cells e c =>
      by_cases h : a.off < c.length
      · simp [hv, h]
      · simp [hv, h]
    | _ => rfl
@[simp] theorem stK_agg {n : Nat} {a : Addr} {u u' : Value} {l : List Value} : stK n (.pointer (some a)) (.agg ⟨u :: u' :: l⟩) S = match S.at a.block with
    | some (.cells e c) => if (u :: u' :: l).length = n ∧ (u :: u' :: l).all one = true ∧ a.off + n ≤ c.length then some (undef, S.wrote a.block (.cells e (c.take a.off ++ ((u :: u' :: l) ++ c.drop (a.off + n)))) (.agg ⟨u :: u' :: l⟩)) else none
    | _ => none := by
  simp only [stK]; rfl

def mapSetK (m k v : Value) (S : St) : Option (Value × St) := match m, k with
  | .map (some r), .int .i64 k => match S.at r with
    | some (.amap es) => some (undef, S.wrote r (.amap (setM k v es)) v)
    | _ => none
  | _, _ => none
@[simp] theorem mapSetK_some {r : Nat} {k : Int} {v : Value} : mapSetK (.map (some r)) (.int .i64 k) v S = match S.at r with
    | some (.amap es) => some (undef, S.wrote r (.amap (setM k v es)) v)
    | _ => none := (rfl)
@[simp] theorem op_mapSet {m k v : IV} : evOp C R S (.mapSet m k v) = mapSetK (m.ev R) (k.ev R) (v.ev R) S := by
  simp only [evOp, evWrite, mapSetK]; rfl
@[simp] theorem op_delete {m k : IV} : evOp C R S (.delete m k) = evWrite R S (.delete m k) := (rfl)

/-- A row, copied behind what it had; where it stood is dead. -/
def St.app (S : St) (b : Nat) (o : AObj) : St := ⟨S.blks.set b .dead ++ [o], min S.wr b, S.esc⟩

def rowC (n sz off : Nat) : Option (List Value) → Option (Nat × List Value)
  | some c => if ((c.drop off).take (n * sz)).length = n * sz ∧ ((c.drop off).take (n * sz)).all one = true then some (n, (c.drop off).take (n * sz)) else none
  | none => none
def rowS (S : St) (sz : Nat) : Value → Option (Nat × List Value)
  | .slice none n _ => if n = 0 then some (0, []) else none
  | .slice (some a) n _ => rowC n sz a.off (cellsOf (S.at a.block))
  | _ => none
theorem rowS_eq {sz : Nat} {v : Value} : rowOf (S.blks[·]?) sz v = rowS S sz v := by
  unfold rowOf
  split
  · rfl
  · rename_i a n cp
    rw [cellsAt_eq]
    show _ = rowC n sz a.off (cellsOf (S.blks[a.block]?))
    cases cellsOf (S.blks[a.block]?) <;> rfl
  · rename_i h1 h2
    unfold rowS
    split
    · rename_i n cp; exact absurd rfl (h1 n cp)
    · rename_i a n cp; exact absurd rfl (h2 a n cp)
    · rfl

def appK (e : TypeId) (sz bytes : Nat) (s : Value) (r : Option (Nat × List Value)) (S : St) : Option (Value × St) := match r with
  | none => none
  | some (n, xs) => match s with
    | .slice none 0 0 =>
      if n = 0 then some (.slice none 0 0, S)
      else if (2 * n + 768) * bytes ≤ 281474976710656 ∧ n ≤ 1000000000000000 then some (.slice (some ⟨S.top, 0, none⟩) n 0, S.push (.cells e xs)) else none
    | .slice (some a) len 0 => match S.at a.block with
      | some (.cells e' c) =>
        if e' = e ∧ a.off = 0 ∧ c.length = len * sz ∧ 0 < sz then
          if n = 0 then some (.slice (some a) len 0, S)
          else if (2 * (len + n) + 768) * bytes ≤ 281474976710656 ∧ len + n ≤ 1000000000000000 then
            some (.slice (some ⟨S.top, 0, none⟩) (len + n) 0, S.app a.block (.cells e (c ++ xs)))
          else none
        else none
      | _ => none
    | .slice (some a) 0 1 =>
      if n = 0 then some (.slice (some a) 0 1, S)
      else if (2 * n + 768) * bytes ≤ 281474976710656 ∧ n ≤ 1000000000000000 then some (.slice (some ⟨S.top, 0, none⟩) n 0, S.push (.cells e xs)) else none
    | _ => none
@[simp] theorem op_append {e : TypeId} {sz bytes : Nat} {s x : IV} : evOp C R S (.append e sz bytes s x) = appK e sz bytes (s.ev R) (rowS S sz (x.ev R)) S := by
  simp only [evOp, evWrite, appK, rowS_eq]; rfl
theorem app_nil {e : TypeId} {sz bytes n : Nat} {xs : List Value} (hn : 0 < n) (hb : (2 * n + 768) * bytes ≤ 281474976710656 ∧ n ≤ 1000000000000000) :
    appK e sz bytes (.slice none 0 0) (some (n, xs)) S = some (.slice (some ⟨S.top, 0, none⟩) n 0, S.push (.cells e xs)) := by
  have : n ≠ 0 := by omega
  simp only [appK, this, if_false]
  rw [if_pos hb]
theorem app_more {e : TypeId} {sz bytes n b len : Nat} {xs c : List Value} (hm : S.at b = some (.cells e c)) (hc : c.length = len * sz) (hs : 0 < sz) (hn : 0 < n) (hb : (2 * (len + n) + 768) * bytes ≤ 281474976710656 ∧ len + n ≤ 1000000000000000) :
    appK e sz bytes (.slice (some ⟨b, 0, none⟩) len 0) (some (n, xs)) S = some (.slice (some ⟨S.top, 0, none⟩) (len + n) 0, S.app b (.cells e (c ++ xs))) := by
  have : n ≠ 0 := by omega
  simp only [appK, hm, this, if_false]
  rw [if_pos ⟨trivial, trivial, hc, hs⟩, if_pos hb]
theorem row_new {sz n b : Nat} {e : TypeId} {xs : List Value} {cp : Nat} (hm : S.at b = some (.cells e xs)) (hl : xs.length = n * sz) (ho : xs.all one = true) : rowS S sz (.slice (some ⟨b, 0, none⟩) n cp) = some (n, xs) := by
  have h1 : xs.take (n * sz) = xs := List.take_of_length_le (by omega)
  simp only [rowS, hm, cellsOf_cells, rowC, List.drop_zero, h1]
  rw [if_pos ⟨hl, ho⟩]

def callK (q : Bool) (x : Option (Value × St × Bool)) : Option (Value × St) := match x with
  | some (v, S', q') => if q && !q' then none else some (v, S')
  | none => none
@[simp] theorem callK_true {q : Bool} {v : Value} {S' : St} : callK q (some (v, S', true)) = some (v, S') := by simp [callK]
@[simp] theorem callK_false {b : Bool} {v : Value} {S' : St} : callK false (some (v, S', b)) = some (v, S') := by simp [callK]
def calleeK (C : CallS) (f : Value) (args : List Value) (S : St) (q : Bool) : Option (Value × St) := match f with
  | .func (.func fid) first captured => callK q (C fid (first.toList ++ (args ++ captured.toList)) S)
  | _ => none
@[simp] theorem calleeK_func {f : FuncId} {a b : Array Value} {args : List Value} {q : Bool} : calleeK C (.func (.func f) a b) args S q = callK q (C f (a.toList ++ (args ++ b.toList)) S) := (rfl)
@[simp] theorem op_call {f : IV} {args : List IV} {q : Bool} : evOp C R S (.call f args q) = calleeK C (f.ev R) (args.map (IV.ev R)) S q := by
  simp only [evOp, evCall, calleeK]
  cases IV.ev R f <;> try rfl
@[simp] theorem op_minmax {mx : Bool} {x : IV} {xs : List IV} : evOp C R S (.minmax mx x xs) = resK S (match x.ev R with
    | .int k n => evMin mx (.int k n) (xs.map (IV.ev R))
    | _ => none) := by
  simp only [evOp, evPure, resK_map]; rfl
@[simp] theorem min_nil {mx : Bool} {x : Value} : evMin mx x [] = some x := by unfold evMin; cases x <;> rfl
@[simp] theorem max_cons {k k' : IntKind} {x y : Int} {r : List Value} : evMin true (.int k x) (.int k' y :: r) = evMin true (.int k (if y > x then y else x)) r := by simp [evMin]
@[simp] theorem min_cons {k k' : IntKind} {x y : Int} {r : List Value} : evMin false (.int k x) (.int k' y :: r) = evMin false (.int k (if y < x then y else x)) r := by simp [evMin]
end

/-- A call's beginning: nothing is written yet. -/
def St.enter (S : St) : St := ⟨S.blks, S.blks.length, S.blks.length⟩

theorem law_step {prog : Nat → Option IFun} {C : CallS} {f nt : Nat} {b : ICode} {rs : List IRes} {args : List Value} {S : St} (hf : prog f = some ⟨nt, b, rs⟩) :
    evFun prog C f args S = endK S rs (evCode C b (args ++ List.replicate (nt - args.length) undef) S.enter) := by
  unfold evFun
  simp only [hf, endK]; rfl

theorem call_enter {prog : Nat → Option IFun} {n f nt : Nat} {b : ICode} {rs : List IRes} {args : List Value} {S : St} (hf : prog f = some ⟨nt, b, rs⟩) :
    calls prog (n + 1) f args S = endK S rs (evCode (calls prog n) b (args ++ List.replicate (nt - args.length) undef) S.enter) := call_step hf

theorem call_rd {prog : Nat → Option IFun} {n f nt : Nat} {b : ICode} {rs : List IRes} {args : List Value} {S : St} {x : Option (Value × St × Bool) → Prop} (hf : prog f = some ⟨nt, b, rs⟩) (hn : args.length ≤ nt)
    (h : ∀ R : List Value, R.length = nt → (∀ i, i < args.length → rd R i = args.getD i undef) → x (endK S rs (evCode (calls prog n) b R S.enter))) :
    x (calls prog (n + 1) f args S) := by
  rw [call_enter hf]
  refine h _ (by simp; omega) fun i hi => ?_
  simp [rd, -getD_rd, List.getElem?_append_left hi]

theorem law_rd {prog : Nat → Option IFun} {C : CallS} {f nt : Nat} {b : ICode} {rs : List IRes} {args : List Value} {S : St} {x : Option (Value × St × Bool) → Prop} (hf : prog f = some ⟨nt, b, rs⟩) (hn : args.length ≤ nt)
    (h : ∀ R : List Value, R.length = nt → (∀ i, i < args.length → rd R i = args.getD i undef) → x (endK S rs (evCode C b R S.enter))) :
    x (evFun prog C f args S) := by
  rw [law_step hf]
  refine h _ (by simp; omega) fun i hi => ?_
  simp [rd, -getD_rd, List.getElem?_append_left hi]

section
variable {S S1 : St}

theorem isSome_lt {b : Nat} (h : (S.at b).isSome = true) : b < S.top := by
  obtain ⟨o, ho⟩ := Option.isSome_iff_exists.1 h
  exact (List.getElem?_eq_some_iff.1 ho).1
theorem lt_top {b : Nat} {o : AObj} (h : S.at b = some o) : b < S.top := isSome_lt (by rw [h]; rfl)

@[simp] theorem m_enter {b : Nat} : S.enter.at b = S.at b := (rfl)
@[simp] theorem m_push_top {o : AObj} : (S.push o).at S.top = some o := by simp [St.at, St.push, St.top]
@[simp] theorem m_push {b : Nat} {o : AObj} (h : (S.at b).isSome = true) : (S.push o).at b = S.at b := by
  have := isSome_lt h
  simp only [St.at, St.push, St.top] at *
  rw [List.getElem?_append_left this]
@[simp] theorem m_wrote {b : Nat} {o : AObj} {v : Value} (h : (S.at b).isSome = true) : (S.wrote b o v).at b = some o := by
  have := isSome_lt h
  simp only [St.at, St.wrote, St.top] at *
  simp [this]
@[simp] theorem m_wrote_ne {b b' : Nat} {o : AObj} {v : Value} (h : b ≠ b') : (S.wrote b o v).at b' = S.at b' := by
  simp only [St.at, St.wrote]
  rw [List.getElem?_set_ne h]
@[simp] theorem m_app_top {b : Nat} {o : AObj} : (S.app b o).at S.top = some o := by simp [St.at, St.app, St.top]
@[simp] theorem m_app {b b' : Nat} {o : AObj} (hn : b ≠ b') (h : (S.at b').isSome = true) : (S.app b o).at b' = S.at b' := by
  have := isSome_lt h
  simp only [St.at, St.app, St.top] at *
  rw [List.getElem?_append_left (by simpa using this), List.getElem?_set_ne hn]
@[simp] theorem top_ne {b : Nat} (h : (S.at b).isSome = true) : (S.top = b) = False := by
  have := isSome_lt h
  simp only [eq_iff_iff, iff_false]; omega
@[simp] theorem ne_top {b : Nat} (h : (S.at b).isSome = true) : (b = S.top) = False := by
  have := isSome_lt h
  simp only [eq_iff_iff, iff_false]; omega

theorem top_enter : S.enter.top = S.top := rfl
theorem top_push {o : AObj} : (S.push o).top = S.top + 1 := by simp [St.push, St.top]
theorem top_wrote {b : Nat} {o : AObj} {v : Value} : (S.wrote b o v).top = S.top := by simp [St.wrote, St.top]
theorem top_app {b : Nat} {o : AObj} : (S.app b o).top = S.top + 1 := by simp [St.app, St.top]
theorem wr_enter : S.enter.wr = S.top := rfl
theorem wr_push {o : AObj} : (S.push o).wr = S.wr := rfl
theorem wr_wrote {b : Nat} {o : AObj} {v : Value} : (S.wrote b o v).wr = min S.wr b := rfl
theorem wr_app {b : Nat} {o : AObj} : (S.app b o).wr = min S.wr b := rfl

theorem leave_eq {v : Value} : leave S S1 v = if decide (S.top ≤ S1.wr) && refsLt S.top v then (v, S, true)
    else if decide (S.top ≤ S1.esc) && refsLt S.top v then (v, ⟨S1.blks.take S.top, min S.wr S1.wr, min S.esc S1.esc⟩, false)
    else (v, ⟨S1.blks, min S.wr S1.wr, min S.esc S1.esc⟩, decide (S.top ≤ S1.wr)) := rfl

/-- A call that wrote nothing old, and whose value refers to nothing new. -/
theorem leave_quiet {v : Value} (h : S.top ≤ S1.wr) (hv : refsLt S.top v = true) : leave S S1 v = (v, S, true) := by
  rw [leave_eq]; simp [h, hv]

@[simp] theorem refs_int {n : Nat} {k : IntKind} {x : Int} : refsLt n (.int k x) = true := by simp [refsLt]
@[simp] theorem refs_bool {n : Nat} {x : Bool} : refsLt n (.bool x) = true := by simp [refsLt]
@[simp] theorem refs_nilp {n : Nat} : refsLt n (.pointer none) = true := by simp [refsLt]
@[simp] theorem refs_nils {n l c : Nat} : refsLt n (.slice none l c) = true := by simp [refsLt]
@[simp] theorem refs_agg {n : Nat} {l : List Value} : refsLt n (.agg ⟨l⟩) = refsLtL n l := by simp [refsLt, refsLtA]
@[simp] theorem refs_tuple {n : Nat} {l : List Value} : refsLt n (.tuple ⟨l⟩) = refsLtL n l := by simp [refsLt, refsLtA]
@[simp] theorem refs_nil {n : Nat} : refsLtL n [] = true := by simp [refsLtL]
@[simp] theorem refs_cons {n : Nat} {v : Value} {l : List Value} : refsLtL n (v :: l) = (refsLt n v && refsLtL n l) := by simp [refsLtL]
@[simp] theorem refs_ptr {n : Nat} {a : Addr} : refsLt n (.pointer (some a)) = (decide (a.block < n) && a.spot.isNone) := by simp [refsLt]
@[simp] theorem refs_slice {n l c : Nat} {a : Addr} : refsLt n (.slice (some a) l c) = (decide (a.block < n) && a.spot.isNone) := by simp [refsLt]

theorem leave_one {v : Value} : (if decide (S.top ≤ S1.wr) && true then (v, S, true) else
    if decide (S.top ≤ S1.esc) && true then (v, ⟨S1.blks.take S.top, min S.wr S1.wr, min S.esc S1.esc⟩, false)
    else (v, ⟨S1.blks, min S.wr S1.wr, min S.esc S1.esc⟩, decide (S.top ≤ S1.wr))) = if S.top ≤ S1.wr then (v, S, true) else
    if S.top ≤ S1.esc then (v, ⟨S1.blks.take S.top, min S.wr S1.wr, min S.esc S1.esc⟩, false)
    else (v, ⟨S1.blks, min S.wr S1.wr, min S.esc S1.esc⟩, false) := by
  by_cases h : S.top ≤ S1.wr <;> simp [h]

/-- Nothing that was there before has been written. -/
def Quiet (S S1 : St) : Prop := S.top ≤ S1.wr
@[simp] theorem quiet_enter2 : Quiet S S1.enter ↔ S.top ≤ S1.top := (Iff.rfl)
@[simp] theorem quiet_push {o : AObj} : Quiet S (S1.push o) ↔ Quiet S S1 := (Iff.rfl)
@[simp] theorem quiet_wrote {b : Nat} {o : AObj} {v : Value} : Quiet S (S1.wrote b o v) ↔ Quiet S S1 ∧ S.top ≤ b := Nat.le_min
@[simp] theorem quiet_app {b : Nat} {o : AObj} : Quiet S (S1.app b o) ↔ Quiet S S1 ∧ S.top ≤ b := Nat.le_min
@[simp] theorem top_le_enter : S.top ≤ S.enter.top := Nat.le_refl _
@[simp] theorem top_le_push {o : AObj} (h : S.top ≤ S1.top) : S.top ≤ (S1.push o).top := by rw [top_push]; omega
@[simp] theorem top_le_wrote {b : Nat} {o : AObj} {v : Value} (h : S.top ≤ S1.top) : S.top ≤ (S1.wrote b o v).top := by rw [top_wrote]; exact h
@[simp] theorem top_le_app {b : Nat} {o : AObj} (h : S.top ≤ S1.top) : S.top ≤ (S1.app b o).top := by rw [top_app]; omega

@[simp] theorem leave_of_quiet {v : Value} (h : Quiet S S1) (hv : refsLt S.top v = true) : leave S S1 v = (v, S, true) := leave_quiet h hv

@[simp] theorem res_cell {R : List Value} {t : Nat} {agg : Bool} {n : Nat} : evRes1 R S (.cell t agg n) = ldK agg n (rd R t) S := by
  rw [← ld_eq]
  rfl
end

attribute [simp] Value.cells evSlice

end Go.Proofs.YtepddcemoofmlaaGreat.AE
