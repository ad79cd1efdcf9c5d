/- Stepping through the compact form by rewriting: continuations that are looked into only when their turn has come. -/
import Derived.Test.YtepddcemoofmlaaGreatAe28
namespace Go.Proofs.YtepddcemoofmlaaGreat.AE
open Go

abbrev Res := Option (Out × List Value × St)

def seqK (x : Res) (k : List Value → St → Res) : Res :=
  match x with
  | some (.norm, R, S) => k R S
  | some (.ret, R, S) => some (.ret, R, S)
  | some (.exit id, R, S) => some (.exit id, R, S)
  | none => none

def condK (v : Value) (a b : Unit → Res) : Res :=
  match v with
  | .bool true => a ()
  | .bool false => b ()
  | _ => none

def blockK (id : Nat) (x : Res) : Res :=
  match x with
  | some (.exit id', R, S) => if id' = id then some (.norm, R, S) else some (.exit id', R, S)
  | r => r

def regK (x : Option (List Value × St)) : Res :=
  match x with
  | some (R, S) => some (.norm, R, S)
  | none => none

def stepK (d : Option Nat) (x : Option (Value × St)) (R : List Value) (k : List Value → St → Option (List Value × St)) : Option (List Value × St) :=
  match x with
  | some (v, S) => k (put R d v) S
  | none => none

def guardK (b : Bool) (x y : Unit → Option (List Value × St)) : Option (List Value × St) :=
  match b with
  | true => x ()
  | false => y ()

@[congr] theorem seqK_congr {x x' : Res} {k : List Value → St → Res} (h : x = x') : seqK x k = seqK x' k := by rw [h]
@[congr] theorem condK_congr {v v' : Value} {a b : Unit → Res} (h : v = v') : condK v a b = condK v' a b := by rw [h]
@[congr] theorem stepK_congr {d : Option Nat} {x x' : Option (Value × St)} {R : List Value} {k : List Value → St → Option (List Value × St)} (h : x = x') : stepK d x R k = stepK d x' R k := by rw [h]
@[congr] theorem guardK_congr {b b' : Bool} {x y : Unit → Option (List Value × St)} (h : b = b') : guardK b x y = guardK b' x y := by rw [h]

@[simp] theorem seqK_norm {R : List Value} {S : St} {k : List Value → St → Res} : seqK (some (.norm, R, S)) k = k R S := (rfl)
@[simp] theorem seqK_ret {R : List Value} {S : St} {k : List Value → St → Res} : seqK (some (.ret, R, S)) k = some (.ret, R, S) := (rfl)
@[simp] theorem seqK_exit {id : Nat} {R : List Value} {S : St} {k : List Value → St → Res} : seqK (some (.exit id, R, S)) k = some (.exit id, R, S) := (rfl)
@[simp] theorem condK_true {a b : Unit → Res} : condK (.bool true) a b = a () := (rfl)
@[simp] theorem condK_false {a b : Unit → Res} : condK (.bool false) a b = b () := (rfl)
theorem condK_ite {p : Prop} [Decidable p] {a b : Unit → Res} : condK (.bool (decide p)) a b = if p then a () else b () := by
  by_cases h : p <;> simp [h, condK]
@[simp] theorem regK_some {R : List Value} {S : St} : regK (some (R, S)) = some (.norm, R, S) := (rfl)
@[simp] theorem stepK_some {d : Option Nat} {v : Value} {S : St} {R : List Value} {k : List Value → St → Option (List Value × St)} : stepK d (some (v, S)) R k = k (put R d v) S := (rfl)
@[simp] theorem guardK_true {x y : Unit → Option (List Value × St)} : guardK true x y = x () := (rfl)
@[simp] theorem guardK_false {x y : Unit → Option (List Value × St)} : guardK false x y = y () := (rfl)
@[simp] theorem blockK_norm {id : Nat} {R : List Value} {S : St} : blockK id (some (.norm, R, S)) = some (.norm, R, S) := (rfl)
@[simp] theorem blockK_ret {id : Nat} {R : List Value} {S : St} : blockK id (some (.ret, R, S)) = some (.ret, R, S) := (rfl)
@[simp] theorem blockK_exit {id id' : Nat} {R : List Value} {S : St} : blockK id (some (.exit id', R, S)) = if id' = id then some (.norm, R, S) else some (.exit id', R, S) := (rfl)

theorem ev_seq {C : CallS} {a b : ICode} {R : List Value} {S : St} : evCode C (.seq a b) R S = seqK (evCode C a R S) fun R S => evCode C b R S := rfl
theorem ev_cond {C : CallS} {x : IV} {a b : ICode} {R : List Value} {S : St} : evCode C (.cond x a b) R S = condK (x.ev R) (fun _ => evCode C a R S) fun _ => evCode C b R S := by
  simp only [evCode, condK]; rfl
theorem ev_block {C : CallS} {id : Nat} {b : ICode} {R : List Value} {S : St} : evCode C (.block id b) R S = blockK id (evCode C b R S) := by
  simp only [evCode, blockK]; rfl
theorem ev_region {C : CallS} {l : List IOper} {R : List Value} {S : St} : evCode C (.region l) R S = regK (evOps C l l 0 [] R S) := by
  simp only [evCode, regK]; rfl
@[simp] theorem ops_nil {C : CallS} {al : List IOper} {p : Nat} {H : List (Nat × St)} {R : List Value} {S : St} : evOps C al [] p H R S = some (R, S) := (rfl)

@[simp] theorem ops_step {C : CallS} {al l : List IOper} {d : Option Nat} {op : IOp} {p : Nat} {R : List Value} {S : St} :
    evOps C al (⟨d, op, none, [], [], false⟩ :: l) p [] R S = stepK d (evOp C R S op) R fun R S => evOps C al l (p + 1) [] R S := by
  simp only [evOps, stepK, wantedI, preOk, postOk, List.all_nil, Bool.and_self, if_true, Bool.false_eq_true, if_false]
  cases evOp C R S op with
  | none => rfl
  | some x => rfl

@[simp] theorem ops_guard {C : CallS} {al l : List IOper} {d : Option Nat} {op : IOp} {g : Nat × Bool} {p : Nat} {R : List Value} {S : St} :
    evOps C al (⟨d, op, some g, [], [], false⟩ :: l) p [] R S = guardK (wantedI (some g) R) (fun _ => stepK d (evOp C R S op) R fun R S => evOps C al l (p + 1) [] R S) fun _ => evOps C al l (p + 1) [] (put R d undef) S := by
  simp only [evOps, stepK, preOk, postOk, List.all_nil, Bool.and_self, if_true, Bool.false_eq_true, if_false]
  cases wantedI (some g) R with
  | false => rfl
  | true =>
    simp only [if_true, guardK]
    cases evOp C R S op with
    | none => rfl
    | some x => rfl

/-- How a call ends. -/
def endK (S : St) (rs : List IRes) (x : Res) : Option (Value × St × Bool) :=
  match x with
  | some (.norm, R, S1) => (evRes R S1 rs).map fun v => leave S S1 v
  | some (.ret, R, S1) => (evRes R S1 rs).map fun v => leave S S1 v
  | _ => none

@[simp] theorem endK_norm {S S1 : St} {rs : List IRes} {R : List Value} : endK S rs (some (.norm, R, S1)) = (evRes R S1 rs).map fun v => leave S S1 v := (rfl)
@[simp] theorem endK_ret {S S1 : St} {rs : List IRes} {R : List Value} : endK S rs (some (.ret, R, S1)) = (evRes R S1 rs).map fun v => leave S S1 v := (rfl)

theorem call_step {prog : Nat → Option IFun} {n f nt : Nat} {b : ICode} {rs : List IRes} {args : List Value} {S : St} (hf : prog f = some ⟨nt, b, rs⟩) :
    calls prog (n + 1) f args S = endK S rs (evCode (calls prog n) b (args ++ List.replicate (nt - args.length) undef) ⟨S.blks, S.blks.length, S.blks.length⟩) := by
  show evFun prog (calls prog n) f args S = _
  unfold evFun
  simp only [hf, endK]; rfl

attribute [simp] evResL evRes

end Go.Proofs.YtepddcemoofmlaaGreat.AE
