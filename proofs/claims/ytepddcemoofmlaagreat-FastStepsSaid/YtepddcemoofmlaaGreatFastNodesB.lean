/- The pieces of the code, each with a name and a rule (written by program). -/
import Derived.Test.YtepddcemoofmlaaGreatFastIr
import Derived.Test.YtepddcemoofmlaaGreatAe33
set_option linter.unusedSimpArgs false
set_option linter.unusedVariables false
namespace Go.Proofs.YtepddcemoofmlaaGreat.Fast
open Go Go.Proofs.YtepddcemoofmlaaGreat.AE
set_option maxRecDepth 100000
variable {C : CallS} {R : List Value} {S : St}

/-! wainscot/wainscotlaw22.FastSteps -/
@[simp] def l3_1 : List IOper := [oy 4 (.box 25 6 (.t 1)),
  oy 5 (.box 27 17 (.t 2)),
  oy 6 (.mv (.c (.bool false)))]
def n3_1 : ICode := .region l3_1
@[simp] def l3_3 : List IOper := [oy 16 (.mv (.t 0)),
  oy 17 (.load true 6 (.t 4)),
  oy 18 (.call (.c (.func (.func 4) #[] #[])) [(.t 16), (.t 17)] false),
  oy 15 (.mv (.t 18)),
  oy 19 (.extract (.t 15) 0),
  oy 20 (.extract (.t 15) 1),
  oy 7 (.mv (.t 19)),
  oy 8 (.mv (.t 20))]
def n3_3 : ICode := .region l3_3
@[simp] def l3_6 : List IOper := [oy 21 (.mv (.t 7)),
  oy 22 (.bin .eql .ptr (.t 21) (.c (.pointer none)))]
def n3_6 : ICode := .region l3_6
@[simp] def l3_9 : List IOper := [oy 6 (.mv (.c (.bool false)))]
def n3_9 : ICode := .region l3_9
def n3_10 : ICode := .ret
def n3_8 : ICode := .seq n3_9 n3_10
def n3_11 : ICode := .skip
def n3_7 : ICode := .cond (.t 22) n3_8 n3_11
def n3_5 : ICode := .seq n3_6 n3_7
@[simp] def l3_14 : List IOper := [oy 9 (.mv (.c (.int .i64 0)))]
def n3_14 : ICode := .region l3_14
@[simp] def l3_18 : List IOper := [oy 23 (.mv (.t 9)),
  oy 24 (.bin .lss .int (.t 23) (.c (.int .i64 12)))]
def n3_18 : ICode := .region l3_18
def n3_20 : ICode := .skip
def n3_21 : ICode := .exit 0
def n3_19 : ICode := .cond (.t 24) n3_20 n3_21
def n3_17 : ICode := .seq n3_18 n3_19
@[simp] def l3_25 : List IOper := [oy 27 (.mv (.t 7)),
  oy 28 (.call (.c (.func (.func 5) #[] #[])) [(.t 27)] true),
  oy 10 (.mv (.t 28))]
def n3_25 : ICode := .region l3_25
@[simp] def l3_27 : List IOper := [oy 30 (.mv (.t 7)),
  oy 31 (.load true 6 (.t 4)),
  oy 32 (.load true 17 (.t 5)),
  oy 33 (.call (.c (.func (.func 6) #[] #[])) [(.t 30), (.t 31), (.t 32)] false),
  oy 29 (.mv (.t 33)),
  oy 34 (.extract (.t 29) 0),
  oy 35 (.extract (.t 29) 1),
  oy 11 (.new 27 [(.int .i64 0), (.int .i64 0), (.int .i64 0), (.int .i64 0), (.int .i64 0), (.int .i64 0), (.int .i64 0), (.int .u64 0), (.int .u64 0), (.int .u64 0), (.int .u64 0), (.int .u64 0), (.int .i64 0), (.int .i64 0), (.int .i64 0), (.int .i64 0), (.int .i64 0)]),
  ox (.store 17 (.t 11) (.t 34)),
  oy 12 (.mv (.t 35))]
def n3_27 : ICode := .region l3_27
@[simp] def l3_29 : List IOper := [oy 37 (.mv (.t 8)),
  oy 38 (.load true 6 (.t 4)),
  oy 39 (.load true 17 (.t 5)),
  oy 40 (.call (.c (.func (.func 7) #[] #[])) [(.t 37), (.t 38), (.t 39)] false),
  oy 36 (.mv (.t 40)),
  oy 41 (.extract (.t 36) 0),
  oy 42 (.extract (.t 36) 1),
  oy 13 (.new 27 [(.int .i64 0), (.int .i64 0), (.int .i64 0), (.int .i64 0), (.int .i64 0), (.int .i64 0), (.int .i64 0), (.int .u64 0), (.int .u64 0), (.int .u64 0), (.int .u64 0), (.int .u64 0), (.int .i64 0), (.int .i64 0), (.int .i64 0), (.int .i64 0), (.int .i64 0)]),
  ox (.store 17 (.t 13) (.t 41)),
  oy 14 (.mv (.t 42))]
def n3_29 : ICode := .region l3_29
@[simp] def l3_32 : List IOper := [oy 43 (.load true 17 (.t 11)),
  oy 44 (.load true 17 (.t 13)),
  oy 45 (.bin .neq (.plain [(some .i64), (some .i64), (some .i64), (some .i64), (some .i64), (some .i64), (some .i64), (some .u64), (some .u64), (some .u64), (some .u64), (some .u64), (some .i64), (some .i64), (some .i64), (some .i64), (some .i64)]) (.t 43) (.t 44)),
  oy 46 (.mv (.t 45)),
  oz 47 46 false (.mv (.t 12)),
  oz 48 46 false (.mv (.t 14)),
  oz 49 46 false (.bin .neq .int (.t 47) (.t 48)),
  oy 50 (.pick (.t 46) (.c (.bool true)) (.t 49)),
  oy 51 (.mv (.t 50)),
  oz 52 51 false (.mv (.t 7)),
  oz 53 51 false (.call (.c (.func (.func 9) #[] #[])) [(.t 52)] true),
  oz 54 51 false (.mv (.t 8)),
  oz 55 51 false (.call (.c (.func (.func 10) #[] #[])) [(.t 54)] false),
  oz 56 51 false (.call (.c (.func (.func 8) #[] #[])) [(.t 53), (.t 55)] true),
  oz 57 51 false (.un .not (.t 56)),
  oy 58 (.pick (.t 51) (.c (.bool true)) (.t 57)),
  oy 59 (.mv (.t 58)),
  oz 60 59 false (.mv (.t 7)),
  oz 61 59 false (.call (.c (.func (.func 5) #[] #[])) [(.t 60)] true),
  oz 62 59 false (.mv (.t 10)),
  oz 63 59 false (.bin .add .int (.t 62) (.c (.int .i64 1))),
  oz 64 59 false (.bin .gtr .int (.t 61) (.t 63)),
  oy 65 (.pick (.t 59) (.c (.bool true)) (.t 64))]
def n3_32 : ICode := .region l3_32
@[simp] def l3_35 : List IOper := [oy 6 (.mv (.c (.bool false)))]
def n3_35 : ICode := .region l3_35
def n3_36 : ICode := .ret
def n3_34 : ICode := .seq n3_35 n3_36
def n3_37 : ICode := .skip
def n3_33 : ICode := .cond (.t 65) n3_34 n3_37
def n3_31 : ICode := .seq n3_32 n3_33
@[simp] def l3_40 : List IOper := [oy 66 (.mv (.t 12)),
  oy 67 (.bin .neq .int (.t 66) (.c (.int .i64 0)))]
def n3_40 : ICode := .region l3_40
def n3_42 : ICode := .exit 0
def n3_43 : ICode := .skip
def n3_41 : ICode := .cond (.t 67) n3_42 n3_43
def n3_39 : ICode := .seq n3_40 n3_41
@[simp] def l3_44 : List IOper := [oy 68 (.load true 17 (.t 11)),
  ox (.store 17 (.t 5) (.t 68))]
def n3_44 : ICode := .region l3_44
def n3_38 : ICode := .seq n3_39 n3_44
def n3_30 : ICode := .seq n3_31 n3_38
def n3_28 : ICode := .seq n3_29 n3_30
def n3_26 : ICode := .seq n3_27 n3_28
def n3_24 : ICode := .seq n3_25 n3_26
def n3_23 : ICode := .block 1 n3_24
@[simp] def l3_45 : List IOper := [oy 25 (.mv (.t 9)),
  oy 26 (.bin .add .int (.t 25) (.c (.int .i64 1))),
  oy 9 (.mv (.t 26))]
def n3_45 : ICode := .region l3_45
def n3_22 : ICode := .seq n3_23 n3_45
def n3_16 : ICode := .seq n3_17 n3_22
def loop3_0 : ICode := .loop n3_16
def n3_15 : ICode := .block 0 loop3_0
def n3_13 : ICode := .seq n3_14 n3_15
@[simp] def l3_47 : List IOper := [oy 69 (.call (.c (.func (.func 11) #[] #[])) [] false),
  oy 6 (.mv (.t 69))]
def n3_47 : ICode := .region l3_47
def n3_48 : ICode := .ret
def n3_46 : ICode := .seq n3_47 n3_48
def n3_12 : ICode := .seq n3_13 n3_46
def n3_4 : ICode := .seq n3_5 n3_12
def n3_2 : ICode := .seq n3_3 n3_4
def n3_0 : ICode := .seq n3_1 n3_2
theorem b3 : table.find 3 = some ⟨70, n3_0, [.tmp 6]⟩ := by kernel_rfl
@[simp] theorem en3_1 : evCode C n3_1 R S = regK (runOps C l3_1 R S) := ev_plain rfl
@[simp] theorem en3_3 : evCode C n3_3 R S = regK (runOps C l3_3 R S) := ev_plain rfl
@[simp] theorem en3_6 : evCode C n3_6 R S = regK (runOps C l3_6 R S) := ev_plain rfl
@[simp] theorem en3_9 : evCode C n3_9 R S = regK (runOps C l3_9 R S) := ev_plain rfl
@[simp] theorem en3_10 : evCode C n3_10 R S = some (.ret, R, S) := (rfl)
@[simp] theorem en3_8 : evCode C n3_8 R S = seqK (evCode C n3_9 R S) fun R S => evCode C n3_10 R S := ev_seq
@[simp] theorem en3_11 : evCode C n3_11 R S = some (.norm, R, S) := (rfl)
@[simp] theorem en3_7 : evCode C n3_7 R S = condK (IV.ev R (.t 22)) (fun _ => evCode C n3_8 R S) fun _ => evCode C n3_11 R S := ev_cond
@[simp] theorem en3_5 : evCode C n3_5 R S = seqK (evCode C n3_6 R S) fun R S => evCode C n3_7 R S := ev_seq
@[simp] theorem en3_14 : evCode C n3_14 R S = regK (runOps C l3_14 R S) := ev_plain rfl
@[simp] theorem en3_18 : evCode C n3_18 R S = regK (runOps C l3_18 R S) := ev_plain rfl
@[simp] theorem en3_20 : evCode C n3_20 R S = some (.norm, R, S) := (rfl)
@[simp] theorem en3_21 : evCode C n3_21 R S = some (.exit 0, R, S) := (rfl)
@[simp] theorem en3_19 : evCode C n3_19 R S = condK (IV.ev R (.t 24)) (fun _ => evCode C n3_20 R S) fun _ => evCode C n3_21 R S := ev_cond
@[simp] theorem en3_17 : evCode C n3_17 R S = seqK (evCode C n3_18 R S) fun R S => evCode C n3_19 R S := ev_seq
@[simp] theorem en3_25 : evCode C n3_25 R S = regK (runOps C l3_25 R S) := ev_plain rfl
@[simp] theorem en3_27 : evCode C n3_27 R S = regK (runOps C l3_27 R S) := ev_plain rfl
@[simp] theorem en3_29 : evCode C n3_29 R S = regK (runOps C l3_29 R S) := ev_plain rfl
@[simp] theorem en3_32 : evCode C n3_32 R S = regK (runOps C l3_32 R S) := ev_plain rfl
@[simp] theorem en3_35 : evCode C n3_35 R S = regK (runOps C l3_35 R S) := ev_plain rfl
@[simp] theorem en3_36 : evCode C n3_36 R S = some (.ret, R, S) := (rfl)
@[simp] theorem en3_34 : evCode C n3_34 R S = seqK (evCode C n3_35 R S) fun R S => evCode C n3_36 R S := ev_seq
@[simp] theorem en3_37 : evCode C n3_37 R S = some (.norm, R, S) := (rfl)
@[simp] theorem en3_33 : evCode C n3_33 R S = condK (IV.ev R (.t 65)) (fun _ => evCode C n3_34 R S) fun _ => evCode C n3_37 R S := ev_cond
@[simp] theorem en3_31 : evCode C n3_31 R S = seqK (evCode C n3_32 R S) fun R S => evCode C n3_33 R S := ev_seq
@[simp] theorem en3_40 : evCode C n3_40 R S = regK (runOps C l3_40 R S) := ev_plain rfl
@[simp] theorem en3_42 : evCode C n3_42 R S = some (.exit 0, R, S) := (rfl)
@[simp] theorem en3_43 : evCode C n3_43 R S = some (.norm, R, S) := (rfl)
@[simp] theorem en3_41 : evCode C n3_41 R S = condK (IV.ev R (.t 67)) (fun _ => evCode C n3_42 R S) fun _ => evCode C n3_43 R S := ev_cond
@[simp] theorem en3_39 : evCode C n3_39 R S = seqK (evCode C n3_40 R S) fun R S => evCode C n3_41 R S := ev_seq
@[simp] theorem en3_44 : evCode C n3_44 R S = regK (runOps C l3_44 R S) := ev_plain rfl
@[simp] theorem en3_38 : evCode C n3_38 R S = seqK (evCode C n3_39 R S) fun R S => evCode C n3_44 R S := ev_seq
@[simp] theorem en3_30 : evCode C n3_30 R S = seqK (evCode C n3_31 R S) fun R S => evCode C n3_38 R S := ev_seq
@[simp] theorem en3_28 : evCode C n3_28 R S = seqK (evCode C n3_29 R S) fun R S => evCode C n3_30 R S := ev_seq
@[simp] theorem en3_26 : evCode C n3_26 R S = seqK (evCode C n3_27 R S) fun R S => evCode C n3_28 R S := ev_seq
@[simp] theorem en3_24 : evCode C n3_24 R S = seqK (evCode C n3_25 R S) fun R S => evCode C n3_26 R S := ev_seq
@[simp] theorem en3_23 : evCode C n3_23 R S = blockK 1 (evCode C n3_24 R S) := ev_block
@[simp] theorem en3_45 : evCode C n3_45 R S = regK (runOps C l3_45 R S) := ev_plain rfl
@[simp] theorem en3_22 : evCode C n3_22 R S = seqK (evCode C n3_23 R S) fun R S => evCode C n3_45 R S := ev_seq
@[simp] theorem en3_16 : evCode C n3_16 R S = seqK (evCode C n3_17 R S) fun R S => evCode C n3_22 R S := ev_seq
theorem eloop3_0 : evCode C loop3_0 R S = iter (fun R S => evCode C n3_16 R S) rounds R S := (rfl)
@[simp] theorem en3_15 : evCode C n3_15 R S = blockK 0 (evCode C loop3_0 R S) := ev_block
@[simp] theorem en3_13 : evCode C n3_13 R S = seqK (evCode C n3_14 R S) fun R S => evCode C n3_15 R S := ev_seq
@[simp] theorem en3_47 : evCode C n3_47 R S = regK (runOps C l3_47 R S) := ev_plain rfl
@[simp] theorem en3_48 : evCode C n3_48 R S = some (.ret, R, S) := (rfl)
@[simp] theorem en3_46 : evCode C n3_46 R S = seqK (evCode C n3_47 R S) fun R S => evCode C n3_48 R S := ev_seq
@[simp] theorem en3_12 : evCode C n3_12 R S = seqK (evCode C n3_13 R S) fun R S => evCode C n3_46 R S := ev_seq
@[simp] theorem en3_4 : evCode C n3_4 R S = seqK (evCode C n3_5 R S) fun R S => evCode C n3_12 R S := ev_seq
@[simp] theorem en3_2 : evCode C n3_2 R S = seqK (evCode C n3_3 R S) fun R S => evCode C n3_4 R S := ev_seq
@[simp] theorem en3_0 : evCode C n3_0 R S = seqK (evCode C n3_1 R S) fun R S => evCode C n3_2 R S := ev_seq
theorem q3 {n : Nat} {args : List Value} {S : St} : calls table.find (n + 1) 3 args S = endK S [.tmp 6] (evCode (calls table.find n) n3_0 (args ++ List.replicate (70 - args.length) undef) S.enter) := call_enter b3

/-! wainscot/wainscotlaw22.laid -/
@[simp] def l4_1 : List IOper := [oy 3 (.box 25 6 (.t 1)),
  oy 4 (.mv (.c (.pointer none))),
  oy 5 (.mv (.c (.pointer none)))]
def n4_1 : ICode := .region l4_1
@[simp] def l4_3 : List IOper := [oy 12 (.load true 6 (.t 3)),
  oy 13 (.call (.c (.func (.func 12) #[] #[])) [(.t 12)] true),
  oy 6 (.mv (.t 13))]
def n4_3 : ICode := .region l4_3
@[simp] def l4_6 : List IOper := [oy 14 (.mv (.t 6)),
  oy 15 (.bin .eql .int (.t 14) (.c (.int .i64 0)))]
def n4_6 : ICode := .region l4_6
@[simp] def l4_8 : List IOper := [oy 6 (.mv (.c (.int .i64 64)))]
def n4_8 : ICode := .region l4_8
def n4_9 : ICode := .skip
def n4_7 : ICode := .cond (.t 15) n4_8 n4_9
def n4_5 : ICode := .seq n4_6 n4_7
@[simp] def l4_11 : List IOper := [oy 17 (.mv (.t 6)),
  oy 18 (.call (.c (.func (.func 13) #[] #[])) [(.t 17)] true),
  oy 16 (.mv (.t 18)),
  oy 19 (.extract (.t 16) 0),
  oy 20 (.extract (.t 16) 1),
  oy 7 (.mv (.t 19)),
  oy 8 (.mv (.t 20))]
def n4_11 : ICode := .region l4_11
@[simp] def l4_13 : List IOper := [oy 22 (.mv (.t 6)),
  oy 23 (.call (.c (.func (.func 14) #[] #[])) [(.t 22)] false),
  oy 21 (.mv (.t 23)),
  oy 24 (.extract (.t 21) 0),
  oy 25 (.extract (.t 21) 1),
  oy 9 (.mv (.t 24)),
  oy 10 (.mv (.t 25))]
def n4_13 : ICode := .region l4_13
@[simp] def l4_16 : List IOper := [oy 11 (.mv (.c (.int .i64 0)))]
def n4_16 : ICode := .region l4_16
@[simp] def l4_20 : List IOper := [oy 26 (.mv (.t 11)),
  oy 27 (.mv (.t 6)),
  oy 28 (.bin .lss .int (.t 26) (.t 27)),
  oy 29 (.mv (.t 28)),
  oz 30 29 true (.mv (.t 11)),
  oz 31 29 true (.mv (.t 0)),
  oz 32 29 true (.lenS (.t 31)),
  oz 33 29 true (.bin .lss .int (.t 30) (.t 32)),
  oy 34 (.pick (.t 29) (.t 33) (.c (.bool false)))]
def n4_20 : ICode := .region l4_20
def n4_22 : ICode := .skip
def n4_23 : ICode := .exit 0
def n4_21 : ICode := .cond (.t 34) n4_22 n4_23
def n4_19 : ICode := .seq n4_20 n4_21
@[simp] def l4_27 : List IOper := [oy 37 (.mv (.t 7)),
  oy 38 (.mv (.t 11)),
  oy 39 (.mv (.t 0)),
  oy 40 (.mv (.t 11)),
  oy 41 (.idxS 1 (.t 39) (.t 40)),
  oy 42 (.load false 1 (.t 41)),
  oy 43 (.call (.c (.func (.func 15) #[] #[])) [(.t 37), (.t 38), (.t 42)] false)]
def n4_27 : ICode := .region l4_27
@[simp] def l4_28 : List IOper := [oy 44 (.mv (.t 9)),
  oy 45 (.mv (.t 11)),
  oy 46 (.mv (.t 0)),
  oy 47 (.mv (.t 11)),
  oy 48 (.idxS 1 (.t 46) (.t 47)),
  oy 49 (.load false 1 (.t 48)),
  oy 50 (.call (.c (.func (.func 16) #[] #[])) [(.t 44), (.t 45), (.t 49)] false)]
def n4_28 : ICode := .region l4_28
def n4_26 : ICode := .seq n4_27 n4_28
def n4_25 : ICode := .block 1 n4_26
@[simp] def l4_29 : List IOper := [oy 35 (.mv (.t 11)),
  oy 36 (.bin .add .int (.t 35) (.c (.int .i64 1))),
  oy 11 (.mv (.t 36))]
def n4_29 : ICode := .region l4_29
def n4_24 : ICode := .seq n4_25 n4_29
def n4_18 : ICode := .seq n4_19 n4_24
def loop4_0 : ICode := .loop n4_18
def n4_17 : ICode := .block 0 loop4_0
def n4_15 : ICode := .seq n4_16 n4_17
@[simp] def l4_31 : List IOper := [oy 51 (.mv (.t 7)),
  oy 52 (.mv (.t 9)),
  oy 4 (.mv (.t 51)),
  oy 5 (.mv (.t 52))]
def n4_31 : ICode := .region l4_31
def n4_32 : ICode := .ret
def n4_30 : ICode := .seq n4_31 n4_32
def n4_14 : ICode := .seq n4_15 n4_30
def n4_12 : ICode := .seq n4_13 n4_14
def n4_10 : ICode := .seq n4_11 n4_12
def n4_4 : ICode := .seq n4_5 n4_10
def n4_2 : ICode := .seq n4_3 n4_4
def n4_0 : ICode := .seq n4_1 n4_2
theorem b4 : table.find 4 = some ⟨53, n4_0, [.tmp 4, .tmp 5]⟩ := by kernel_rfl
@[simp] theorem en4_1 : evCode C n4_1 R S = regK (runOps C l4_1 R S) := ev_plain rfl
@[simp] theorem en4_3 : evCode C n4_3 R S = regK (runOps C l4_3 R S) := ev_plain rfl
@[simp] theorem en4_6 : evCode C n4_6 R S = regK (runOps C l4_6 R S) := ev_plain rfl
@[simp] theorem en4_8 : evCode C n4_8 R S = regK (runOps C l4_8 R S) := ev_plain rfl
@[simp] theorem en4_9 : evCode C n4_9 R S = some (.norm, R, S) := (rfl)
@[simp] theorem en4_7 : evCode C n4_7 R S = condK (IV.ev R (.t 15)) (fun _ => evCode C n4_8 R S) fun _ => evCode C n4_9 R S := ev_cond
@[simp] theorem en4_5 : evCode C n4_5 R S = seqK (evCode C n4_6 R S) fun R S => evCode C n4_7 R S := ev_seq
@[simp] theorem en4_11 : evCode C n4_11 R S = regK (runOps C l4_11 R S) := ev_plain rfl
@[simp] theorem en4_13 : evCode C n4_13 R S = regK (runOps C l4_13 R S) := ev_plain rfl
@[simp] theorem en4_16 : evCode C n4_16 R S = regK (runOps C l4_16 R S) := ev_plain rfl
@[simp] theorem en4_20 : evCode C n4_20 R S = regK (runOps C l4_20 R S) := ev_plain rfl
@[simp] theorem en4_22 : evCode C n4_22 R S = some (.norm, R, S) := (rfl)
@[simp] theorem en4_23 : evCode C n4_23 R S = some (.exit 0, R, S) := (rfl)
@[simp] theorem en4_21 : evCode C n4_21 R S = condK (IV.ev R (.t 34)) (fun _ => evCode C n4_22 R S) fun _ => evCode C n4_23 R S := ev_cond
@[simp] theorem en4_19 : evCode C n4_19 R S = seqK (evCode C n4_20 R S) fun R S => evCode C n4_21 R S := ev_seq
@[simp] theorem en4_27 : evCode C n4_27 R S = regK (runOps C l4_27 R S) := ev_plain rfl
@[simp] theorem en4_28 : evCode C n4_28 R S = regK (runOps C l4_28 R S) := ev_plain rfl
@[simp] theorem en4_26 : evCode C n4_26 R S = seqK (evCode C n4_27 R S) fun R S => evCode C n4_28 R S := ev_seq
@[simp] theorem en4_25 : evCode C n4_25 R S = blockK 1 (evCode C n4_26 R S) := ev_block
@[simp] theorem en4_29 : evCode C n4_29 R S = regK (runOps C l4_29 R S) := ev_plain rfl
@[simp] theorem en4_24 : evCode C n4_24 R S = seqK (evCode C n4_25 R S) fun R S => evCode C n4_29 R S := ev_seq
@[simp] theorem en4_18 : evCode C n4_18 R S = seqK (evCode C n4_19 R S) fun R S => evCode C n4_24 R S := ev_seq
theorem eloop4_0 : evCode C loop4_0 R S = iter (fun R S => evCode C n4_18 R S) rounds R S := (rfl)
@[simp] theorem en4_17 : evCode C n4_17 R S = blockK 0 (evCode C loop4_0 R S) := ev_block
@[simp] theorem en4_15 : evCode C n4_15 R S = seqK (evCode C n4_16 R S) fun R S => evCode C n4_17 R S := ev_seq
@[simp] theorem en4_31 : evCode C n4_31 R S = regK (runOps C l4_31 R S) := ev_plain rfl
@[simp] theorem en4_32 : evCode C n4_32 R S = some (.ret, R, S) := (rfl)
@[simp] theorem en4_30 : evCode C n4_30 R S = seqK (evCode C n4_31 R S) fun R S => evCode C n4_32 R S := ev_seq
@[simp] theorem en4_14 : evCode C n4_14 R S = seqK (evCode C n4_15 R S) fun R S => evCode C n4_30 R S := ev_seq
@[simp] theorem en4_12 : evCode C n4_12 R S = seqK (evCode C n4_13 R S) fun R S => evCode C n4_14 R S := ev_seq
@[simp] theorem en4_10 : evCode C n4_10 R S = seqK (evCode C n4_11 R S) fun R S => evCode C n4_12 R S := ev_seq
@[simp] theorem en4_4 : evCode C n4_4 R S = seqK (evCode C n4_5 R S) fun R S => evCode C n4_10 R S := ev_seq
@[simp] theorem en4_2 : evCode C n4_2 R S = seqK (evCode C n4_3 R S) fun R S => evCode C n4_4 R S := ev_seq
@[simp] theorem en4_0 : evCode C n4_0 R S = seqK (evCode C n4_1 R S) fun R S => evCode C n4_2 R S := ev_seq
theorem q4 {n : Nat} {args : List Value} {S : St} : calls table.find (n + 1) 4 args S = endK S [.tmp 4, .tmp 5] (evCode (calls table.find n) n4_0 (args ++ List.replicate (53 - args.length) undef) S.enter) := call_enter b4

/-! (*wainscot/mem.Mem).Count -/
@[simp] def l5_1 : List IOper := [oy 2 (.mv (.c (.int .i64 0)))]
def n5_1 : ICode := .region l5_1
@[simp] def l5_4 : List IOper := [oy 3 (.mv (.t 0)),
  oy 4 (.bin .eql .ptr (.t 3) (.c (.pointer none)))]
def n5_4 : ICode := .region l5_4
@[simp] def l5_7 : List IOper := [oy 2 (.mv (.c (.int .i64 0)))]
def n5_7 : ICode := .region l5_7
def n5_8 : ICode := .ret
def n5_6 : ICode := .seq n5_7 n5_8
def n5_9 : ICode := .skip
def n5_5 : ICode := .cond (.t 4) n5_6 n5_9
def n5_3 : ICode := .seq n5_4 n5_5
@[simp] def l5_11 : List IOper := [oy 5 (.mv (.t 0)),
  oy 6 (.nilCheck (.t 5)),
  oy 7 (.addOff 1 (.t 6)),
  oy 8 (.load false 1 (.t 7)),
  oy 2 (.mv (.t 8))]
def n5_11 : ICode := .region l5_11
def n5_12 : ICode := .ret
def n5_10 : ICode := .seq n5_11 n5_12
def n5_2 : ICode := .seq n5_3 n5_10
def n5_0 : ICode := .seq n5_1 n5_2
theorem b5 : table.find 5 = some ⟨9, n5_0, [.tmp 2]⟩ := by kernel_rfl
@[simp] theorem en5_1 : evCode C n5_1 R S = regK (runOps C l5_1 R S) := ev_plain rfl
@[simp] theorem en5_4 : evCode C n5_4 R S = regK (runOps C l5_4 R S) := ev_plain rfl
@[simp] theorem en5_7 : evCode C n5_7 R S = regK (runOps C l5_7 R S) := ev_plain rfl
@[simp] theorem en5_8 : evCode C n5_8 R S = some (.ret, R, S) := (rfl)
@[simp] theorem en5_6 : evCode C n5_6 R S = seqK (evCode C n5_7 R S) fun R S => evCode C n5_8 R S := ev_seq
@[simp] theorem en5_9 : evCode C n5_9 R S = some (.norm, R, S) := (rfl)
@[simp] theorem en5_5 : evCode C n5_5 R S = condK (IV.ev R (.t 4)) (fun _ => evCode C n5_6 R S) fun _ => evCode C n5_9 R S := ev_cond
@[simp] theorem en5_3 : evCode C n5_3 R S = seqK (evCode C n5_4 R S) fun R S => evCode C n5_5 R S := ev_seq
@[simp] theorem en5_11 : evCode C n5_11 R S = regK (runOps C l5_11 R S) := ev_plain rfl
@[simp] theorem en5_12 : evCode C n5_12 R S = some (.ret, R, S) := (rfl)
@[simp] theorem en5_10 : evCode C n5_10 R S = seqK (evCode C n5_11 R S) fun R S => evCode C n5_12 R S := ev_seq
@[simp] theorem en5_2 : evCode C n5_2 R S = seqK (evCode C n5_3 R S) fun R S => evCode C n5_10 R S := ev_seq
@[simp] theorem en5_0 : evCode C n5_0 R S = seqK (evCode C n5_1 R S) fun R S => evCode C n5_2 R S := ev_seq
theorem q5 {n : Nat} {args : List Value} {S : St} : calls table.find (n + 1) 5 args S = endK S [.tmp 2] (evCode (calls table.find n) n5_0 (args ++ List.replicate (9 - args.length) undef) S.enter) := call_enter b5

/-! wainscot/fast.Step -/
@[simp] def l6_1 : List IOper := [oy 4 (.box 25 6 (.t 1)),
  oy 5 (.box 27 17 (.t 2)),
  oy 6 (.new 27 [(.int .i64 0), (.int .i64 0), (.int .i64 0), (.int .i64 0), (.int .i64 0), (.int .i64 0), (.int .i64 0), (.int .u64 0), (.int .u64 0), (.int .u64 0), (.int .u64 0), (.int .u64 0), (.int .i64 0), (.int .i64 0), (.int .i64 0), (.int .i64 0), (.int .i64 0)]),
  oy 7 (.mv (.c (.int .i64 0)))]
def n6_1 : ICode := .region l6_1
@[simp] def l6_5 : List IOper := [oy 12 (.mv (.t 0)),
  oy 13 (.call (.c (.func (.func 17) #[] #[])) [(.t 12)] true),
  oy 14 (.bin .eql .int (.t 13) (.c (.int .i64 0))),
  oy 11 (.mv (.t 14))]
def n6_5 : ICode := .region l6_5
@[simp] def l6_8 : List IOper := [oy 15 (.build [(.int .i64 0), (.int .i64 0), (.int .i64 0), (.int .i64 0), (.int .i64 0), (.int .i64 0), (.int .i64 0), (.int .u64 0), (.int .u64 0), (.int .u64 0), (.int .u64 0), (.int .u64 0), (.int .i64 0), (.int .i64 0), (.int .i64 0), (.int .i64 0), (.int .i64 0)] []),
  ox (.store 17 (.t 6) (.t 15)),
  oy 7 (.mv (.c (.int .i64 1)))]
def n6_8 : ICode := .region l6_8
def n6_9 : ICode := .ret
def n6_7 : ICode := .seq n6_8 n6_9
@[simp] def l6_11 : List IOper := [oy 17 (.load true 6 (.t 4)),
  oy 18 (.call (.c (.func (.func 18) #[] #[])) [(.t 17)] true),
  oy 19 (.bin .neq .int (.t 18) (.c (.int .i64 0))),
  oy 16 (.mv (.t 19))]
def n6_11 : ICode := .region l6_11
@[simp] def l6_14 : List IOper := [oy 20 (.build [(.int .i64 0), (.int .i64 0), (.int .i64 0), (.int .i64 0), (.int .i64 0), (.int .i64 0), (.int .i64 0), (.int .u64 0), (.int .u64 0), (.int .u64 0), (.int .u64 0), (.int .u64 0), (.int .i64 0), (.int .i64 0), (.int .i64 0), (.int .i64 0), (.int .i64 0)] []),
  ox (.store 17 (.t 6) (.t 20)),
  oy 7 (.mv (.c (.int .i64 2)))]
def n6_14 : ICode := .region l6_14
def n6_15 : ICode := .ret
def n6_13 : ICode := .seq n6_14 n6_15
def n6_16 : ICode := .skip
def n6_12 : ICode := .cond (.t 16) n6_13 n6_16
def n6_10 : ICode := .seq n6_11 n6_12
def n6_6 : ICode := .cond (.t 11) n6_7 n6_10
def n6_4 : ICode := .seq n6_5 n6_6
def n6_3 : ICode := .block 0 n6_4
@[simp] def l6_18 : List IOper := [oy 22 (.call (.c (.func (.func 19) #[] #[])) [] true),
  oy 23 (.addOff 2 (.t 5)),
  oy 24 (.load false 1 (.t 23)),
  oy 25 (.lookup .nilFunc true (.t 22) (.t 24)),
  oy 21 (.mv (.t 25)),
  oy 26 (.extract (.t 21) 0),
  oy 27 (.extract (.t 21) 1),
  oy 8 (.mv (.t 26)),
  oy 9 (.mv (.t 27))]
def n6_18 : ICode := .region l6_18
@[simp] def l6_21 : List IOper := [oy 28 (.mv (.t 9)),
  oy 29 (.un .not (.t 28)),
  oy 30 (.mv (.t 29)),
  oz 31 30 false (.addOff 3 (.t 5)),
  oz 32 30 false (.load false 1 (.t 31)),
  oz 33 30 false (.bin .neq .int (.t 32) (.c (.int .i64 0))),
  oy 34 (.pick (.t 30) (.c (.bool true)) (.t 33)),
  oy 35 (.mv (.t 34)),
  oz 36 35 false (.addOff 4 (.t 5)),
  oz 37 35 false (.load false 1 (.t 36)),
  oz 38 35 false (.bin .neq .int (.t 37) (.c (.int .i64 0))),
  oy 39 (.pick (.t 35) (.c (.bool true)) (.t 38))]
def n6_21 : ICode := .region l6_21
@[simp] def l6_24 : List IOper := [oy 40 (.build [(.int .i64 0), (.int .i64 0), (.int .i64 0), (.int .i64 0), (.int .i64 0), (.int .i64 0), (.int .i64 0), (.int .u64 0), (.int .u64 0), (.int .u64 0), (.int .u64 0), (.int .u64 0), (.int .i64 0), (.int .i64 0), (.int .i64 0), (.int .i64 0), (.int .i64 0)] []),
  ox (.store 17 (.t 6) (.t 40)),
  oy 7 (.mv (.c (.int .i64 292)))]
def n6_24 : ICode := .region l6_24
def n6_25 : ICode := .ret
def n6_23 : ICode := .seq n6_24 n6_25
def n6_26 : ICode := .skip
def n6_22 : ICode := .cond (.t 39) n6_23 n6_26
def n6_20 : ICode := .seq n6_21 n6_22
@[simp] def l6_28 : List IOper := [oy 41 (.mv (.t 0)),
  oy 42 (.load true 6 (.t 4)),
  oy 43 (.load true 17 (.t 5)),
  oy 44 (.build [(.pointer none), (.int .i64 0), (.int .i64 0), (.int .i64 0), (.int .i64 0), (.int .i64 0), (.int .u64 0), (.int .i64 0), (.int .i64 0), (.int .i64 0), (.int .i64 0), (.int .i64 0), (.int .i64 0), (.int .i64 0), (.int .u64 0), (.int .u64 0), (.int .u64 0), (.int .u64 0), (.int .u64 0), (.int .i64 0), (.int .i64 0), (.int .i64 0), (.int .i64 0), (.int .i64 0), (.bool false)] [(0, 1, (.t 41)), (1, 6, (.t 42)), (7, 17, (.t 43))]),
  oy 45 (.box 56 25 (.t 44)),
  oy 10 (.mv (.t 45))]
def n6_28 : ICode := .region l6_28
@[simp] def l6_31 : List IOper := [oy 46 (.mv (.t 8)),
  oy 47 (.mv (.t 10)),
  oy 48 (.call (.t 46) [(.t 47)] false)]
def n6_31 : ICode := .region l6_31
@[simp] def l6_33 : List IOper := [oy 49 (.mv (.t 10)),
  oy 50 (.nilCheck (.t 49)),
  oy 51 (.addOff 24 (.t 50)),
  oy 52 (.load false 1 (.t 51))]
def n6_33 : ICode := .region l6_33
@[simp] def l6_36 : List IOper := [oy 53 (.addOff 3 (.t 5)),
  ox (.store 1 (.t 53) (.c (.int .i64 3)))]
def n6_36 : ICode := .region l6_36
@[simp] def l6_38 : List IOper := [oy 54 (.load true 17 (.t 5)),
  ox (.store 17 (.t 6) (.t 54)),
  oy 7 (.mv (.c (.int .i64 0)))]
def n6_38 : ICode := .region l6_38
def n6_39 : ICode := .ret
def n6_37 : ICode := .seq n6_38 n6_39
def n6_35 : ICode := .seq n6_36 n6_37
def n6_40 : ICode := .skip
def n6_34 : ICode := .cond (.t 52) n6_35 n6_40
def n6_32 : ICode := .seq n6_33 n6_34
def n6_30 : ICode := .seq n6_31 n6_32
@[simp] def l6_42 : List IOper := [oy 55 (.mv (.t 10)),
  oy 56 (.nilCheck (.t 55)),
  oy 57 (.addOff 7 (.t 56)),
  oy 58 (.load true 17 (.t 57)),
  ox (.store 17 (.t 6) (.t 58)),
  oy 7 (.mv (.c (.int .i64 0)))]
def n6_42 : ICode := .region l6_42
def n6_43 : ICode := .ret
def n6_41 : ICode := .seq n6_42 n6_43
def n6_29 : ICode := .seq n6_30 n6_41
def n6_27 : ICode := .seq n6_28 n6_29
def n6_19 : ICode := .seq n6_20 n6_27
def n6_17 : ICode := .seq n6_18 n6_19
def n6_2 : ICode := .seq n6_3 n6_17
def n6_0 : ICode := .seq n6_1 n6_2
theorem b6 : table.find 6 = some ⟨59, n6_0, [.cell 6 true 17, .tmp 7]⟩ := by kernel_rfl
@[simp] theorem en6_1 : evCode C n6_1 R S = regK (runOps C l6_1 R S) := ev_plain rfl
@[simp] theorem en6_5 : evCode C n6_5 R S = regK (runOps C l6_5 R S) := ev_plain rfl
@[simp] theorem en6_8 : evCode C n6_8 R S = regK (runOps C l6_8 R S) := ev_plain rfl
@[simp] theorem en6_9 : evCode C n6_9 R S = some (.ret, R, S) := (rfl)
@[simp] theorem en6_7 : evCode C n6_7 R S = seqK (evCode C n6_8 R S) fun R S => evCode C n6_9 R S := ev_seq
@[simp] theorem en6_11 : evCode C n6_11 R S = regK (runOps C l6_11 R S) := ev_plain rfl
@[simp] theorem en6_14 : evCode C n6_14 R S = regK (runOps C l6_14 R S) := ev_plain rfl
@[simp] theorem en6_15 : evCode C n6_15 R S = some (.ret, R, S) := (rfl)
@[simp] theorem en6_13 : evCode C n6_13 R S = seqK (evCode C n6_14 R S) fun R S => evCode C n6_15 R S := ev_seq
@[simp] theorem en6_16 : evCode C n6_16 R S = some (.norm, R, S) := (rfl)
@[simp] theorem en6_12 : evCode C n6_12 R S = condK (IV.ev R (.t 16)) (fun _ => evCode C n6_13 R S) fun _ => evCode C n6_16 R S := ev_cond
@[simp] theorem en6_10 : evCode C n6_10 R S = seqK (evCode C n6_11 R S) fun R S => evCode C n6_12 R S := ev_seq
@[simp] theorem en6_6 : evCode C n6_6 R S = condK (IV.ev R (.t 11)) (fun _ => evCode C n6_7 R S) fun _ => evCode C n6_10 R S := ev_cond
@[simp] theorem en6_4 : evCode C n6_4 R S = seqK (evCode C n6_5 R S) fun R S => evCode C n6_6 R S := ev_seq
@[simp] theorem en6_3 : evCode C n6_3 R S = blockK 0 (evCode C n6_4 R S) := ev_block
@[simp] theorem en6_18 : evCode C n6_18 R S = regK (runOps C l6_18 R S) := ev_plain rfl
@[simp] theorem en6_21 : evCode C n6_21 R S = regK (runOps C l6_21 R S) := ev_plain rfl
@[simp] theorem en6_24 : evCode C n6_24 R S = regK (runOps C l6_24 R S) := ev_plain rfl
@[simp] theorem en6_25 : evCode C n6_25 R S = some (.ret, R, S) := (rfl)
@[simp] theorem en6_23 : evCode C n6_23 R S = seqK (evCode C n6_24 R S) fun R S => evCode C n6_25 R S := ev_seq
@[simp] theorem en6_26 : evCode C n6_26 R S = some (.norm, R, S) := (rfl)
@[simp] theorem en6_22 : evCode C n6_22 R S = condK (IV.ev R (.t 39)) (fun _ => evCode C n6_23 R S) fun _ => evCode C n6_26 R S := ev_cond
@[simp] theorem en6_20 : evCode C n6_20 R S = seqK (evCode C n6_21 R S) fun R S => evCode C n6_22 R S := ev_seq
@[simp] theorem en6_28 : evCode C n6_28 R S = regK (runOps C l6_28 R S) := ev_plain rfl
@[simp] theorem en6_31 : evCode C n6_31 R S = regK (runOps C l6_31 R S) := ev_plain rfl
@[simp] theorem en6_33 : evCode C n6_33 R S = regK (runOps C l6_33 R S) := ev_plain rfl
@[simp] theorem en6_36 : evCode C n6_36 R S = regK (runOps C l6_36 R S) := ev_plain rfl
@[simp] theorem en6_38 : evCode C n6_38 R S = regK (runOps C l6_38 R S) := ev_plain rfl
@[simp] theorem en6_39 : evCode C n6_39 R S = some (.ret, R, S) := (rfl)
@[simp] theorem en6_37 : evCode C n6_37 R S = seqK (evCode C n6_38 R S) fun R S => evCode C n6_39 R S := ev_seq
@[simp] theorem en6_35 : evCode C n6_35 R S = seqK (evCode C n6_36 R S) fun R S => evCode C n6_37 R S := ev_seq
@[simp] theorem en6_40 : evCode C n6_40 R S = some (.norm, R, S) := (rfl)
@[simp] theorem en6_34 : evCode C n6_34 R S = condK (IV.ev R (.t 52)) (fun _ => evCode C n6_35 R S) fun _ => evCode C n6_40 R S := ev_cond
@[simp] theorem en6_32 : evCode C n6_32 R S = seqK (evCode C n6_33 R S) fun R S => evCode C n6_34 R S := ev_seq
@[simp] theorem en6_30 : evCode C n6_30 R S = seqK (evCode C n6_31 R S) fun R S => evCode C n6_32 R S := ev_seq
@[simp] theorem en6_42 : evCode C n6_42 R S = regK (runOps C l6_42 R S) := ev_plain rfl
@[simp] theorem en6_43 : evCode C n6_43 R S = some (.ret, R, S) := (rfl)
@[simp] theorem en6_41 : evCode C n6_41 R S = seqK (evCode C n6_42 R S) fun R S => evCode C n6_43 R S := ev_seq
@[simp] theorem en6_29 : evCode C n6_29 R S = seqK (evCode C n6_30 R S) fun R S => evCode C n6_41 R S := ev_seq
@[simp] theorem en6_27 : evCode C n6_27 R S = seqK (evCode C n6_28 R S) fun R S => evCode C n6_29 R S := ev_seq
@[simp] theorem en6_19 : evCode C n6_19 R S = seqK (evCode C n6_20 R S) fun R S => evCode C n6_27 R S := ev_seq
@[simp] theorem en6_17 : evCode C n6_17 R S = seqK (evCode C n6_18 R S) fun R S => evCode C n6_19 R S := ev_seq
@[simp] theorem en6_2 : evCode C n6_2 R S = seqK (evCode C n6_3 R S) fun R S => evCode C n6_17 R S := ev_seq
@[simp] theorem en6_0 : evCode C n6_0 R S = seqK (evCode C n6_1 R S) fun R S => evCode C n6_2 R S := ev_seq
theorem q6 {n : Nat} {args : List Value} {S : St} : calls table.find (n + 1) 6 args S = endK S [.cell 6 true 17, .tmp 7] (evCode (calls table.find n) n6_0 (args ++ List.replicate (59 - args.length) undef) S.enter) := call_enter b6

/-! wainscot/wainscotref22.Step -/
@[simp] def l7_1 : List IOper := [oy 4 (.box 25 6 (.t 1)),
  oy 5 (.box 27 17 (.t 2)),
  oy 6 (.new 27 [(.int .i64 0), (.int .i64 0), (.int .i64 0), (.int .i64 0), (.int .i64 0), (.int .i64 0), (.int .i64 0), (.int .u64 0), (.int .u64 0), (.int .u64 0), (.int .u64 0), (.int .u64 0), (.int .i64 0), (.int .i64 0), (.int .i64 0), (.int .i64 0), (.int .i64 0)]),
  oy 7 (.mv (.c (.int .i64 0)))]
def n7_1 : ICode := .region l7_1
@[simp] def l7_3 : List IOper := [oy 13 (.mv (.t 0)),
  oy 14 (.load true 6 (.t 4)),
  oy 15 (.load true 17 (.t 5)),
  oy 16 (.call (.c (.func (.func 20) #[] #[])) [(.t 13), (.t 14), (.t 15), (.c (.int .i64 0)), (.c (.int .i64 13))] false),
  oy 8 (.mv (.t 16))]
def n7_3 : ICode := .region l7_3
@[simp] def l7_6 : List IOper := [oy 17 (.mv (.t 8)),
  oy 18 (.bin .eql .int (.t 17) (.c (.int .i64 0))),
  oy 19 (.mv (.t 18)),
  oz 20 19 true (.addOff 2 (.t 5)),
  oz 21 19 true (.load false 1 (.t 20)),
  oz 22 19 true (.bin .gtr .int (.t 21) (.c (.int .i64 3))),
  oy 23 (.pick (.t 19) (.t 22) (.c (.bool false))),
  oy 24 (.mv (.t 23)),
  oz 25 24 true (.addOff 2 (.t 5)),
  oz 26 24 true (.load false 1 (.t 25)),
  oz 27 24 true (.bin .lss .int (.t 26) (.c (.int .i64 10))),
  oy 28 (.pick (.t 24) (.t 27) (.c (.bool false)))]
def n7_6 : ICode := .region l7_6
@[simp] def l7_8 : List IOper := [oy 8 (.mv (.c (.int .i64 292)))]
def n7_8 : ICode := .region l7_8
def n7_9 : ICode := .skip
def n7_7 : ICode := .cond (.t 28) n7_8 n7_9
def n7_5 : ICode := .seq n7_6 n7_7
@[simp] def l7_12 : List IOper := [oy 29 (.mv (.t 8)),
  oy 30 (.bin .neq .int (.t 29) (.c (.int .i64 0)))]
def n7_12 : ICode := .region l7_12
@[simp] def l7_15 : List IOper := [oy 31 (.build [(.int .i64 0), (.int .i64 0), (.int .i64 0), (.int .i64 0), (.int .i64 0), (.int .i64 0), (.int .i64 0), (.int .u64 0), (.int .u64 0), (.int .u64 0), (.int .u64 0), (.int .u64 0), (.int .i64 0), (.int .i64 0), (.int .i64 0), (.int .i64 0), (.int .i64 0)] []),
  oy 32 (.mv (.t 8)),
  ox (.store 17 (.t 6) (.t 31)),
  oy 7 (.mv (.t 32))]
def n7_15 : ICode := .region l7_15
def n7_16 : ICode := .ret
def n7_14 : ICode := .seq n7_15 n7_16
def n7_17 : ICode := .skip
def n7_13 : ICode := .cond (.t 30) n7_14 n7_17
def n7_11 : ICode := .seq n7_12 n7_13
@[simp] def l7_20 : List IOper := [oy 33 (.addOff 2 (.t 5)),
  oy 34 (.load false 1 (.t 33))]
def n7_20 : ICode := .region l7_20
@[simp] def l7_24 : List IOper := [oy 36 (.bin .eql .int (.t 34) (.c (.int .i64 0))),
  oy 35 (.mv (.t 36))]
def n7_24 : ICode := .region l7_24
def n7_26 : ICode := .skip
@[simp] def l7_27 : List IOper := [oy 37 (.bin .eql .int (.t 34) (.c (.int .i64 10))),
  oy 35 (.mv (.t 37))]
def n7_27 : ICode := .region l7_27
def n7_25 : ICode := .cond (.t 35) n7_26 n7_27
def n7_23 : ICode := .seq n7_24 n7_25
@[simp] def l7_30 : List IOper := [oy 38 (.mv (.t 0)),
  oy 39 (.load true 6 (.t 4)),
  oy 40 (.load true 17 (.t 5)),
  oy 41 (.call (.c (.func (.func 21) #[] #[])) [(.t 38), (.t 39), (.t 40)] false),
  ox (.store 17 (.t 6) (.t 41)),
  oy 7 (.mv (.c (.int .i64 0)))]
def n7_30 : ICode := .region l7_30
def n7_31 : ICode := .ret
def n7_29 : ICode := .seq n7_30 n7_31
@[simp] def l7_34 : List IOper := [oy 43 (.bin .eql .int (.t 34) (.c (.int .i64 1))),
  oy 42 (.mv (.t 43))]
def n7_34 : ICode := .region l7_34
def n7_36 : ICode := .skip
@[simp] def l7_37 : List IOper := [oy 44 (.bin .eql .int (.t 34) (.c (.int .i64 11))),
  oy 42 (.mv (.t 44))]
def n7_37 : ICode := .region l7_37
def n7_35 : ICode := .cond (.t 42) n7_36 n7_37
def n7_33 : ICode := .seq n7_34 n7_35
@[simp] def l7_40 : List IOper := [oy 45 (.mv (.t 0)),
  oy 46 (.load true 6 (.t 4)),
  oy 47 (.load true 17 (.t 5)),
  oy 48 (.call (.c (.func (.func 22) #[] #[])) [(.t 45), (.t 46), (.t 47)] false),
  ox (.store 17 (.t 6) (.t 48)),
  oy 7 (.mv (.c (.int .i64 0)))]
def n7_40 : ICode := .region l7_40
def n7_41 : ICode := .ret
def n7_39 : ICode := .seq n7_40 n7_41
@[simp] def l7_43 : List IOper := [oy 50 (.bin .eql .int (.t 34) (.c (.int .i64 2))),
  oy 49 (.mv (.t 50))]
def n7_43 : ICode := .region l7_43
@[simp] def l7_46 : List IOper := [oy 51 (.mv (.t 0)),
  oy 52 (.load true 6 (.t 4)),
  oy 53 (.load true 17 (.t 5)),
  oy 54 (.call (.c (.func (.func 23) #[] #[])) [(.t 51), (.t 52), (.t 53)] false),
  ox (.store 17 (.t 6) (.t 54)),
  oy 7 (.mv (.c (.int .i64 0)))]
def n7_46 : ICode := .region l7_46
def n7_47 : ICode := .ret
def n7_45 : ICode := .seq n7_46 n7_47
@[simp] def l7_49 : List IOper := [oy 56 (.bin .eql .int (.t 34) (.c (.int .i64 12))),
  oy 55 (.mv (.t 56))]
def n7_49 : ICode := .region l7_49
@[simp] def l7_53 : List IOper := [oy 57 (.mv (.t 0)),
  oy 58 (.load true 6 (.t 4)),
  oy 59 (.addOff 5 (.t 5)),
  oy 60 (.load false 1 (.t 59)),
  oy 61 (.addOff 6 (.t 5)),
  oy 62 (.load false 1 (.t 61)),
  oy 63 (.addOff 12 (.t 5)),
  oy 64 (.load false 1 (.t 63)),
  oy 65 (.call (.c (.func (.func 24) #[] #[])) [(.t 57), (.t 58), (.t 60), (.t 62), (.t 64)] false),
  oy 66 (.un .not (.t 65))]
def n7_53 : ICode := .region l7_53
@[simp] def l7_56 : List IOper := [oy 67 (.load true 17 (.t 5)),
  oy 68 (.call (.c (.func (.func 25) #[] #[])) [(.t 67)] false),
  ox (.store 17 (.t 6) (.t 68)),
  oy 7 (.mv (.c (.int .i64 0)))]
def n7_56 : ICode := .region l7_56
def n7_57 : ICode := .ret
def n7_55 : ICode := .seq n7_56 n7_57
def n7_58 : ICode := .skip
def n7_54 : ICode := .cond (.t 66) n7_55 n7_58
def n7_52 : ICode := .seq n7_53 n7_54
@[simp] def l7_60 : List IOper := [oy 69 (.load true 17 (.t 5)),
  oy 70 (.call (.c (.func (.func 26) #[] #[])) [(.t 69), (.c (.int .i64 13))] false),
  ox (.store 17 (.t 6) (.t 70)),
  oy 7 (.mv (.c (.int .i64 0)))]
def n7_60 : ICode := .region l7_60
def n7_61 : ICode := .ret
def n7_59 : ICode := .seq n7_60 n7_61
def n7_51 : ICode := .seq n7_52 n7_59
def n7_62 : ICode := .skip
def n7_50 : ICode := .cond (.t 55) n7_51 n7_62
def n7_48 : ICode := .seq n7_49 n7_50
def n7_44 : ICode := .cond (.t 49) n7_45 n7_48
def n7_42 : ICode := .seq n7_43 n7_44
def n7_38 : ICode := .cond (.t 42) n7_39 n7_42
def n7_32 : ICode := .seq n7_33 n7_38
def n7_28 : ICode := .cond (.t 35) n7_29 n7_32
def n7_22 : ICode := .seq n7_23 n7_28
def n7_21 : ICode := .block 0 n7_22
def n7_19 : ICode := .seq n7_20 n7_21
@[simp] def l7_64 : List IOper := [oy 71 (.addOff 12 (.t 5)),
  oy 72 (.load false 1 (.t 71)),
  oy 9 (.mv (.t 72)),
  oy 10 (.mv (.c (.int .i64 0)))]
def n7_64 : ICode := .region l7_64
@[simp] def l7_67 : List IOper := [oy 73 (.addOff 2 (.t 5)),
  oy 74 (.load false 1 (.t 73)),
  oy 75 (.bin .eql .int (.t 74) (.c (.int .i64 13)))]
def n7_67 : ICode := .region l7_67
@[simp] def l7_70 : List IOper := [oy 76 (.addOff 6 (.t 5)),
  oy 77 (.load false 1 (.t 76)),
  oy 9 (.mv (.t 77))]
def n7_70 : ICode := .region l7_70
@[simp] def l7_71 : List IOper := [oy 10 (.mv (.c (.int .i64 10)))]
def n7_71 : ICode := .region l7_71
def n7_69 : ICode := .seq n7_70 n7_71
def n7_72 : ICode := .skip
def n7_68 : ICode := .cond (.t 75) n7_69 n7_72
def n7_66 : ICode := .seq n7_67 n7_68
@[simp] def l7_74 : List IOper := [oy 79 (.mv (.t 0)),
  oy 80 (.load true 6 (.t 4)),
  oy 81 (.load true 17 (.t 5)),
  oy 82 (.addOff 5 (.t 5)),
  oy 83 (.load false 1 (.t 82)),
  oy 84 (.mv (.t 9)),
  oy 85 (.call (.c (.func (.func 27) #[] #[])) [(.t 79), (.t 80), (.t 81), (.t 83), (.t 84)] false),
  oy 78 (.mv (.t 85)),
  oy 86 (.extract (.t 78) 0),
  oy 87 (.extract (.t 78) 1),
  oy 11 (.mv (.t 86)),
  oy 12 (.mv (.t 87))]
def n7_74 : ICode := .region l7_74
@[simp] def l7_77 : List IOper := [oy 88 (.mv (.t 12)),
  oy 89 (.un .not (.t 88))]
def n7_77 : ICode := .region l7_77
@[simp] def l7_80 : List IOper := [oy 90 (.load true 17 (.t 5)),
  oy 91 (.call (.c (.func (.func 25) #[] #[])) [(.t 90)] false),
  ox (.store 17 (.t 6) (.t 91)),
  oy 7 (.mv (.c (.int .i64 0)))]
def n7_80 : ICode := .region l7_80
def n7_81 : ICode := .ret
def n7_79 : ICode := .seq n7_80 n7_81
def n7_82 : ICode := .skip
def n7_78 : ICode := .cond (.t 89) n7_79 n7_82
def n7_76 : ICode := .seq n7_77 n7_78
@[simp] def l7_85 : List IOper := [oy 92 (.mv (.t 11))]
def n7_85 : ICode := .region l7_85
@[simp] def l7_88 : List IOper := [oy 93 (.load true 17 (.t 5)),
  oy 94 (.call (.c (.func (.func 28) #[] #[])) [(.t 93)] false),
  ox (.store 17 (.t 6) (.t 94)),
  oy 7 (.mv (.c (.int .i64 0)))]
def n7_88 : ICode := .region l7_88
def n7_89 : ICode := .ret
def n7_87 : ICode := .seq n7_88 n7_89
def n7_90 : ICode := .skip
def n7_86 : ICode := .cond (.t 92) n7_87 n7_90
def n7_84 : ICode := .seq n7_85 n7_86
@[simp] def l7_92 : List IOper := [oy 95 (.load true 17 (.t 5)),
  oy 96 (.mv (.t 10)),
  oy 97 (.call (.c (.func (.func 26) #[] #[])) [(.t 95), (.t 96)] false),
  ox (.store 17 (.t 6) (.t 97)),
  oy 7 (.mv (.c (.int .i64 0)))]
def n7_92 : ICode := .region l7_92
def n7_93 : ICode := .ret
def n7_91 : ICode := .seq n7_92 n7_93
def n7_83 : ICode := .seq n7_84 n7_91
def n7_75 : ICode := .seq n7_76 n7_83
def n7_73 : ICode := .seq n7_74 n7_75
def n7_65 : ICode := .seq n7_66 n7_73
def n7_63 : ICode := .seq n7_64 n7_65
def n7_18 : ICode := .seq n7_19 n7_63
def n7_10 : ICode := .seq n7_11 n7_18
def n7_4 : ICode := .seq n7_5 n7_10
def n7_2 : ICode := .seq n7_3 n7_4
def n7_0 : ICode := .seq n7_1 n7_2
theorem b7 : table.find 7 = some ⟨98, n7_0, [.cell 6 true 17, .tmp 7]⟩ := by kernel_rfl
@[simp] theorem en7_1 : evCode C n7_1 R S = regK (runOps C l7_1 R S) := ev_plain rfl
@[simp] theorem en7_3 : evCode C n7_3 R S = regK (runOps C l7_3 R S) := ev_plain rfl
@[simp] theorem en7_6 : evCode C n7_6 R S = regK (runOps C l7_6 R S) := ev_plain rfl
@[simp] theorem en7_8 : evCode C n7_8 R S = regK (runOps C l7_8 R S) := ev_plain rfl
@[simp] theorem en7_9 : evCode C n7_9 R S = some (.norm, R, S) := (rfl)
@[simp] theorem en7_7 : evCode C n7_7 R S = condK (IV.ev R (.t 28)) (fun _ => evCode C n7_8 R S) fun _ => evCode C n7_9 R S := ev_cond
@[simp] theorem en7_5 : evCode C n7_5 R S = seqK (evCode C n7_6 R S) fun R S => evCode C n7_7 R S := ev_seq
@[simp] theorem en7_12 : evCode C n7_12 R S = regK (runOps C l7_12 R S) := ev_plain rfl
@[simp] theorem en7_15 : evCode C n7_15 R S = regK (runOps C l7_15 R S) := ev_plain rfl
@[simp] theorem en7_16 : evCode C n7_16 R S = some (.ret, R, S) := (rfl)
@[simp] theorem en7_14 : evCode C n7_14 R S = seqK (evCode C n7_15 R S) fun R S => evCode C n7_16 R S := ev_seq
@[simp] theorem en7_17 : evCode C n7_17 R S = some (.norm, R, S) := (rfl)
@[simp] theorem en7_13 : evCode C n7_13 R S = condK (IV.ev R (.t 30)) (fun _ => evCode C n7_14 R S) fun _ => evCode C n7_17 R S := ev_cond
@[simp] theorem en7_11 : evCode C n7_11 R S = seqK (evCode C n7_12 R S) fun R S => evCode C n7_13 R S := ev_seq
@[simp] theorem en7_20 : evCode C n7_20 R S = regK (runOps C l7_20 R S) := ev_plain rfl
@[simp] theorem en7_24 : evCode C n7_24 R S = regK (runOps C l7_24 R S) := ev_plain rfl
@[simp] theorem en7_26 : evCode C n7_26 R S = some (.norm, R, S) := (rfl)
@[simp] theorem en7_27 : evCode C n7_27 R S = regK (runOps C l7_27 R S) := ev_plain rfl
@[simp] theorem en7_25 : evCode C n7_25 R S = condK (IV.ev R (.t 35)) (fun _ => evCode C n7_26 R S) fun _ => evCode C n7_27 R S := ev_cond
@[simp] theorem en7_23 : evCode C n7_23 R S = seqK (evCode C n7_24 R S) fun R S => evCode C n7_25 R S := ev_seq
@[simp] theorem en7_30 : evCode C n7_30 R S = regK (runOps C l7_30 R S) := ev_plain rfl
@[simp] theorem en7_31 : evCode C n7_31 R S = some (.ret, R, S) := (rfl)
@[simp] theorem en7_29 : evCode C n7_29 R S = seqK (evCode C n7_30 R S) fun R S => evCode C n7_31 R S := ev_seq
@[simp] theorem en7_34 : evCode C n7_34 R S = regK (runOps C l7_34 R S) := ev_plain rfl
@[simp] theorem en7_36 : evCode C n7_36 R S = some (.norm, R, S) := (rfl)
@[simp] theorem en7_37 : evCode C n7_37 R S = regK (runOps C l7_37 R S) := ev_plain rfl
@[simp] theorem en7_35 : evCode C n7_35 R S = condK (IV.ev R (.t 42)) (fun _ => evCode C n7_36 R S) fun _ => evCode C n7_37 R S := ev_cond
@[simp] theorem en7_33 : evCode C n7_33 R S = seqK (evCode C n7_34 R S) fun R S => evCode C n7_35 R S := ev_seq
@[simp] theorem en7_40 : evCode C n7_40 R S = regK (runOps C l7_40 R S) := ev_plain rfl
@[simp] theorem en7_41 : evCode C n7_41 R S = some (.ret, R, S) := (rfl)
@[simp] theorem en7_39 : evCode C n7_39 R S = seqK (evCode C n7_40 R S) fun R S => evCode C n7_41 R S := ev_seq
@[simp] theorem en7_43 : evCode C n7_43 R S = regK (runOps C l7_43 R S) := ev_plain rfl
@[simp] theorem en7_46 : evCode C n7_46 R S = regK (runOps C l7_46 R S) := ev_plain rfl
@[simp] theorem en7_47 : evCode C n7_47 R S = some (.ret, R, S) := (rfl)
@[simp] theorem en7_45 : evCode C n7_45 R S = seqK (evCode C n7_46 R S) fun R S => evCode C n7_47 R S := ev_seq
@[simp] theorem en7_49 : evCode C n7_49 R S = regK (runOps C l7_49 R S) := ev_plain rfl
@[simp] theorem en7_53 : evCode C n7_53 R S = regK (runOps C l7_53 R S) := ev_plain rfl
@[simp] theorem en7_56 : evCode C n7_56 R S = regK (runOps C l7_56 R S) := ev_plain rfl
@[simp] theorem en7_57 : evCode C n7_57 R S = some (.ret, R, S) := (rfl)
@[simp] theorem en7_55 : evCode C n7_55 R S = seqK (evCode C n7_56 R S) fun R S => evCode C n7_57 R S := ev_seq
@[simp] theorem en7_58 : evCode C n7_58 R S = some (.norm, R, S) := (rfl)
@[simp] theorem en7_54 : evCode C n7_54 R S = condK (IV.ev R (.t 66)) (fun _ => evCode C n7_55 R S) fun _ => evCode C n7_58 R S := ev_cond
@[simp] theorem en7_52 : evCode C n7_52 R S = seqK (evCode C n7_53 R S) fun R S => evCode C n7_54 R S := ev_seq
@[simp] theorem en7_60 : evCode C n7_60 R S = regK (runOps C l7_60 R S) := ev_plain rfl
@[simp] theorem en7_61 : evCode C n7_61 R S = some (.ret, R, S) := (rfl)
@[simp] theorem en7_59 : evCode C n7_59 R S = seqK (evCode C n7_60 R S) fun R S => evCode C n7_61 R S := ev_seq
@[simp] theorem en7_51 : evCode C n7_51 R S = seqK (evCode C n7_52 R S) fun R S => evCode C n7_59 R S := ev_seq
@[simp] theorem en7_62 : evCode C n7_62 R S = some (.norm, R, S) := (rfl)
@[simp] theorem en7_50 : evCode C n7_50 R S = condK (IV.ev R (.t 55)) (fun _ => evCode C n7_51 R S) fun _ => evCode C n7_62 R S := ev_cond
@[simp] theorem en7_48 : evCode C n7_48 R S = seqK (evCode C n7_49 R S) fun R S => evCode C n7_50 R S := ev_seq
@[simp] theorem en7_44 : evCode C n7_44 R S = condK (IV.ev R (.t 49)) (fun _ => evCode C n7_45 R S) fun _ => evCode C n7_48 R S := ev_cond
@[simp] theorem en7_42 : evCode C n7_42 R S = seqK (evCode C n7_43 R S) fun R S => evCode C n7_44 R S := ev_seq
@[simp] theorem en7_38 : evCode C n7_38 R S = condK (IV.ev R (.t 42)) (fun _ => evCode C n7_39 R S) fun _ => evCode C n7_42 R S := ev_cond
@[simp] theorem en7_32 : evCode C n7_32 R S = seqK (evCode C n7_33 R S) fun R S => evCode C n7_38 R S := ev_seq
@[simp] theorem en7_28 : evCode C n7_28 R S = condK (IV.ev R (.t 35)) (fun _ => evCode C n7_29 R S) fun _ => evCode C n7_32 R S := ev_cond
@[simp] theorem en7_22 : evCode C n7_22 R S = seqK (evCode C n7_23 R S) fun R S => evCode C n7_28 R S := ev_seq
@[simp] theorem en7_21 : evCode C n7_21 R S = blockK 0 (evCode C n7_22 R S) := ev_block
@[simp] theorem en7_19 : evCode C n7_19 R S = seqK (evCode C n7_20 R S) fun R S => evCode C n7_21 R S := ev_seq
@[simp] theorem en7_64 : evCode C n7_64 R S = regK (runOps C l7_64 R S) := ev_plain rfl
@[simp] theorem en7_67 : evCode C n7_67 R S = regK (runOps C l7_67 R S) := ev_plain rfl
@[simp] theorem en7_70 : evCode C n7_70 R S = regK (runOps C l7_70 R S) := ev_plain rfl
@[simp] theorem en7_71 : evCode C n7_71 R S = regK (runOps C l7_71 R S) := ev_plain rfl
@[simp] theorem en7_69 : evCode C n7_69 R S = seqK (evCode C n7_70 R S) fun R S => evCode C n7_71 R S := ev_seq
@[simp] theorem en7_72 : evCode C n7_72 R S = some (.norm, R, S) := (rfl)
@[simp] theorem en7_68 : evCode C n7_68 R S = condK (IV.ev R (.t 75)) (fun _ => evCode C n7_69 R S) fun _ => evCode C n7_72 R S := ev_cond
@[simp] theorem en7_66 : evCode C n7_66 R S = seqK (evCode C n7_67 R S) fun R S => evCode C n7_68 R S := ev_seq
@[simp] theorem en7_74 : evCode C n7_74 R S = regK (runOps C l7_74 R S) := ev_plain rfl
@[simp] theorem en7_77 : evCode C n7_77 R S = regK (runOps C l7_77 R S) := ev_plain rfl
@[simp] theorem en7_80 : evCode C n7_80 R S = regK (runOps C l7_80 R S) := ev_plain rfl
@[simp] theorem en7_81 : evCode C n7_81 R S = some (.ret, R, S) := (rfl)
@[simp] theorem en7_79 : evCode C n7_79 R S = seqK (evCode C n7_80 R S) fun R S => evCode C n7_81 R S := ev_seq
@[simp] theorem en7_82 : evCode C n7_82 R S = some (.norm, R, S) := (rfl)
@[simp] theorem en7_78 : evCode C n7_78 R S = condK (IV.ev R (.t 89)) (fun _ => evCode C n7_79 R S) fun _ => evCode C n7_82 R S := ev_cond
@[simp] theorem en7_76 : evCode C n7_76 R S = seqK (evCode C n7_77 R S) fun R S => evCode C n7_78 R S := ev_seq
@[simp] theorem en7_85 : evCode C n7_85 R S = regK (runOps C l7_85 R S) := ev_plain rfl
@[simp] theorem en7_88 : evCode C n7_88 R S = regK (runOps C l7_88 R S) := ev_plain rfl
@[simp] theorem en7_89 : evCode C n7_89 R S = some (.ret, R, S) := (rfl)
@[simp] theorem en7_87 : evCode C n7_87 R S = seqK (evCode C n7_88 R S) fun R S => evCode C n7_89 R S := ev_seq
@[simp] theorem en7_90 : evCode C n7_90 R S = some (.norm, R, S) := (rfl)
@[simp] theorem en7_86 : evCode C n7_86 R S = condK (IV.ev R (.t 92)) (fun _ => evCode C n7_87 R S) fun _ => evCode C n7_90 R S := ev_cond
@[simp] theorem en7_84 : evCode C n7_84 R S = seqK (evCode C n7_85 R S) fun R S => evCode C n7_86 R S := ev_seq
@[simp] theorem en7_92 : evCode C n7_92 R S = regK (runOps C l7_92 R S) := ev_plain rfl
@[simp] theorem en7_93 : evCode C n7_93 R S = some (.ret, R, S) := (rfl)
@[simp] theorem en7_91 : evCode C n7_91 R S = seqK (evCode C n7_92 R S) fun R S => evCode C n7_93 R S := ev_seq
@[simp] theorem en7_83 : evCode C n7_83 R S = seqK (evCode C n7_84 R S) fun R S => evCode C n7_91 R S := ev_seq
@[simp] theorem en7_75 : evCode C n7_75 R S = seqK (evCode C n7_76 R S) fun R S => evCode C n7_83 R S := ev_seq
@[simp] theorem en7_73 : evCode C n7_73 R S = seqK (evCode C n7_74 R S) fun R S => evCode C n7_75 R S := ev_seq
@[simp] theorem en7_65 : evCode C n7_65 R S = seqK (evCode C n7_66 R S) fun R S => evCode C n7_73 R S := ev_seq
@[simp] theorem en7_63 : evCode C n7_63 R S = seqK (evCode C n7_64 R S) fun R S => evCode C n7_65 R S := ev_seq
@[simp] theorem en7_18 : evCode C n7_18 R S = seqK (evCode C n7_19 R S) fun R S => evCode C n7_63 R S := ev_seq
@[simp] theorem en7_10 : evCode C n7_10 R S = seqK (evCode C n7_11 R S) fun R S => evCode C n7_18 R S := ev_seq
@[simp] theorem en7_4 : evCode C n7_4 R S = seqK (evCode C n7_5 R S) fun R S => evCode C n7_10 R S := ev_seq
@[simp] theorem en7_2 : evCode C n7_2 R S = seqK (evCode C n7_3 R S) fun R S => evCode C n7_4 R S := ev_seq
@[simp] theorem en7_0 : evCode C n7_0 R S = seqK (evCode C n7_1 R S) fun R S => evCode C n7_2 R S := ev_seq
theorem q7 {n : Nat} {args : List Value} {S : St} : calls table.find (n + 1) 7 args S = endK S [.cell 6 true 17, .tmp 7] (evCode (calls table.find n) n7_0 (args ++ List.replicate (98 - args.length) undef) S.enter) := call_enter b7

/-! wainscot/wainscotref00.EqWords -/
@[simp] def l8_1 : List IOper := [oy 4 (.mv (.c (.bool false)))]
def n8_1 : ICode := .region l8_1
@[simp] def l8_4 : List IOper := [oy 6 (.mv (.t 0)),
  oy 7 (.lenS (.t 6)),
  oy 8 (.mv (.t 1)),
  oy 9 (.lenS (.t 8)),
  oy 10 (.bin .neq .int (.t 7) (.t 9))]
def n8_4 : ICode := .region l8_4
@[simp] def l8_7 : List IOper := [oy 4 (.mv (.c (.bool false)))]
def n8_7 : ICode := .region l8_7
def n8_8 : ICode := .ret
def n8_6 : ICode := .seq n8_7 n8_8
def n8_9 : ICode := .skip
def n8_5 : ICode := .cond (.t 10) n8_6 n8_9
def n8_3 : ICode := .seq n8_4 n8_5
@[simp] def l8_12 : List IOper := [oy 5 (.mv (.c (.int .i64 0)))]
def n8_12 : ICode := .region l8_12
@[simp] def l8_16 : List IOper := [oy 11 (.mv (.t 5)),
  oy 12 (.mv (.t 0)),
  oy 13 (.lenS (.t 12)),
  oy 14 (.bin .lss .int (.t 11) (.t 13))]
def n8_16 : ICode := .region l8_16
def n8_18 : ICode := .skip
def n8_19 : ICode := .exit 0
def n8_17 : ICode := .cond (.t 14) n8_18 n8_19
def n8_15 : ICode := .seq n8_16 n8_17
@[simp] def l8_23 : List IOper := [oy 17 (.mv (.t 0)),
  oy 18 (.mv (.t 5)),
  oy 19 (.idxS 1 (.t 17) (.t 18)),
  oy 20 (.load false 1 (.t 19)),
  oy 21 (.mv (.t 1)),
  oy 22 (.mv (.t 5)),
  oy 23 (.idxS 1 (.t 21) (.t 22)),
  oy 24 (.load false 1 (.t 23)),
  oy 25 (.bin .neq .int (.t 20) (.t 24))]
def n8_23 : ICode := .region l8_23
@[simp] def l8_26 : List IOper := [oy 4 (.mv (.c (.bool false)))]
def n8_26 : ICode := .region l8_26
def n8_27 : ICode := .ret
def n8_25 : ICode := .seq n8_26 n8_27
def n8_28 : ICode := .skip
def n8_24 : ICode := .cond (.t 25) n8_25 n8_28
def n8_22 : ICode := .seq n8_23 n8_24
def n8_21 : ICode := .block 1 n8_22
@[simp] def l8_29 : List IOper := [oy 15 (.mv (.t 5)),
  oy 16 (.bin .add .int (.t 15) (.c (.int .i64 1))),
  oy 5 (.mv (.t 16))]
def n8_29 : ICode := .region l8_29
def n8_20 : ICode := .seq n8_21 n8_29
def n8_14 : ICode := .seq n8_15 n8_20
def loop8_0 : ICode := .loop n8_14
def n8_13 : ICode := .block 0 loop8_0
def n8_11 : ICode := .seq n8_12 n8_13
@[simp] def l8_31 : List IOper := [oy 4 (.mv (.c (.bool true)))]
def n8_31 : ICode := .region l8_31
def n8_32 : ICode := .ret
def n8_30 : ICode := .seq n8_31 n8_32
def n8_10 : ICode := .seq n8_11 n8_30
def n8_2 : ICode := .seq n8_3 n8_10
def n8_0 : ICode := .seq n8_1 n8_2
theorem b8 : table.find 8 = some ⟨26, n8_0, [.tmp 4]⟩ := by kernel_rfl
@[simp] theorem en8_1 : evCode C n8_1 R S = regK (runOps C l8_1 R S) := ev_plain rfl
@[simp] theorem en8_4 : evCode C n8_4 R S = regK (runOps C l8_4 R S) := ev_plain rfl
@[simp] theorem en8_7 : evCode C n8_7 R S = regK (runOps C l8_7 R S) := ev_plain rfl
@[simp] theorem en8_8 : evCode C n8_8 R S = some (.ret, R, S) := (rfl)
@[simp] theorem en8_6 : evCode C n8_6 R S = seqK (evCode C n8_7 R S) fun R S => evCode C n8_8 R S := ev_seq
@[simp] theorem en8_9 : evCode C n8_9 R S = some (.norm, R, S) := (rfl)
@[simp] theorem en8_5 : evCode C n8_5 R S = condK (IV.ev R (.t 10)) (fun _ => evCode C n8_6 R S) fun _ => evCode C n8_9 R S := ev_cond
@[simp] theorem en8_3 : evCode C n8_3 R S = seqK (evCode C n8_4 R S) fun R S => evCode C n8_5 R S := ev_seq
@[simp] theorem en8_12 : evCode C n8_12 R S = regK (runOps C l8_12 R S) := ev_plain rfl
@[simp] theorem en8_16 : evCode C n8_16 R S = regK (runOps C l8_16 R S) := ev_plain rfl
@[simp] theorem en8_18 : evCode C n8_18 R S = some (.norm, R, S) := (rfl)
@[simp] theorem en8_19 : evCode C n8_19 R S = some (.exit 0, R, S) := (rfl)
@[simp] theorem en8_17 : evCode C n8_17 R S = condK (IV.ev R (.t 14)) (fun _ => evCode C n8_18 R S) fun _ => evCode C n8_19 R S := ev_cond
@[simp] theorem en8_15 : evCode C n8_15 R S = seqK (evCode C n8_16 R S) fun R S => evCode C n8_17 R S := ev_seq
@[simp] theorem en8_23 : evCode C n8_23 R S = regK (runOps C l8_23 R S) := ev_plain rfl
@[simp] theorem en8_26 : evCode C n8_26 R S = regK (runOps C l8_26 R S) := ev_plain rfl
@[simp] theorem en8_27 : evCode C n8_27 R S = some (.ret, R, S) := (rfl)
@[simp] theorem en8_25 : evCode C n8_25 R S = seqK (evCode C n8_26 R S) fun R S => evCode C n8_27 R S := ev_seq
@[simp] theorem en8_28 : evCode C n8_28 R S = some (.norm, R, S) := (rfl)
@[simp] theorem en8_24 : evCode C n8_24 R S = condK (IV.ev R (.t 25)) (fun _ => evCode C n8_25 R S) fun _ => evCode C n8_28 R S := ev_cond
@[simp] theorem en8_22 : evCode C n8_22 R S = seqK (evCode C n8_23 R S) fun R S => evCode C n8_24 R S := ev_seq
@[simp] theorem en8_21 : evCode C n8_21 R S = blockK 1 (evCode C n8_22 R S) := ev_block
@[simp] theorem en8_29 : evCode C n8_29 R S = regK (runOps C l8_29 R S) := ev_plain rfl
@[simp] theorem en8_20 : evCode C n8_20 R S = seqK (evCode C n8_21 R S) fun R S => evCode C n8_29 R S := ev_seq
@[simp] theorem en8_14 : evCode C n8_14 R S = seqK (evCode C n8_15 R S) fun R S => evCode C n8_20 R S := ev_seq
theorem eloop8_0 : evCode C loop8_0 R S = iter (fun R S => evCode C n8_14 R S) rounds R S := (rfl)
@[simp] theorem en8_13 : evCode C n8_13 R S = blockK 0 (evCode C loop8_0 R S) := ev_block
@[simp] theorem en8_11 : evCode C n8_11 R S = seqK (evCode C n8_12 R S) fun R S => evCode C n8_13 R S := ev_seq
@[simp] theorem en8_31 : evCode C n8_31 R S = regK (runOps C l8_31 R S) := ev_plain rfl
@[simp] theorem en8_32 : evCode C n8_32 R S = some (.ret, R, S) := (rfl)
@[simp] theorem en8_30 : evCode C n8_30 R S = seqK (evCode C n8_31 R S) fun R S => evCode C n8_32 R S := ev_seq
@[simp] theorem en8_10 : evCode C n8_10 R S = seqK (evCode C n8_11 R S) fun R S => evCode C n8_30 R S := ev_seq
@[simp] theorem en8_2 : evCode C n8_2 R S = seqK (evCode C n8_3 R S) fun R S => evCode C n8_10 R S := ev_seq
@[simp] theorem en8_0 : evCode C n8_0 R S = seqK (evCode C n8_1 R S) fun R S => evCode C n8_2 R S := ev_seq
theorem q8 {n : Nat} {args : List Value} {S : St} : calls table.find (n + 1) 8 args S = endK S [.tmp 4] (evCode (calls table.find n) n8_0 (args ++ List.replicate (26 - args.length) undef) S.enter) := call_enter b8

/-! (*wainscot/mem.Mem).Words -/
@[simp] def l9_1 : List IOper := [oy 2 (.mv (.c (.slice none 0 0)))]
def n9_1 : ICode := .region l9_1
@[simp] def l9_4 : List IOper := [oy 3 (.mv (.t 0)),
  oy 4 (.bin .eql .ptr (.t 3) (.c (.pointer none)))]
def n9_4 : ICode := .region l9_4
@[simp] def l9_7 : List IOper := [oy 2 (.mv (.c (.slice none 0 0)))]
def n9_7 : ICode := .region l9_7
def n9_8 : ICode := .ret
def n9_6 : ICode := .seq n9_7 n9_8
def n9_9 : ICode := .skip
def n9_5 : ICode := .cond (.t 4) n9_6 n9_9
def n9_3 : ICode := .seq n9_4 n9_5
@[simp] def l9_11 : List IOper := [oy 5 (.mv (.t 0)),
  oy 6 (.nilCheck (.t 5)),
  oy 7 (.addOff 0 (.t 6)),
  oy 8 (.load false 1 (.t 7)),
  oy 9 (.call (.c (.func (.func 29) #[] #[])) [(.t 8)] true),
  oy 2 (.mv (.t 9))]
def n9_11 : ICode := .region l9_11
def n9_12 : ICode := .ret
def n9_10 : ICode := .seq n9_11 n9_12
def n9_2 : ICode := .seq n9_3 n9_10
def n9_0 : ICode := .seq n9_1 n9_2
theorem b9 : table.find 9 = some ⟨10, n9_0, [.tmp 2]⟩ := by kernel_rfl
@[simp] theorem en9_1 : evCode C n9_1 R S = regK (runOps C l9_1 R S) := ev_plain rfl
@[simp] theorem en9_4 : evCode C n9_4 R S = regK (runOps C l9_4 R S) := ev_plain rfl
@[simp] theorem en9_7 : evCode C n9_7 R S = regK (runOps C l9_7 R S) := ev_plain rfl
@[simp] theorem en9_8 : evCode C n9_8 R S = some (.ret, R, S) := (rfl)
@[simp] theorem en9_6 : evCode C n9_6 R S = seqK (evCode C n9_7 R S) fun R S => evCode C n9_8 R S := ev_seq
@[simp] theorem en9_9 : evCode C n9_9 R S = some (.norm, R, S) := (rfl)
@[simp] theorem en9_5 : evCode C n9_5 R S = condK (IV.ev R (.t 4)) (fun _ => evCode C n9_6 R S) fun _ => evCode C n9_9 R S := ev_cond
@[simp] theorem en9_3 : evCode C n9_3 R S = seqK (evCode C n9_4 R S) fun R S => evCode C n9_5 R S := ev_seq
@[simp] theorem en9_11 : evCode C n9_11 R S = regK (runOps C l9_11 R S) := ev_plain rfl
@[simp] theorem en9_12 : evCode C n9_12 R S = some (.ret, R, S) := (rfl)
@[simp] theorem en9_10 : evCode C n9_10 R S = seqK (evCode C n9_11 R S) fun R S => evCode C n9_12 R S := ev_seq
@[simp] theorem en9_2 : evCode C n9_2 R S = seqK (evCode C n9_3 R S) fun R S => evCode C n9_10 R S := ev_seq
@[simp] theorem en9_0 : evCode C n9_0 R S = seqK (evCode C n9_1 R S) fun R S => evCode C n9_2 R S := ev_seq
theorem q9 {n : Nat} {args : List Value} {S : St} : calls table.find (n + 1) 9 args S = endK S [.tmp 2] (evCode (calls table.find n) n9_0 (args ++ List.replicate (10 - args.length) undef) S.enter) := call_enter b9

/-! (*wainscot/wainscotref03.Mem).Words -/
@[simp] def l10_1 : List IOper := [oy 2 (.mv (.c (.slice none 0 0)))]
def n10_1 : ICode := .region l10_1
@[simp] def l10_3 : List IOper := [oy 3 (.mv (.c (.slice none 0 0)))]
def n10_3 : ICode := .region l10_3
@[simp] def l10_5 : List IOper := [oy 4 (.mv (.t 3)),
  oy 5 (.mv (.t 0)),
  oy 6 (.nilCheck (.t 5)),
  oy 7 (.addOff 0 (.t 6)),
  oy 8 (.load false 1 (.t 7)),
  oy 9 (.append 23 1 8 (.t 4) (.t 8)),
  oy 2 (.mv (.t 9))]
def n10_5 : ICode := .region l10_5
def n10_6 : ICode := .ret
def n10_4 : ICode := .seq n10_5 n10_6
def n10_2 : ICode := .seq n10_3 n10_4
def n10_0 : ICode := .seq n10_1 n10_2
theorem b10 : table.find 10 = some ⟨10, n10_0, [.tmp 2]⟩ := by kernel_rfl
@[simp] theorem en10_1 : evCode C n10_1 R S = regK (runOps C l10_1 R S) := ev_plain rfl
@[simp] theorem en10_3 : evCode C n10_3 R S = regK (runOps C l10_3 R S) := ev_plain rfl
@[simp] theorem en10_5 : evCode C n10_5 R S = regK (runOps C l10_5 R S) := ev_plain rfl
@[simp] theorem en10_6 : evCode C n10_6 R S = some (.ret, R, S) := (rfl)
@[simp] theorem en10_4 : evCode C n10_4 R S = seqK (evCode C n10_5 R S) fun R S => evCode C n10_6 R S := ev_seq
@[simp] theorem en10_2 : evCode C n10_2 R S = seqK (evCode C n10_3 R S) fun R S => evCode C n10_4 R S := ev_seq
@[simp] theorem en10_0 : evCode C n10_0 R S = seqK (evCode C n10_1 R S) fun R S => evCode C n10_2 R S := ev_seq
theorem q10 {n : Nat} {args : List Value} {S : St} : calls table.find (n + 1) 10 args S = endK S [.tmp 2] (evCode (calls table.find n) n10_0 (args ++ List.replicate (10 - args.length) undef) S.enter) := call_enter b10

/-! wainscot/wainscotref21.Words -/
@[simp] def l12_1 : List IOper := [oy 1 (.box 25 6 (.t 0)),
  oy 2 (.mv (.c (.int .i64 0)))]
def n12_1 : ICode := .region l12_1
@[simp] def l12_3 : List IOper := [oy 3 (.load true 6 (.t 1)),
  oy 4 (.addOff 0 (.t 1)),
  oy 5 (.load false 1 (.t 4)),
  oy 6 (.bin .mul .int (.c (.int .i64 4)) (.t 5)),
  oy 7 (.bin .add .int (.t 6) (.c (.int .i64 4))),
  oy 8 (.addOff 1 (.t 1)),
  oy 9 (.load false 1 (.t 8)),
  oy 10 (.bin .mul .int (.c (.int .i64 4)) (.t 9)),
  oy 11 (.bin .add .int (.t 7) (.t 10)),
  oy 12 (.addOff 1 (.t 1)),
  oy 13 (.load false 1 (.t 12)),
  oy 14 (.addOff 2 (.t 1)),
  oy 15 (.load false 1 (.t 14)),
  oy 16 (.bin .mul .int (.t 13) (.t 15)),
  oy 17 (.bin .add .int (.t 11) (.t 16)),
  oy 18 (.call (.c (.func (.func 34) #[] #[])) [(.t 3), (.c (.bool true)), (.t 17)] true),
  oy 19 (.minmax true (.t 18) [(.c (.int .i64 0))]),
  oy 2 (.mv (.t 19))]
def n12_3 : ICode := .region l12_3
def n12_4 : ICode := .ret
def n12_2 : ICode := .seq n12_3 n12_4
def n12_0 : ICode := .seq n12_1 n12_2
theorem b12 : table.find 12 = some ⟨20, n12_0, [.tmp 2]⟩ := by kernel_rfl
@[simp] theorem en12_1 : evCode C n12_1 R S = regK (runOps C l12_1 R S) := ev_plain rfl
@[simp] theorem en12_3 : evCode C n12_3 R S = regK (runOps C l12_3 R S) := ev_plain rfl
@[simp] theorem en12_4 : evCode C n12_4 R S = some (.ret, R, S) := (rfl)
@[simp] theorem en12_2 : evCode C n12_2 R S = seqK (evCode C n12_3 R S) fun R S => evCode C n12_4 R S := ev_seq
@[simp] theorem en12_0 : evCode C n12_0 R S = seqK (evCode C n12_1 R S) fun R S => evCode C n12_2 R S := ev_seq
theorem q12 {n : Nat} {args : List Value} {S : St} : calls table.find (n + 1) 12 args S = endK S [.tmp 2] (evCode (calls table.find n) n12_0 (args ++ List.replicate (20 - args.length) undef) S.enter) := call_enter b12

/-! wainscot/wainscotref03.New -/
@[simp] def l14_1 : List IOper := [oy 2 (.mv (.c (.pointer none))),
  oy 3 (.mv (.c (.int .i64 0)))]
def n14_1 : ICode := .region l14_1
@[simp] def l14_4 : List IOper := [oy 4 (.mv (.t 0)),
  oy 5 (.bin .lss .int (.t 4) (.c (.int .i64 1))),
  oy 6 (.mv (.t 5)),
  oz 7 6 false (.mv (.t 0)),
  oz 8 6 false (.bin .gtr .int (.t 7) (.c (.int .i64 4096))),
  oy 9 (.pick (.t 6) (.c (.bool true)) (.t 8))]
def n14_4 : ICode := .region l14_4
@[simp] def l14_7 : List IOper := [oy 2 (.mv (.c (.pointer none))),
  oy 3 (.mv (.c (.int .i64 9)))]
def n14_7 : ICode := .region l14_7
def n14_8 : ICode := .ret
def n14_6 : ICode := .seq n14_7 n14_8
def n14_9 : ICode := .skip
def n14_5 : ICode := .cond (.t 9) n14_6 n14_9
def n14_3 : ICode := .seq n14_4 n14_5
@[simp] def l14_11 : List IOper := [oy 10 (.mv (.t 0)),
  oy 11 (.mkSlice 23 (.int .u64 0) 8 (.t 10) (.t 10)),
  oy 12 (.build [(.slice none 0 0), (.int .i64 0)] [(0, 1, (.t 11))]),
  oy 13 (.box 66 2 (.t 12)),
  oy 2 (.mv (.t 13)),
  oy 3 (.mv (.c (.int .i64 0)))]
def n14_11 : ICode := .region l14_11
def n14_12 : ICode := .ret
def n14_10 : ICode := .seq n14_11 n14_12
def n14_2 : ICode := .seq n14_3 n14_10
def n14_0 : ICode := .seq n14_1 n14_2
theorem b14 : table.find 14 = some ⟨14, n14_0, [.tmp 2, .tmp 3]⟩ := by kernel_rfl
@[simp] theorem en14_1 : evCode C n14_1 R S = regK (runOps C l14_1 R S) := ev_plain rfl
@[simp] theorem en14_4 : evCode C n14_4 R S = regK (runOps C l14_4 R S) := ev_plain rfl
@[simp] theorem en14_7 : evCode C n14_7 R S = regK (runOps C l14_7 R S) := ev_plain rfl
@[simp] theorem en14_8 : evCode C n14_8 R S = some (.ret, R, S) := (rfl)
@[simp] theorem en14_6 : evCode C n14_6 R S = seqK (evCode C n14_7 R S) fun R S => evCode C n14_8 R S := ev_seq
@[simp] theorem en14_9 : evCode C n14_9 R S = some (.norm, R, S) := (rfl)
@[simp] theorem en14_5 : evCode C n14_5 R S = condK (IV.ev R (.t 9)) (fun _ => evCode C n14_6 R S) fun _ => evCode C n14_9 R S := ev_cond
@[simp] theorem en14_3 : evCode C n14_3 R S = seqK (evCode C n14_4 R S) fun R S => evCode C n14_5 R S := ev_seq
@[simp] theorem en14_11 : evCode C n14_11 R S = regK (runOps C l14_11 R S) := ev_plain rfl
@[simp] theorem en14_12 : evCode C n14_12 R S = some (.ret, R, S) := (rfl)
@[simp] theorem en14_10 : evCode C n14_10 R S = seqK (evCode C n14_11 R S) fun R S => evCode C n14_12 R S := ev_seq
@[simp] theorem en14_2 : evCode C n14_2 R S = seqK (evCode C n14_3 R S) fun R S => evCode C n14_10 R S := ev_seq
@[simp] theorem en14_0 : evCode C n14_0 R S = seqK (evCode C n14_1 R S) fun R S => evCode C n14_2 R S := ev_seq
theorem q14 {n : Nat} {args : List Value} {S : St} : calls table.find (n + 1) 14 args S = endK S [.tmp 2, .tmp 3] (evCode (calls table.find n) n14_0 (args ++ List.replicate (14 - args.length) undef) S.enter) := call_enter b14

/-! (*wainscot/mem.Mem).Store -/
@[simp] def l15_1 : List IOper := [oy 5 (.box 23 1 (.t 2)),
  oy 6 (.mv (.c (.int .i64 0)))]
def n15_1 : ICode := .region l15_1
@[simp] def l15_3 : List IOper := [oy 7 (.mv (.t 0)),
  oy 8 (.mv (.t 1)),
  oy 9 (.mkFunc 36 [] [(.t 5)]),
  oy 10 (.call (.c (.func (.func 35) #[] #[])) [(.t 7), (.t 8), (.c (.int .i64 1)), (.t 9)] false),
  oy 6 (.mv (.t 10))]
def n15_3 : ICode := .region l15_3
def n15_4 : ICode := .ret
def n15_2 : ICode := .seq n15_3 n15_4
def n15_0 : ICode := .seq n15_1 n15_2
theorem b15 : table.find 15 = some ⟨11, n15_0, [.tmp 6]⟩ := by kernel_rfl
@[simp] theorem en15_1 : evCode C n15_1 R S = regK (runOps C l15_1 R S) := ev_plain rfl
@[simp] theorem en15_3 : evCode C n15_3 R S = regK (runOps C l15_3 R S) := ev_plain rfl
@[simp] theorem en15_4 : evCode C n15_4 R S = some (.ret, R, S) := (rfl)
@[simp] theorem en15_2 : evCode C n15_2 R S = seqK (evCode C n15_3 R S) fun R S => evCode C n15_4 R S := ev_seq
@[simp] theorem en15_0 : evCode C n15_0 R S = seqK (evCode C n15_1 R S) fun R S => evCode C n15_2 R S := ev_seq
theorem q15 {n : Nat} {args : List Value} {S : St} : calls table.find (n + 1) 15 args S = endK S [.tmp 6] (evCode (calls table.find n) n15_0 (args ++ List.replicate (11 - args.length) undef) S.enter) := call_enter b15

/-! (*wainscot/wainscotref03.Mem).Store -/
@[simp] def l16_1 : List IOper := [oy 6 (.mv (.c (.int .i64 0)))]
def n16_1 : ICode := .region l16_1
@[simp] def l16_4 : List IOper := [oy 8 (.mv (.t 0)),
  oy 9 (.mv (.t 1)),
  oy 10 (.call (.c (.func (.func 37) #[] #[])) [(.t 8), (.t 9), (.c (.int .i64 1))] false),
  oy 7 (.mv (.t 10))]
def n16_4 : ICode := .region l16_4
@[simp] def l16_6 : List IOper := [oy 11 (.mv (.t 7)),
  oy 12 (.bin .neq .int (.t 11) (.c (.int .i64 0)))]
def n16_6 : ICode := .region l16_6
@[simp] def l16_9 : List IOper := [oy 13 (.mv (.t 7)),
  oy 6 (.mv (.t 13))]
def n16_9 : ICode := .region l16_9
def n16_10 : ICode := .ret
def n16_8 : ICode := .seq n16_9 n16_10
def n16_11 : ICode := .skip
def n16_7 : ICode := .cond (.t 12) n16_8 n16_11
def n16_5 : ICode := .seq n16_6 n16_7
def n16_3 : ICode := .seq n16_4 n16_5
@[simp] def l16_13 : List IOper := [oy 14 (.mv (.t 0)),
  oy 15 (.nilCheck (.t 14)),
  oy 16 (.addOff 0 (.t 15)),
  oy 17 (.load false 1 (.t 16)),
  oy 18 (.mv (.t 1)),
  oy 19 (.mv (.t 2)),
  oy 20 (.idxS 1 (.t 17) (.t 18)),
  ox (.store 1 (.t 20) (.t 19))]
def n16_13 : ICode := .region l16_13
@[simp] def l16_15 : List IOper := [oy 6 (.mv (.c (.int .i64 0)))]
def n16_15 : ICode := .region l16_15
def n16_16 : ICode := .ret
def n16_14 : ICode := .seq n16_15 n16_16
def n16_12 : ICode := .seq n16_13 n16_14
def n16_2 : ICode := .seq n16_3 n16_12
def n16_0 : ICode := .seq n16_1 n16_2
theorem b16 : table.find 16 = some ⟨21, n16_0, [.tmp 6]⟩ := by kernel_rfl
@[simp] theorem en16_1 : evCode C n16_1 R S = regK (runOps C l16_1 R S) := ev_plain rfl
@[simp] theorem en16_4 : evCode C n16_4 R S = regK (runOps C l16_4 R S) := ev_plain rfl
@[simp] theorem en16_6 : evCode C n16_6 R S = regK (runOps C l16_6 R S) := ev_plain rfl
@[simp] theorem en16_9 : evCode C n16_9 R S = regK (runOps C l16_9 R S) := ev_plain rfl
@[simp] theorem en16_10 : evCode C n16_10 R S = some (.ret, R, S) := (rfl)
@[simp] theorem en16_8 : evCode C n16_8 R S = seqK (evCode C n16_9 R S) fun R S => evCode C n16_10 R S := ev_seq
@[simp] theorem en16_11 : evCode C n16_11 R S = some (.norm, R, S) := (rfl)
@[simp] theorem en16_7 : evCode C n16_7 R S = condK (IV.ev R (.t 12)) (fun _ => evCode C n16_8 R S) fun _ => evCode C n16_11 R S := ev_cond
@[simp] theorem en16_5 : evCode C n16_5 R S = seqK (evCode C n16_6 R S) fun R S => evCode C n16_7 R S := ev_seq
@[simp] theorem en16_3 : evCode C n16_3 R S = seqK (evCode C n16_4 R S) fun R S => evCode C n16_5 R S := ev_seq
@[simp] theorem en16_13 : evCode C n16_13 R S = regK (runOps C l16_13 R S) := ev_plain rfl
@[simp] theorem en16_15 : evCode C n16_15 R S = regK (runOps C l16_15 R S) := ev_plain rfl
@[simp] theorem en16_16 : evCode C n16_16 R S = some (.ret, R, S) := (rfl)
@[simp] theorem en16_14 : evCode C n16_14 R S = seqK (evCode C n16_15 R S) fun R S => evCode C n16_16 R S := ev_seq
@[simp] theorem en16_12 : evCode C n16_12 R S = seqK (evCode C n16_13 R S) fun R S => evCode C n16_14 R S := ev_seq
@[simp] theorem en16_2 : evCode C n16_2 R S = seqK (evCode C n16_3 R S) fun R S => evCode C n16_12 R S := ev_seq
@[simp] theorem en16_0 : evCode C n16_0 R S = seqK (evCode C n16_1 R S) fun R S => evCode C n16_2 R S := ev_seq
theorem q16 {n : Nat} {args : List Value} {S : St} : calls table.find (n + 1) 16 args S = endK S [.tmp 6] (evCode (calls table.find n) n16_0 (args ++ List.replicate (21 - args.length) undef) S.enter) := call_enter b16

/-! wainscot/fast.program -/
@[simp] def l19_1 : List IOper := [oy 0 (.mv (.c (.map none)))]
def n19_1 : ICode := .region l19_1
@[simp] def l19_3 : List IOper := [oy 1 (.mkMap),
  ox (.mapSet (.t 1) (.c (.int .i64 0)) (.c (.func (.func 38) #[] #[]))),
  ox (.mapSet (.t 1) (.c (.int .i64 1)) (.c (.func (.func 39) #[] #[]))),
  ox (.mapSet (.t 1) (.c (.int .i64 2)) (.c (.func (.func 40) #[] #[]))),
  ox (.mapSet (.t 1) (.c (.int .i64 3)) (.c (.func (.func 41) #[] #[]))),
  ox (.mapSet (.t 1) (.c (.int .i64 10)) (.c (.func (.func 38) #[] #[]))),
  ox (.mapSet (.t 1) (.c (.int .i64 11)) (.c (.func (.func 42) #[] #[]))),
  ox (.mapSet (.t 1) (.c (.int .i64 12)) (.c (.func (.func 43) #[] #[]))),
  ox (.mapSet (.t 1) (.c (.int .i64 13)) (.c (.func (.func 44) #[] #[]))),
  oy 2 (.mv (.t 1)),
  oy 0 (.mv (.t 2))]
def n19_3 : ICode := .region l19_3
def n19_4 : ICode := .ret
def n19_2 : ICode := .seq n19_3 n19_4
def n19_0 : ICode := .seq n19_1 n19_2
theorem b19 : table.find 19 = some ⟨3, n19_0, [.tmp 0]⟩ := by kernel_rfl
@[simp] theorem en19_1 : evCode C n19_1 R S = regK (runOps C l19_1 R S) := ev_plain rfl
@[simp] theorem en19_3 : evCode C n19_3 R S = regK (runOps C l19_3 R S) := ev_plain rfl
@[simp] theorem en19_4 : evCode C n19_4 R S = some (.ret, R, S) := (rfl)
@[simp] theorem en19_2 : evCode C n19_2 R S = seqK (evCode C n19_3 R S) fun R S => evCode C n19_4 R S := ev_seq
@[simp] theorem en19_0 : evCode C n19_0 R S = seqK (evCode C n19_1 R S) fun R S => evCode C n19_2 R S := ev_seq
theorem q19 {n : Nat} {args : List Value} {S : St} : calls table.find (n + 1) 19 args S = endK S [.tmp 0] (evCode (calls table.find n) n19_0 (args ++ List.replicate (3 - args.length) undef) S.enter) := call_enter b19

/-! wainscot/wainscotref22.May -/
@[simp] def l20_1 : List IOper := [oy 6 (.box 25 6 (.t 1)),
  oy 7 (.box 27 17 (.t 2)),
  oy 10 (.mv (.c (.int .i64 0)))]
def n20_1 : ICode := .region l20_1
@[simp] def l20_4 : List IOper := [oy 11 (.mv (.t 0)),
  oy 12 (.bin .eql .ptr (.t 11) (.c (.pointer none))),
  oy 13 (.mv (.t 12)),
  oz 14 13 false (.mv (.t 0)),
  oz 15 13 false (.nilCheck (.t 14)),
  oz 16 13 false (.addOff 0 (.t 15)),
  oz 17 13 false (.load false 1 (.t 16)),
  oz 18 13 false (.lenS (.t 17)),
  oz 19 13 false (.bin .eql .int (.t 18) (.c (.int .i64 0))),
  oy 20 (.pick (.t 13) (.c (.bool true)) (.t 19))]
def n20_4 : ICode := .region l20_4
@[simp] def l20_7 : List IOper := [oy 10 (.mv (.c (.int .i64 1)))]
def n20_7 : ICode := .region l20_7
def n20_8 : ICode := .ret
def n20_6 : ICode := .seq n20_7 n20_8
def n20_9 : ICode := .skip
def n20_5 : ICode := .cond (.t 20) n20_6 n20_9
def n20_3 : ICode := .seq n20_4 n20_5
@[simp] def l20_12 : List IOper := [oy 21 (.load true 6 (.t 6)),
  oy 22 (.call (.c (.func (.func 45) #[] #[])) [(.t 21)] true),
  oy 23 (.bin .neq .int (.t 22) (.c (.int .i64 0)))]
def n20_12 : ICode := .region l20_12
@[simp] def l20_15 : List IOper := [oy 10 (.mv (.c (.int .i64 2)))]
def n20_15 : ICode := .region l20_15
def n20_16 : ICode := .ret
def n20_14 : ICode := .seq n20_15 n20_16
def n20_17 : ICode := .skip
def n20_13 : ICode := .cond (.t 23) n20_14 n20_17
def n20_11 : ICode := .seq n20_12 n20_13
@[simp] def l20_20 : List IOper := [oy 24 (.addOff 3 (.t 7)),
  oy 25 (.load false 1 (.t 24)),
  oy 26 (.bin .neq .int (.t 25) (.c (.int .i64 0))),
  oy 27 (.mv (.t 26)),
  oz 28 27 false (.addOff 4 (.t 7)),
  oz 29 27 false (.load false 1 (.t 28)),
  oz 30 27 false (.bin .neq .int (.t 29) (.c (.int .i64 0))),
  oy 31 (.pick (.t 27) (.c (.bool true)) (.t 30)),
  oy 32 (.mv (.t 31)),
  oz 33 32 false (.addOff 2 (.t 7)),
  oz 34 32 false (.load false 1 (.t 33)),
  oz 35 32 false (.mv (.t 3)),
  oz 36 32 false (.bin .lss .int (.t 34) (.t 35)),
  oy 37 (.pick (.t 32) (.c (.bool true)) (.t 36)),
  oy 38 (.mv (.t 37)),
  oz 39 38 false (.addOff 2 (.t 7)),
  oz 40 38 false (.load false 1 (.t 39)),
  oz 41 38 false (.mv (.t 4)),
  oz 42 38 false (.bin .gtr .int (.t 40) (.t 41)),
  oy 43 (.pick (.t 38) (.c (.bool true)) (.t 42))]
def n20_20 : ICode := .region l20_20
@[simp] def l20_23 : List IOper := [oy 10 (.mv (.c (.int .i64 292)))]
def n20_23 : ICode := .region l20_23
def n20_24 : ICode := .ret
def n20_22 : ICode := .seq n20_23 n20_24
def n20_25 : ICode := .skip
def n20_21 : ICode := .cond (.t 43) n20_22 n20_25
def n20_19 : ICode := .seq n20_20 n20_21
@[simp] def l20_27 : List IOper := [oy 10 (.mv (.c (.int .i64 0)))]
def n20_27 : ICode := .region l20_27
def n20_28 : ICode := .ret
def n20_26 : ICode := .seq n20_27 n20_28
def n20_18 : ICode := .seq n20_19 n20_26
def n20_10 : ICode := .seq n20_11 n20_18
def n20_2 : ICode := .seq n20_3 n20_10
def n20_0 : ICode := .seq n20_1 n20_2
theorem b20 : table.find 20 = some ⟨44, n20_0, [.tmp 10]⟩ := by kernel_rfl
@[simp] theorem en20_1 : evCode C n20_1 R S = regK (runOps C l20_1 R S) := ev_plain rfl
@[simp] theorem en20_4 : evCode C n20_4 R S = regK (runOps C l20_4 R S) := ev_plain rfl
@[simp] theorem en20_7 : evCode C n20_7 R S = regK (runOps C l20_7 R S) := ev_plain rfl
@[simp] theorem en20_8 : evCode C n20_8 R S = some (.ret, R, S) := (rfl)
@[simp] theorem en20_6 : evCode C n20_6 R S = seqK (evCode C n20_7 R S) fun R S => evCode C n20_8 R S := ev_seq
@[simp] theorem en20_9 : evCode C n20_9 R S = some (.norm, R, S) := (rfl)
@[simp] theorem en20_5 : evCode C n20_5 R S = condK (IV.ev R (.t 20)) (fun _ => evCode C n20_6 R S) fun _ => evCode C n20_9 R S := ev_cond
@[simp] theorem en20_3 : evCode C n20_3 R S = seqK (evCode C n20_4 R S) fun R S => evCode C n20_5 R S := ev_seq
@[simp] theorem en20_12 : evCode C n20_12 R S = regK (runOps C l20_12 R S) := ev_plain rfl
@[simp] theorem en20_15 : evCode C n20_15 R S = regK (runOps C l20_15 R S) := ev_plain rfl
@[simp] theorem en20_16 : evCode C n20_16 R S = some (.ret, R, S) := (rfl)
@[simp] theorem en20_14 : evCode C n20_14 R S = seqK (evCode C n20_15 R S) fun R S => evCode C n20_16 R S := ev_seq
@[simp] theorem en20_17 : evCode C n20_17 R S = some (.norm, R, S) := (rfl)
@[simp] theorem en20_13 : evCode C n20_13 R S = condK (IV.ev R (.t 23)) (fun _ => evCode C n20_14 R S) fun _ => evCode C n20_17 R S := ev_cond
@[simp] theorem en20_11 : evCode C n20_11 R S = seqK (evCode C n20_12 R S) fun R S => evCode C n20_13 R S := ev_seq
@[simp] theorem en20_20 : evCode C n20_20 R S = regK (runOps C l20_20 R S) := ev_plain rfl
@[simp] theorem en20_23 : evCode C n20_23 R S = regK (runOps C l20_23 R S) := ev_plain rfl
@[simp] theorem en20_24 : evCode C n20_24 R S = some (.ret, R, S) := (rfl)
@[simp] theorem en20_22 : evCode C n20_22 R S = seqK (evCode C n20_23 R S) fun R S => evCode C n20_24 R S := ev_seq
@[simp] theorem en20_25 : evCode C n20_25 R S = some (.norm, R, S) := (rfl)
@[simp] theorem en20_21 : evCode C n20_21 R S = condK (IV.ev R (.t 43)) (fun _ => evCode C n20_22 R S) fun _ => evCode C n20_25 R S := ev_cond
@[simp] theorem en20_19 : evCode C n20_19 R S = seqK (evCode C n20_20 R S) fun R S => evCode C n20_21 R S := ev_seq
@[simp] theorem en20_27 : evCode C n20_27 R S = regK (runOps C l20_27 R S) := ev_plain rfl
@[simp] theorem en20_28 : evCode C n20_28 R S = some (.ret, R, S) := (rfl)
@[simp] theorem en20_26 : evCode C n20_26 R S = seqK (evCode C n20_27 R S) fun R S => evCode C n20_28 R S := ev_seq
@[simp] theorem en20_18 : evCode C n20_18 R S = seqK (evCode C n20_19 R S) fun R S => evCode C n20_26 R S := ev_seq
@[simp] theorem en20_10 : evCode C n20_10 R S = seqK (evCode C n20_11 R S) fun R S => evCode C n20_18 R S := ev_seq
@[simp] theorem en20_2 : evCode C n20_2 R S = seqK (evCode C n20_3 R S) fun R S => evCode C n20_10 R S := ev_seq
@[simp] theorem en20_0 : evCode C n20_0 R S = seqK (evCode C n20_1 R S) fun R S => evCode C n20_2 R S := ev_seq
theorem q20 {n : Nat} {args : List Value} {S : St} : calls table.find (n + 1) 20 args S = endK S [.tmp 10] (evCode (calls table.find n) n20_0 (args ++ List.replicate (44 - args.length) undef) S.enter) := call_enter b20

/-! wainscot/wainscotref22.turn -/
@[simp] def l21_1 : List IOper := [oy 4 (.box 25 6 (.t 1)),
  oy 5 (.box 27 17 (.t 2)),
  oy 6 (.new 27 [(.int .i64 0), (.int .i64 0), (.int .i64 0), (.int .i64 0), (.int .i64 0), (.int .i64 0), (.int .i64 0), (.int .u64 0), (.int .u64 0), (.int .u64 0), (.int .u64 0), (.int .u64 0), (.int .i64 0), (.int .i64 0), (.int .i64 0), (.int .i64 0), (.int .i64 0)])]
def n21_1 : ICode := .region l21_1
@[simp] def l21_3 : List IOper := [oy 10 (.mv (.t 0)),
  oy 11 (.load true 6 (.t 4)),
  oy 12 (.addOff 1 (.t 5)),
  oy 13 (.load false 1 (.t 12)),
  oy 14 (.call (.c (.func (.func 48) #[] #[])) [(.t 11), (.t 13)] true),
  oy 15 (.call (.c (.func (.func 47) #[] #[])) [(.t 14)] false),
  oy 16 (.call (.c (.func (.func 46) #[] #[])) [(.t 10), (.t 15)] false),
  oy 9 (.mv (.t 16)),
  oy 17 (.extract (.t 9) 0),
  oy 18 (.extract (.t 9) 1),
  oy 7 (.mv (.t 17)),
  oy 8 (.mv (.t 18))]
def n21_3 : ICode := .region l21_3
@[simp] def l21_6 : List IOper := [oy 19 (.mv (.t 8)),
  oy 20 (.bin .neq .int (.t 19) (.c (.int .i64 0)))]
def n21_6 : ICode := .region l21_6
@[simp] def l21_9 : List IOper := [oy 21 (.load true 17 (.t 5)),
  oy 22 (.call (.c (.func (.func 25) #[] #[])) [(.t 21)] false),
  ox (.store 17 (.t 6) (.t 22))]
def n21_9 : ICode := .region l21_9
def n21_10 : ICode := .ret
def n21_8 : ICode := .seq n21_9 n21_10
def n21_11 : ICode := .skip
def n21_7 : ICode := .cond (.t 20) n21_8 n21_11
def n21_5 : ICode := .seq n21_6 n21_7
@[simp] def l21_13 : List IOper := [oy 23 (.mv (.t 7)),
  oy 24 (.addOff 8 (.t 5)),
  ox (.store 1 (.t 24) (.t 23))]
def n21_13 : ICode := .region l21_13
@[simp] def l21_15 : List IOper := [oy 25 (.load true 17 (.t 5)),
  oy 26 (.addOff 2 (.t 5)),
  oy 27 (.load false 1 (.t 26)),
  oy 28 (.bin .add .int (.t 27) (.c (.int .i64 1))),
  oy 29 (.call (.c (.func (.func 26) #[] #[])) [(.t 25), (.t 28)] false),
  ox (.store 17 (.t 6) (.t 29))]
def n21_15 : ICode := .region l21_15
def n21_16 : ICode := .ret
def n21_14 : ICode := .seq n21_15 n21_16
def n21_12 : ICode := .seq n21_13 n21_14
def n21_4 : ICode := .seq n21_5 n21_12
def n21_2 : ICode := .seq n21_3 n21_4
def n21_0 : ICode := .seq n21_1 n21_2
theorem b21 : table.find 21 = some ⟨30, n21_0, [.cell 6 true 17]⟩ := by kernel_rfl
@[simp] theorem en21_1 : evCode C n21_1 R S = regK (runOps C l21_1 R S) := ev_plain rfl
@[simp] theorem en21_3 : evCode C n21_3 R S = regK (runOps C l21_3 R S) := ev_plain rfl
@[simp] theorem en21_6 : evCode C n21_6 R S = regK (runOps C l21_6 R S) := ev_plain rfl
@[simp] theorem en21_9 : evCode C n21_9 R S = regK (runOps C l21_9 R S) := ev_plain rfl
@[simp] theorem en21_10 : evCode C n21_10 R S = some (.ret, R, S) := (rfl)
@[simp] theorem en21_8 : evCode C n21_8 R S = seqK (evCode C n21_9 R S) fun R S => evCode C n21_10 R S := ev_seq
@[simp] theorem en21_11 : evCode C n21_11 R S = some (.norm, R, S) := (rfl)
@[simp] theorem en21_7 : evCode C n21_7 R S = condK (IV.ev R (.t 20)) (fun _ => evCode C n21_8 R S) fun _ => evCode C n21_11 R S := ev_cond
@[simp] theorem en21_5 : evCode C n21_5 R S = seqK (evCode C n21_6 R S) fun R S => evCode C n21_7 R S := ev_seq
@[simp] theorem en21_13 : evCode C n21_13 R S = regK (runOps C l21_13 R S) := ev_plain rfl
@[simp] theorem en21_15 : evCode C n21_15 R S = regK (runOps C l21_15 R S) := ev_plain rfl
@[simp] theorem en21_16 : evCode C n21_16 R S = some (.ret, R, S) := (rfl)
@[simp] theorem en21_14 : evCode C n21_14 R S = seqK (evCode C n21_15 R S) fun R S => evCode C n21_16 R S := ev_seq
@[simp] theorem en21_12 : evCode C n21_12 R S = seqK (evCode C n21_13 R S) fun R S => evCode C n21_14 R S := ev_seq
@[simp] theorem en21_4 : evCode C n21_4 R S = seqK (evCode C n21_5 R S) fun R S => evCode C n21_12 R S := ev_seq
@[simp] theorem en21_2 : evCode C n21_2 R S = seqK (evCode C n21_3 R S) fun R S => evCode C n21_4 R S := ev_seq
@[simp] theorem en21_0 : evCode C n21_0 R S = seqK (evCode C n21_1 R S) fun R S => evCode C n21_2 R S := ev_seq
theorem q21 {n : Nat} {args : List Value} {S : St} : calls table.find (n + 1) 21 args S = endK S [.cell 6 true 17] (evCode (calls table.find n) n21_0 (args ++ List.replicate (30 - args.length) undef) S.enter) := call_enter b21

/-! wainscot/wainscotref22.head -/
@[simp] def l22_1 : List IOper := [oy 4 (.box 25 6 (.t 1)),
  oy 5 (.box 27 17 (.t 2)),
  oy 6 (.new 27 [(.int .i64 0), (.int .i64 0), (.int .i64 0), (.int .i64 0), (.int .i64 0), (.int .i64 0), (.int .i64 0), (.int .u64 0), (.int .u64 0), (.int .u64 0), (.int .u64 0), (.int .u64 0), (.int .i64 0), (.int .i64 0), (.int .i64 0), (.int .i64 0), (.int .i64 0)])]
def n22_1 : ICode := .region l22_1
@[simp] def l22_3 : List IOper := [oy 13 (.mv (.t 0)),
  oy 14 (.load true 6 (.t 4)),
  oy 15 (.addOff 1 (.t 5)),
  oy 16 (.load false 1 (.t 15)),
  oy 17 (.call (.c (.func (.func 48) #[] #[])) [(.t 14), (.t 16)] true),
  oy 18 (.call (.c (.func (.func 46) #[] #[])) [(.t 13), (.t 17)] false),
  oy 12 (.mv (.t 18)),
  oy 19 (.extract (.t 12) 0),
  oy 20 (.extract (.t 12) 1),
  oy 7 (.mv (.t 19)),
  oy 8 (.mv (.t 20))]
def n22_3 : ICode := .region l22_3
@[simp] def l22_5 : List IOper := [oy 22 (.load true 6 (.t 4)),
  oy 23 (.mv (.t 7)),
  oy 24 (.call (.c (.func (.func 49) #[] #[])) [(.t 22), (.t 23)] false),
  oy 21 (.mv (.t 24)),
  oy 25 (.extract (.t 21) 0),
  oy 26 (.extract (.t 21) 1),
  oy 27 (.extract (.t 21) 2),
  oy 9 (.mv (.t 25)),
  oy 10 (.mv (.t 26)),
  oy 11 (.mv (.t 27))]
def n22_5 : ICode := .region l22_5
@[simp] def l22_8 : List IOper := [oy 28 (.mv (.t 8)),
  oy 29 (.bin .neq .int (.t 28) (.c (.int .i64 0))),
  oy 30 (.mv (.t 29)),
  oz 31 30 false (.mv (.t 11)),
  oz 32 30 false (.un .not (.t 31)),
  oy 33 (.pick (.t 30) (.c (.bool true)) (.t 32))]
def n22_8 : ICode := .region l22_8
@[simp] def l22_11 : List IOper := [oy 34 (.load true 17 (.t 5)),
  oy 35 (.call (.c (.func (.func 25) #[] #[])) [(.t 34)] false),
  ox (.store 17 (.t 6) (.t 35))]
def n22_11 : ICode := .region l22_11
def n22_12 : ICode := .ret
def n22_10 : ICode := .seq n22_11 n22_12
def n22_13 : ICode := .skip
def n22_9 : ICode := .cond (.t 33) n22_10 n22_13
def n22_7 : ICode := .seq n22_8 n22_9
@[simp] def l22_15 : List IOper := [oy 36 (.mv (.t 7)),
  oy 37 (.addOff 7 (.t 5)),
  ox (.store 1 (.t 37) (.t 36))]
def n22_15 : ICode := .region l22_15
@[simp] def l22_18 : List IOper := [oy 38 (.addOff 2 (.t 5)),
  oy 39 (.load false 1 (.t 38)),
  oy 40 (.bin .eql .int (.t 39) (.c (.int .i64 11)))]
def n22_18 : ICode := .region l22_18
@[simp] def l22_22 : List IOper := [oy 41 (.mv (.t 9)),
  oy 42 (.addOff 5 (.t 5)),
  oy 43 (.load false 1 (.t 42)),
  oy 44 (.bin .neq .int (.t 41) (.t 43))]
def n22_22 : ICode := .region l22_22
@[simp] def l22_25 : List IOper := [oy 45 (.load true 17 (.t 5)),
  oy 46 (.call (.c (.func (.func 26) #[] #[])) [(.t 45), (.c (.int .i64 50))] false),
  ox (.store 17 (.t 6) (.t 46))]
def n22_25 : ICode := .region l22_25
def n22_26 : ICode := .ret
def n22_24 : ICode := .seq n22_25 n22_26
def n22_27 : ICode := .skip
def n22_23 : ICode := .cond (.t 44) n22_24 n22_27
def n22_21 : ICode := .seq n22_22 n22_23
@[simp] def l22_29 : List IOper := [oy 47 (.mv (.t 10)),
  oy 48 (.addOff 12 (.t 5)),
  ox (.store 1 (.t 48) (.t 47))]
def n22_29 : ICode := .region l22_29
@[simp] def l22_31 : List IOper := [oy 49 (.load true 17 (.t 5)),
  oy 50 (.call (.c (.func (.func 26) #[] #[])) [(.t 49), (.c (.int .i64 12))] false),
  ox (.store 17 (.t 6) (.t 50))]
def n22_31 : ICode := .region l22_31
def n22_32 : ICode := .ret
def n22_30 : ICode := .seq n22_31 n22_32
def n22_28 : ICode := .seq n22_29 n22_30
def n22_20 : ICode := .seq n22_21 n22_28
def n22_33 : ICode := .skip
def n22_19 : ICode := .cond (.t 40) n22_20 n22_33
def n22_17 : ICode := .seq n22_18 n22_19
@[simp] def l22_35 : List IOper := [oy 51 (.mv (.t 9)),
  oy 52 (.addOff 5 (.t 5)),
  ox (.store 1 (.t 52) (.t 51))]
def n22_35 : ICode := .region l22_35
@[simp] def l22_37 : List IOper := [oy 53 (.mv (.t 10)),
  oy 54 (.addOff 6 (.t 5)),
  ox (.store 1 (.t 54) (.t 53))]
def n22_37 : ICode := .region l22_37
@[simp] def l22_40 : List IOper := [oy 55 (.mv (.t 9)),
  oy 56 (.bin .lss .int (.t 55) (.c (.int .i64 0)))]
def n22_40 : ICode := .region l22_40
@[simp] def l22_43 : List IOper := [oy 57 (.load true 17 (.t 5)),
  oy 58 (.call (.c (.func (.func 26) #[] #[])) [(.t 57), (.c (.int .i64 30))] false),
  ox (.store 17 (.t 6) (.t 58))]
def n22_43 : ICode := .region l22_43
def n22_44 : ICode := .ret
def n22_42 : ICode := .seq n22_43 n22_44
def n22_45 : ICode := .skip
def n22_41 : ICode := .cond (.t 56) n22_42 n22_45
def n22_39 : ICode := .seq n22_40 n22_41
@[simp] def l22_48 : List IOper := [oy 59 (.mv (.t 10)),
  oy 60 (.bin .lss .int (.t 59) (.c (.int .i64 0)))]
def n22_48 : ICode := .region l22_48
@[simp] def l22_51 : List IOper := [oy 61 (.load true 17 (.t 5)),
  oy 62 (.call (.c (.func (.func 26) #[] #[])) [(.t 61), (.c (.int .i64 20))] false),
  ox (.store 17 (.t 6) (.t 62))]
def n22_51 : ICode := .region l22_51
def n22_52 : ICode := .ret
def n22_50 : ICode := .seq n22_51 n22_52
def n22_53 : ICode := .skip
def n22_49 : ICode := .cond (.t 60) n22_50 n22_53
def n22_47 : ICode := .seq n22_48 n22_49
@[simp] def l22_55 : List IOper := [oy 63 (.load true 17 (.t 5)),
  oy 64 (.call (.c (.func (.func 26) #[] #[])) [(.t 63), (.c (.int .i64 2))] false),
  ox (.store 17 (.t 6) (.t 64))]
def n22_55 : ICode := .region l22_55
def n22_56 : ICode := .ret
def n22_54 : ICode := .seq n22_55 n22_56
def n22_46 : ICode := .seq n22_47 n22_54
def n22_38 : ICode := .seq n22_39 n22_46
def n22_36 : ICode := .seq n22_37 n22_38
def n22_34 : ICode := .seq n22_35 n22_36
def n22_16 : ICode := .seq n22_17 n22_34
def n22_14 : ICode := .seq n22_15 n22_16
def n22_6 : ICode := .seq n22_7 n22_14
def n22_4 : ICode := .seq n22_5 n22_6
def n22_2 : ICode := .seq n22_3 n22_4
def n22_0 : ICode := .seq n22_1 n22_2
theorem b22 : table.find 22 = some ⟨65, n22_0, [.cell 6 true 17]⟩ := by kernel_rfl
@[simp] theorem en22_1 : evCode C n22_1 R S = regK (runOps C l22_1 R S) := ev_plain rfl
@[simp] theorem en22_3 : evCode C n22_3 R S = regK (runOps C l22_3 R S) := ev_plain rfl
@[simp] theorem en22_5 : evCode C n22_5 R S = regK (runOps C l22_5 R S) := ev_plain rfl
@[simp] theorem en22_8 : evCode C n22_8 R S = regK (runOps C l22_8 R S) := ev_plain rfl
@[simp] theorem en22_11 : evCode C n22_11 R S = regK (runOps C l22_11 R S) := ev_plain rfl
@[simp] theorem en22_12 : evCode C n22_12 R S = some (.ret, R, S) := (rfl)
@[simp] theorem en22_10 : evCode C n22_10 R S = seqK (evCode C n22_11 R S) fun R S => evCode C n22_12 R S := ev_seq
@[simp] theorem en22_13 : evCode C n22_13 R S = some (.norm, R, S) := (rfl)
@[simp] theorem en22_9 : evCode C n22_9 R S = condK (IV.ev R (.t 33)) (fun _ => evCode C n22_10 R S) fun _ => evCode C n22_13 R S := ev_cond
@[simp] theorem en22_7 : evCode C n22_7 R S = seqK (evCode C n22_8 R S) fun R S => evCode C n22_9 R S := ev_seq
@[simp] theorem en22_15 : evCode C n22_15 R S = regK (runOps C l22_15 R S) := ev_plain rfl
@[simp] theorem en22_18 : evCode C n22_18 R S = regK (runOps C l22_18 R S) := ev_plain rfl
@[simp] theorem en22_22 : evCode C n22_22 R S = regK (runOps C l22_22 R S) := ev_plain rfl
@[simp] theorem en22_25 : evCode C n22_25 R S = regK (runOps C l22_25 R S) := ev_plain rfl
@[simp] theorem en22_26 : evCode C n22_26 R S = some (.ret, R, S) := (rfl)
@[simp] theorem en22_24 : evCode C n22_24 R S = seqK (evCode C n22_25 R S) fun R S => evCode C n22_26 R S := ev_seq
@[simp] theorem en22_27 : evCode C n22_27 R S = some (.norm, R, S) := (rfl)
@[simp] theorem en22_23 : evCode C n22_23 R S = condK (IV.ev R (.t 44)) (fun _ => evCode C n22_24 R S) fun _ => evCode C n22_27 R S := ev_cond
@[simp] theorem en22_21 : evCode C n22_21 R S = seqK (evCode C n22_22 R S) fun R S => evCode C n22_23 R S := ev_seq
@[simp] theorem en22_29 : evCode C n22_29 R S = regK (runOps C l22_29 R S) := ev_plain rfl
@[simp] theorem en22_31 : evCode C n22_31 R S = regK (runOps C l22_31 R S) := ev_plain rfl
@[simp] theorem en22_32 : evCode C n22_32 R S = some (.ret, R, S) := (rfl)
@[simp] theorem en22_30 : evCode C n22_30 R S = seqK (evCode C n22_31 R S) fun R S => evCode C n22_32 R S := ev_seq
@[simp] theorem en22_28 : evCode C n22_28 R S = seqK (evCode C n22_29 R S) fun R S => evCode C n22_30 R S := ev_seq
@[simp] theorem en22_20 : evCode C n22_20 R S = seqK (evCode C n22_21 R S) fun R S => evCode C n22_28 R S := ev_seq
@[simp] theorem en22_33 : evCode C n22_33 R S = some (.norm, R, S) := (rfl)
@[simp] theorem en22_19 : evCode C n22_19 R S = condK (IV.ev R (.t 40)) (fun _ => evCode C n22_20 R S) fun _ => evCode C n22_33 R S := ev_cond
@[simp] theorem en22_17 : evCode C n22_17 R S = seqK (evCode C n22_18 R S) fun R S => evCode C n22_19 R S := ev_seq
@[simp] theorem en22_35 : evCode C n22_35 R S = regK (runOps C l22_35 R S) := ev_plain rfl
@[simp] theorem en22_37 : evCode C n22_37 R S = regK (runOps C l22_37 R S) := ev_plain rfl
@[simp] theorem en22_40 : evCode C n22_40 R S = regK (runOps C l22_40 R S) := ev_plain rfl
@[simp] theorem en22_43 : evCode C n22_43 R S = regK (runOps C l22_43 R S) := ev_plain rfl
@[simp] theorem en22_44 : evCode C n22_44 R S = some (.ret, R, S) := (rfl)
@[simp] theorem en22_42 : evCode C n22_42 R S = seqK (evCode C n22_43 R S) fun R S => evCode C n22_44 R S := ev_seq
@[simp] theorem en22_45 : evCode C n22_45 R S = some (.norm, R, S) := (rfl)
@[simp] theorem en22_41 : evCode C n22_41 R S = condK (IV.ev R (.t 56)) (fun _ => evCode C n22_42 R S) fun _ => evCode C n22_45 R S := ev_cond
@[simp] theorem en22_39 : evCode C n22_39 R S = seqK (evCode C n22_40 R S) fun R S => evCode C n22_41 R S := ev_seq
@[simp] theorem en22_48 : evCode C n22_48 R S = regK (runOps C l22_48 R S) := ev_plain rfl
@[simp] theorem en22_51 : evCode C n22_51 R S = regK (runOps C l22_51 R S) := ev_plain rfl
@[simp] theorem en22_52 : evCode C n22_52 R S = some (.ret, R, S) := (rfl)
@[simp] theorem en22_50 : evCode C n22_50 R S = seqK (evCode C n22_51 R S) fun R S => evCode C n22_52 R S := ev_seq
@[simp] theorem en22_53 : evCode C n22_53 R S = some (.norm, R, S) := (rfl)
@[simp] theorem en22_49 : evCode C n22_49 R S = condK (IV.ev R (.t 60)) (fun _ => evCode C n22_50 R S) fun _ => evCode C n22_53 R S := ev_cond
@[simp] theorem en22_47 : evCode C n22_47 R S = seqK (evCode C n22_48 R S) fun R S => evCode C n22_49 R S := ev_seq
@[simp] theorem en22_55 : evCode C n22_55 R S = regK (runOps C l22_55 R S) := ev_plain rfl
@[simp] theorem en22_56 : evCode C n22_56 R S = some (.ret, R, S) := (rfl)
@[simp] theorem en22_54 : evCode C n22_54 R S = seqK (evCode C n22_55 R S) fun R S => evCode C n22_56 R S := ev_seq
@[simp] theorem en22_46 : evCode C n22_46 R S = seqK (evCode C n22_47 R S) fun R S => evCode C n22_54 R S := ev_seq
@[simp] theorem en22_38 : evCode C n22_38 R S = seqK (evCode C n22_39 R S) fun R S => evCode C n22_46 R S := ev_seq
@[simp] theorem en22_36 : evCode C n22_36 R S = seqK (evCode C n22_37 R S) fun R S => evCode C n22_38 R S := ev_seq
@[simp] theorem en22_34 : evCode C n22_34 R S = seqK (evCode C n22_35 R S) fun R S => evCode C n22_36 R S := ev_seq
@[simp] theorem en22_16 : evCode C n22_16 R S = seqK (evCode C n22_17 R S) fun R S => evCode C n22_34 R S := ev_seq
@[simp] theorem en22_14 : evCode C n22_14 R S = seqK (evCode C n22_15 R S) fun R S => evCode C n22_16 R S := ev_seq
@[simp] theorem en22_6 : evCode C n22_6 R S = seqK (evCode C n22_7 R S) fun R S => evCode C n22_14 R S := ev_seq
@[simp] theorem en22_4 : evCode C n22_4 R S = seqK (evCode C n22_5 R S) fun R S => evCode C n22_6 R S := ev_seq
@[simp] theorem en22_2 : evCode C n22_2 R S = seqK (evCode C n22_3 R S) fun R S => evCode C n22_4 R S := ev_seq
@[simp] theorem en22_0 : evCode C n22_0 R S = seqK (evCode C n22_1 R S) fun R S => evCode C n22_2 R S := ev_seq
theorem q22 {n : Nat} {args : List Value} {S : St} : calls table.find (n + 1) 22 args S = endK S [.cell 6 true 17] (evCode (calls table.find n) n22_0 (args ++ List.replicate (65 - args.length) undef) S.enter) := call_enter b22

/-! wainscot/wainscotref22.next -/
@[simp] def l23_1 : List IOper := [oy 4 (.box 25 6 (.t 1)),
  oy 5 (.box 27 17 (.t 2)),
  oy 6 (.new 27 [(.int .i64 0), (.int .i64 0), (.int .i64 0), (.int .i64 0), (.int .i64 0), (.int .i64 0), (.int .i64 0), (.int .u64 0), (.int .u64 0), (.int .u64 0), (.int .u64 0), (.int .u64 0), (.int .i64 0), (.int .i64 0), (.int .i64 0), (.int .i64 0), (.int .i64 0)])]
def n23_1 : ICode := .region l23_1
@[simp] def l23_3 : List IOper := [oy 12 (.mv (.t 0)),
  oy 13 (.load true 6 (.t 4)),
  oy 14 (.addOff 5 (.t 5)),
  oy 15 (.load false 1 (.t 14)),
  oy 16 (.addOff 6 (.t 5)),
  oy 17 (.load false 1 (.t 16)),
  oy 18 (.call (.c (.func (.func 50) #[] #[])) [(.t 13), (.t 15), (.t 17)] true),
  oy 19 (.call (.c (.func (.func 46) #[] #[])) [(.t 12), (.t 18)] false),
  oy 11 (.mv (.t 19)),
  oy 20 (.extract (.t 11) 0),
  oy 21 (.extract (.t 11) 1),
  oy 7 (.mv (.t 20)),
  oy 8 (.mv (.t 21))]
def n23_3 : ICode := .region l23_3
@[simp] def l23_6 : List IOper := [oy 22 (.mv (.t 8)),
  oy 23 (.bin .neq .int (.t 22) (.c (.int .i64 0)))]
def n23_6 : ICode := .region l23_6
@[simp] def l23_9 : List IOper := [oy 24 (.load true 17 (.t 5)),
  oy 25 (.call (.c (.func (.func 25) #[] #[])) [(.t 24)] false),
  ox (.store 17 (.t 6) (.t 25))]
def n23_9 : ICode := .region l23_9
def n23_10 : ICode := .ret
def n23_8 : ICode := .seq n23_9 n23_10
def n23_11 : ICode := .skip
def n23_7 : ICode := .cond (.t 23) n23_8 n23_11
def n23_5 : ICode := .seq n23_6 n23_7
@[simp] def l23_13 : List IOper := [oy 27 (.mv (.t 7)),
  oy 28 (.load true 6 (.t 4)),
  oy 29 (.addOff 5 (.t 5)),
  oy 30 (.load false 1 (.t 29)),
  oy 31 (.call (.c (.func (.func 52) #[] #[])) [(.t 28), (.t 30)] true),
  oy 32 (.addOff 6 (.t 5)),
  oy 33 (.load false 1 (.t 32)),
  oy 34 (.call (.c (.func (.func 51) #[] #[])) [(.t 27), (.t 31), (.t 33)] true),
  oy 26 (.mv (.t 34)),
  oy 35 (.extract (.t 26) 0),
  oy 36 (.extract (.t 26) 1),
  oy 9 (.mv (.t 35)),
  oy 10 (.mv (.t 36))]
def n23_13 : ICode := .region l23_13
@[simp] def l23_16 : List IOper := [oy 37 (.mv (.t 10)),
  oy 38 (.un .not (.t 37)),
  oy 39 (.mv (.t 38)),
  oz 40 39 false (.mv (.t 9)),
  oz 41 39 false (.addOff 2 (.t 4)),
  oz 42 39 false (.load false 1 (.t 41)),
  oz 43 39 false (.bin .geq .int (.t 40) (.t 42)),
  oy 44 (.pick (.t 39) (.c (.bool true)) (.t 43))]
def n23_16 : ICode := .region l23_16
@[simp] def l23_19 : List IOper := [oy 45 (.load true 17 (.t 5)),
  oy 46 (.call (.c (.func (.func 26) #[] #[])) [(.t 45), (.c (.int .i64 0))] false),
  ox (.store 17 (.t 6) (.t 46))]
def n23_19 : ICode := .region l23_19
def n23_20 : ICode := .ret
def n23_18 : ICode := .seq n23_19 n23_20
def n23_21 : ICode := .skip
def n23_17 : ICode := .cond (.t 44) n23_18 n23_21
def n23_15 : ICode := .seq n23_16 n23_17
@[simp] def l23_23 : List IOper := [oy 47 (.mv (.t 9)),
  oy 48 (.addOff 12 (.t 5)),
  ox (.store 1 (.t 48) (.t 47))]
def n23_23 : ICode := .region l23_23
@[simp] def l23_25 : List IOper := [oy 49 (.load true 17 (.t 5)),
  oy 50 (.call (.c (.func (.func 26) #[] #[])) [(.t 49), (.c (.int .i64 3))] false),
  ox (.store 17 (.t 6) (.t 50))]
def n23_25 : ICode := .region l23_25
def n23_26 : ICode := .ret
def n23_24 : ICode := .seq n23_25 n23_26
def n23_22 : ICode := .seq n23_23 n23_24
def n23_14 : ICode := .seq n23_15 n23_22
def n23_12 : ICode := .seq n23_13 n23_14
def n23_4 : ICode := .seq n23_5 n23_12
def n23_2 : ICode := .seq n23_3 n23_4
def n23_0 : ICode := .seq n23_1 n23_2
theorem b23 : table.find 23 = some ⟨51, n23_0, [.cell 6 true 17]⟩ := by kernel_rfl
@[simp] theorem en23_1 : evCode C n23_1 R S = regK (runOps C l23_1 R S) := ev_plain rfl
@[simp] theorem en23_3 : evCode C n23_3 R S = regK (runOps C l23_3 R S) := ev_plain rfl
@[simp] theorem en23_6 : evCode C n23_6 R S = regK (runOps C l23_6 R S) := ev_plain rfl
@[simp] theorem en23_9 : evCode C n23_9 R S = regK (runOps C l23_9 R S) := ev_plain rfl
@[simp] theorem en23_10 : evCode C n23_10 R S = some (.ret, R, S) := (rfl)
@[simp] theorem en23_8 : evCode C n23_8 R S = seqK (evCode C n23_9 R S) fun R S => evCode C n23_10 R S := ev_seq
@[simp] theorem en23_11 : evCode C n23_11 R S = some (.norm, R, S) := (rfl)
@[simp] theorem en23_7 : evCode C n23_7 R S = condK (IV.ev R (.t 23)) (fun _ => evCode C n23_8 R S) fun _ => evCode C n23_11 R S := ev_cond
@[simp] theorem en23_5 : evCode C n23_5 R S = seqK (evCode C n23_6 R S) fun R S => evCode C n23_7 R S := ev_seq
@[simp] theorem en23_13 : evCode C n23_13 R S = regK (runOps C l23_13 R S) := ev_plain rfl
@[simp] theorem en23_16 : evCode C n23_16 R S = regK (runOps C l23_16 R S) := ev_plain rfl
@[simp] theorem en23_19 : evCode C n23_19 R S = regK (runOps C l23_19 R S) := ev_plain rfl
@[simp] theorem en23_20 : evCode C n23_20 R S = some (.ret, R, S) := (rfl)
@[simp] theorem en23_18 : evCode C n23_18 R S = seqK (evCode C n23_19 R S) fun R S => evCode C n23_20 R S := ev_seq
@[simp] theorem en23_21 : evCode C n23_21 R S = some (.norm, R, S) := (rfl)
@[simp] theorem en23_17 : evCode C n23_17 R S = condK (IV.ev R (.t 44)) (fun _ => evCode C n23_18 R S) fun _ => evCode C n23_21 R S := ev_cond
@[simp] theorem en23_15 : evCode C n23_15 R S = seqK (evCode C n23_16 R S) fun R S => evCode C n23_17 R S := ev_seq
@[simp] theorem en23_23 : evCode C n23_23 R S = regK (runOps C l23_23 R S) := ev_plain rfl
@[simp] theorem en23_25 : evCode C n23_25 R S = regK (runOps C l23_25 R S) := ev_plain rfl
@[simp] theorem en23_26 : evCode C n23_26 R S = some (.ret, R, S) := (rfl)
@[simp] theorem en23_24 : evCode C n23_24 R S = seqK (evCode C n23_25 R S) fun R S => evCode C n23_26 R S := ev_seq
@[simp] theorem en23_22 : evCode C n23_22 R S = seqK (evCode C n23_23 R S) fun R S => evCode C n23_24 R S := ev_seq
@[simp] theorem en23_14 : evCode C n23_14 R S = seqK (evCode C n23_15 R S) fun R S => evCode C n23_22 R S := ev_seq
@[simp] theorem en23_12 : evCode C n23_12 R S = seqK (evCode C n23_13 R S) fun R S => evCode C n23_14 R S := ev_seq
@[simp] theorem en23_4 : evCode C n23_4 R S = seqK (evCode C n23_5 R S) fun R S => evCode C n23_12 R S := ev_seq
@[simp] theorem en23_2 : evCode C n23_2 R S = seqK (evCode C n23_3 R S) fun R S => evCode C n23_4 R S := ev_seq
@[simp] theorem en23_0 : evCode C n23_0 R S = seqK (evCode C n23_1 R S) fun R S => evCode C n23_2 R S := ev_seq
theorem q23 {n : Nat} {args : List Value} {S : St} : calls table.find (n + 1) 23 args S = endK S [.cell 6 true 17] (evCode (calls table.find n) n23_0 (args ++ List.replicate (51 - args.length) undef) S.enter) := call_enter b23

/-! wainscot/wainscotref22.Keep -/
@[simp] def l24_1 : List IOper := [oy 6 (.box 25 6 (.t 1)),
  oy 10 (.mv (.c (.bool false)))]
def n24_1 : ICode := .region l24_1
@[simp] def l24_3 : List IOper := [oy 14 (.mv (.t 4)),
  oy 15 (.load true 6 (.t 6)),
  oy 16 (.mv (.t 2)),
  oy 17 (.call (.c (.func (.func 52) #[] #[])) [(.t 15), (.t 16)] true),
  oy 18 (.mv (.t 3)),
  oy 19 (.call (.c (.func (.func 53) #[] #[])) [(.t 14), (.t 17), (.t 18)] true),
  oy 13 (.mv (.t 19)),
  oy 20 (.extract (.t 13) 0),
  oy 21 (.extract (.t 13) 1),
  oy 11 (.mv (.t 20)),
  oy 12 (.mv (.t 21))]
def n24_3 : ICode := .region l24_3
@[simp] def l24_5 : List IOper := [oy 22 (.mv (.t 12)),
  oy 23 (.bin .eql .int (.t 22) (.c (.int .i64 0))),
  oy 24 (.mv (.t 23)),
  oz 25 24 true (.mv (.t 0)),
  oz 26 24 true (.load true 6 (.t 6)),
  oz 27 24 true (.mv (.t 2)),
  oz 28 24 true (.mv (.t 3)),
  oz 29 24 true (.call (.c (.func (.func 50) #[] #[])) [(.t 26), (.t 27), (.t 28)] true),
  oz 30 24 true (.mv (.t 11)),
  oz 31 24 true (.call (.c (.func (.func 16) #[] #[])) [(.t 25), (.t 29), (.t 30)] false),
  oz 32 24 true (.bin .eql .int (.t 31) (.c (.int .i64 0))),
  oy 33 (.pick (.t 24) (.t 32) (.c (.bool false))),
  oy 10 (.mv (.t 33))]
def n24_5 : ICode := .region l24_5
def n24_6 : ICode := .ret
def n24_4 : ICode := .seq n24_5 n24_6
def n24_2 : ICode := .seq n24_3 n24_4
def n24_0 : ICode := .seq n24_1 n24_2
theorem b24 : table.find 24 = some ⟨34, n24_0, [.tmp 10]⟩ := by kernel_rfl
@[simp] theorem en24_1 : evCode C n24_1 R S = regK (runOps C l24_1 R S) := ev_plain rfl
@[simp] theorem en24_3 : evCode C n24_3 R S = regK (runOps C l24_3 R S) := ev_plain rfl
@[simp] theorem en24_5 : evCode C n24_5 R S = regK (runOps C l24_5 R S) := ev_plain rfl
@[simp] theorem en24_6 : evCode C n24_6 R S = some (.ret, R, S) := (rfl)
@[simp] theorem en24_4 : evCode C n24_4 R S = seqK (evCode C n24_5 R S) fun R S => evCode C n24_6 R S := ev_seq
@[simp] theorem en24_2 : evCode C n24_2 R S = seqK (evCode C n24_3 R S) fun R S => evCode C n24_4 R S := ev_seq
@[simp] theorem en24_0 : evCode C n24_0 R S = seqK (evCode C n24_1 R S) fun R S => evCode C n24_2 R S := ev_seq
theorem q24 {n : Nat} {args : List Value} {S : St} : calls table.find (n + 1) 24 args S = endK S [.tmp 10] (evCode (calls table.find n) n24_0 (args ++ List.replicate (34 - args.length) undef) S.enter) := call_enter b24

/-! wainscot/wainscotref22.Broken -/
@[simp] def l25_1 : List IOper := [oy 1 (.box 27 17 (.t 0)),
  oy 2 (.new 27 [(.int .i64 0), (.int .i64 0), (.int .i64 0), (.int .i64 0), (.int .i64 0), (.int .i64 0), (.int .i64 0), (.int .u64 0), (.int .u64 0), (.int .u64 0), (.int .u64 0), (.int .u64 0), (.int .i64 0), (.int .i64 0), (.int .i64 0), (.int .i64 0), (.int .i64 0)])]
def n25_1 : ICode := .region l25_1
@[simp] def l25_3 : List IOper := [oy 3 (.addOff 3 (.t 1)),
  ox (.store 1 (.t 3) (.c (.int .i64 3)))]
def n25_3 : ICode := .region l25_3
@[simp] def l25_5 : List IOper := [oy 4 (.load true 17 (.t 1)),
  ox (.store 17 (.t 2) (.t 4))]
def n25_5 : ICode := .region l25_5
def n25_6 : ICode := .ret
def n25_4 : ICode := .seq n25_5 n25_6
def n25_2 : ICode := .seq n25_3 n25_4
def n25_0 : ICode := .seq n25_1 n25_2
theorem b25 : table.find 25 = some ⟨5, n25_0, [.cell 2 true 17]⟩ := by kernel_rfl
@[simp] theorem en25_1 : evCode C n25_1 R S = regK (runOps C l25_1 R S) := ev_plain rfl
@[simp] theorem en25_3 : evCode C n25_3 R S = regK (runOps C l25_3 R S) := ev_plain rfl
@[simp] theorem en25_5 : evCode C n25_5 R S = regK (runOps C l25_5 R S) := ev_plain rfl
@[simp] theorem en25_6 : evCode C n25_6 R S = some (.ret, R, S) := (rfl)
@[simp] theorem en25_4 : evCode C n25_4 R S = seqK (evCode C n25_5 R S) fun R S => evCode C n25_6 R S := ev_seq
@[simp] theorem en25_2 : evCode C n25_2 R S = seqK (evCode C n25_3 R S) fun R S => evCode C n25_4 R S := ev_seq
@[simp] theorem en25_0 : evCode C n25_0 R S = seqK (evCode C n25_1 R S) fun R S => evCode C n25_2 R S := ev_seq
theorem q25 {n : Nat} {args : List Value} {S : St} : calls table.find (n + 1) 25 args S = endK S [.cell 2 true 17] (evCode (calls table.find n) n25_0 (args ++ List.replicate (5 - args.length) undef) S.enter) := call_enter b25

/-! wainscot/wainscotref22.To -/
@[simp] def l26_1 : List IOper := [oy 2 (.box 27 17 (.t 0)),
  oy 4 (.new 27 [(.int .i64 0), (.int .i64 0), (.int .i64 0), (.int .i64 0), (.int .i64 0), (.int .i64 0), (.int .i64 0), (.int .u64 0), (.int .u64 0), (.int .u64 0), (.int .u64 0), (.int .u64 0), (.int .i64 0), (.int .i64 0), (.int .i64 0), (.int .i64 0), (.int .i64 0)])]
def n26_1 : ICode := .region l26_1
@[simp] def l26_3 : List IOper := [oy 5 (.mv (.t 1)),
  oy 6 (.addOff 2 (.t 2)),
  ox (.store 1 (.t 6) (.t 5))]
def n26_3 : ICode := .region l26_3
@[simp] def l26_5 : List IOper := [oy 7 (.load true 17 (.t 2)),
  ox (.store 17 (.t 4) (.t 7))]
def n26_5 : ICode := .region l26_5
def n26_6 : ICode := .ret
def n26_4 : ICode := .seq n26_5 n26_6
def n26_2 : ICode := .seq n26_3 n26_4
def n26_0 : ICode := .seq n26_1 n26_2
theorem b26 : table.find 26 = some ⟨8, n26_0, [.cell 4 true 17]⟩ := by kernel_rfl
@[simp] theorem en26_1 : evCode C n26_1 R S = regK (runOps C l26_1 R S) := ev_plain rfl
@[simp] theorem en26_3 : evCode C n26_3 R S = regK (runOps C l26_3 R S) := ev_plain rfl
@[simp] theorem en26_5 : evCode C n26_5 R S = regK (runOps C l26_5 R S) := ev_plain rfl
@[simp] theorem en26_6 : evCode C n26_6 R S = some (.ret, R, S) := (rfl)
@[simp] theorem en26_4 : evCode C n26_4 R S = seqK (evCode C n26_5 R S) fun R S => evCode C n26_6 R S := ev_seq
@[simp] theorem en26_2 : evCode C n26_2 R S = seqK (evCode C n26_3 R S) fun R S => evCode C n26_4 R S := ev_seq
@[simp] theorem en26_0 : evCode C n26_0 R S = seqK (evCode C n26_1 R S) fun R S => evCode C n26_2 R S := ev_seq
theorem q26 {n : Nat} {args : List Value} {S : St} : calls table.find (n + 1) 26 args S = endK S [.cell 4 true 17] (evCode (calls table.find n) n26_0 (args ++ List.replicate (8 - args.length) undef) S.enter) := call_enter b26

/-! wainscot/wainscotref22.Swap -/
@[simp] def l27_1 : List IOper := [oy 6 (.box 25 6 (.t 1)),
  oy 7 (.box 27 17 (.t 2)),
  oy 10 (.mv (.c (.bool false))),
  oy 11 (.mv (.c (.bool false)))]
def n27_1 : ICode := .region l27_1
@[simp] def l27_3 : List IOper := [oy 17 (.mv (.t 3)),
  oy 18 (.mv (.t 4)),
  oy 19 (.call (.c (.func (.func 54) #[] #[])) [(.t 17), (.t 18)] true),
  oy 16 (.mv (.t 19)),
  oy 20 (.extract (.t 16) 0),
  oy 21 (.extract (.t 16) 1),
  oy 12 (.mv (.t 20)),
  oy 13 (.mv (.t 21))]
def n27_3 : ICode := .region l27_3
@[simp] def l27_6 : List IOper := [oy 22 (.mv (.t 13)),
  oy 23 (.bin .neq .int (.t 22) (.c (.int .i64 0)))]
def n27_6 : ICode := .region l27_6
@[simp] def l27_9 : List IOper := [oy 10 (.mv (.c (.bool false))),
  oy 11 (.mv (.c (.bool false)))]
def n27_9 : ICode := .region l27_9
def n27_10 : ICode := .ret
def n27_8 : ICode := .seq n27_9 n27_10
def n27_11 : ICode := .skip
def n27_7 : ICode := .cond (.t 23) n27_8 n27_11
def n27_5 : ICode := .seq n27_6 n27_7
@[simp] def l27_13 : List IOper := [oy 25 (.mv (.t 0)),
  oy 26 (.load true 6 (.t 6)),
  oy 27 (.addOff 1 (.t 7)),
  oy 28 (.load false 1 (.t 27)),
  oy 29 (.call (.c (.func (.func 48) #[] #[])) [(.t 26), (.t 28)] true),
  oy 30 (.addOff 7 (.t 7)),
  oy 31 (.load false 1 (.t 30)),
  oy 32 (.addOff 8 (.t 7)),
  oy 33 (.load false 1 (.t 32)),
  oy 34 (.mv (.t 12)),
  oy 35 (.addOff 8 (.t 7)),
  oy 36 (.load false 1 (.t 35)),
  oy 37 (.bin .add .int (.t 36) (.c (.int .u64 1))),
  oy 38 (.call (.c (.func (.func 55) #[] #[])) [(.t 25), (.t 29), (.t 31), (.t 33), (.t 34), (.t 37)] false),
  oy 24 (.mv (.t 38)),
  oy 39 (.extract (.t 24) 0),
  oy 40 (.extract (.t 24) 1),
  oy 14 (.mv (.t 39)),
  oy 15 (.mv (.t 40))]
def n27_13 : ICode := .region l27_13
@[simp] def l27_15 : List IOper := [oy 41 (.mv (.t 14)),
  oy 42 (.mv (.t 15)),
  oy 43 (.bin .eql .int (.t 42) (.c (.int .i64 0))),
  oy 10 (.mv (.t 41)),
  oy 11 (.mv (.t 43))]
def n27_15 : ICode := .region l27_15
def n27_16 : ICode := .ret
def n27_14 : ICode := .seq n27_15 n27_16
def n27_12 : ICode := .seq n27_13 n27_14
def n27_4 : ICode := .seq n27_5 n27_12
def n27_2 : ICode := .seq n27_3 n27_4
def n27_0 : ICode := .seq n27_1 n27_2
theorem b27 : table.find 27 = some ⟨44, n27_0, [.tmp 10, .tmp 11]⟩ := by kernel_rfl
@[simp] theorem en27_1 : evCode C n27_1 R S = regK (runOps C l27_1 R S) := ev_plain rfl
@[simp] theorem en27_3 : evCode C n27_3 R S = regK (runOps C l27_3 R S) := ev_plain rfl
@[simp] theorem en27_6 : evCode C n27_6 R S = regK (runOps C l27_6 R S) := ev_plain rfl
@[simp] theorem en27_9 : evCode C n27_9 R S = regK (runOps C l27_9 R S) := ev_plain rfl
@[simp] theorem en27_10 : evCode C n27_10 R S = some (.ret, R, S) := (rfl)
@[simp] theorem en27_8 : evCode C n27_8 R S = seqK (evCode C n27_9 R S) fun R S => evCode C n27_10 R S := ev_seq
@[simp] theorem en27_11 : evCode C n27_11 R S = some (.norm, R, S) := (rfl)
@[simp] theorem en27_7 : evCode C n27_7 R S = condK (IV.ev R (.t 23)) (fun _ => evCode C n27_8 R S) fun _ => evCode C n27_11 R S := ev_cond
@[simp] theorem en27_5 : evCode C n27_5 R S = seqK (evCode C n27_6 R S) fun R S => evCode C n27_7 R S := ev_seq
@[simp] theorem en27_13 : evCode C n27_13 R S = regK (runOps C l27_13 R S) := ev_plain rfl
@[simp] theorem en27_15 : evCode C n27_15 R S = regK (runOps C l27_15 R S) := ev_plain rfl
@[simp] theorem en27_16 : evCode C n27_16 R S = some (.ret, R, S) := (rfl)
@[simp] theorem en27_14 : evCode C n27_14 R S = seqK (evCode C n27_15 R S) fun R S => evCode C n27_16 R S := ev_seq
@[simp] theorem en27_12 : evCode C n27_12 R S = seqK (evCode C n27_13 R S) fun R S => evCode C n27_14 R S := ev_seq
@[simp] theorem en27_4 : evCode C n27_4 R S = seqK (evCode C n27_5 R S) fun R S => evCode C n27_12 R S := ev_seq
@[simp] theorem en27_2 : evCode C n27_2 R S = seqK (evCode C n27_3 R S) fun R S => evCode C n27_4 R S := ev_seq
@[simp] theorem en27_0 : evCode C n27_0 R S = seqK (evCode C n27_1 R S) fun R S => evCode C n27_2 R S := ev_seq
theorem q27 {n : Nat} {args : List Value} {S : St} : calls table.find (n + 1) 27 args S = endK S [.tmp 10, .tmp 11] (evCode (calls table.find n) n27_0 (args ++ List.replicate (44 - args.length) undef) S.enter) := call_enter b27

/-! wainscot/wainscotref22.Done -/
@[simp] def l28_1 : List IOper := [oy 1 (.box 27 17 (.t 0)),
  oy 2 (.new 27 [(.int .i64 0), (.int .i64 0), (.int .i64 0), (.int .i64 0), (.int .i64 0), (.int .i64 0), (.int .i64 0), (.int .u64 0), (.int .u64 0), (.int .u64 0), (.int .u64 0), (.int .u64 0), (.int .i64 0), (.int .i64 0), (.int .i64 0), (.int .i64 0), (.int .i64 0)])]
def n28_1 : ICode := .region l28_1
@[simp] def l28_3 : List IOper := [oy 3 (.addOff 3 (.t 1)),
  ox (.store 1 (.t 3) (.c (.int .i64 1)))]
def n28_3 : ICode := .region l28_3
@[simp] def l28_5 : List IOper := [oy 4 (.load true 17 (.t 1)),
  ox (.store 17 (.t 2) (.t 4))]
def n28_5 : ICode := .region l28_5
def n28_6 : ICode := .ret
def n28_4 : ICode := .seq n28_5 n28_6
def n28_2 : ICode := .seq n28_3 n28_4
def n28_0 : ICode := .seq n28_1 n28_2
theorem b28 : table.find 28 = some ⟨5, n28_0, [.cell 2 true 17]⟩ := by kernel_rfl
@[simp] theorem en28_1 : evCode C n28_1 R S = regK (runOps C l28_1 R S) := ev_plain rfl
@[simp] theorem en28_3 : evCode C n28_3 R S = regK (runOps C l28_3 R S) := ev_plain rfl
@[simp] theorem en28_5 : evCode C n28_5 R S = regK (runOps C l28_5 R S) := ev_plain rfl
@[simp] theorem en28_6 : evCode C n28_6 R S = some (.ret, R, S) := (rfl)
@[simp] theorem en28_4 : evCode C n28_4 R S = seqK (evCode C n28_5 R S) fun R S => evCode C n28_6 R S := ev_seq
@[simp] theorem en28_2 : evCode C n28_2 R S = seqK (evCode C n28_3 R S) fun R S => evCode C n28_4 R S := ev_seq
@[simp] theorem en28_0 : evCode C n28_0 R S = seqK (evCode C n28_1 R S) fun R S => evCode C n28_2 R S := ev_seq
theorem q28 {n : Nat} {args : List Value} {S : St} : calls table.find (n + 1) 28 args S = endK S [.cell 2 true 17] (evCode (calls table.find n) n28_0 (args ++ List.replicate (5 - args.length) undef) S.enter) := call_enter b28

/-! slices.Clone[[]uint64,uint64] -/
@[simp] def l29_1 : List IOper := [oy 2 (.mv (.c (.slice none 0 0)))]
def n29_1 : ICode := .region l29_1
@[simp] def l29_4 : List IOper := [oy 3 (.mv (.t 0)),
  oy 4 (.bin .eql .slice (.t 3) (.c (.slice none 0 0)))]
def n29_4 : ICode := .region l29_4
@[simp] def l29_7 : List IOper := [oy 2 (.mv (.c (.slice none 0 0)))]
def n29_7 : ICode := .region l29_7
def n29_8 : ICode := .ret
def n29_6 : ICode := .seq n29_7 n29_8
def n29_9 : ICode := .skip
def n29_5 : ICode := .cond (.t 4) n29_6 n29_9
def n29_3 : ICode := .seq n29_4 n29_5
@[simp] def l29_11 : List IOper := [oy 5 (.buildSlice 23 [] 0 []),
  oy 6 (.mv (.t 0)),
  oy 7 (.append 23 1 8 (.t 5) (.t 6)),
  oy 2 (.mv (.t 7))]
def n29_11 : ICode := .region l29_11
def n29_12 : ICode := .ret
def n29_10 : ICode := .seq n29_11 n29_12
def n29_2 : ICode := .seq n29_3 n29_10
def n29_0 : ICode := .seq n29_1 n29_2
theorem b29 : table.find 29 = some ⟨8, n29_0, [.tmp 2]⟩ := by kernel_rfl
@[simp] theorem en29_1 : evCode C n29_1 R S = regK (runOps C l29_1 R S) := ev_plain rfl
@[simp] theorem en29_4 : evCode C n29_4 R S = regK (runOps C l29_4 R S) := ev_plain rfl
@[simp] theorem en29_7 : evCode C n29_7 R S = regK (runOps C l29_7 R S) := ev_plain rfl
@[simp] theorem en29_8 : evCode C n29_8 R S = some (.ret, R, S) := (rfl)
@[simp] theorem en29_6 : evCode C n29_6 R S = seqK (evCode C n29_7 R S) fun R S => evCode C n29_8 R S := ev_seq
@[simp] theorem en29_9 : evCode C n29_9 R S = some (.norm, R, S) := (rfl)
@[simp] theorem en29_5 : evCode C n29_5 R S = condK (IV.ev R (.t 4)) (fun _ => evCode C n29_6 R S) fun _ => evCode C n29_9 R S := ev_cond
@[simp] theorem en29_3 : evCode C n29_3 R S = seqK (evCode C n29_4 R S) fun R S => evCode C n29_5 R S := ev_seq
@[simp] theorem en29_11 : evCode C n29_11 R S = regK (runOps C l29_11 R S) := ev_plain rfl
@[simp] theorem en29_12 : evCode C n29_12 R S = some (.ret, R, S) := (rfl)
@[simp] theorem en29_10 : evCode C n29_10 R S = seqK (evCode C n29_11 R S) fun R S => evCode C n29_12 R S := ev_seq
@[simp] theorem en29_2 : evCode C n29_2 R S = seqK (evCode C n29_3 R S) fun R S => evCode C n29_10 R S := ev_seq
@[simp] theorem en29_0 : evCode C n29_0 R S = seqK (evCode C n29_1 R S) fun R S => evCode C n29_2 R S := ev_seq
theorem q29 {n : Nat} {args : List Value} {S : St} : calls table.find (n + 1) 29 args S = endK S [.tmp 2] (evCode (calls table.find n) n29_0 (args ++ List.replicate (8 - args.length) undef) S.enter) := call_enter b29

/-! wainscot/wainscotref00.EqInts -/
@[simp] def l33_1 : List IOper := [oy 4 (.mv (.c (.bool false)))]
def n33_1 : ICode := .region l33_1
@[simp] def l33_4 : List IOper := [oy 6 (.mv (.t 0)),
  oy 7 (.lenS (.t 6)),
  oy 8 (.mv (.t 1)),
  oy 9 (.lenS (.t 8)),
  oy 10 (.bin .neq .int (.t 7) (.t 9))]
def n33_4 : ICode := .region l33_4
@[simp] def l33_7 : List IOper := [oy 4 (.mv (.c (.bool false)))]
def n33_7 : ICode := .region l33_7
def n33_8 : ICode := .ret
def n33_6 : ICode := .seq n33_7 n33_8
def n33_9 : ICode := .skip
def n33_5 : ICode := .cond (.t 10) n33_6 n33_9
def n33_3 : ICode := .seq n33_4 n33_5
@[simp] def l33_12 : List IOper := [oy 5 (.mv (.c (.int .i64 0)))]
def n33_12 : ICode := .region l33_12
@[simp] def l33_16 : List IOper := [oy 11 (.mv (.t 5)),
  oy 12 (.mv (.t 0)),
  oy 13 (.lenS (.t 12)),
  oy 14 (.bin .lss .int (.t 11) (.t 13))]
def n33_16 : ICode := .region l33_16
def n33_18 : ICode := .skip
def n33_19 : ICode := .exit 0
def n33_17 : ICode := .cond (.t 14) n33_18 n33_19
def n33_15 : ICode := .seq n33_16 n33_17
@[simp] def l33_23 : List IOper := [oy 17 (.mv (.t 0)),
  oy 18 (.mv (.t 5)),
  oy 19 (.idxS 1 (.t 17) (.t 18)),
  oy 20 (.load false 1 (.t 19)),
  oy 21 (.mv (.t 1)),
  oy 22 (.mv (.t 5)),
  oy 23 (.idxS 1 (.t 21) (.t 22)),
  oy 24 (.load false 1 (.t 23)),
  oy 25 (.bin .neq .int (.t 20) (.t 24))]
def n33_23 : ICode := .region l33_23
@[simp] def l33_26 : List IOper := [oy 4 (.mv (.c (.bool false)))]
def n33_26 : ICode := .region l33_26
def n33_27 : ICode := .ret
def n33_25 : ICode := .seq n33_26 n33_27
def n33_28 : ICode := .skip
def n33_24 : ICode := .cond (.t 25) n33_25 n33_28
def n33_22 : ICode := .seq n33_23 n33_24
def n33_21 : ICode := .block 1 n33_22
@[simp] def l33_29 : List IOper := [oy 15 (.mv (.t 5)),
  oy 16 (.bin .add .int (.t 15) (.c (.int .i64 1))),
  oy 5 (.mv (.t 16))]
def n33_29 : ICode := .region l33_29
def n33_20 : ICode := .seq n33_21 n33_29
def n33_14 : ICode := .seq n33_15 n33_20
def loop33_0 : ICode := .loop n33_14
def n33_13 : ICode := .block 0 loop33_0
def n33_11 : ICode := .seq n33_12 n33_13
@[simp] def l33_31 : List IOper := [oy 4 (.mv (.c (.bool true)))]
def n33_31 : ICode := .region l33_31
def n33_32 : ICode := .ret
def n33_30 : ICode := .seq n33_31 n33_32
def n33_10 : ICode := .seq n33_11 n33_30
def n33_2 : ICode := .seq n33_3 n33_10
def n33_0 : ICode := .seq n33_1 n33_2
theorem b33 : table.find 33 = some ⟨26, n33_0, [.tmp 4]⟩ := by kernel_rfl
@[simp] theorem en33_1 : evCode C n33_1 R S = regK (runOps C l33_1 R S) := ev_plain rfl
@[simp] theorem en33_4 : evCode C n33_4 R S = regK (runOps C l33_4 R S) := ev_plain rfl
@[simp] theorem en33_7 : evCode C n33_7 R S = regK (runOps C l33_7 R S) := ev_plain rfl
@[simp] theorem en33_8 : evCode C n33_8 R S = some (.ret, R, S) := (rfl)
@[simp] theorem en33_6 : evCode C n33_6 R S = seqK (evCode C n33_7 R S) fun R S => evCode C n33_8 R S := ev_seq
@[simp] theorem en33_9 : evCode C n33_9 R S = some (.norm, R, S) := (rfl)
@[simp] theorem en33_5 : evCode C n33_5 R S = condK (IV.ev R (.t 10)) (fun _ => evCode C n33_6 R S) fun _ => evCode C n33_9 R S := ev_cond
@[simp] theorem en33_3 : evCode C n33_3 R S = seqK (evCode C n33_4 R S) fun R S => evCode C n33_5 R S := ev_seq
@[simp] theorem en33_12 : evCode C n33_12 R S = regK (runOps C l33_12 R S) := ev_plain rfl
@[simp] theorem en33_16 : evCode C n33_16 R S = regK (runOps C l33_16 R S) := ev_plain rfl
@[simp] theorem en33_18 : evCode C n33_18 R S = some (.norm, R, S) := (rfl)
@[simp] theorem en33_19 : evCode C n33_19 R S = some (.exit 0, R, S) := (rfl)
@[simp] theorem en33_17 : evCode C n33_17 R S = condK (IV.ev R (.t 14)) (fun _ => evCode C n33_18 R S) fun _ => evCode C n33_19 R S := ev_cond
@[simp] theorem en33_15 : evCode C n33_15 R S = seqK (evCode C n33_16 R S) fun R S => evCode C n33_17 R S := ev_seq
@[simp] theorem en33_23 : evCode C n33_23 R S = regK (runOps C l33_23 R S) := ev_plain rfl
@[simp] theorem en33_26 : evCode C n33_26 R S = regK (runOps C l33_26 R S) := ev_plain rfl
@[simp] theorem en33_27 : evCode C n33_27 R S = some (.ret, R, S) := (rfl)
@[simp] theorem en33_25 : evCode C n33_25 R S = seqK (evCode C n33_26 R S) fun R S => evCode C n33_27 R S := ev_seq
@[simp] theorem en33_28 : evCode C n33_28 R S = some (.norm, R, S) := (rfl)
@[simp] theorem en33_24 : evCode C n33_24 R S = condK (IV.ev R (.t 25)) (fun _ => evCode C n33_25 R S) fun _ => evCode C n33_28 R S := ev_cond
@[simp] theorem en33_22 : evCode C n33_22 R S = seqK (evCode C n33_23 R S) fun R S => evCode C n33_24 R S := ev_seq
@[simp] theorem en33_21 : evCode C n33_21 R S = blockK 1 (evCode C n33_22 R S) := ev_block
@[simp] theorem en33_29 : evCode C n33_29 R S = regK (runOps C l33_29 R S) := ev_plain rfl
@[simp] theorem en33_20 : evCode C n33_20 R S = seqK (evCode C n33_21 R S) fun R S => evCode C n33_29 R S := ev_seq
@[simp] theorem en33_14 : evCode C n33_14 R S = seqK (evCode C n33_15 R S) fun R S => evCode C n33_20 R S := ev_seq
theorem eloop33_0 : evCode C loop33_0 R S = iter (fun R S => evCode C n33_14 R S) rounds R S := (rfl)
@[simp] theorem en33_13 : evCode C n33_13 R S = blockK 0 (evCode C loop33_0 R S) := ev_block
@[simp] theorem en33_11 : evCode C n33_11 R S = seqK (evCode C n33_12 R S) fun R S => evCode C n33_13 R S := ev_seq
@[simp] theorem en33_31 : evCode C n33_31 R S = regK (runOps C l33_31 R S) := ev_plain rfl
@[simp] theorem en33_32 : evCode C n33_32 R S = some (.ret, R, S) := (rfl)
@[simp] theorem en33_30 : evCode C n33_30 R S = seqK (evCode C n33_31 R S) fun R S => evCode C n33_32 R S := ev_seq
@[simp] theorem en33_10 : evCode C n33_10 R S = seqK (evCode C n33_11 R S) fun R S => evCode C n33_30 R S := ev_seq
@[simp] theorem en33_2 : evCode C n33_2 R S = seqK (evCode C n33_3 R S) fun R S => evCode C n33_10 R S := ev_seq
@[simp] theorem en33_0 : evCode C n33_0 R S = seqK (evCode C n33_1 R S) fun R S => evCode C n33_2 R S := ev_seq
theorem q33 {n : Nat} {args : List Value} {S : St} : calls table.find (n + 1) 33 args S = endK S [.tmp 4] (evCode (calls table.find n) n33_0 (args ++ List.replicate (26 - args.length) undef) S.enter) := call_enter b33

/-! wainscot/wainscotref21.at -/
@[simp] def l34_1 : List IOper := [oy 3 (.box 25 6 (.t 0)),
  oy 6 (.mv (.c (.int .i64 0)))]
def n34_1 : ICode := .region l34_1
@[simp] def l34_4 : List IOper := [oy 7 (.load true 6 (.t 3)),
  oy 8 (.call (.c (.func (.func 45) #[] #[])) [(.t 7)] true),
  oy 9 (.bin .neq .int (.t 8) (.c (.int .i64 0))),
  oy 10 (.mv (.t 9)),
  oz 11 10 false (.mv (.t 1)),
  oz 12 10 false (.un .not (.t 11)),
  oy 13 (.pick (.t 10) (.c (.bool true)) (.t 12))]
def n34_4 : ICode := .region l34_4
@[simp] def l34_7 : List IOper := [oy 6 (.mv (.c (.int .i64 (-1))))]
def n34_7 : ICode := .region l34_7
def n34_8 : ICode := .ret
def n34_6 : ICode := .seq n34_7 n34_8
def n34_9 : ICode := .skip
def n34_5 : ICode := .cond (.t 13) n34_6 n34_9
def n34_3 : ICode := .seq n34_4 n34_5
@[simp] def l34_11 : List IOper := [oy 14 (.mv (.t 2)),
  oy 6 (.mv (.t 14))]
def n34_11 : ICode := .region l34_11
def n34_12 : ICode := .ret
def n34_10 : ICode := .seq n34_11 n34_12
def n34_2 : ICode := .seq n34_3 n34_10
def n34_0 : ICode := .seq n34_1 n34_2
theorem b34 : table.find 34 = some ⟨15, n34_0, [.tmp 6]⟩ := by kernel_rfl
@[simp] theorem en34_1 : evCode C n34_1 R S = regK (runOps C l34_1 R S) := ev_plain rfl
@[simp] theorem en34_4 : evCode C n34_4 R S = regK (runOps C l34_4 R S) := ev_plain rfl
@[simp] theorem en34_7 : evCode C n34_7 R S = regK (runOps C l34_7 R S) := ev_plain rfl
@[simp] theorem en34_8 : evCode C n34_8 R S = some (.ret, R, S) := (rfl)
@[simp] theorem en34_6 : evCode C n34_6 R S = seqK (evCode C n34_7 R S) fun R S => evCode C n34_8 R S := ev_seq
@[simp] theorem en34_9 : evCode C n34_9 R S = some (.norm, R, S) := (rfl)
@[simp] theorem en34_5 : evCode C n34_5 R S = condK (IV.ev R (.t 13)) (fun _ => evCode C n34_6 R S) fun _ => evCode C n34_9 R S := ev_cond
@[simp] theorem en34_3 : evCode C n34_3 R S = seqK (evCode C n34_4 R S) fun R S => evCode C n34_5 R S := ev_seq
@[simp] theorem en34_11 : evCode C n34_11 R S = regK (runOps C l34_11 R S) := ev_plain rfl
@[simp] theorem en34_12 : evCode C n34_12 R S = some (.ret, R, S) := (rfl)
@[simp] theorem en34_10 : evCode C n34_10 R S = seqK (evCode C n34_11 R S) fun R S => evCode C n34_12 R S := ev_seq
@[simp] theorem en34_2 : evCode C n34_2 R S = seqK (evCode C n34_3 R S) fun R S => evCode C n34_10 R S := ev_seq
@[simp] theorem en34_0 : evCode C n34_0 R S = seqK (evCode C n34_1 R S) fun R S => evCode C n34_2 R S := ev_seq
theorem q34 {n : Nat} {args : List Value} {S : St} : calls table.find (n + 1) 34 args S = endK S [.tmp 6] (evCode (calls table.find n) n34_0 (args ++ List.replicate (15 - args.length) undef) S.enter) := call_enter b34

/-! (*wainscot/mem.Mem).access -/
@[simp] def l35_1 : List IOper := [oy 8 (.mv (.c (.int .i64 0)))]
def n35_1 : ICode := .region l35_1
@[simp] def l35_5 : List IOper := [oy 10 (.mv (.t 0)),
  oy 11 (.bin .eql .ptr (.t 10) (.c (.pointer none))),
  oy 12 (.mv (.t 11)),
  oz 13 12 false (.mv (.t 0)),
  oz 14 12 false (.nilCheck (.t 13)),
  oz 15 12 false (.addOff 0 (.t 14)),
  oz 16 12 false (.load false 1 (.t 15)),
  oz 17 12 false (.bin .eql .slice (.t 16) (.c (.slice none 0 0))),
  oy 18 (.pick (.t 12) (.c (.bool true)) (.t 17)),
  oy 9 (.mv (.t 18))]
def n35_5 : ICode := .region l35_5
@[simp] def l35_8 : List IOper := [oy 8 (.mv (.c (.int .i64 1)))]
def n35_8 : ICode := .region l35_8
def n35_9 : ICode := .ret
def n35_7 : ICode := .seq n35_8 n35_9
@[simp] def l35_11 : List IOper := [oy 20 (.mv (.t 1)),
  oy 21 (.bin .lss .int (.t 20) (.c (.int .i64 0))),
  oy 22 (.mv (.t 21)),
  oz 23 22 false (.mv (.t 1)),
  oz 24 22 false (.mv (.t 0)),
  oz 25 22 false (.nilCheck (.t 24)),
  oz 26 22 false (.addOff 0 (.t 25)),
  oz 27 22 false (.load false 1 (.t 26)),
  oz 28 22 false (.lenS (.t 27)),
  oz 29 22 false (.mv (.t 2)),
  oz 30 22 false (.bin .sub .int (.t 28) (.t 29)),
  oz 31 22 false (.bin .gtr .int (.t 23) (.t 30)),
  oy 32 (.pick (.t 22) (.c (.bool true)) (.t 31)),
  oy 19 (.mv (.t 32))]
def n35_11 : ICode := .region l35_11
@[simp] def l35_14 : List IOper := [oy 8 (.mv (.c (.int .i64 9)))]
def n35_14 : ICode := .region l35_14
def n35_15 : ICode := .ret
def n35_13 : ICode := .seq n35_14 n35_15
def n35_16 : ICode := .skip
def n35_12 : ICode := .cond (.t 19) n35_13 n35_16
def n35_10 : ICode := .seq n35_11 n35_12
def n35_6 : ICode := .cond (.t 9) n35_7 n35_10
def n35_4 : ICode := .seq n35_5 n35_6
def n35_3 : ICode := .block 0 n35_4
@[simp] def l35_18 : List IOper := [oy 33 (.mv (.t 0)),
  oy 34 (.nilCheck (.t 33)),
  oy 35 (.addOff 1 (.t 34)),
  oy 36 (.load false 1 (.t 35)),
  oy 37 (.bin .add .int (.t 36) (.c (.int .i64 1))),
  oy 38 (.nilCheck (.t 33)),
  oy 39 (.addOff 1 (.t 38)),
  ox (.store 1 (.t 39) (.t 37))]
def n35_18 : ICode := .region l35_18
@[simp] def l35_20 : List IOper := [oy 40 (.mv (.t 3)),
  oy 41 (.mv (.t 0)),
  oy 42 (.nilCheck (.t 41)),
  oy 43 (.addOff 0 (.t 42)),
  oy 44 (.load false 1 (.t 43)),
  oy 45 (.mv (.t 1)),
  oy 46 (.mv (.t 1)),
  oy 47 (.mv (.t 2)),
  oy 48 (.bin .add .int (.t 46) (.t 47)),
  oy 49 (.slice 23 (.t 44) (some (.t 45)) (some (.t 48)) none),
  oy 50 (.call (.t 40) [(.t 49)] false)]
def n35_20 : ICode := .region l35_20
@[simp] def l35_22 : List IOper := [oy 8 (.mv (.c (.int .i64 0)))]
def n35_22 : ICode := .region l35_22
def n35_23 : ICode := .ret
def n35_21 : ICode := .seq n35_22 n35_23
def n35_19 : ICode := .seq n35_20 n35_21
def n35_17 : ICode := .seq n35_18 n35_19
def n35_2 : ICode := .seq n35_3 n35_17
def n35_0 : ICode := .seq n35_1 n35_2
theorem b35 : table.find 35 = some ⟨51, n35_0, [.tmp 8]⟩ := by kernel_rfl
@[simp] theorem en35_1 : evCode C n35_1 R S = regK (runOps C l35_1 R S) := ev_plain rfl
@[simp] theorem en35_5 : evCode C n35_5 R S = regK (runOps C l35_5 R S) := ev_plain rfl
@[simp] theorem en35_8 : evCode C n35_8 R S = regK (runOps C l35_8 R S) := ev_plain rfl
@[simp] theorem en35_9 : evCode C n35_9 R S = some (.ret, R, S) := (rfl)
@[simp] theorem en35_7 : evCode C n35_7 R S = seqK (evCode C n35_8 R S) fun R S => evCode C n35_9 R S := ev_seq
@[simp] theorem en35_11 : evCode C n35_11 R S = regK (runOps C l35_11 R S) := ev_plain rfl
@[simp] theorem en35_14 : evCode C n35_14 R S = regK (runOps C l35_14 R S) := ev_plain rfl
@[simp] theorem en35_15 : evCode C n35_15 R S = some (.ret, R, S) := (rfl)
@[simp] theorem en35_13 : evCode C n35_13 R S = seqK (evCode C n35_14 R S) fun R S => evCode C n35_15 R S := ev_seq
@[simp] theorem en35_16 : evCode C n35_16 R S = some (.norm, R, S) := (rfl)
@[simp] theorem en35_12 : evCode C n35_12 R S = condK (IV.ev R (.t 19)) (fun _ => evCode C n35_13 R S) fun _ => evCode C n35_16 R S := ev_cond
@[simp] theorem en35_10 : evCode C n35_10 R S = seqK (evCode C n35_11 R S) fun R S => evCode C n35_12 R S := ev_seq
@[simp] theorem en35_6 : evCode C n35_6 R S = condK (IV.ev R (.t 9)) (fun _ => evCode C n35_7 R S) fun _ => evCode C n35_10 R S := ev_cond
@[simp] theorem en35_4 : evCode C n35_4 R S = seqK (evCode C n35_5 R S) fun R S => evCode C n35_6 R S := ev_seq
@[simp] theorem en35_3 : evCode C n35_3 R S = blockK 0 (evCode C n35_4 R S) := ev_block
@[simp] theorem en35_18 : evCode C n35_18 R S = regK (runOps C l35_18 R S) := ev_plain rfl
@[simp] theorem en35_20 : evCode C n35_20 R S = regK (runOps C l35_20 R S) := ev_plain rfl
@[simp] theorem en35_22 : evCode C n35_22 R S = regK (runOps C l35_22 R S) := ev_plain rfl
@[simp] theorem en35_23 : evCode C n35_23 R S = some (.ret, R, S) := (rfl)
@[simp] theorem en35_21 : evCode C n35_21 R S = seqK (evCode C n35_22 R S) fun R S => evCode C n35_23 R S := ev_seq
@[simp] theorem en35_19 : evCode C n35_19 R S = seqK (evCode C n35_20 R S) fun R S => evCode C n35_21 R S := ev_seq
@[simp] theorem en35_17 : evCode C n35_17 R S = seqK (evCode C n35_18 R S) fun R S => evCode C n35_19 R S := ev_seq
@[simp] theorem en35_2 : evCode C n35_2 R S = seqK (evCode C n35_3 R S) fun R S => evCode C n35_17 R S := ev_seq
@[simp] theorem en35_0 : evCode C n35_0 R S = seqK (evCode C n35_1 R S) fun R S => evCode C n35_2 R S := ev_seq
theorem q35 {n : Nat} {args : List Value} {S : St} : calls table.find (n + 1) 35 args S = endK S [.tmp 8] (evCode (calls table.find n) n35_0 (args ++ List.replicate (51 - args.length) undef) S.enter) := call_enter b35

/-! (*wainscot/mem.Mem).Store$1 -/
@[simp] def l36_0 : List IOper := [oy 3 (.mv (.t 0)),
  oy 4 (.load false 1 (.t 1)),
  oy 5 (.idxS 1 (.t 3) (.c (.int .i64 0))),
  ox (.store 1 (.t 5) (.t 4))]
def n36_0 : ICode := .region l36_0
theorem b36 : table.find 36 = some ⟨6, n36_0, []⟩ := by kernel_rfl
@[simp] theorem en36_0 : evCode C n36_0 R S = regK (runOps C l36_0 R S) := ev_plain rfl
theorem q36 {n : Nat} {args : List Value} {S : St} : calls table.find (n + 1) 36 args S = endK S [] (evCode (calls table.find n) n36_0 (args ++ List.replicate (6 - args.length) undef) S.enter) := call_enter b36

/-! (*wainscot/wainscotref03.Mem).there -/
@[simp] def l37_1 : List IOper := [oy 6 (.mv (.c (.int .i64 0)))]
def n37_1 : ICode := .region l37_1
@[simp] def l37_4 : List IOper := [oy 7 (.mv (.t 1)),
  oy 8 (.bin .lss .int (.t 7) (.c (.int .i64 0))),
  oy 9 (.mv (.t 8)),
  oz 10 9 false (.mv (.t 1)),
  oz 11 9 false (.mv (.t 0)),
  oz 12 9 false (.nilCheck (.t 11)),
  oz 13 9 false (.addOff 0 (.t 12)),
  oz 14 9 false (.load false 1 (.t 13)),
  oz 15 9 false (.lenS (.t 14)),
  oz 16 9 false (.bin .geq .int (.t 10) (.t 15)),
  oy 17 (.pick (.t 9) (.c (.bool true)) (.t 16)),
  oy 18 (.mv (.t 17)),
  oz 19 18 false (.mv (.t 2)),
  oz 20 18 false (.bin .eql .int (.t 19) (.c (.int .i64 2))),
  oz 21 18 false (.mv (.t 20)),
  oz 22 21 true (.mv (.t 1)),
  oz 23 21 true (.bin .add .int (.t 22) (.c (.int .i64 1))),
  oz 24 21 true (.mv (.t 0)),
  oz 25 21 true (.nilCheck (.t 24)),
  oz 26 21 true (.addOff 0 (.t 25)),
  oz 27 21 true (.load false 1 (.t 26)),
  oz 28 21 true (.lenS (.t 27)),
  oz 29 21 true (.bin .geq .int (.t 23) (.t 28)),
  oz 30 18 false (.pick (.t 21) (.t 29) (.c (.bool false))),
  oy 31 (.pick (.t 18) (.c (.bool true)) (.t 30))]
def n37_4 : ICode := .region l37_4
@[simp] def l37_7 : List IOper := [oy 6 (.mv (.c (.int .i64 9)))]
def n37_7 : ICode := .region l37_7
def n37_8 : ICode := .ret
def n37_6 : ICode := .seq n37_7 n37_8
def n37_9 : ICode := .skip
def n37_5 : ICode := .cond (.t 31) n37_6 n37_9
def n37_3 : ICode := .seq n37_4 n37_5
@[simp] def l37_11 : List IOper := [oy 32 (.mv (.t 0)),
  oy 33 (.mv (.t 0)),
  oy 34 (.nilCheck (.t 33)),
  oy 35 (.addOff 1 (.t 34)),
  oy 36 (.load false 1 (.t 35)),
  oy 37 (.bin .add .int (.t 36) (.c (.int .i64 1))),
  oy 38 (.nilCheck (.t 32)),
  oy 39 (.addOff 1 (.t 38)),
  ox (.store 1 (.t 39) (.t 37))]
def n37_11 : ICode := .region l37_11
@[simp] def l37_13 : List IOper := [oy 6 (.mv (.c (.int .i64 0)))]
def n37_13 : ICode := .region l37_13
def n37_14 : ICode := .ret
def n37_12 : ICode := .seq n37_13 n37_14
def n37_10 : ICode := .seq n37_11 n37_12
def n37_2 : ICode := .seq n37_3 n37_10
def n37_0 : ICode := .seq n37_1 n37_2
theorem b37 : table.find 37 = some ⟨40, n37_0, [.tmp 6]⟩ := by kernel_rfl
@[simp] theorem en37_1 : evCode C n37_1 R S = regK (runOps C l37_1 R S) := ev_plain rfl
@[simp] theorem en37_4 : evCode C n37_4 R S = regK (runOps C l37_4 R S) := ev_plain rfl
@[simp] theorem en37_7 : evCode C n37_7 R S = regK (runOps C l37_7 R S) := ev_plain rfl
@[simp] theorem en37_8 : evCode C n37_8 R S = some (.ret, R, S) := (rfl)
@[simp] theorem en37_6 : evCode C n37_6 R S = seqK (evCode C n37_7 R S) fun R S => evCode C n37_8 R S := ev_seq
@[simp] theorem en37_9 : evCode C n37_9 R S = some (.norm, R, S) := (rfl)
@[simp] theorem en37_5 : evCode C n37_5 R S = condK (IV.ev R (.t 31)) (fun _ => evCode C n37_6 R S) fun _ => evCode C n37_9 R S := ev_cond
@[simp] theorem en37_3 : evCode C n37_3 R S = seqK (evCode C n37_4 R S) fun R S => evCode C n37_5 R S := ev_seq
@[simp] theorem en37_11 : evCode C n37_11 R S = regK (runOps C l37_11 R S) := ev_plain rfl
@[simp] theorem en37_13 : evCode C n37_13 R S = regK (runOps C l37_13 R S) := ev_plain rfl
@[simp] theorem en37_14 : evCode C n37_14 R S = some (.ret, R, S) := (rfl)
@[simp] theorem en37_12 : evCode C n37_12 R S = seqK (evCode C n37_13 R S) fun R S => evCode C n37_14 R S := ev_seq
@[simp] theorem en37_10 : evCode C n37_10 R S = seqK (evCode C n37_11 R S) fun R S => evCode C n37_12 R S := ev_seq
@[simp] theorem en37_2 : evCode C n37_2 R S = seqK (evCode C n37_3 R S) fun R S => evCode C n37_10 R S := ev_seq
@[simp] theorem en37_0 : evCode C n37_0 R S = seqK (evCode C n37_1 R S) fun R S => evCode C n37_2 R S := ev_seq
theorem q37 {n : Nat} {args : List Value} {S : St} : calls table.find (n + 1) 37 args S = endK S [.tmp 6] (evCode (calls table.find n) n37_0 (args ++ List.replicate (40 - args.length) undef) S.enter) := call_enter b37

/-! (*wainscot/fast.step).turn -/
@[simp] def l38_1 : List IOper := [oy 2 (.mv (.t 0)),
  oy 3 (.mv (.t 0)),
  oy 4 (.mv (.t 0)),
  oy 5 (.nilCheck (.t 4)),
  oy 6 (.addOff 1 (.t 5)),
  oy 7 (.load true 6 (.t 6)),
  oy 8 (.mv (.t 0)),
  oy 9 (.nilCheck (.t 8)),
  oy 10 (.addOff 7 (.t 9)),
  oy 11 (.addOff 1 (.t 10)),
  oy 12 (.load false 1 (.t 11)),
  oy 13 (.call (.c (.func (.func 62) #[] #[])) [(.t 7), (.t 12)] true),
  oy 14 (.call (.c (.func (.func 66) #[] #[])) [(.t 13)] true),
  oy 15 (.call (.c (.func (.func 65) #[] #[])) [(.t 3), (.t 14)] false),
  oy 16 (.nilCheck (.t 2)),
  oy 17 (.addOff 7 (.t 16)),
  oy 18 (.addOff 8 (.t 17)),
  ox (.store 1 (.t 18) (.t 15))]
def n38_1 : ICode := .region l38_1
@[simp] def l38_2 : List IOper := [oy 19 (.mv (.t 0)),
  oy 20 (.mv (.t 0)),
  oy 21 (.nilCheck (.t 20)),
  oy 22 (.addOff 7 (.t 21)),
  oy 23 (.addOff 2 (.t 22)),
  oy 24 (.load false 1 (.t 23)),
  oy 25 (.bin .add .int (.t 24) (.c (.int .i64 1))),
  oy 26 (.call (.c (.func (.func 67) #[] #[])) [(.t 19), (.t 25)] false)]
def n38_2 : ICode := .region l38_2
def n38_0 : ICode := .seq n38_1 n38_2
theorem b38 : table.find 38 = some ⟨27, n38_0, []⟩ := by kernel_rfl
@[simp] theorem en38_1 : evCode C n38_1 R S = regK (runOps C l38_1 R S) := ev_plain rfl
@[simp] theorem en38_2 : evCode C n38_2 R S = regK (runOps C l38_2 R S) := ev_plain rfl
@[simp] theorem en38_0 : evCode C n38_0 R S = seqK (evCode C n38_1 R S) fun R S => evCode C n38_2 R S := ev_seq
theorem q38 {n : Nat} {args : List Value} {S : St} : calls table.find (n + 1) 38 args S = endK S [] (evCode (calls table.find n) n38_0 (args ++ List.replicate (27 - args.length) undef) S.enter) := call_enter b38

/-! (*wainscot/fast.step).look -/
@[simp] def l39_1 : List IOper := [oy 3 (.mv (.t 0)),
  oy 4 (.mv (.t 0)),
  oy 5 (.mv (.t 0)),
  oy 6 (.call (.c (.func (.func 68) #[] #[])) [(.t 5)] false),
  oy 2 (.mv (.t 6)),
  oy 7 (.extract (.t 2) 0),
  oy 8 (.extract (.t 2) 1),
  oy 9 (.nilCheck (.t 3)),
  oy 10 (.addOff 7 (.t 9)),
  oy 11 (.addOff 5 (.t 10)),
  ox (.store 1 (.t 11) (.t 7)),
  oy 12 (.nilCheck (.t 4)),
  oy 13 (.addOff 7 (.t 12)),
  oy 14 (.addOff 6 (.t 13)),
  ox (.store 1 (.t 14) (.t 8))]
def n39_1 : ICode := .region l39_1
@[simp] def l39_4 : List IOper := [oy 18 (.mv (.t 0)),
  oy 19 (.nilCheck (.t 18)),
  oy 20 (.addOff 7 (.t 19)),
  oy 21 (.addOff 5 (.t 20)),
  oy 22 (.load false 1 (.t 21)),
  oy 23 (.bin .lss .int (.t 22) (.c (.int .i64 0))),
  oy 17 (.mv (.t 23))]
def n39_4 : ICode := .region l39_4
@[simp] def l39_6 : List IOper := [oy 24 (.mv (.t 0)),
  oy 25 (.call (.c (.func (.func 67) #[] #[])) [(.t 24), (.c (.int .i64 30))] false)]
def n39_6 : ICode := .region l39_6
@[simp] def l39_8 : List IOper := [oy 27 (.mv (.t 0)),
  oy 28 (.nilCheck (.t 27)),
  oy 29 (.addOff 7 (.t 28)),
  oy 30 (.addOff 6 (.t 29)),
  oy 31 (.load false 1 (.t 30)),
  oy 32 (.bin .lss .int (.t 31) (.c (.int .i64 0))),
  oy 26 (.mv (.t 32))]
def n39_8 : ICode := .region l39_8
@[simp] def l39_10 : List IOper := [oy 33 (.mv (.t 0)),
  oy 34 (.call (.c (.func (.func 67) #[] #[])) [(.t 33), (.c (.int .i64 20))] false)]
def n39_10 : ICode := .region l39_10
@[simp] def l39_11 : List IOper := [oy 15 (.mv (.t 0)),
  oy 16 (.call (.c (.func (.func 67) #[] #[])) [(.t 15), (.c (.int .i64 2))] false)]
def n39_11 : ICode := .region l39_11
def n39_9 : ICode := .cond (.t 26) n39_10 n39_11
def n39_7 : ICode := .seq n39_8 n39_9
def n39_5 : ICode := .cond (.t 17) n39_6 n39_7
def n39_3 : ICode := .seq n39_4 n39_5
def n39_2 : ICode := .block 0 n39_3
def n39_0 : ICode := .seq n39_1 n39_2
theorem b39 : table.find 39 = some ⟨35, n39_0, []⟩ := by kernel_rfl
@[simp] theorem en39_1 : evCode C n39_1 R S = regK (runOps C l39_1 R S) := ev_plain rfl
@[simp] theorem en39_4 : evCode C n39_4 R S = regK (runOps C l39_4 R S) := ev_plain rfl
@[simp] theorem en39_6 : evCode C n39_6 R S = regK (runOps C l39_6 R S) := ev_plain rfl
@[simp] theorem en39_8 : evCode C n39_8 R S = regK (runOps C l39_8 R S) := ev_plain rfl
@[simp] theorem en39_10 : evCode C n39_10 R S = regK (runOps C l39_10 R S) := ev_plain rfl
@[simp] theorem en39_11 : evCode C n39_11 R S = regK (runOps C l39_11 R S) := ev_plain rfl
@[simp] theorem en39_9 : evCode C n39_9 R S = condK (IV.ev R (.t 26)) (fun _ => evCode C n39_10 R S) fun _ => evCode C n39_11 R S := ev_cond
@[simp] theorem en39_7 : evCode C n39_7 R S = seqK (evCode C n39_8 R S) fun R S => evCode C n39_9 R S := ev_seq
@[simp] theorem en39_5 : evCode C n39_5 R S = condK (IV.ev R (.t 17)) (fun _ => evCode C n39_6 R S) fun _ => evCode C n39_7 R S := ev_cond
@[simp] theorem en39_3 : evCode C n39_3 R S = seqK (evCode C n39_4 R S) fun R S => evCode C n39_5 R S := ev_seq
@[simp] theorem en39_2 : evCode C n39_2 R S = blockK 0 (evCode C n39_3 R S) := ev_block
@[simp] theorem en39_0 : evCode C n39_0 R S = seqK (evCode C n39_1 R S) fun R S => evCode C n39_2 R S := ev_seq
theorem q39 {n : Nat} {args : List Value} {S : St} : calls table.find (n + 1) 39 args S = endK S [] (evCode (calls table.find n) n39_0 (args ++ List.replicate (35 - args.length) undef) S.enter) := call_enter b39

/-! (*wainscot/fast.step).next -/
@[simp] def l40_1 : List IOper := [oy 5 (.mv (.t 0)),
  oy 6 (.mv (.t 0)),
  oy 7 (.nilCheck (.t 6)),
  oy 8 (.addOff 1 (.t 7)),
  oy 9 (.load true 6 (.t 8)),
  oy 10 (.mv (.t 0)),
  oy 11 (.nilCheck (.t 10)),
  oy 12 (.addOff 7 (.t 11)),
  oy 13 (.addOff 5 (.t 12)),
  oy 14 (.load false 1 (.t 13)),
  oy 15 (.mv (.t 0)),
  oy 16 (.nilCheck (.t 15)),
  oy 17 (.addOff 7 (.t 16)),
  oy 18 (.addOff 6 (.t 17)),
  oy 19 (.load false 1 (.t 18)),
  oy 20 (.call (.c (.func (.func 59) #[] #[])) [(.t 9), (.t 14), (.t 19)] true),
  oy 21 (.call (.c (.func (.func 65) #[] #[])) [(.t 5), (.t 20)] false),
  oy 2 (.mv (.t 21))]
def n40_1 : ICode := .region l40_1
@[simp] def l40_3 : List IOper := [oy 23 (.mv (.t 2)),
  oy 24 (.mv (.t 0)),
  oy 25 (.nilCheck (.t 24)),
  oy 26 (.addOff 1 (.t 25)),
  oy 27 (.load true 6 (.t 26)),
  oy 28 (.mv (.t 0)),
  oy 29 (.nilCheck (.t 28)),
  oy 30 (.addOff 7 (.t 29)),
  oy 31 (.addOff 5 (.t 30)),
  oy 32 (.load false 1 (.t 31)),
  oy 33 (.call (.c (.func (.func 58) #[] #[])) [(.t 27), (.t 32)] true),
  oy 34 (.mv (.t 0)),
  oy 35 (.nilCheck (.t 34)),
  oy 36 (.addOff 7 (.t 35)),
  oy 37 (.addOff 6 (.t 36)),
  oy 38 (.load false 1 (.t 37)),
  oy 39 (.call (.c (.func (.func 69) #[] #[])) [(.t 23), (.t 33), (.t 38)] true),
  oy 22 (.mv (.t 39)),
  oy 40 (.extract (.t 22) 0),
  oy 41 (.extract (.t 22) 1),
  oy 3 (.mv (.t 40)),
  oy 4 (.mv (.t 41))]
def n40_3 : ICode := .region l40_3
@[simp] def l40_6 : List IOper := [oy 42 (.mv (.t 4)),
  oy 43 (.un .not (.t 42)),
  oy 44 (.mv (.t 43)),
  oz 45 44 false (.mv (.t 3)),
  oz 46 44 false (.mv (.t 0)),
  oz 47 44 false (.nilCheck (.t 46)),
  oz 48 44 false (.addOff 1 (.t 47)),
  oz 49 44 false (.addOff 2 (.t 48)),
  oz 50 44 false (.load false 1 (.t 49)),
  oz 51 44 false (.bin .geq .int (.t 45) (.t 50)),
  oy 52 (.pick (.t 44) (.c (.bool true)) (.t 51))]
def n40_6 : ICode := .region l40_6
@[simp] def l40_9 : List IOper := [oy 53 (.mv (.t 0)),
  oy 54 (.call (.c (.func (.func 67) #[] #[])) [(.t 53), (.c (.int .i64 0))] false)]
def n40_9 : ICode := .region l40_9
def n40_10 : ICode := .ret
def n40_8 : ICode := .seq n40_9 n40_10
def n40_11 : ICode := .skip
def n40_7 : ICode := .cond (.t 52) n40_8 n40_11
def n40_5 : ICode := .seq n40_6 n40_7
@[simp] def l40_13 : List IOper := [oy 55 (.mv (.t 0)),
  oy 56 (.mv (.t 3)),
  oy 57 (.nilCheck (.t 55)),
  oy 58 (.addOff 7 (.t 57)),
  oy 59 (.addOff 12 (.t 58)),
  ox (.store 1 (.t 59) (.t 56))]
def n40_13 : ICode := .region l40_13
@[simp] def l40_14 : List IOper := [oy 60 (.mv (.t 0)),
  oy 61 (.call (.c (.func (.func 67) #[] #[])) [(.t 60), (.c (.int .i64 3))] false)]
def n40_14 : ICode := .region l40_14
def n40_12 : ICode := .seq n40_13 n40_14
def n40_4 : ICode := .seq n40_5 n40_12
def n40_2 : ICode := .seq n40_3 n40_4
def n40_0 : ICode := .seq n40_1 n40_2
theorem b40 : table.find 40 = some ⟨62, n40_0, []⟩ := by kernel_rfl
@[simp] theorem en40_1 : evCode C n40_1 R S = regK (runOps C l40_1 R S) := ev_plain rfl
@[simp] theorem en40_3 : evCode C n40_3 R S = regK (runOps C l40_3 R S) := ev_plain rfl
@[simp] theorem en40_6 : evCode C n40_6 R S = regK (runOps C l40_6 R S) := ev_plain rfl
@[simp] theorem en40_9 : evCode C n40_9 R S = regK (runOps C l40_9 R S) := ev_plain rfl
@[simp] theorem en40_10 : evCode C n40_10 R S = some (.ret, R, S) := (rfl)
@[simp] theorem en40_8 : evCode C n40_8 R S = seqK (evCode C n40_9 R S) fun R S => evCode C n40_10 R S := ev_seq
@[simp] theorem en40_11 : evCode C n40_11 R S = some (.norm, R, S) := (rfl)
@[simp] theorem en40_7 : evCode C n40_7 R S = condK (IV.ev R (.t 52)) (fun _ => evCode C n40_8 R S) fun _ => evCode C n40_11 R S := ev_cond
@[simp] theorem en40_5 : evCode C n40_5 R S = seqK (evCode C n40_6 R S) fun R S => evCode C n40_7 R S := ev_seq
@[simp] theorem en40_13 : evCode C n40_13 R S = regK (runOps C l40_13 R S) := ev_plain rfl
@[simp] theorem en40_14 : evCode C n40_14 R S = regK (runOps C l40_14 R S) := ev_plain rfl
@[simp] theorem en40_12 : evCode C n40_12 R S = seqK (evCode C n40_13 R S) fun R S => evCode C n40_14 R S := ev_seq
@[simp] theorem en40_4 : evCode C n40_4 R S = seqK (evCode C n40_5 R S) fun R S => evCode C n40_12 R S := ev_seq
@[simp] theorem en40_2 : evCode C n40_2 R S = seqK (evCode C n40_3 R S) fun R S => evCode C n40_4 R S := ev_seq
@[simp] theorem en40_0 : evCode C n40_0 R S = seqK (evCode C n40_1 R S) fun R S => evCode C n40_2 R S := ev_seq
theorem q40 {n : Nat} {args : List Value} {S : St} : calls table.find (n + 1) 40 args S = endK S [] (evCode (calls table.find n) n40_0 (args ++ List.replicate (62 - args.length) undef) S.enter) := call_enter b40

/-! (*wainscot/fast.step).take -/
@[simp] def l41_0 : List IOper := [oy 2 (.mv (.t 0)),
  oy 3 (.mv (.t 0)),
  oy 4 (.nilCheck (.t 3)),
  oy 5 (.addOff 7 (.t 4)),
  oy 6 (.addOff 12 (.t 5)),
  oy 7 (.load false 1 (.t 6)),
  oy 8 (.call (.c (.func (.func 70) #[] #[])) [(.t 2), (.t 7), (.c (.int .i64 0))] false)]
def n41_0 : ICode := .region l41_0
theorem b41 : table.find 41 = some ⟨9, n41_0, []⟩ := by kernel_rfl
@[simp] theorem en41_0 : evCode C n41_0 R S = regK (runOps C l41_0 R S) := ev_plain rfl
theorem q41 {n : Nat} {args : List Value} {S : St} : calls table.find (n + 1) 41 args S = endK S [] (evCode (calls table.find n) n41_0 (args ++ List.replicate (9 - args.length) undef) S.enter) := call_enter b41

/-! (*wainscot/fast.step).mine -/
@[simp] def l42_1 : List IOper := [oy 5 (.mv (.t 0)),
  oy 6 (.call (.c (.func (.func 68) #[] #[])) [(.t 5)] false),
  oy 4 (.mv (.t 6)),
  oy 7 (.extract (.t 4) 0),
  oy 8 (.extract (.t 4) 1),
  oy 2 (.mv (.t 7)),
  oy 3 (.mv (.t 8))]
def n42_1 : ICode := .region l42_1
@[simp] def l42_4 : List IOper := [oy 9 (.mv (.t 2)),
  oy 10 (.mv (.t 0)),
  oy 11 (.nilCheck (.t 10)),
  oy 12 (.addOff 7 (.t 11)),
  oy 13 (.addOff 5 (.t 12)),
  oy 14 (.load false 1 (.t 13)),
  oy 15 (.bin .neq .int (.t 9) (.t 14))]
def n42_4 : ICode := .region l42_4
@[simp] def l42_7 : List IOper := [oy 16 (.mv (.t 0)),
  oy 17 (.call (.c (.func (.func 67) #[] #[])) [(.t 16), (.c (.int .i64 50))] false)]
def n42_7 : ICode := .region l42_7
def n42_8 : ICode := .ret
def n42_6 : ICode := .seq n42_7 n42_8
def n42_9 : ICode := .skip
def n42_5 : ICode := .cond (.t 15) n42_6 n42_9
def n42_3 : ICode := .seq n42_4 n42_5
@[simp] def l42_11 : List IOper := [oy 18 (.mv (.t 0)),
  oy 19 (.mv (.t 3)),
  oy 20 (.nilCheck (.t 18)),
  oy 21 (.addOff 7 (.t 20)),
  oy 22 (.addOff 12 (.t 21)),
  ox (.store 1 (.t 22) (.t 19))]
def n42_11 : ICode := .region l42_11
@[simp] def l42_12 : List IOper := [oy 23 (.mv (.t 0)),
  oy 24 (.call (.c (.func (.func 67) #[] #[])) [(.t 23), (.c (.int .i64 12))] false)]
def n42_12 : ICode := .region l42_12
def n42_10 : ICode := .seq n42_11 n42_12
def n42_2 : ICode := .seq n42_3 n42_10
def n42_0 : ICode := .seq n42_1 n42_2
theorem b42 : table.find 42 = some ⟨25, n42_0, []⟩ := by kernel_rfl
@[simp] theorem en42_1 : evCode C n42_1 R S = regK (runOps C l42_1 R S) := ev_plain rfl
@[simp] theorem en42_4 : evCode C n42_4 R S = regK (runOps C l42_4 R S) := ev_plain rfl
@[simp] theorem en42_7 : evCode C n42_7 R S = regK (runOps C l42_7 R S) := ev_plain rfl
@[simp] theorem en42_8 : evCode C n42_8 R S = some (.ret, R, S) := (rfl)
@[simp] theorem en42_6 : evCode C n42_6 R S = seqK (evCode C n42_7 R S) fun R S => evCode C n42_8 R S := ev_seq
@[simp] theorem en42_9 : evCode C n42_9 R S = some (.norm, R, S) := (rfl)
@[simp] theorem en42_5 : evCode C n42_5 R S = condK (IV.ev R (.t 15)) (fun _ => evCode C n42_6 R S) fun _ => evCode C n42_9 R S := ev_cond
@[simp] theorem en42_3 : evCode C n42_3 R S = seqK (evCode C n42_4 R S) fun R S => evCode C n42_5 R S := ev_seq
@[simp] theorem en42_11 : evCode C n42_11 R S = regK (runOps C l42_11 R S) := ev_plain rfl
@[simp] theorem en42_12 : evCode C n42_12 R S = regK (runOps C l42_12 R S) := ev_plain rfl
@[simp] theorem en42_10 : evCode C n42_10 R S = seqK (evCode C n42_11 R S) fun R S => evCode C n42_12 R S := ev_seq
@[simp] theorem en42_2 : evCode C n42_2 R S = seqK (evCode C n42_3 R S) fun R S => evCode C n42_10 R S := ev_seq
@[simp] theorem en42_0 : evCode C n42_0 R S = seqK (evCode C n42_1 R S) fun R S => evCode C n42_2 R S := ev_seq
theorem q42 {n : Nat} {args : List Value} {S : St} : calls table.find (n + 1) 42 args S = endK S [] (evCode (calls table.find n) n42_0 (args ++ List.replicate (25 - args.length) undef) S.enter) := call_enter b42

/-! (*wainscot/fast.step).tie -/
@[simp] def l43_1 : List IOper := [oy 5 (.mv (.t 0)),
  oy 6 (.nilCheck (.t 5)),
  oy 7 (.addOff 7 (.t 6)),
  oy 8 (.addOff 12 (.t 7)),
  oy 9 (.load false 1 (.t 8)),
  oy 10 (.mv (.t 0)),
  oy 11 (.nilCheck (.t 10)),
  oy 12 (.addOff 1 (.t 11)),
  oy 13 (.load true 6 (.t 12)),
  oy 14 (.mv (.t 0)),
  oy 15 (.nilCheck (.t 14)),
  oy 16 (.addOff 7 (.t 15)),
  oy 17 (.addOff 5 (.t 16)),
  oy 18 (.load false 1 (.t 17)),
  oy 19 (.call (.c (.func (.func 58) #[] #[])) [(.t 13), (.t 18)] true),
  oy 20 (.mv (.t 0)),
  oy 21 (.nilCheck (.t 20)),
  oy 22 (.addOff 7 (.t 21)),
  oy 23 (.addOff 6 (.t 22)),
  oy 24 (.load false 1 (.t 23)),
  oy 25 (.call (.c (.func (.func 71) #[] #[])) [(.t 9), (.t 19), (.t 24)] true),
  oy 4 (.mv (.t 25)),
  oy 26 (.extract (.t 4) 0),
  oy 27 (.extract (.t 4) 1),
  oy 2 (.mv (.t 26)),
  oy 3 (.mv (.t 27))]
def n43_1 : ICode := .region l43_1
@[simp] def l43_3 : List IOper := [oy 28 (.mv (.t 0)),
  oy 29 (.mv (.t 3)),
  oy 30 (.bin .eql .int (.t 29) (.c (.int .i64 0))),
  oy 31 (.call (.c (.func (.func 72) #[] #[])) [(.t 28), (.t 30)] false)]
def n43_3 : ICode := .region l43_3
@[simp] def l43_6 : List IOper := [oy 32 (.mv (.t 0)),
  oy 33 (.nilCheck (.t 32)),
  oy 34 (.addOff 24 (.t 33)),
  oy 35 (.load false 1 (.t 34)),
  oy 36 (.un .not (.t 35))]
def n43_6 : ICode := .region l43_6
@[simp] def l43_8 : List IOper := [oy 37 (.mv (.t 0)),
  oy 38 (.mv (.t 0)),
  oy 39 (.nilCheck (.t 38)),
  oy 40 (.addOff 1 (.t 39)),
  oy 41 (.load true 6 (.t 40)),
  oy 42 (.mv (.t 0)),
  oy 43 (.nilCheck (.t 42)),
  oy 44 (.addOff 7 (.t 43)),
  oy 45 (.addOff 5 (.t 44)),
  oy 46 (.load false 1 (.t 45)),
  oy 47 (.mv (.t 0)),
  oy 48 (.nilCheck (.t 47)),
  oy 49 (.addOff 7 (.t 48)),
  oy 50 (.addOff 6 (.t 49)),
  oy 51 (.load false 1 (.t 50)),
  oy 52 (.call (.c (.func (.func 59) #[] #[])) [(.t 41), (.t 46), (.t 51)] true),
  oy 53 (.mv (.t 2)),
  oy 54 (.call (.c (.func (.func 73) #[] #[])) [(.t 37), (.t 52), (.t 53)] false)]
def n43_8 : ICode := .region l43_8
def n43_9 : ICode := .skip
def n43_7 : ICode := .cond (.t 36) n43_8 n43_9
def n43_5 : ICode := .seq n43_6 n43_7
@[simp] def l43_10 : List IOper := [oy 55 (.mv (.t 0)),
  oy 56 (.call (.c (.func (.func 67) #[] #[])) [(.t 55), (.c (.int .i64 13))] false)]
def n43_10 : ICode := .region l43_10
def n43_4 : ICode := .seq n43_5 n43_10
def n43_2 : ICode := .seq n43_3 n43_4
def n43_0 : ICode := .seq n43_1 n43_2
theorem b43 : table.find 43 = some ⟨57, n43_0, []⟩ := by kernel_rfl
@[simp] theorem en43_1 : evCode C n43_1 R S = regK (runOps C l43_1 R S) := ev_plain rfl
@[simp] theorem en43_3 : evCode C n43_3 R S = regK (runOps C l43_3 R S) := ev_plain rfl
@[simp] theorem en43_6 : evCode C n43_6 R S = regK (runOps C l43_6 R S) := ev_plain rfl
@[simp] theorem en43_8 : evCode C n43_8 R S = regK (runOps C l43_8 R S) := ev_plain rfl
@[simp] theorem en43_9 : evCode C n43_9 R S = some (.norm, R, S) := (rfl)
@[simp] theorem en43_7 : evCode C n43_7 R S = condK (IV.ev R (.t 36)) (fun _ => evCode C n43_8 R S) fun _ => evCode C n43_9 R S := ev_cond
@[simp] theorem en43_5 : evCode C n43_5 R S = seqK (evCode C n43_6 R S) fun R S => evCode C n43_7 R S := ev_seq
@[simp] theorem en43_10 : evCode C n43_10 R S = regK (runOps C l43_10 R S) := ev_plain rfl
@[simp] theorem en43_4 : evCode C n43_4 R S = seqK (evCode C n43_5 R S) fun R S => evCode C n43_10 R S := ev_seq
@[simp] theorem en43_2 : evCode C n43_2 R S = seqK (evCode C n43_3 R S) fun R S => evCode C n43_4 R S := ev_seq
@[simp] theorem en43_0 : evCode C n43_0 R S = seqK (evCode C n43_1 R S) fun R S => evCode C n43_2 R S := ev_seq
theorem q43 {n : Nat} {args : List Value} {S : St} : calls table.find (n + 1) 43 args S = endK S [] (evCode (calls table.find n) n43_0 (args ++ List.replicate (57 - args.length) undef) S.enter) := call_enter b43

/-! (*wainscot/fast.step).give -/
@[simp] def l44_0 : List IOper := [oy 2 (.mv (.t 0)),
  oy 3 (.mv (.t 0)),
  oy 4 (.nilCheck (.t 3)),
  oy 5 (.addOff 7 (.t 4)),
  oy 6 (.addOff 6 (.t 5)),
  oy 7 (.load false 1 (.t 6)),
  oy 8 (.call (.c (.func (.func 70) #[] #[])) [(.t 2), (.t 7), (.c (.int .i64 10))] false)]
def n44_0 : ICode := .region l44_0
theorem b44 : table.find 44 = some ⟨9, n44_0, []⟩ := by kernel_rfl
@[simp] theorem en44_0 : evCode C n44_0 R S = regK (runOps C l44_0 R S) := ev_plain rfl
theorem q44 {n : Nat} {args : List Value} {S : St} : calls table.find (n + 1) 44 args S = endK S [] (evCode (calls table.find n) n44_0 (args ++ List.replicate (9 - args.length) undef) S.enter) := call_enter b44

/-! wainscot/wainscotref21.Check -/
@[simp] def l45_1 : List IOper := [oy 1 (.box 25 6 (.t 0)),
  oy 2 (.mv (.c (.int .i64 0)))]
def n45_1 : ICode := .region l45_1
@[simp] def l45_4 : List IOper := [oy 3 (.addOff 0 (.t 1)),
  oy 4 (.load false 1 (.t 3)),
  oy 5 (.bin .sub .int (.t 4) (.c (.int .i64 1))),
  oy 6 (.call (.c (.func (.func 74) #[] #[])) [(.t 5), (.c (.int .i64 8))] true),
  oy 7 (.un .not (.t 6)),
  oy 8 (.mv (.t 7)),
  oz 9 8 false (.addOff 1 (.t 1)),
  oz 10 8 false (.load false 1 (.t 9)),
  oz 11 8 false (.bin .sub .int (.t 10) (.c (.int .i64 1))),
  oz 12 8 false (.call (.c (.func (.func 74) #[] #[])) [(.t 11), (.c (.int .i64 32))] true),
  oz 13 8 false (.un .not (.t 12)),
  oy 14 (.pick (.t 8) (.c (.bool true)) (.t 13)),
  oy 15 (.mv (.t 14)),
  oz 16 15 false (.addOff 2 (.t 1)),
  oz 17 15 false (.load false 1 (.t 16)),
  oz 18 15 false (.bin .sub .int (.t 17) (.c (.int .i64 1))),
  oz 19 15 false (.call (.c (.func (.func 74) #[] #[])) [(.t 18), (.c (.int .i64 16))] true),
  oz 20 15 false (.un .not (.t 19)),
  oy 21 (.pick (.t 15) (.c (.bool true)) (.t 20)),
  oy 22 (.mv (.t 21)),
  oz 23 22 false (.addOff 3 (.t 1)),
  oz 24 22 false (.load false 1 (.t 23)),
  oz 25 22 false (.call (.c (.func (.func 74) #[] #[])) [(.t 24), (.c (.int .i64 33))] true),
  oz 26 22 false (.un .not (.t 25)),
  oy 27 (.pick (.t 22) (.c (.bool true)) (.t 26)),
  oy 28 (.mv (.t 27)),
  oz 29 28 false (.addOff 4 (.t 1)),
  oz 30 28 false (.load false 1 (.t 29)),
  oz 31 28 false (.call (.c (.func (.func 74) #[] #[])) [(.t 30), (.c (.int .i64 33))] true),
  oz 32 28 false (.un .not (.t 31)),
  oy 33 (.pick (.t 28) (.c (.bool true)) (.t 32))]
def n45_4 : ICode := .region l45_4
@[simp] def l45_7 : List IOper := [oy 2 (.mv (.c (.int .i64 2)))]
def n45_7 : ICode := .region l45_7
def n45_8 : ICode := .ret
def n45_6 : ICode := .seq n45_7 n45_8
def n45_9 : ICode := .skip
def n45_5 : ICode := .cond (.t 33) n45_6 n45_9
def n45_3 : ICode := .seq n45_4 n45_5
@[simp] def l45_11 : List IOper := [oy 2 (.mv (.c (.int .i64 0)))]
def n45_11 : ICode := .region l45_11
def n45_12 : ICode := .ret
def n45_10 : ICode := .seq n45_11 n45_12
def n45_2 : ICode := .seq n45_3 n45_10
def n45_0 : ICode := .seq n45_1 n45_2
theorem b45 : table.find 45 = some ⟨34, n45_0, [.tmp 2]⟩ := by kernel_rfl
@[simp] theorem en45_1 : evCode C n45_1 R S = regK (runOps C l45_1 R S) := ev_plain rfl
@[simp] theorem en45_4 : evCode C n45_4 R S = regK (runOps C l45_4 R S) := ev_plain rfl
@[simp] theorem en45_7 : evCode C n45_7 R S = regK (runOps C l45_7 R S) := ev_plain rfl
@[simp] theorem en45_8 : evCode C n45_8 R S = some (.ret, R, S) := (rfl)
@[simp] theorem en45_6 : evCode C n45_6 R S = seqK (evCode C n45_7 R S) fun R S => evCode C n45_8 R S := ev_seq
@[simp] theorem en45_9 : evCode C n45_9 R S = some (.norm, R, S) := (rfl)
@[simp] theorem en45_5 : evCode C n45_5 R S = condK (IV.ev R (.t 33)) (fun _ => evCode C n45_6 R S) fun _ => evCode C n45_9 R S := ev_cond
@[simp] theorem en45_3 : evCode C n45_3 R S = seqK (evCode C n45_4 R S) fun R S => evCode C n45_5 R S := ev_seq
@[simp] theorem en45_11 : evCode C n45_11 R S = regK (runOps C l45_11 R S) := ev_plain rfl
@[simp] theorem en45_12 : evCode C n45_12 R S = some (.ret, R, S) := (rfl)
@[simp] theorem en45_10 : evCode C n45_10 R S = seqK (evCode C n45_11 R S) fun R S => evCode C n45_12 R S := ev_seq
@[simp] theorem en45_2 : evCode C n45_2 R S = seqK (evCode C n45_3 R S) fun R S => evCode C n45_10 R S := ev_seq
@[simp] theorem en45_0 : evCode C n45_0 R S = seqK (evCode C n45_1 R S) fun R S => evCode C n45_2 R S := ev_seq
theorem q45 {n : Nat} {args : List Value} {S : St} : calls table.find (n + 1) 45 args S = endK S [.tmp 2] (evCode (calls table.find n) n45_0 (args ++ List.replicate (34 - args.length) undef) S.enter) := call_enter b45

/-! (*wainscot/wainscotref03.Mem).Load -/
@[simp] def l46_1 : List IOper := [oy 4 (.mv (.c (.int .u64 0))),
  oy 5 (.mv (.c (.int .i64 0)))]
def n46_1 : ICode := .region l46_1
@[simp] def l46_4 : List IOper := [oy 7 (.mv (.t 0)),
  oy 8 (.mv (.t 1)),
  oy 9 (.call (.c (.func (.func 37) #[] #[])) [(.t 7), (.t 8), (.c (.int .i64 1))] false),
  oy 6 (.mv (.t 9))]
def n46_4 : ICode := .region l46_4
@[simp] def l46_6 : List IOper := [oy 10 (.mv (.t 6)),
  oy 11 (.bin .neq .int (.t 10) (.c (.int .i64 0)))]
def n46_6 : ICode := .region l46_6
@[simp] def l46_9 : List IOper := [oy 12 (.mv (.t 6)),
  oy 4 (.mv (.c (.int .u64 0))),
  oy 5 (.mv (.t 12))]
def n46_9 : ICode := .region l46_9
def n46_10 : ICode := .ret
def n46_8 : ICode := .seq n46_9 n46_10
def n46_11 : ICode := .skip
def n46_7 : ICode := .cond (.t 11) n46_8 n46_11
def n46_5 : ICode := .seq n46_6 n46_7
def n46_3 : ICode := .seq n46_4 n46_5
@[simp] def l46_13 : List IOper := [oy 13 (.mv (.t 0)),
  oy 14 (.nilCheck (.t 13)),
  oy 15 (.addOff 0 (.t 14)),
  oy 16 (.load false 1 (.t 15)),
  oy 17 (.mv (.t 1)),
  oy 18 (.idxS 1 (.t 16) (.t 17)),
  oy 19 (.load false 1 (.t 18)),
  oy 4 (.mv (.t 19)),
  oy 5 (.mv (.c (.int .i64 0)))]
def n46_13 : ICode := .region l46_13
def n46_14 : ICode := .ret
def n46_12 : ICode := .seq n46_13 n46_14
def n46_2 : ICode := .seq n46_3 n46_12
def n46_0 : ICode := .seq n46_1 n46_2
theorem b46 : table.find 46 = some ⟨20, n46_0, [.tmp 4, .tmp 5]⟩ := by kernel_rfl
@[simp] theorem en46_1 : evCode C n46_1 R S = regK (runOps C l46_1 R S) := ev_plain rfl
@[simp] theorem en46_4 : evCode C n46_4 R S = regK (runOps C l46_4 R S) := ev_plain rfl
@[simp] theorem en46_6 : evCode C n46_6 R S = regK (runOps C l46_6 R S) := ev_plain rfl
@[simp] theorem en46_9 : evCode C n46_9 R S = regK (runOps C l46_9 R S) := ev_plain rfl
@[simp] theorem en46_10 : evCode C n46_10 R S = some (.ret, R, S) := (rfl)
@[simp] theorem en46_8 : evCode C n46_8 R S = seqK (evCode C n46_9 R S) fun R S => evCode C n46_10 R S := ev_seq
@[simp] theorem en46_11 : evCode C n46_11 R S = some (.norm, R, S) := (rfl)
@[simp] theorem en46_7 : evCode C n46_7 R S = condK (IV.ev R (.t 11)) (fun _ => evCode C n46_8 R S) fun _ => evCode C n46_11 R S := ev_cond
@[simp] theorem en46_5 : evCode C n46_5 R S = seqK (evCode C n46_6 R S) fun R S => evCode C n46_7 R S := ev_seq
@[simp] theorem en46_3 : evCode C n46_3 R S = seqK (evCode C n46_4 R S) fun R S => evCode C n46_5 R S := ev_seq
@[simp] theorem en46_13 : evCode C n46_13 R S = regK (runOps C l46_13 R S) := ev_plain rfl
@[simp] theorem en46_14 : evCode C n46_14 R S = some (.ret, R, S) := (rfl)
@[simp] theorem en46_12 : evCode C n46_12 R S = seqK (evCode C n46_13 R S) fun R S => evCode C n46_14 R S := ev_seq
@[simp] theorem en46_2 : evCode C n46_2 R S = seqK (evCode C n46_3 R S) fun R S => evCode C n46_12 R S := ev_seq
@[simp] theorem en46_0 : evCode C n46_0 R S = seqK (evCode C n46_1 R S) fun R S => evCode C n46_2 R S := ev_seq
theorem q46 {n : Nat} {args : List Value} {S : St} : calls table.find (n + 1) 46 args S = endK S [.tmp 4, .tmp 5] (evCode (calls table.find n) n46_0 (args ++ List.replicate (20 - args.length) undef) S.enter) := call_enter b46

/-! wainscot/wainscotref22.Behind -/
@[simp] def l47_1 : List IOper := [oy 2 (.mv (.c (.int .i64 0)))]
def n47_1 : ICode := .region l47_1
@[simp] def l47_4 : List IOper := [oy 3 (.mv (.t 0)),
  oy 4 (.bin .lss .int (.t 3) (.c (.int .i64 0)))]
def n47_4 : ICode := .region l47_4
@[simp] def l47_7 : List IOper := [oy 2 (.mv (.c (.int .i64 (-1))))]
def n47_7 : ICode := .region l47_7
def n47_8 : ICode := .ret
def n47_6 : ICode := .seq n47_7 n47_8
def n47_9 : ICode := .skip
def n47_5 : ICode := .cond (.t 4) n47_6 n47_9
def n47_3 : ICode := .seq n47_4 n47_5
@[simp] def l47_11 : List IOper := [oy 5 (.mv (.t 0)),
  oy 6 (.bin .add .int (.t 5) (.c (.int .i64 1))),
  oy 2 (.mv (.t 6))]
def n47_11 : ICode := .region l47_11
def n47_12 : ICode := .ret
def n47_10 : ICode := .seq n47_11 n47_12
def n47_2 : ICode := .seq n47_3 n47_10
def n47_0 : ICode := .seq n47_1 n47_2
theorem b47 : table.find 47 = some ⟨7, n47_0, [.tmp 2]⟩ := by kernel_rfl
@[simp] theorem en47_1 : evCode C n47_1 R S = regK (runOps C l47_1 R S) := ev_plain rfl
@[simp] theorem en47_4 : evCode C n47_4 R S = regK (runOps C l47_4 R S) := ev_plain rfl
@[simp] theorem en47_7 : evCode C n47_7 R S = regK (runOps C l47_7 R S) := ev_plain rfl
@[simp] theorem en47_8 : evCode C n47_8 R S = some (.ret, R, S) := (rfl)
@[simp] theorem en47_6 : evCode C n47_6 R S = seqK (evCode C n47_7 R S) fun R S => evCode C n47_8 R S := ev_seq
@[simp] theorem en47_9 : evCode C n47_9 R S = some (.norm, R, S) := (rfl)
@[simp] theorem en47_5 : evCode C n47_5 R S = condK (IV.ev R (.t 4)) (fun _ => evCode C n47_6 R S) fun _ => evCode C n47_9 R S := ev_cond
@[simp] theorem en47_3 : evCode C n47_3 R S = seqK (evCode C n47_4 R S) fun R S => evCode C n47_5 R S := ev_seq
@[simp] theorem en47_11 : evCode C n47_11 R S = regK (runOps C l47_11 R S) := ev_plain rfl
@[simp] theorem en47_12 : evCode C n47_12 R S = some (.ret, R, S) := (rfl)
@[simp] theorem en47_10 : evCode C n47_10 R S = seqK (evCode C n47_11 R S) fun R S => evCode C n47_12 R S := ev_seq
@[simp] theorem en47_2 : evCode C n47_2 R S = seqK (evCode C n47_3 R S) fun R S => evCode C n47_10 R S := ev_seq
@[simp] theorem en47_0 : evCode C n47_0 R S = seqK (evCode C n47_1 R S) fun R S => evCode C n47_2 R S := ev_seq
theorem q47 {n : Nat} {args : List Value} {S : St} : calls table.find (n + 1) 47 args S = endK S [.tmp 2] (evCode (calls table.find n) n47_0 (args ++ List.replicate (7 - args.length) undef) S.enter) := call_enter b47

/-! wainscot/wainscotref21.Head -/
@[simp] def l48_1 : List IOper := [oy 2 (.box 25 6 (.t 0)),
  oy 4 (.mv (.c (.int .i64 0)))]
def n48_1 : ICode := .region l48_1
@[simp] def l48_3 : List IOper := [oy 5 (.load true 6 (.t 2)),
  oy 6 (.mv (.t 1)),
  oy 7 (.addOff 0 (.t 2)),
  oy 8 (.load false 1 (.t 7)),
  oy 9 (.call (.c (.func (.func 74) #[] #[])) [(.t 6), (.t 8)] true),
  oy 10 (.mv (.t 1)),
  oy 11 (.bin .mul .int (.c (.int .i64 4)) (.t 10)),
  oy 12 (.call (.c (.func (.func 34) #[] #[])) [(.t 5), (.t 9), (.t 11)] true),
  oy 4 (.mv (.t 12))]
def n48_3 : ICode := .region l48_3
def n48_4 : ICode := .ret
def n48_2 : ICode := .seq n48_3 n48_4
def n48_0 : ICode := .seq n48_1 n48_2
theorem b48 : table.find 48 = some ⟨13, n48_0, [.tmp 4]⟩ := by kernel_rfl
@[simp] theorem en48_1 : evCode C n48_1 R S = regK (runOps C l48_1 R S) := ev_plain rfl
@[simp] theorem en48_3 : evCode C n48_3 R S = regK (runOps C l48_3 R S) := ev_plain rfl
@[simp] theorem en48_4 : evCode C n48_4 R S = some (.ret, R, S) := (rfl)
@[simp] theorem en48_2 : evCode C n48_2 R S = seqK (evCode C n48_3 R S) fun R S => evCode C n48_4 R S := ev_seq
@[simp] theorem en48_0 : evCode C n48_0 R S = seqK (evCode C n48_1 R S) fun R S => evCode C n48_2 R S := ev_seq
theorem q48 {n : Nat} {args : List Value} {S : St} : calls table.find (n + 1) 48 args S = endK S [.tmp 4] (evCode (calls table.find n) n48_0 (args ++ List.replicate (13 - args.length) undef) S.enter) := call_enter b48

/-! wainscot/wainscotref22.Head -/
@[simp] def l49_1 : List IOper := [oy 2 (.box 25 6 (.t 0)),
  oy 4 (.mv (.c (.int .i64 0))),
  oy 5 (.mv (.c (.int .i64 0))),
  oy 6 (.mv (.c (.bool false)))]
def n49_1 : ICode := .region l49_1
@[simp] def l49_3 : List IOper := [oy 11 (.mv (.t 1)),
  oy 12 (.call (.c (.func (.func 75) #[] #[])) [(.t 11)] true),
  oy 10 (.mv (.t 12)),
  oy 13 (.extract (.t 10) 0),
  oy 14 (.extract (.t 10) 1),
  oy 15 (.extract (.t 10) 2),
  oy 7 (.mv (.t 13)),
  oy 8 (.mv (.t 14)),
  oy 9 (.mv (.t 15))]
def n49_3 : ICode := .region l49_3
@[simp] def l49_5 : List IOper := [oy 16 (.mv (.t 7)),
  oy 17 (.mv (.t 8)),
  oy 18 (.mv (.t 9)),
  oy 19 (.mv (.t 18)),
  oz 20 19 true (.mv (.t 7)),
  oz 21 19 true (.addOff 1 (.t 2)),
  oz 22 19 true (.load false 1 (.t 21)),
  oz 23 19 true (.bin .lss .int (.t 20) (.t 22)),
  oy 24 (.pick (.t 19) (.t 23) (.c (.bool false))),
  oy 25 (.mv (.t 24)),
  oz 26 25 true (.mv (.t 8)),
  oz 27 25 true (.addOff 2 (.t 2)),
  oz 28 25 true (.load false 1 (.t 27)),
  oz 29 25 true (.bin .lss .int (.t 26) (.t 28)),
  oy 30 (.pick (.t 25) (.t 29) (.c (.bool false))),
  oy 4 (.mv (.t 16)),
  oy 5 (.mv (.t 17)),
  oy 6 (.mv (.t 30))]
def n49_5 : ICode := .region l49_5
def n49_6 : ICode := .ret
def n49_4 : ICode := .seq n49_5 n49_6
def n49_2 : ICode := .seq n49_3 n49_4
def n49_0 : ICode := .seq n49_1 n49_2
theorem b49 : table.find 49 = some ⟨31, n49_0, [.tmp 4, .tmp 5, .tmp 6]⟩ := by kernel_rfl
@[simp] theorem en49_1 : evCode C n49_1 R S = regK (runOps C l49_1 R S) := ev_plain rfl
@[simp] theorem en49_3 : evCode C n49_3 R S = regK (runOps C l49_3 R S) := ev_plain rfl
@[simp] theorem en49_5 : evCode C n49_5 R S = regK (runOps C l49_5 R S) := ev_plain rfl
@[simp] theorem en49_6 : evCode C n49_6 R S = some (.ret, R, S) := (rfl)
@[simp] theorem en49_4 : evCode C n49_4 R S = seqK (evCode C n49_5 R S) fun R S => evCode C n49_6 R S := ev_seq
@[simp] theorem en49_2 : evCode C n49_2 R S = seqK (evCode C n49_3 R S) fun R S => evCode C n49_4 R S := ev_seq
@[simp] theorem en49_0 : evCode C n49_0 R S = seqK (evCode C n49_1 R S) fun R S => evCode C n49_2 R S := ev_seq
theorem q49 {n : Nat} {args : List Value} {S : St} : calls table.find (n + 1) 49 args S = endK S [.tmp 4, .tmp 5, .tmp 6] (evCode (calls table.find n) n49_0 (args ++ List.replicate (31 - args.length) undef) S.enter) := call_enter b49

/-! wainscot/wainscotref21.Link -/
@[simp] def l50_1 : List IOper := [oy 3 (.box 25 6 (.t 0)),
  oy 6 (.mv (.c (.int .i64 0)))]
def n50_1 : ICode := .region l50_1
@[simp] def l50_3 : List IOper := [oy 7 (.load true 6 (.t 3)),
  oy 8 (.mv (.t 1)),
  oy 9 (.addOff 1 (.t 3)),
  oy 10 (.load false 1 (.t 9)),
  oy 11 (.call (.c (.func (.func 74) #[] #[])) [(.t 8), (.t 10)] true),
  oy 12 (.mv (.t 11)),
  oz 13 12 true (.mv (.t 2)),
  oz 14 12 true (.addOff 2 (.t 3)),
  oz 15 12 true (.load false 1 (.t 14)),
  oz 16 12 true (.call (.c (.func (.func 74) #[] #[])) [(.t 13), (.t 15)] true),
  oy 17 (.pick (.t 12) (.t 16) (.c (.bool false))),
  oy 18 (.addOff 0 (.t 3)),
  oy 19 (.load false 1 (.t 18)),
  oy 20 (.bin .mul .int (.c (.int .i64 4)) (.t 19)),
  oy 21 (.bin .add .int (.t 20) (.c (.int .i64 4))),
  oy 22 (.addOff 1 (.t 3)),
  oy 23 (.load false 1 (.t 22)),
  oy 24 (.bin .mul .int (.c (.int .i64 4)) (.t 23)),
  oy 25 (.bin .add .int (.t 21) (.t 24)),
  oy 26 (.mv (.t 1)),
  oy 27 (.addOff 2 (.t 3)),
  oy 28 (.load false 1 (.t 27)),
  oy 29 (.bin .mul .int (.t 26) (.t 28)),
  oy 30 (.bin .add .int (.t 25) (.t 29)),
  oy 31 (.mv (.t 2)),
  oy 32 (.bin .add .int (.t 30) (.t 31)),
  oy 33 (.call (.c (.func (.func 34) #[] #[])) [(.t 7), (.t 17), (.t 32)] true),
  oy 6 (.mv (.t 33))]
def n50_3 : ICode := .region l50_3
def n50_4 : ICode := .ret
def n50_2 : ICode := .seq n50_3 n50_4
def n50_0 : ICode := .seq n50_1 n50_2
theorem b50 : table.find 50 = some ⟨34, n50_0, [.tmp 6]⟩ := by kernel_rfl
@[simp] theorem en50_1 : evCode C n50_1 R S = regK (runOps C l50_1 R S) := ev_plain rfl
@[simp] theorem en50_3 : evCode C n50_3 R S = regK (runOps C l50_3 R S) := ev_plain rfl
@[simp] theorem en50_4 : evCode C n50_4 R S = some (.ret, R, S) := (rfl)
@[simp] theorem en50_2 : evCode C n50_2 R S = seqK (evCode C n50_3 R S) fun R S => evCode C n50_4 R S := ev_seq
@[simp] theorem en50_0 : evCode C n50_0 R S = seqK (evCode C n50_1 R S) fun R S => evCode C n50_2 R S := ev_seq
theorem q50 {n : Nat} {args : List Value} {S : St} : calls table.find (n + 1) 50 args S = endK S [.tmp 6] (evCode (calls table.find n) n50_0 (args ++ List.replicate (34 - args.length) undef) S.enter) := call_enter b50

/-! wainscot/wainscotref16.Show -/
@[simp] def l51_1 : List IOper := [oy 6 (.mv (.c (.int .i64 0))),
  oy 7 (.mv (.c (.bool false)))]
def n51_1 : ICode := .region l51_1
@[simp] def l51_4 : List IOper := [oy 9 (.mv (.t 2)),
  oy 10 (.bin .lss .int (.t 9) (.c (.int .i64 0))),
  oy 11 (.mv (.t 10)),
  oz 12 11 false (.mv (.t 2)),
  oz 13 11 false (.bin .geq .int (.t 12) (.c (.int .i64 16))),
  oy 14 (.pick (.t 11) (.c (.bool true)) (.t 13))]
def n51_4 : ICode := .region l51_4
@[simp] def l51_7 : List IOper := [oy 6 (.mv (.c (.int .i64 0))),
  oy 7 (.mv (.c (.bool false)))]
def n51_7 : ICode := .region l51_7
def n51_8 : ICode := .ret
def n51_6 : ICode := .seq n51_7 n51_8
def n51_9 : ICode := .skip
def n51_5 : ICode := .cond (.t 14) n51_6 n51_9
def n51_3 : ICode := .seq n51_4 n51_5
@[simp] def l51_11 : List IOper := [oy 15 (.mv (.t 0)),
  oy 16 (.mv (.t 1)),
  oy 17 (.mv (.t 2)),
  oy 18 (.call (.c (.func (.func 76) #[] #[])) [(.t 16), (.t 17)] true),
  oy 19 (.bin .xor .int (.t 15) (.t 18)),
  oy 8 (.mv (.t 19))]
def n51_11 : ICode := .region l51_11
@[simp] def l51_14 : List IOper := [oy 20 (.mv (.t 8)),
  oy 21 (.bin .gtr .int (.t 20) (.c (.int .u64 16)))]
def n51_14 : ICode := .region l51_14
@[simp] def l51_17 : List IOper := [oy 6 (.mv (.c (.int .i64 0))),
  oy 7 (.mv (.c (.bool false)))]
def n51_17 : ICode := .region l51_17
def n51_18 : ICode := .ret
def n51_16 : ICode := .seq n51_17 n51_18
def n51_19 : ICode := .skip
def n51_15 : ICode := .cond (.t 21) n51_16 n51_19
def n51_13 : ICode := .seq n51_14 n51_15
@[simp] def l51_21 : List IOper := [oy 22 (.mv (.t 8)),
  oy 23 (.conv .i64 (.t 22)),
  oy 24 (.bin .sub .int (.t 23) (.c (.int .i64 1))),
  oy 6 (.mv (.t 24)),
  oy 7 (.mv (.c (.bool true)))]
def n51_21 : ICode := .region l51_21
def n51_22 : ICode := .ret
def n51_20 : ICode := .seq n51_21 n51_22
def n51_12 : ICode := .seq n51_13 n51_20
def n51_10 : ICode := .seq n51_11 n51_12
def n51_2 : ICode := .seq n51_3 n51_10
def n51_0 : ICode := .seq n51_1 n51_2
theorem b51 : table.find 51 = some ⟨25, n51_0, [.tmp 6, .tmp 7]⟩ := by kernel_rfl
@[simp] theorem en51_1 : evCode C n51_1 R S = regK (runOps C l51_1 R S) := ev_plain rfl
@[simp] theorem en51_4 : evCode C n51_4 R S = regK (runOps C l51_4 R S) := ev_plain rfl
@[simp] theorem en51_7 : evCode C n51_7 R S = regK (runOps C l51_7 R S) := ev_plain rfl
@[simp] theorem en51_8 : evCode C n51_8 R S = some (.ret, R, S) := (rfl)
@[simp] theorem en51_6 : evCode C n51_6 R S = seqK (evCode C n51_7 R S) fun R S => evCode C n51_8 R S := ev_seq
@[simp] theorem en51_9 : evCode C n51_9 R S = some (.norm, R, S) := (rfl)
@[simp] theorem en51_5 : evCode C n51_5 R S = condK (IV.ev R (.t 14)) (fun _ => evCode C n51_6 R S) fun _ => evCode C n51_9 R S := ev_cond
@[simp] theorem en51_3 : evCode C n51_3 R S = seqK (evCode C n51_4 R S) fun R S => evCode C n51_5 R S := ev_seq
@[simp] theorem en51_11 : evCode C n51_11 R S = regK (runOps C l51_11 R S) := ev_plain rfl
@[simp] theorem en51_14 : evCode C n51_14 R S = regK (runOps C l51_14 R S) := ev_plain rfl
@[simp] theorem en51_17 : evCode C n51_17 R S = regK (runOps C l51_17 R S) := ev_plain rfl
@[simp] theorem en51_18 : evCode C n51_18 R S = some (.ret, R, S) := (rfl)
@[simp] theorem en51_16 : evCode C n51_16 R S = seqK (evCode C n51_17 R S) fun R S => evCode C n51_18 R S := ev_seq
@[simp] theorem en51_19 : evCode C n51_19 R S = some (.norm, R, S) := (rfl)
@[simp] theorem en51_15 : evCode C n51_15 R S = condK (IV.ev R (.t 21)) (fun _ => evCode C n51_16 R S) fun _ => evCode C n51_19 R S := ev_cond
@[simp] theorem en51_13 : evCode C n51_13 R S = seqK (evCode C n51_14 R S) fun R S => evCode C n51_15 R S := ev_seq
@[simp] theorem en51_21 : evCode C n51_21 R S = regK (runOps C l51_21 R S) := ev_plain rfl
@[simp] theorem en51_22 : evCode C n51_22 R S = some (.ret, R, S) := (rfl)
@[simp] theorem en51_20 : evCode C n51_20 R S = seqK (evCode C n51_21 R S) fun R S => evCode C n51_22 R S := ev_seq
@[simp] theorem en51_12 : evCode C n51_12 R S = seqK (evCode C n51_13 R S) fun R S => evCode C n51_20 R S := ev_seq
@[simp] theorem en51_10 : evCode C n51_10 R S = seqK (evCode C n51_11 R S) fun R S => evCode C n51_12 R S := ev_seq
@[simp] theorem en51_2 : evCode C n51_2 R S = seqK (evCode C n51_3 R S) fun R S => evCode C n51_10 R S := ev_seq
@[simp] theorem en51_0 : evCode C n51_0 R S = seqK (evCode C n51_1 R S) fun R S => evCode C n51_2 R S := ev_seq
theorem q51 {n : Nat} {args : List Value} {S : St} : calls table.find (n + 1) 51 args S = endK S [.tmp 6, .tmp 7] (evCode (calls table.find n) n51_0 (args ++ List.replicate (25 - args.length) undef) S.enter) := call_enter b51

/-! wainscot/wainscotref21.Key -/
@[simp] def l52_1 : List IOper := [oy 2 (.box 25 6 (.t 0)),
  oy 4 (.mv (.c (.int .u64 0)))]
def n52_1 : ICode := .region l52_1
@[simp] def l52_3 : List IOper := [oy 5 (.addOff 5 (.t 2)),
  oy 6 (.load false 1 (.t 5)),
  oy 7 (.mv (.t 1)),
  oy 8 (.conv .u64 (.t 7)),
  oy 9 (.bin .mul .int (.t 8) (.c (.int .u64 11400714819323198485))),
  oy 10 (.bin .add .int (.t 6) (.t 9)),
  oy 4 (.mv (.t 10))]
def n52_3 : ICode := .region l52_3
def n52_4 : ICode := .ret
def n52_2 : ICode := .seq n52_3 n52_4
def n52_0 : ICode := .seq n52_1 n52_2
theorem b52 : table.find 52 = some ⟨11, n52_0, [.tmp 4]⟩ := by kernel_rfl
@[simp] theorem en52_1 : evCode C n52_1 R S = regK (runOps C l52_1 R S) := ev_plain rfl
@[simp] theorem en52_3 : evCode C n52_3 R S = regK (runOps C l52_3 R S) := ev_plain rfl
@[simp] theorem en52_4 : evCode C n52_4 R S = some (.ret, R, S) := (rfl)
@[simp] theorem en52_2 : evCode C n52_2 R S = seqK (evCode C n52_3 R S) fun R S => evCode C n52_4 R S := ev_seq
@[simp] theorem en52_0 : evCode C n52_0 R S = seqK (evCode C n52_1 R S) fun R S => evCode C n52_2 R S := ev_seq
theorem q52 {n : Nat} {args : List Value} {S : St} : calls table.find (n + 1) 52 args S = endK S [.tmp 4] (evCode (calls table.find n) n52_0 (args ++ List.replicate (11 - args.length) undef) S.enter) := call_enter b52

/-! wainscot/wainscotref16.Hide -/
@[simp] def l53_1 : List IOper := [oy 6 (.mv (.c (.int .u64 0))),
  oy 7 (.mv (.c (.int .i64 0)))]
def n53_1 : ICode := .region l53_1
@[simp] def l53_4 : List IOper := [oy 8 (.mv (.t 0)),
  oy 9 (.bin .lss .int (.t 8) (.c (.int .i64 (-1)))),
  oy 10 (.mv (.t 9)),
  oz 11 10 false (.mv (.t 0)),
  oz 12 10 false (.bin .geq .int (.t 11) (.c (.int .i64 16))),
  oy 13 (.pick (.t 10) (.c (.bool true)) (.t 12)),
  oy 14 (.mv (.t 13)),
  oz 15 14 false (.mv (.t 2)),
  oz 16 14 false (.bin .lss .int (.t 15) (.c (.int .i64 0))),
  oy 17 (.pick (.t 14) (.c (.bool true)) (.t 16)),
  oy 18 (.mv (.t 17)),
  oz 19 18 false (.mv (.t 2)),
  oz 20 18 false (.bin .geq .int (.t 19) (.c (.int .i64 16))),
  oy 21 (.pick (.t 18) (.c (.bool true)) (.t 20))]
def n53_4 : ICode := .region l53_4
@[simp] def l53_7 : List IOper := [oy 6 (.mv (.c (.int .u64 0))),
  oy 7 (.mv (.c (.int .i64 2)))]
def n53_7 : ICode := .region l53_7
def n53_8 : ICode := .ret
def n53_6 : ICode := .seq n53_7 n53_8
def n53_9 : ICode := .skip
def n53_5 : ICode := .cond (.t 21) n53_6 n53_9
def n53_3 : ICode := .seq n53_4 n53_5
@[simp] def l53_11 : List IOper := [oy 22 (.mv (.t 0)),
  oy 23 (.bin .add .int (.t 22) (.c (.int .i64 1))),
  oy 24 (.conv .u64 (.t 23)),
  oy 25 (.mv (.t 1)),
  oy 26 (.mv (.t 2)),
  oy 27 (.call (.c (.func (.func 76) #[] #[])) [(.t 25), (.t 26)] true),
  oy 28 (.bin .xor .int (.t 24) (.t 27)),
  oy 6 (.mv (.t 28)),
  oy 7 (.mv (.c (.int .i64 0)))]
def n53_11 : ICode := .region l53_11
def n53_12 : ICode := .ret
def n53_10 : ICode := .seq n53_11 n53_12
def n53_2 : ICode := .seq n53_3 n53_10
def n53_0 : ICode := .seq n53_1 n53_2
theorem b53 : table.find 53 = some ⟨29, n53_0, [.tmp 6, .tmp 7]⟩ := by kernel_rfl
@[simp] theorem en53_1 : evCode C n53_1 R S = regK (runOps C l53_1 R S) := ev_plain rfl
@[simp] theorem en53_4 : evCode C n53_4 R S = regK (runOps C l53_4 R S) := ev_plain rfl
@[simp] theorem en53_7 : evCode C n53_7 R S = regK (runOps C l53_7 R S) := ev_plain rfl
@[simp] theorem en53_8 : evCode C n53_8 R S = some (.ret, R, S) := (rfl)
@[simp] theorem en53_6 : evCode C n53_6 R S = seqK (evCode C n53_7 R S) fun R S => evCode C n53_8 R S := ev_seq
@[simp] theorem en53_9 : evCode C n53_9 R S = some (.norm, R, S) := (rfl)
@[simp] theorem en53_5 : evCode C n53_5 R S = condK (IV.ev R (.t 21)) (fun _ => evCode C n53_6 R S) fun _ => evCode C n53_9 R S := ev_cond
@[simp] theorem en53_3 : evCode C n53_3 R S = seqK (evCode C n53_4 R S) fun R S => evCode C n53_5 R S := ev_seq
@[simp] theorem en53_11 : evCode C n53_11 R S = regK (runOps C l53_11 R S) := ev_plain rfl
@[simp] theorem en53_12 : evCode C n53_12 R S = some (.ret, R, S) := (rfl)
@[simp] theorem en53_10 : evCode C n53_10 R S = seqK (evCode C n53_11 R S) fun R S => evCode C n53_12 R S := ev_seq
@[simp] theorem en53_2 : evCode C n53_2 R S = seqK (evCode C n53_3 R S) fun R S => evCode C n53_10 R S := ev_seq
@[simp] theorem en53_0 : evCode C n53_0 R S = seqK (evCode C n53_1 R S) fun R S => evCode C n53_2 R S := ev_seq
theorem q53 {n : Nat} {args : List Value} {S : St} : calls table.find (n + 1) 53 args S = endK S [.tmp 6, .tmp 7] (evCode (calls table.find n) n53_0 (args ++ List.replicate (29 - args.length) undef) S.enter) := call_enter b53

/-! wainscot/wainscotref17.Head -/
@[simp] def l54_1 : List IOper := [oy 4 (.mv (.c (.int .u64 0))),
  oy 5 (.mv (.c (.int .i64 0)))]
def n54_1 : ICode := .region l54_1
@[simp] def l54_4 : List IOper := [oy 6 (.mv (.t 0)),
  oy 7 (.bin .eql .int (.t 6) (.c (.int .i64 (-1)))),
  oy 8 (.mv (.t 7)),
  oz 9 8 true (.mv (.t 1)),
  oz 10 8 true (.bin .eql .int (.t 9) (.c (.int .i64 (-1)))),
  oy 11 (.pick (.t 8) (.t 10) (.c (.bool false)))]
def n54_4 : ICode := .region l54_4
@[simp] def l54_7 : List IOper := [oy 4 (.mv (.c (.int .u64 0))),
  oy 5 (.mv (.c (.int .i64 0)))]
def n54_7 : ICode := .region l54_7
def n54_8 : ICode := .ret
def n54_6 : ICode := .seq n54_7 n54_8
def n54_9 : ICode := .skip
def n54_5 : ICode := .cond (.t 11) n54_6 n54_9
def n54_3 : ICode := .seq n54_4 n54_5
@[simp] def l54_12 : List IOper := [oy 12 (.mv (.t 0)),
  oy 13 (.bin .lss .int (.t 12) (.c (.int .i64 0))),
  oy 14 (.mv (.t 13)),
  oz 15 14 false (.mv (.t 0)),
  oz 16 14 false (.bin .geq .int (.t 15) (.c (.int .i64 32))),
  oy 17 (.pick (.t 14) (.c (.bool true)) (.t 16)),
  oy 18 (.mv (.t 17)),
  oz 19 18 false (.mv (.t 1)),
  oz 20 18 false (.bin .lss .int (.t 19) (.c (.int .i64 (-1)))),
  oy 21 (.pick (.t 18) (.c (.bool true)) (.t 20)),
  oy 22 (.mv (.t 21)),
  oz 23 22 false (.mv (.t 1)),
  oz 24 22 false (.bin .geq .int (.t 23) (.c (.int .i64 16))),
  oy 25 (.pick (.t 22) (.c (.bool true)) (.t 24))]
def n54_12 : ICode := .region l54_12
@[simp] def l54_15 : List IOper := [oy 4 (.mv (.c (.int .u64 0))),
  oy 5 (.mv (.c (.int .i64 2)))]
def n54_15 : ICode := .region l54_15
def n54_16 : ICode := .ret
def n54_14 : ICode := .seq n54_15 n54_16
def n54_17 : ICode := .skip
def n54_13 : ICode := .cond (.t 25) n54_14 n54_17
def n54_11 : ICode := .seq n54_12 n54_13
@[simp] def l54_19 : List IOper := [oy 26 (.mv (.t 0)),
  oy 27 (.bin .add .int (.t 26) (.c (.int .i64 1))),
  oy 28 (.bin .mul .int (.c (.int .i64 64)) (.t 27)),
  oy 29 (.mv (.t 1)),
  oy 30 (.bin .add .int (.t 28) (.t 29)),
  oy 31 (.bin .add .int (.t 30) (.c (.int .i64 1))),
  oy 32 (.conv .u64 (.t 31)),
  oy 4 (.mv (.t 32)),
  oy 5 (.mv (.c (.int .i64 0)))]
def n54_19 : ICode := .region l54_19
def n54_20 : ICode := .ret
def n54_18 : ICode := .seq n54_19 n54_20
def n54_10 : ICode := .seq n54_11 n54_18
def n54_2 : ICode := .seq n54_3 n54_10
def n54_0 : ICode := .seq n54_1 n54_2
theorem b54 : table.find 54 = some ⟨33, n54_0, [.tmp 4, .tmp 5]⟩ := by kernel_rfl
@[simp] theorem en54_1 : evCode C n54_1 R S = regK (runOps C l54_1 R S) := ev_plain rfl
@[simp] theorem en54_4 : evCode C n54_4 R S = regK (runOps C l54_4 R S) := ev_plain rfl
@[simp] theorem en54_7 : evCode C n54_7 R S = regK (runOps C l54_7 R S) := ev_plain rfl
@[simp] theorem en54_8 : evCode C n54_8 R S = some (.ret, R, S) := (rfl)
@[simp] theorem en54_6 : evCode C n54_6 R S = seqK (evCode C n54_7 R S) fun R S => evCode C n54_8 R S := ev_seq
@[simp] theorem en54_9 : evCode C n54_9 R S = some (.norm, R, S) := (rfl)
@[simp] theorem en54_5 : evCode C n54_5 R S = condK (IV.ev R (.t 11)) (fun _ => evCode C n54_6 R S) fun _ => evCode C n54_9 R S := ev_cond
@[simp] theorem en54_3 : evCode C n54_3 R S = seqK (evCode C n54_4 R S) fun R S => evCode C n54_5 R S := ev_seq
@[simp] theorem en54_12 : evCode C n54_12 R S = regK (runOps C l54_12 R S) := ev_plain rfl
@[simp] theorem en54_15 : evCode C n54_15 R S = regK (runOps C l54_15 R S) := ev_plain rfl
@[simp] theorem en54_16 : evCode C n54_16 R S = some (.ret, R, S) := (rfl)
@[simp] theorem en54_14 : evCode C n54_14 R S = seqK (evCode C n54_15 R S) fun R S => evCode C n54_16 R S := ev_seq
@[simp] theorem en54_17 : evCode C n54_17 R S = some (.norm, R, S) := (rfl)
@[simp] theorem en54_13 : evCode C n54_13 R S = condK (IV.ev R (.t 25)) (fun _ => evCode C n54_14 R S) fun _ => evCode C n54_17 R S := ev_cond
@[simp] theorem en54_11 : evCode C n54_11 R S = seqK (evCode C n54_12 R S) fun R S => evCode C n54_13 R S := ev_seq
@[simp] theorem en54_19 : evCode C n54_19 R S = regK (runOps C l54_19 R S) := ev_plain rfl
@[simp] theorem en54_20 : evCode C n54_20 R S = some (.ret, R, S) := (rfl)
@[simp] theorem en54_18 : evCode C n54_18 R S = seqK (evCode C n54_19 R S) fun R S => evCode C n54_20 R S := ev_seq
@[simp] theorem en54_10 : evCode C n54_10 R S = seqK (evCode C n54_11 R S) fun R S => evCode C n54_18 R S := ev_seq
@[simp] theorem en54_2 : evCode C n54_2 R S = seqK (evCode C n54_3 R S) fun R S => evCode C n54_10 R S := ev_seq
@[simp] theorem en54_0 : evCode C n54_0 R S = seqK (evCode C n54_1 R S) fun R S => evCode C n54_2 R S := ev_seq
theorem q54 {n : Nat} {args : List Value} {S : St} : calls table.find (n + 1) 54 args S = endK S [.tmp 4, .tmp 5] (evCode (calls table.find n) n54_0 (args ++ List.replicate (33 - args.length) undef) S.enter) := call_enter b54

/-! (*wainscot/wainscotref03.Mem).Cas2 -/
@[simp] def l55_1 : List IOper := [oy 12 (.mv (.c (.bool false))),
  oy 13 (.mv (.c (.int .i64 0)))]
def n55_1 : ICode := .region l55_1
@[simp] def l55_4 : List IOper := [oy 15 (.mv (.t 0)),
  oy 16 (.mv (.t 1)),
  oy 17 (.call (.c (.func (.func 37) #[] #[])) [(.t 15), (.t 16), (.c (.int .i64 2))] false),
  oy 14 (.mv (.t 17))]
def n55_4 : ICode := .region l55_4
@[simp] def l55_6 : List IOper := [oy 18 (.mv (.t 14)),
  oy 19 (.bin .neq .int (.t 18) (.c (.int .i64 0)))]
def n55_6 : ICode := .region l55_6
@[simp] def l55_9 : List IOper := [oy 20 (.mv (.t 14)),
  oy 12 (.mv (.c (.bool false))),
  oy 13 (.mv (.t 20))]
def n55_9 : ICode := .region l55_9
def n55_10 : ICode := .ret
def n55_8 : ICode := .seq n55_9 n55_10
def n55_11 : ICode := .skip
def n55_7 : ICode := .cond (.t 19) n55_8 n55_11
def n55_5 : ICode := .seq n55_6 n55_7
def n55_3 : ICode := .seq n55_4 n55_5
@[simp] def l55_14 : List IOper := [oy 21 (.mv (.t 0)),
  oy 22 (.nilCheck (.t 21)),
  oy 23 (.addOff 0 (.t 22)),
  oy 24 (.load false 1 (.t 23)),
  oy 25 (.mv (.t 1)),
  oy 26 (.idxS 1 (.t 24) (.t 25)),
  oy 27 (.load false 1 (.t 26)),
  oy 28 (.mv (.t 2)),
  oy 29 (.bin .neq .int (.t 27) (.t 28)),
  oy 30 (.mv (.t 29)),
  oz 31 30 false (.mv (.t 0)),
  oz 32 30 false (.nilCheck (.t 31)),
  oz 33 30 false (.addOff 0 (.t 32)),
  oz 34 30 false (.load false 1 (.t 33)),
  oz 35 30 false (.mv (.t 1)),
  oz 36 30 false (.bin .add .int (.t 35) (.c (.int .i64 1))),
  oz 37 30 false (.idxS 1 (.t 34) (.t 36)),
  oz 38 30 false (.load false 1 (.t 37)),
  oz 39 30 false (.mv (.t 3)),
  oz 40 30 false (.bin .neq .int (.t 38) (.t 39)),
  oy 41 (.pick (.t 30) (.c (.bool true)) (.t 40))]
def n55_14 : ICode := .region l55_14
@[simp] def l55_17 : List IOper := [oy 12 (.mv (.c (.bool false))),
  oy 13 (.mv (.c (.int .i64 0)))]
def n55_17 : ICode := .region l55_17
def n55_18 : ICode := .ret
def n55_16 : ICode := .seq n55_17 n55_18
def n55_19 : ICode := .skip
def n55_15 : ICode := .cond (.t 41) n55_16 n55_19
def n55_13 : ICode := .seq n55_14 n55_15
@[simp] def l55_21 : List IOper := [oy 42 (.mv (.t 0)),
  oy 43 (.nilCheck (.t 42)),
  oy 44 (.addOff 0 (.t 43)),
  oy 45 (.load false 1 (.t 44)),
  oy 46 (.mv (.t 1)),
  oy 47 (.mv (.t 4)),
  oy 48 (.idxS 1 (.t 45) (.t 46)),
  ox (.store 1 (.t 48) (.t 47))]
def n55_21 : ICode := .region l55_21
@[simp] def l55_23 : List IOper := [oy 49 (.mv (.t 0)),
  oy 50 (.nilCheck (.t 49)),
  oy 51 (.addOff 0 (.t 50)),
  oy 52 (.load false 1 (.t 51)),
  oy 53 (.mv (.t 1)),
  oy 54 (.bin .add .int (.t 53) (.c (.int .i64 1))),
  oy 55 (.mv (.t 5)),
  oy 56 (.idxS 1 (.t 52) (.t 54)),
  ox (.store 1 (.t 56) (.t 55))]
def n55_23 : ICode := .region l55_23
@[simp] def l55_25 : List IOper := [oy 12 (.mv (.c (.bool true))),
  oy 13 (.mv (.c (.int .i64 0)))]
def n55_25 : ICode := .region l55_25
def n55_26 : ICode := .ret
def n55_24 : ICode := .seq n55_25 n55_26
def n55_22 : ICode := .seq n55_23 n55_24
def n55_20 : ICode := .seq n55_21 n55_22
def n55_12 : ICode := .seq n55_13 n55_20
def n55_2 : ICode := .seq n55_3 n55_12
def n55_0 : ICode := .seq n55_1 n55_2
theorem b55 : table.find 55 = some ⟨57, n55_0, [.tmp 12, .tmp 13]⟩ := by kernel_rfl
@[simp] theorem en55_1 : evCode C n55_1 R S = regK (runOps C l55_1 R S) := ev_plain rfl
@[simp] theorem en55_4 : evCode C n55_4 R S = regK (runOps C l55_4 R S) := ev_plain rfl
@[simp] theorem en55_6 : evCode C n55_6 R S = regK (runOps C l55_6 R S) := ev_plain rfl
@[simp] theorem en55_9 : evCode C n55_9 R S = regK (runOps C l55_9 R S) := ev_plain rfl
@[simp] theorem en55_10 : evCode C n55_10 R S = some (.ret, R, S) := (rfl)
@[simp] theorem en55_8 : evCode C n55_8 R S = seqK (evCode C n55_9 R S) fun R S => evCode C n55_10 R S := ev_seq
@[simp] theorem en55_11 : evCode C n55_11 R S = some (.norm, R, S) := (rfl)
@[simp] theorem en55_7 : evCode C n55_7 R S = condK (IV.ev R (.t 19)) (fun _ => evCode C n55_8 R S) fun _ => evCode C n55_11 R S := ev_cond
@[simp] theorem en55_5 : evCode C n55_5 R S = seqK (evCode C n55_6 R S) fun R S => evCode C n55_7 R S := ev_seq
@[simp] theorem en55_3 : evCode C n55_3 R S = seqK (evCode C n55_4 R S) fun R S => evCode C n55_5 R S := ev_seq
@[simp] theorem en55_14 : evCode C n55_14 R S = regK (runOps C l55_14 R S) := ev_plain rfl
@[simp] theorem en55_17 : evCode C n55_17 R S = regK (runOps C l55_17 R S) := ev_plain rfl
@[simp] theorem en55_18 : evCode C n55_18 R S = some (.ret, R, S) := (rfl)
@[simp] theorem en55_16 : evCode C n55_16 R S = seqK (evCode C n55_17 R S) fun R S => evCode C n55_18 R S := ev_seq
@[simp] theorem en55_19 : evCode C n55_19 R S = some (.norm, R, S) := (rfl)
@[simp] theorem en55_15 : evCode C n55_15 R S = condK (IV.ev R (.t 41)) (fun _ => evCode C n55_16 R S) fun _ => evCode C n55_19 R S := ev_cond
@[simp] theorem en55_13 : evCode C n55_13 R S = seqK (evCode C n55_14 R S) fun R S => evCode C n55_15 R S := ev_seq
@[simp] theorem en55_21 : evCode C n55_21 R S = regK (runOps C l55_21 R S) := ev_plain rfl
@[simp] theorem en55_23 : evCode C n55_23 R S = regK (runOps C l55_23 R S) := ev_plain rfl
@[simp] theorem en55_25 : evCode C n55_25 R S = regK (runOps C l55_25 R S) := ev_plain rfl
@[simp] theorem en55_26 : evCode C n55_26 R S = some (.ret, R, S) := (rfl)
@[simp] theorem en55_24 : evCode C n55_24 R S = seqK (evCode C n55_25 R S) fun R S => evCode C n55_26 R S := ev_seq
@[simp] theorem en55_22 : evCode C n55_22 R S = seqK (evCode C n55_23 R S) fun R S => evCode C n55_24 R S := ev_seq
@[simp] theorem en55_20 : evCode C n55_20 R S = seqK (evCode C n55_21 R S) fun R S => evCode C n55_22 R S := ev_seq
@[simp] theorem en55_12 : evCode C n55_12 R S = seqK (evCode C n55_13 R S) fun R S => evCode C n55_20 R S := ev_seq
@[simp] theorem en55_2 : evCode C n55_2 R S = seqK (evCode C n55_3 R S) fun R S => evCode C n55_12 R S := ev_seq
@[simp] theorem en55_0 : evCode C n55_0 R S = seqK (evCode C n55_1 R S) fun R S => evCode C n55_2 R S := ev_seq
theorem q55 {n : Nat} {args : List Value} {S : St} : calls table.find (n + 1) 55 args S = endK S [.tmp 12, .tmp 13] (evCode (calls table.find n) n55_0 (args ++ List.replicate (57 - args.length) undef) S.enter) := call_enter b55

/-! (*wainscot/fast.step).load -/
@[simp] def l65_1 : List IOper := [oy 4 (.mv (.c (.int .u64 0)))]
def n65_1 : ICode := .region l65_1
@[simp] def l65_3 : List IOper := [oy 8 (.mv (.t 0)),
  oy 9 (.nilCheck (.t 8)),
  oy 10 (.addOff 0 (.t 9)),
  oy 11 (.load false 1 (.t 10)),
  oy 12 (.mv (.t 1)),
  oy 13 (.call (.c (.func (.func 93) #[] #[])) [(.t 11), (.t 12)] false),
  oy 7 (.mv (.t 13)),
  oy 14 (.extract (.t 7) 0),
  oy 15 (.extract (.t 7) 1),
  oy 5 (.mv (.t 14)),
  oy 6 (.mv (.t 15))]
def n65_3 : ICode := .region l65_3
@[simp] def l65_5 : List IOper := [oy 16 (.mv (.t 0)),
  oy 17 (.mv (.t 6)),
  oy 18 (.bin .eql .int (.t 17) (.c (.int .i64 0))),
  oy 19 (.call (.c (.func (.func 72) #[] #[])) [(.t 16), (.t 18)] false)]
def n65_5 : ICode := .region l65_5
@[simp] def l65_7 : List IOper := [oy 20 (.mv (.t 5)),
  oy 4 (.mv (.t 20))]
def n65_7 : ICode := .region l65_7
def n65_8 : ICode := .ret
def n65_6 : ICode := .seq n65_7 n65_8
def n65_4 : ICode := .seq n65_5 n65_6
def n65_2 : ICode := .seq n65_3 n65_4
def n65_0 : ICode := .seq n65_1 n65_2
theorem b65 : table.find 65 = some ⟨21, n65_0, [.tmp 4]⟩ := by kernel_rfl
@[simp] theorem en65_1 : evCode C n65_1 R S = regK (runOps C l65_1 R S) := ev_plain rfl
@[simp] theorem en65_3 : evCode C n65_3 R S = regK (runOps C l65_3 R S) := ev_plain rfl
@[simp] theorem en65_5 : evCode C n65_5 R S = regK (runOps C l65_5 R S) := ev_plain rfl
@[simp] theorem en65_7 : evCode C n65_7 R S = regK (runOps C l65_7 R S) := ev_plain rfl
@[simp] theorem en65_8 : evCode C n65_8 R S = some (.ret, R, S) := (rfl)
@[simp] theorem en65_6 : evCode C n65_6 R S = seqK (evCode C n65_7 R S) fun R S => evCode C n65_8 R S := ev_seq
@[simp] theorem en65_4 : evCode C n65_4 R S = seqK (evCode C n65_5 R S) fun R S => evCode C n65_6 R S := ev_seq
@[simp] theorem en65_2 : evCode C n65_2 R S = seqK (evCode C n65_3 R S) fun R S => evCode C n65_4 R S := ev_seq
@[simp] theorem en65_0 : evCode C n65_0 R S = seqK (evCode C n65_1 R S) fun R S => evCode C n65_2 R S := ev_seq
theorem q65 {n : Nat} {args : List Value} {S : St} : calls table.find (n + 1) 65 args S = endK S [.tmp 4] (evCode (calls table.find n) n65_0 (args ++ List.replicate (21 - args.length) undef) S.enter) := call_enter b65

/-! (*wainscot/fast.step).to -/
@[simp] def l67_0 : List IOper := [oy 4 (.mv (.t 0)),
  oy 5 (.mv (.t 1)),
  oy 6 (.nilCheck (.t 4)),
  oy 7 (.addOff 7 (.t 6)),
  oy 8 (.addOff 2 (.t 7)),
  ox (.store 1 (.t 8) (.t 5))]
def n67_0 : ICode := .region l67_0
theorem b67 : table.find 67 = some ⟨9, n67_0, []⟩ := by kernel_rfl
@[simp] theorem en67_0 : evCode C n67_0 R S = regK (runOps C l67_0 R S) := ev_plain rfl
theorem q67 {n : Nat} {args : List Value} {S : St} : calls table.find (n + 1) 67 args S = endK S [] (evCode (calls table.find n) n67_0 (args ++ List.replicate (9 - args.length) undef) S.enter) := call_enter b67

/-! (*wainscot/fast.step).head -/
@[simp] def l68_1 : List IOper := [oy 2 (.mv (.c (.int .i64 0))),
  oy 3 (.mv (.c (.int .i64 0)))]
def n68_1 : ICode := .region l68_1
@[simp] def l68_3 : List IOper := [oy 5 (.mv (.t 0)),
  oy 6 (.mv (.t 0)),
  oy 7 (.mv (.t 0)),
  oy 8 (.nilCheck (.t 7)),
  oy 9 (.addOff 1 (.t 8)),
  oy 10 (.load true 6 (.t 9)),
  oy 11 (.mv (.t 0)),
  oy 12 (.nilCheck (.t 11)),
  oy 13 (.addOff 7 (.t 12)),
  oy 14 (.addOff 1 (.t 13)),
  oy 15 (.load false 1 (.t 14)),
  oy 16 (.call (.c (.func (.func 62) #[] #[])) [(.t 10), (.t 15)] true),
  oy 17 (.call (.c (.func (.func 65) #[] #[])) [(.t 6), (.t 16)] false),
  oy 18 (.nilCheck (.t 5)),
  oy 19 (.addOff 7 (.t 18)),
  oy 20 (.addOff 7 (.t 19)),
  ox (.store 1 (.t 20) (.t 17))]
def n68_3 : ICode := .region l68_3
@[simp] def l68_5 : List IOper := [oy 22 (.mv (.t 0)),
  oy 23 (.nilCheck (.t 22)),
  oy 24 (.addOff 7 (.t 23)),
  oy 25 (.addOff 7 (.t 24)),
  oy 26 (.load false 1 (.t 25)),
  oy 27 (.call (.c (.func (.func 94) #[] #[])) [(.t 26)] true),
  oy 21 (.mv (.t 27)),
  oy 28 (.extract (.t 21) 0),
  oy 29 (.extract (.t 21) 1),
  oy 30 (.extract (.t 21) 2),
  oy 2 (.mv (.t 28)),
  oy 3 (.mv (.t 29)),
  oy 4 (.mv (.t 30))]
def n68_5 : ICode := .region l68_5
@[simp] def l68_7 : List IOper := [oy 31 (.mv (.t 0)),
  oy 32 (.mv (.t 4)),
  oy 33 (.mv (.t 32)),
  oz 34 33 true (.mv (.t 2)),
  oz 35 33 true (.mv (.t 0)),
  oz 36 33 true (.nilCheck (.t 35)),
  oz 37 33 true (.addOff 1 (.t 36)),
  oz 38 33 true (.addOff 1 (.t 37)),
  oz 39 33 true (.load false 1 (.t 38)),
  oz 40 33 true (.bin .lss .int (.t 34) (.t 39)),
  oy 41 (.pick (.t 33) (.t 40) (.c (.bool false))),
  oy 42 (.mv (.t 41)),
  oz 43 42 true (.mv (.t 3)),
  oz 44 42 true (.mv (.t 0)),
  oz 45 42 true (.nilCheck (.t 44)),
  oz 46 42 true (.addOff 1 (.t 45)),
  oz 47 42 true (.addOff 2 (.t 46)),
  oz 48 42 true (.load false 1 (.t 47)),
  oz 49 42 true (.bin .lss .int (.t 43) (.t 48)),
  oy 50 (.pick (.t 42) (.t 49) (.c (.bool false))),
  oy 51 (.call (.c (.func (.func 72) #[] #[])) [(.t 31), (.t 50)] false)]
def n68_7 : ICode := .region l68_7
@[simp] def l68_9 : List IOper := [oy 52 (.mv (.t 2)),
  oy 53 (.mv (.t 3)),
  oy 2 (.mv (.t 52)),
  oy 3 (.mv (.t 53))]
def n68_9 : ICode := .region l68_9
def n68_10 : ICode := .ret
def n68_8 : ICode := .seq n68_9 n68_10
def n68_6 : ICode := .seq n68_7 n68_8
def n68_4 : ICode := .seq n68_5 n68_6
def n68_2 : ICode := .seq n68_3 n68_4
def n68_0 : ICode := .seq n68_1 n68_2
theorem b68 : table.find 68 = some ⟨54, n68_0, [.tmp 2, .tmp 3]⟩ := by kernel_rfl
@[simp] theorem en68_1 : evCode C n68_1 R S = regK (runOps C l68_1 R S) := ev_plain rfl
@[simp] theorem en68_3 : evCode C n68_3 R S = regK (runOps C l68_3 R S) := ev_plain rfl
@[simp] theorem en68_5 : evCode C n68_5 R S = regK (runOps C l68_5 R S) := ev_plain rfl
@[simp] theorem en68_7 : evCode C n68_7 R S = regK (runOps C l68_7 R S) := ev_plain rfl
@[simp] theorem en68_9 : evCode C n68_9 R S = regK (runOps C l68_9 R S) := ev_plain rfl
@[simp] theorem en68_10 : evCode C n68_10 R S = some (.ret, R, S) := (rfl)
@[simp] theorem en68_8 : evCode C n68_8 R S = seqK (evCode C n68_9 R S) fun R S => evCode C n68_10 R S := ev_seq
@[simp] theorem en68_6 : evCode C n68_6 R S = seqK (evCode C n68_7 R S) fun R S => evCode C n68_8 R S := ev_seq
@[simp] theorem en68_4 : evCode C n68_4 R S = seqK (evCode C n68_5 R S) fun R S => evCode C n68_6 R S := ev_seq
@[simp] theorem en68_2 : evCode C n68_2 R S = seqK (evCode C n68_3 R S) fun R S => evCode C n68_4 R S := ev_seq
@[simp] theorem en68_0 : evCode C n68_0 R S = seqK (evCode C n68_1 R S) fun R S => evCode C n68_2 R S := ev_seq
theorem q68 {n : Nat} {args : List Value} {S : St} : calls table.find (n + 1) 68 args S = endK S [.tmp 2, .tmp 3] (evCode (calls table.find n) n68_0 (args ++ List.replicate (54 - args.length) undef) S.enter) := call_enter b68

/-! (*wainscot/fast.step).swap -/
@[simp] def l70_1 : List IOper := [oy 9 (.mv (.t 0)),
  oy 10 (.nilCheck (.t 9)),
  oy 11 (.addOff 7 (.t 10)),
  oy 12 (.addOff 5 (.t 11)),
  oy 13 (.load false 1 (.t 12)),
  oy 14 (.mv (.t 1)),
  oy 15 (.call (.c (.func (.func 60) #[] #[])) [(.t 13), (.t 14)] true),
  oy 8 (.mv (.t 15)),
  oy 16 (.extract (.t 8) 0),
  oy 17 (.extract (.t 8) 1),
  oy 6 (.mv (.t 16)),
  oy 7 (.mv (.t 17))]
def n70_1 : ICode := .region l70_1
@[simp] def l70_3 : List IOper := [oy 18 (.mv (.t 0)),
  oy 19 (.mv (.t 7)),
  oy 20 (.bin .eql .int (.t 19) (.c (.int .i64 0))),
  oy 21 (.call (.c (.func (.func 72) #[] #[])) [(.t 18), (.t 20)] false)]
def n70_3 : ICode := .region l70_3
@[simp] def l70_6 : List IOper := [oy 22 (.mv (.t 0)),
  oy 23 (.nilCheck (.t 22)),
  oy 24 (.addOff 24 (.t 23)),
  oy 25 (.load false 1 (.t 24))]
def n70_6 : ICode := .region l70_6
def n70_8 : ICode := .ret
def n70_9 : ICode := .skip
def n70_7 : ICode := .cond (.t 25) n70_8 n70_9
def n70_5 : ICode := .seq n70_6 n70_7
@[simp] def l70_12 : List IOper := [oy 26 (.mv (.t 0)),
  oy 27 (.mv (.t 0)),
  oy 28 (.nilCheck (.t 27)),
  oy 29 (.addOff 1 (.t 28)),
  oy 30 (.load true 6 (.t 29)),
  oy 31 (.mv (.t 0)),
  oy 32 (.nilCheck (.t 31)),
  oy 33 (.addOff 7 (.t 32)),
  oy 34 (.addOff 1 (.t 33)),
  oy 35 (.load false 1 (.t 34)),
  oy 36 (.call (.c (.func (.func 62) #[] #[])) [(.t 30), (.t 35)] true),
  oy 37 (.mv (.t 0)),
  oy 38 (.nilCheck (.t 37)),
  oy 39 (.addOff 7 (.t 38)),
  oy 40 (.addOff 7 (.t 39)),
  oy 41 (.load false 1 (.t 40)),
  oy 42 (.mv (.t 0)),
  oy 43 (.nilCheck (.t 42)),
  oy 44 (.addOff 7 (.t 43)),
  oy 45 (.addOff 8 (.t 44)),
  oy 46 (.load false 1 (.t 45)),
  oy 47 (.mv (.t 6)),
  oy 48 (.mv (.t 0)),
  oy 49 (.nilCheck (.t 48)),
  oy 50 (.addOff 7 (.t 49)),
  oy 51 (.addOff 8 (.t 50)),
  oy 52 (.load false 1 (.t 51)),
  oy 53 (.bin .add .int (.t 52) (.c (.int .u64 1))),
  oy 54 (.call (.c (.func (.func 96) #[] #[])) [(.t 26), (.t 36), (.t 41), (.t 46), (.t 47), (.t 53)] false)]
def n70_12 : ICode := .region l70_12
@[simp] def l70_15 : List IOper := [oy 55 (.mv (.t 0)),
  oy 56 (.nilCheck (.t 55)),
  oy 57 (.addOff 7 (.t 56)),
  oy 58 (.addOff 3 (.t 57)),
  ox (.store 1 (.t 58) (.c (.int .i64 1)))]
def n70_15 : ICode := .region l70_15
def n70_16 : ICode := .ret
def n70_14 : ICode := .seq n70_15 n70_16
def n70_17 : ICode := .skip
def n70_13 : ICode := .cond (.t 54) n70_14 n70_17
def n70_11 : ICode := .seq n70_12 n70_13
@[simp] def l70_18 : List IOper := [oy 59 (.mv (.t 0)),
  oy 60 (.mv (.t 2)),
  oy 61 (.call (.c (.func (.func 67) #[] #[])) [(.t 59), (.t 60)] false)]
def n70_18 : ICode := .region l70_18
def n70_10 : ICode := .seq n70_11 n70_18
def n70_4 : ICode := .seq n70_5 n70_10
def n70_2 : ICode := .seq n70_3 n70_4
def n70_0 : ICode := .seq n70_1 n70_2
theorem b70 : table.find 70 = some ⟨62, n70_0, []⟩ := by kernel_rfl
@[simp] theorem en70_1 : evCode C n70_1 R S = regK (runOps C l70_1 R S) := ev_plain rfl
@[simp] theorem en70_3 : evCode C n70_3 R S = regK (runOps C l70_3 R S) := ev_plain rfl
@[simp] theorem en70_6 : evCode C n70_6 R S = regK (runOps C l70_6 R S) := ev_plain rfl
@[simp] theorem en70_8 : evCode C n70_8 R S = some (.ret, R, S) := (rfl)
@[simp] theorem en70_9 : evCode C n70_9 R S = some (.norm, R, S) := (rfl)
@[simp] theorem en70_7 : evCode C n70_7 R S = condK (IV.ev R (.t 25)) (fun _ => evCode C n70_8 R S) fun _ => evCode C n70_9 R S := ev_cond
@[simp] theorem en70_5 : evCode C n70_5 R S = seqK (evCode C n70_6 R S) fun R S => evCode C n70_7 R S := ev_seq
@[simp] theorem en70_12 : evCode C n70_12 R S = regK (runOps C l70_12 R S) := ev_plain rfl
@[simp] theorem en70_15 : evCode C n70_15 R S = regK (runOps C l70_15 R S) := ev_plain rfl
@[simp] theorem en70_16 : evCode C n70_16 R S = some (.ret, R, S) := (rfl)
@[simp] theorem en70_14 : evCode C n70_14 R S = seqK (evCode C n70_15 R S) fun R S => evCode C n70_16 R S := ev_seq
@[simp] theorem en70_17 : evCode C n70_17 R S = some (.norm, R, S) := (rfl)
@[simp] theorem en70_13 : evCode C n70_13 R S = condK (IV.ev R (.t 54)) (fun _ => evCode C n70_14 R S) fun _ => evCode C n70_17 R S := ev_cond
@[simp] theorem en70_11 : evCode C n70_11 R S = seqK (evCode C n70_12 R S) fun R S => evCode C n70_13 R S := ev_seq
@[simp] theorem en70_18 : evCode C n70_18 R S = regK (runOps C l70_18 R S) := ev_plain rfl
@[simp] theorem en70_10 : evCode C n70_10 R S = seqK (evCode C n70_11 R S) fun R S => evCode C n70_18 R S := ev_seq
@[simp] theorem en70_4 : evCode C n70_4 R S = seqK (evCode C n70_5 R S) fun R S => evCode C n70_10 R S := ev_seq
@[simp] theorem en70_2 : evCode C n70_2 R S = seqK (evCode C n70_3 R S) fun R S => evCode C n70_4 R S := ev_seq
@[simp] theorem en70_0 : evCode C n70_0 R S = seqK (evCode C n70_1 R S) fun R S => evCode C n70_2 R S := ev_seq
theorem q70 {n : Nat} {args : List Value} {S : St} : calls table.find (n + 1) 70 args S = endK S [] (evCode (calls table.find n) n70_0 (args ++ List.replicate (62 - args.length) undef) S.enter) := call_enter b70

/-! (*wainscot/fast.step).must -/
@[simp] def l72_0 : List IOper := [oy 4 (.mv (.t 0)),
  oy 5 (.mv (.t 0)),
  oy 6 (.nilCheck (.t 5)),
  oy 7 (.addOff 24 (.t 6)),
  oy 8 (.load false 1 (.t 7)),
  oy 9 (.mv (.t 8)),
  oz 10 9 false (.mv (.t 1)),
  oz 11 9 false (.un .not (.t 10)),
  oy 12 (.pick (.t 9) (.c (.bool true)) (.t 11)),
  oy 13 (.nilCheck (.t 4)),
  oy 14 (.addOff 24 (.t 13)),
  ox (.store 1 (.t 14) (.t 12))]
def n72_0 : ICode := .region l72_0
theorem b72 : table.find 72 = some ⟨15, n72_0, []⟩ := by kernel_rfl
@[simp] theorem en72_0 : evCode C n72_0 R S = regK (runOps C l72_0 R S) := ev_plain rfl
theorem q72 {n : Nat} {args : List Value} {S : St} : calls table.find (n + 1) 72 args S = endK S [] (evCode (calls table.find n) n72_0 (args ++ List.replicate (15 - args.length) undef) S.enter) := call_enter b72

/-! (*wainscot/fast.step).store -/
@[simp] def l73_0 : List IOper := [oy 6 (.mv (.t 0)),
  oy 7 (.mv (.t 0)),
  oy 8 (.nilCheck (.t 7)),
  oy 9 (.addOff 0 (.t 8)),
  oy 10 (.load false 1 (.t 9)),
  oy 11 (.mv (.t 1)),
  oy 12 (.mv (.t 2)),
  oy 13 (.call (.c (.func (.func 15) #[] #[])) [(.t 10), (.t 11), (.t 12)] false),
  oy 14 (.bin .eql .int (.t 13) (.c (.int .i64 0))),
  oy 15 (.call (.c (.func (.func 72) #[] #[])) [(.t 6), (.t 14)] false)]
def n73_0 : ICode := .region l73_0
theorem b73 : table.find 73 = some ⟨16, n73_0, []⟩ := by kernel_rfl
@[simp] theorem en73_0 : evCode C n73_0 R S = regK (runOps C l73_0 R S) := ev_plain rfl
theorem q73 {n : Nat} {args : List Value} {S : St} : calls table.find (n + 1) 73 args S = endK S [] (evCode (calls table.find n) n73_0 (args ++ List.replicate (16 - args.length) undef) S.enter) := call_enter b73

/-! wainscot/wainscotref21.within -/
@[simp] def l74_1 : List IOper := [oy 4 (.mv (.c (.bool false)))]
def n74_1 : ICode := .region l74_1
@[simp] def l74_3 : List IOper := [oy 5 (.mv (.t 0)),
  oy 6 (.bin .geq .int (.t 5) (.c (.int .i64 0))),
  oy 7 (.mv (.t 6)),
  oz 8 7 true (.mv (.t 0)),
  oz 9 7 true (.mv (.t 1)),
  oz 10 7 true (.bin .lss .int (.t 8) (.t 9)),
  oy 11 (.pick (.t 7) (.t 10) (.c (.bool false))),
  oy 4 (.mv (.t 11))]
def n74_3 : ICode := .region l74_3
def n74_4 : ICode := .ret
def n74_2 : ICode := .seq n74_3 n74_4
def n74_0 : ICode := .seq n74_1 n74_2
theorem b74 : table.find 74 = some ⟨12, n74_0, [.tmp 4]⟩ := by kernel_rfl
@[simp] theorem en74_1 : evCode C n74_1 R S = regK (runOps C l74_1 R S) := ev_plain rfl
@[simp] theorem en74_3 : evCode C n74_3 R S = regK (runOps C l74_3 R S) := ev_plain rfl
@[simp] theorem en74_4 : evCode C n74_4 R S = some (.ret, R, S) := (rfl)
@[simp] theorem en74_2 : evCode C n74_2 R S = seqK (evCode C n74_3 R S) fun R S => evCode C n74_4 R S := ev_seq
@[simp] theorem en74_0 : evCode C n74_0 R S = seqK (evCode C n74_1 R S) fun R S => evCode C n74_2 R S := ev_seq
theorem q74 {n : Nat} {args : List Value} {S : St} : calls table.find (n + 1) 74 args S = endK S [.tmp 4] (evCode (calls table.find n) n74_0 (args ++ List.replicate (12 - args.length) undef) S.enter) := call_enter b74

/-! wainscot/wainscotref17.HeadOf -/
@[simp] def l75_1 : List IOper := [oy 2 (.mv (.c (.int .i64 0))),
  oy 3 (.mv (.c (.int .i64 0))),
  oy 4 (.mv (.c (.bool false)))]
def n75_1 : ICode := .region l75_1
@[simp] def l75_4 : List IOper := [oy 5 (.mv (.c (.int .i64 (-1))))]
def n75_4 : ICode := .region l75_4
@[simp] def l75_8 : List IOper := [oy 9 (.mv (.t 5)),
  oy 10 (.bin .lss .int (.t 9) (.c (.int .i64 32)))]
def n75_8 : ICode := .region l75_8
def n75_10 : ICode := .skip
def n75_11 : ICode := .exit 0
def n75_9 : ICode := .cond (.t 10) n75_10 n75_11
def n75_7 : ICode := .seq n75_8 n75_9
@[simp] def l75_15 : List IOper := [oy 6 (.mv (.c (.int .i64 (-1))))]
def n75_15 : ICode := .region l75_15
@[simp] def l75_19 : List IOper := [oy 13 (.mv (.t 6)),
  oy 14 (.bin .lss .int (.t 13) (.c (.int .i64 16)))]
def n75_19 : ICode := .region l75_19
def n75_21 : ICode := .skip
def n75_22 : ICode := .exit 2
def n75_20 : ICode := .cond (.t 14) n75_21 n75_22
def n75_18 : ICode := .seq n75_19 n75_20
@[simp] def l75_26 : List IOper := [oy 18 (.mv (.t 5)),
  oy 19 (.mv (.t 6)),
  oy 20 (.call (.c (.func (.func 54) #[] #[])) [(.t 18), (.t 19)] true),
  oy 17 (.mv (.t 20)),
  oy 21 (.extract (.t 17) 0),
  oy 22 (.extract (.t 17) 1),
  oy 7 (.mv (.t 21)),
  oy 8 (.mv (.t 22))]
def n75_26 : ICode := .region l75_26
@[simp] def l75_28 : List IOper := [oy 23 (.mv (.t 8)),
  oy 24 (.bin .eql .int (.t 23) (.c (.int .i64 0))),
  oy 25 (.mv (.t 24)),
  oz 26 25 true (.mv (.t 7)),
  oz 27 25 true (.mv (.t 0)),
  oz 28 25 true (.bin .eql .int (.t 26) (.t 27)),
  oy 29 (.pick (.t 25) (.t 28) (.c (.bool false)))]
def n75_28 : ICode := .region l75_28
@[simp] def l75_31 : List IOper := [oy 30 (.mv (.t 5)),
  oy 31 (.mv (.t 6)),
  oy 2 (.mv (.t 30)),
  oy 3 (.mv (.t 31)),
  oy 4 (.mv (.c (.bool true)))]
def n75_31 : ICode := .region l75_31
def n75_32 : ICode := .ret
def n75_30 : ICode := .seq n75_31 n75_32
def n75_33 : ICode := .skip
def n75_29 : ICode := .cond (.t 29) n75_30 n75_33
def n75_27 : ICode := .seq n75_28 n75_29
def n75_25 : ICode := .seq n75_26 n75_27
def n75_24 : ICode := .block 3 n75_25
@[simp] def l75_34 : List IOper := [oy 15 (.mv (.t 6)),
  oy 16 (.bin .add .int (.t 15) (.c (.int .i64 1))),
  oy 6 (.mv (.t 16))]
def n75_34 : ICode := .region l75_34
def n75_23 : ICode := .seq n75_24 n75_34
def n75_17 : ICode := .seq n75_18 n75_23
def loop75_1 : ICode := .loop n75_17
def n75_16 : ICode := .block 2 loop75_1
def n75_14 : ICode := .seq n75_15 n75_16
def n75_13 : ICode := .block 1 n75_14
@[simp] def l75_35 : List IOper := [oy 11 (.mv (.t 5)),
  oy 12 (.bin .add .int (.t 11) (.c (.int .i64 1))),
  oy 5 (.mv (.t 12))]
def n75_35 : ICode := .region l75_35
def n75_12 : ICode := .seq n75_13 n75_35
def n75_6 : ICode := .seq n75_7 n75_12
def loop75_0 : ICode := .loop n75_6
def n75_5 : ICode := .block 0 loop75_0
def n75_3 : ICode := .seq n75_4 n75_5
@[simp] def l75_37 : List IOper := [oy 2 (.mv (.c (.int .i64 (-1)))),
  oy 3 (.mv (.c (.int .i64 (-1)))),
  oy 4 (.mv (.c (.bool false)))]
def n75_37 : ICode := .region l75_37
def n75_38 : ICode := .ret
def n75_36 : ICode := .seq n75_37 n75_38
def n75_2 : ICode := .seq n75_3 n75_36
def n75_0 : ICode := .seq n75_1 n75_2
theorem b75 : table.find 75 = some ⟨32, n75_0, [.tmp 2, .tmp 3, .tmp 4]⟩ := by kernel_rfl
@[simp] theorem en75_1 : evCode C n75_1 R S = regK (runOps C l75_1 R S) := ev_plain rfl
@[simp] theorem en75_4 : evCode C n75_4 R S = regK (runOps C l75_4 R S) := ev_plain rfl
@[simp] theorem en75_8 : evCode C n75_8 R S = regK (runOps C l75_8 R S) := ev_plain rfl
@[simp] theorem en75_10 : evCode C n75_10 R S = some (.norm, R, S) := (rfl)
@[simp] theorem en75_11 : evCode C n75_11 R S = some (.exit 0, R, S) := (rfl)
@[simp] theorem en75_9 : evCode C n75_9 R S = condK (IV.ev R (.t 10)) (fun _ => evCode C n75_10 R S) fun _ => evCode C n75_11 R S := ev_cond
@[simp] theorem en75_7 : evCode C n75_7 R S = seqK (evCode C n75_8 R S) fun R S => evCode C n75_9 R S := ev_seq
@[simp] theorem en75_15 : evCode C n75_15 R S = regK (runOps C l75_15 R S) := ev_plain rfl
@[simp] theorem en75_19 : evCode C n75_19 R S = regK (runOps C l75_19 R S) := ev_plain rfl
@[simp] theorem en75_21 : evCode C n75_21 R S = some (.norm, R, S) := (rfl)
@[simp] theorem en75_22 : evCode C n75_22 R S = some (.exit 2, R, S) := (rfl)
@[simp] theorem en75_20 : evCode C n75_20 R S = condK (IV.ev R (.t 14)) (fun _ => evCode C n75_21 R S) fun _ => evCode C n75_22 R S := ev_cond
@[simp] theorem en75_18 : evCode C n75_18 R S = seqK (evCode C n75_19 R S) fun R S => evCode C n75_20 R S := ev_seq
@[simp] theorem en75_26 : evCode C n75_26 R S = regK (runOps C l75_26 R S) := ev_plain rfl
@[simp] theorem en75_28 : evCode C n75_28 R S = regK (runOps C l75_28 R S) := ev_plain rfl
@[simp] theorem en75_31 : evCode C n75_31 R S = regK (runOps C l75_31 R S) := ev_plain rfl
@[simp] theorem en75_32 : evCode C n75_32 R S = some (.ret, R, S) := (rfl)
@[simp] theorem en75_30 : evCode C n75_30 R S = seqK (evCode C n75_31 R S) fun R S => evCode C n75_32 R S := ev_seq
@[simp] theorem en75_33 : evCode C n75_33 R S = some (.norm, R, S) := (rfl)
@[simp] theorem en75_29 : evCode C n75_29 R S = condK (IV.ev R (.t 29)) (fun _ => evCode C n75_30 R S) fun _ => evCode C n75_33 R S := ev_cond
@[simp] theorem en75_27 : evCode C n75_27 R S = seqK (evCode C n75_28 R S) fun R S => evCode C n75_29 R S := ev_seq
@[simp] theorem en75_25 : evCode C n75_25 R S = seqK (evCode C n75_26 R S) fun R S => evCode C n75_27 R S := ev_seq
@[simp] theorem en75_24 : evCode C n75_24 R S = blockK 3 (evCode C n75_25 R S) := ev_block
@[simp] theorem en75_34 : evCode C n75_34 R S = regK (runOps C l75_34 R S) := ev_plain rfl
@[simp] theorem en75_23 : evCode C n75_23 R S = seqK (evCode C n75_24 R S) fun R S => evCode C n75_34 R S := ev_seq
@[simp] theorem en75_17 : evCode C n75_17 R S = seqK (evCode C n75_18 R S) fun R S => evCode C n75_23 R S := ev_seq
theorem eloop75_1 : evCode C loop75_1 R S = iter (fun R S => evCode C n75_17 R S) rounds R S := (rfl)
@[simp] theorem en75_16 : evCode C n75_16 R S = blockK 2 (evCode C loop75_1 R S) := ev_block
@[simp] theorem en75_14 : evCode C n75_14 R S = seqK (evCode C n75_15 R S) fun R S => evCode C n75_16 R S := ev_seq
@[simp] theorem en75_13 : evCode C n75_13 R S = blockK 1 (evCode C n75_14 R S) := ev_block
@[simp] theorem en75_35 : evCode C n75_35 R S = regK (runOps C l75_35 R S) := ev_plain rfl
@[simp] theorem en75_12 : evCode C n75_12 R S = seqK (evCode C n75_13 R S) fun R S => evCode C n75_35 R S := ev_seq
@[simp] theorem en75_6 : evCode C n75_6 R S = seqK (evCode C n75_7 R S) fun R S => evCode C n75_12 R S := ev_seq
theorem eloop75_0 : evCode C loop75_0 R S = iter (fun R S => evCode C n75_6 R S) rounds R S := (rfl)
@[simp] theorem en75_5 : evCode C n75_5 R S = blockK 0 (evCode C loop75_0 R S) := ev_block
@[simp] theorem en75_3 : evCode C n75_3 R S = seqK (evCode C n75_4 R S) fun R S => evCode C n75_5 R S := ev_seq
@[simp] theorem en75_37 : evCode C n75_37 R S = regK (runOps C l75_37 R S) := ev_plain rfl
@[simp] theorem en75_38 : evCode C n75_38 R S = some (.ret, R, S) := (rfl)
@[simp] theorem en75_36 : evCode C n75_36 R S = seqK (evCode C n75_37 R S) fun R S => evCode C n75_38 R S := ev_seq
@[simp] theorem en75_2 : evCode C n75_2 R S = seqK (evCode C n75_3 R S) fun R S => evCode C n75_36 R S := ev_seq
@[simp] theorem en75_0 : evCode C n75_0 R S = seqK (evCode C n75_1 R S) fun R S => evCode C n75_2 R S := ev_seq
theorem q75 {n : Nat} {args : List Value} {S : St} : calls table.find (n + 1) 75 args S = endK S [.tmp 2, .tmp 3, .tmp 4] (evCode (calls table.find n) n75_0 (args ++ List.replicate (32 - args.length) undef) S.enter) := call_enter b75

/-! wainscot/wainscotref16.turned -/
@[simp] def l76_1 : List IOper := [oy 4 (.mv (.c (.int .u64 0)))]
def n76_1 : ICode := .region l76_1
@[simp] def l76_3 : List IOper := [oy 8 (.mv (.t 0)),
  oy 5 (.mv (.t 8))]
def n76_3 : ICode := .region l76_3
@[simp] def l76_6 : List IOper := [oy 6 (.mv (.c (.int .i64 0)))]
def n76_6 : ICode := .region l76_6
@[simp] def l76_10 : List IOper := [oy 9 (.mv (.t 6)),
  oy 10 (.mv (.t 1)),
  oy 11 (.bin .mul .int (.c (.int .i64 5)) (.t 10)),
  oy 12 (.bin .lss .int (.t 9) (.t 11))]
def n76_10 : ICode := .region l76_10
def n76_12 : ICode := .skip
def n76_13 : ICode := .exit 0
def n76_11 : ICode := .cond (.t 12) n76_12 n76_13
def n76_9 : ICode := .seq n76_10 n76_11
@[simp] def l76_16 : List IOper := [oy 15 (.mv (.t 5)),
  oy 16 (.bin .shl .int (.t 15) (.c (.int .u64 1))),
  oy 17 (.mv (.t 5)),
  oy 18 (.bin .shr .int (.t 17) (.c (.int .u64 63))),
  oy 19 (.bin .or .int (.t 16) (.t 18)),
  oy 5 (.mv (.t 19))]
def n76_16 : ICode := .region l76_16
def n76_15 : ICode := .block 1 n76_16
@[simp] def l76_17 : List IOper := [oy 13 (.mv (.t 6)),
  oy 14 (.bin .add .int (.t 13) (.c (.int .i64 1))),
  oy 6 (.mv (.t 14))]
def n76_17 : ICode := .region l76_17
def n76_14 : ICode := .seq n76_15 n76_17
def n76_8 : ICode := .seq n76_9 n76_14
def loop76_0 : ICode := .loop n76_8
def n76_7 : ICode := .block 0 loop76_0
def n76_5 : ICode := .seq n76_6 n76_7
@[simp] def l76_20 : List IOper := [oy 7 (.mv (.c (.int .i64 0)))]
def n76_20 : ICode := .region l76_20
@[simp] def l76_24 : List IOper := [oy 20 (.mv (.t 7)),
  oy 21 (.mv (.t 1)),
  oy 22 (.bin .lss .int (.t 20) (.t 21))]
def n76_24 : ICode := .region l76_24
def n76_26 : ICode := .skip
def n76_27 : ICode := .exit 2
def n76_25 : ICode := .cond (.t 22) n76_26 n76_27
def n76_23 : ICode := .seq n76_24 n76_25
@[simp] def l76_30 : List IOper := [oy 25 (.mv (.t 5)),
  oy 26 (.bin .add .int (.t 25) (.c (.int .u64 2654435769))),
  oy 5 (.mv (.t 26))]
def n76_30 : ICode := .region l76_30
def n76_29 : ICode := .block 3 n76_30
@[simp] def l76_31 : List IOper := [oy 23 (.mv (.t 7)),
  oy 24 (.bin .add .int (.t 23) (.c (.int .i64 1))),
  oy 7 (.mv (.t 24))]
def n76_31 : ICode := .region l76_31
def n76_28 : ICode := .seq n76_29 n76_31
def n76_22 : ICode := .seq n76_23 n76_28
def loop76_1 : ICode := .loop n76_22
def n76_21 : ICode := .block 2 loop76_1
def n76_19 : ICode := .seq n76_20 n76_21
@[simp] def l76_33 : List IOper := [oy 27 (.mv (.t 5)),
  oy 4 (.mv (.t 27))]
def n76_33 : ICode := .region l76_33
def n76_34 : ICode := .ret
def n76_32 : ICode := .seq n76_33 n76_34
def n76_18 : ICode := .seq n76_19 n76_32
def n76_4 : ICode := .seq n76_5 n76_18
def n76_2 : ICode := .seq n76_3 n76_4
def n76_0 : ICode := .seq n76_1 n76_2
theorem b76 : table.find 76 = some ⟨28, n76_0, [.tmp 4]⟩ := by kernel_rfl
@[simp] theorem en76_1 : evCode C n76_1 R S = regK (runOps C l76_1 R S) := ev_plain rfl
@[simp] theorem en76_3 : evCode C n76_3 R S = regK (runOps C l76_3 R S) := ev_plain rfl
@[simp] theorem en76_6 : evCode C n76_6 R S = regK (runOps C l76_6 R S) := ev_plain rfl
@[simp] theorem en76_10 : evCode C n76_10 R S = regK (runOps C l76_10 R S) := ev_plain rfl
@[simp] theorem en76_12 : evCode C n76_12 R S = some (.norm, R, S) := (rfl)
@[simp] theorem en76_13 : evCode C n76_13 R S = some (.exit 0, R, S) := (rfl)
@[simp] theorem en76_11 : evCode C n76_11 R S = condK (IV.ev R (.t 12)) (fun _ => evCode C n76_12 R S) fun _ => evCode C n76_13 R S := ev_cond
@[simp] theorem en76_9 : evCode C n76_9 R S = seqK (evCode C n76_10 R S) fun R S => evCode C n76_11 R S := ev_seq
@[simp] theorem en76_16 : evCode C n76_16 R S = regK (runOps C l76_16 R S) := ev_plain rfl
@[simp] theorem en76_15 : evCode C n76_15 R S = blockK 1 (evCode C n76_16 R S) := ev_block
@[simp] theorem en76_17 : evCode C n76_17 R S = regK (runOps C l76_17 R S) := ev_plain rfl
@[simp] theorem en76_14 : evCode C n76_14 R S = seqK (evCode C n76_15 R S) fun R S => evCode C n76_17 R S := ev_seq
@[simp] theorem en76_8 : evCode C n76_8 R S = seqK (evCode C n76_9 R S) fun R S => evCode C n76_14 R S := ev_seq
theorem eloop76_0 : evCode C loop76_0 R S = iter (fun R S => evCode C n76_8 R S) rounds R S := (rfl)
@[simp] theorem en76_7 : evCode C n76_7 R S = blockK 0 (evCode C loop76_0 R S) := ev_block
@[simp] theorem en76_5 : evCode C n76_5 R S = seqK (evCode C n76_6 R S) fun R S => evCode C n76_7 R S := ev_seq
@[simp] theorem en76_20 : evCode C n76_20 R S = regK (runOps C l76_20 R S) := ev_plain rfl
@[simp] theorem en76_24 : evCode C n76_24 R S = regK (runOps C l76_24 R S) := ev_plain rfl
@[simp] theorem en76_26 : evCode C n76_26 R S = some (.norm, R, S) := (rfl)
@[simp] theorem en76_27 : evCode C n76_27 R S = some (.exit 2, R, S) := (rfl)
@[simp] theorem en76_25 : evCode C n76_25 R S = condK (IV.ev R (.t 22)) (fun _ => evCode C n76_26 R S) fun _ => evCode C n76_27 R S := ev_cond
@[simp] theorem en76_23 : evCode C n76_23 R S = seqK (evCode C n76_24 R S) fun R S => evCode C n76_25 R S := ev_seq
@[simp] theorem en76_30 : evCode C n76_30 R S = regK (runOps C l76_30 R S) := ev_plain rfl
@[simp] theorem en76_29 : evCode C n76_29 R S = blockK 3 (evCode C n76_30 R S) := ev_block
@[simp] theorem en76_31 : evCode C n76_31 R S = regK (runOps C l76_31 R S) := ev_plain rfl
@[simp] theorem en76_28 : evCode C n76_28 R S = seqK (evCode C n76_29 R S) fun R S => evCode C n76_31 R S := ev_seq
@[simp] theorem en76_22 : evCode C n76_22 R S = seqK (evCode C n76_23 R S) fun R S => evCode C n76_28 R S := ev_seq
theorem eloop76_1 : evCode C loop76_1 R S = iter (fun R S => evCode C n76_22 R S) rounds R S := (rfl)
@[simp] theorem en76_21 : evCode C n76_21 R S = blockK 2 (evCode C loop76_1 R S) := ev_block
@[simp] theorem en76_19 : evCode C n76_19 R S = seqK (evCode C n76_20 R S) fun R S => evCode C n76_21 R S := ev_seq
@[simp] theorem en76_33 : evCode C n76_33 R S = regK (runOps C l76_33 R S) := ev_plain rfl
@[simp] theorem en76_34 : evCode C n76_34 R S = some (.ret, R, S) := (rfl)
@[simp] theorem en76_32 : evCode C n76_32 R S = seqK (evCode C n76_33 R S) fun R S => evCode C n76_34 R S := ev_seq
@[simp] theorem en76_18 : evCode C n76_18 R S = seqK (evCode C n76_19 R S) fun R S => evCode C n76_32 R S := ev_seq
@[simp] theorem en76_4 : evCode C n76_4 R S = seqK (evCode C n76_5 R S) fun R S => evCode C n76_18 R S := ev_seq
@[simp] theorem en76_2 : evCode C n76_2 R S = seqK (evCode C n76_3 R S) fun R S => evCode C n76_4 R S := ev_seq
@[simp] theorem en76_0 : evCode C n76_0 R S = seqK (evCode C n76_1 R S) fun R S => evCode C n76_2 R S := ev_seq
theorem q76 {n : Nat} {args : List Value} {S : St} : calls table.find (n + 1) 76 args S = endK S [.tmp 4] (evCode (calls table.find n) n76_0 (args ++ List.replicate (28 - args.length) undef) S.enter) := call_enter b76

/-! (*wainscot/mem.Mem).Load -/
@[simp] def l93_1 : List IOper := [oy 4 (.new 23 [(.int .u64 0)]),
  oy 5 (.mv (.c (.int .i64 0)))]
def n93_1 : ICode := .region l93_1
@[simp] def l93_3 : List IOper := [oy 6 (.mv (.t 0)),
  oy 7 (.mv (.t 1)),
  oy 8 (.mkFunc 105 [] [(.t 4)]),
  oy 9 (.call (.c (.func (.func 35) #[] #[])) [(.t 6), (.t 7), (.c (.int .i64 1)), (.t 8)] false),
  oy 5 (.mv (.t 9))]
def n93_3 : ICode := .region l93_3
@[simp] def l93_5 : List IOper := [oy 10 (.load false 1 (.t 4)),
  oy 11 (.mv (.t 5)),
  ox (.store 1 (.t 4) (.t 10)),
  oy 5 (.mv (.t 11))]
def n93_5 : ICode := .region l93_5
def n93_6 : ICode := .ret
def n93_4 : ICode := .seq n93_5 n93_6
def n93_2 : ICode := .seq n93_3 n93_4
def n93_0 : ICode := .seq n93_1 n93_2
theorem b93 : table.find 93 = some ⟨12, n93_0, [.cell 4 false 1, .tmp 5]⟩ := by kernel_rfl
@[simp] theorem en93_1 : evCode C n93_1 R S = regK (runOps C l93_1 R S) := ev_plain rfl
@[simp] theorem en93_3 : evCode C n93_3 R S = regK (runOps C l93_3 R S) := ev_plain rfl
@[simp] theorem en93_5 : evCode C n93_5 R S = regK (runOps C l93_5 R S) := ev_plain rfl
@[simp] theorem en93_6 : evCode C n93_6 R S = some (.ret, R, S) := (rfl)
@[simp] theorem en93_4 : evCode C n93_4 R S = seqK (evCode C n93_5 R S) fun R S => evCode C n93_6 R S := ev_seq
@[simp] theorem en93_2 : evCode C n93_2 R S = seqK (evCode C n93_3 R S) fun R S => evCode C n93_4 R S := ev_seq
@[simp] theorem en93_0 : evCode C n93_0 R S = seqK (evCode C n93_1 R S) fun R S => evCode C n93_2 R S := ev_seq
theorem q93 {n : Nat} {args : List Value} {S : St} : calls table.find (n + 1) 93 args S = endK S [.cell 4 false 1, .tmp 5] (evCode (calls table.find n) n93_0 (args ++ List.replicate (12 - args.length) undef) S.enter) := call_enter b93

/-! (*wainscot/fast.step).cas2 -/
@[simp] def l96_1 : List IOper := [oy 12 (.mv (.c (.bool false)))]
def n96_1 : ICode := .region l96_1
@[simp] def l96_3 : List IOper := [oy 16 (.mv (.t 0)),
  oy 17 (.nilCheck (.t 16)),
  oy 18 (.addOff 0 (.t 17)),
  oy 19 (.load false 1 (.t 18)),
  oy 20 (.mv (.t 1)),
  oy 21 (.mv (.t 2)),
  oy 22 (.mv (.t 3)),
  oy 23 (.mv (.t 4)),
  oy 24 (.mv (.t 5)),
  oy 25 (.call (.c (.func (.func 108) #[] #[])) [(.t 19), (.t 20), (.t 21), (.t 22), (.t 23), (.t 24)] false),
  oy 15 (.mv (.t 25)),
  oy 26 (.extract (.t 15) 0),
  oy 27 (.extract (.t 15) 1),
  oy 13 (.mv (.t 26)),
  oy 14 (.mv (.t 27))]
def n96_3 : ICode := .region l96_3
@[simp] def l96_5 : List IOper := [oy 28 (.mv (.t 0)),
  oy 29 (.mv (.t 14)),
  oy 30 (.bin .eql .int (.t 29) (.c (.int .i64 0))),
  oy 31 (.call (.c (.func (.func 72) #[] #[])) [(.t 28), (.t 30)] false)]
def n96_5 : ICode := .region l96_5
@[simp] def l96_7 : List IOper := [oy 32 (.mv (.t 13)),
  oy 12 (.mv (.t 32))]
def n96_7 : ICode := .region l96_7
def n96_8 : ICode := .ret
def n96_6 : ICode := .seq n96_7 n96_8
def n96_4 : ICode := .seq n96_5 n96_6
def n96_2 : ICode := .seq n96_3 n96_4
def n96_0 : ICode := .seq n96_1 n96_2
theorem b96 : table.find 96 = some ⟨33, n96_0, [.tmp 12]⟩ := by kernel_rfl
@[simp] theorem en96_1 : evCode C n96_1 R S = regK (runOps C l96_1 R S) := ev_plain rfl
@[simp] theorem en96_3 : evCode C n96_3 R S = regK (runOps C l96_3 R S) := ev_plain rfl
@[simp] theorem en96_5 : evCode C n96_5 R S = regK (runOps C l96_5 R S) := ev_plain rfl
@[simp] theorem en96_7 : evCode C n96_7 R S = regK (runOps C l96_7 R S) := ev_plain rfl
@[simp] theorem en96_8 : evCode C n96_8 R S = some (.ret, R, S) := (rfl)
@[simp] theorem en96_6 : evCode C n96_6 R S = seqK (evCode C n96_7 R S) fun R S => evCode C n96_8 R S := ev_seq
@[simp] theorem en96_4 : evCode C n96_4 R S = seqK (evCode C n96_5 R S) fun R S => evCode C n96_6 R S := ev_seq
@[simp] theorem en96_2 : evCode C n96_2 R S = seqK (evCode C n96_3 R S) fun R S => evCode C n96_4 R S := ev_seq
@[simp] theorem en96_0 : evCode C n96_0 R S = seqK (evCode C n96_1 R S) fun R S => evCode C n96_2 R S := ev_seq
theorem q96 {n : Nat} {args : List Value} {S : St} : calls table.find (n + 1) 96 args S = endK S [.tmp 12] (evCode (calls table.find n) n96_0 (args ++ List.replicate (33 - args.length) undef) S.enter) := call_enter b96

/-! (*wainscot/mem.Mem).Load$1 -/
@[simp] def l105_0 : List IOper := [oy 3 (.mv (.t 0)),
  oy 4 (.idxS 1 (.t 3) (.c (.int .i64 0))),
  oy 5 (.load false 1 (.t 4)),
  ox (.store 1 (.t 1) (.t 5))]
def n105_0 : ICode := .region l105_0
theorem b105 : table.find 105 = some ⟨6, n105_0, []⟩ := by kernel_rfl
@[simp] theorem en105_0 : evCode C n105_0 R S = regK (runOps C l105_0 R S) := ev_plain rfl
theorem q105 {n : Nat} {args : List Value} {S : St} : calls table.find (n + 1) 105 args S = endK S [] (evCode (calls table.find n) n105_0 (args ++ List.replicate (6 - args.length) undef) S.enter) := call_enter b105

/-! (*wainscot/mem.Mem).Cas2 -/
@[simp] def l108_1 : List IOper := [oy 8 (.box 23 1 (.t 2)),
  oy 9 (.box 23 1 (.t 3)),
  oy 10 (.box 23 1 (.t 4)),
  oy 11 (.box 23 1 (.t 5)),
  oy 12 (.new 4 [(.bool false)]),
  oy 13 (.mv (.c (.int .i64 0)))]
def n108_1 : ICode := .region l108_1
@[simp] def l108_3 : List IOper := [oy 14 (.mv (.t 0)),
  oy 15 (.mv (.t 1)),
  oy 16 (.mkFunc 112 [] [(.t 8), (.t 9), (.t 12), (.t 10), (.t 11)]),
  oy 17 (.call (.c (.func (.func 35) #[] #[])) [(.t 14), (.t 15), (.c (.int .i64 2)), (.t 16)] false),
  oy 13 (.mv (.t 17))]
def n108_3 : ICode := .region l108_3
@[simp] def l108_5 : List IOper := [oy 18 (.load false 1 (.t 12)),
  oy 19 (.mv (.t 13)),
  ox (.store 1 (.t 12) (.t 18)),
  oy 13 (.mv (.t 19))]
def n108_5 : ICode := .region l108_5
def n108_6 : ICode := .ret
def n108_4 : ICode := .seq n108_5 n108_6
def n108_2 : ICode := .seq n108_3 n108_4
def n108_0 : ICode := .seq n108_1 n108_2
theorem b108 : table.find 108 = some ⟨20, n108_0, [.cell 12 false 1, .tmp 13]⟩ := by kernel_rfl
@[simp] theorem en108_1 : evCode C n108_1 R S = regK (runOps C l108_1 R S) := ev_plain rfl
@[simp] theorem en108_3 : evCode C n108_3 R S = regK (runOps C l108_3 R S) := ev_plain rfl
@[simp] theorem en108_5 : evCode C n108_5 R S = regK (runOps C l108_5 R S) := ev_plain rfl
@[simp] theorem en108_6 : evCode C n108_6 R S = some (.ret, R, S) := (rfl)
@[simp] theorem en108_4 : evCode C n108_4 R S = seqK (evCode C n108_5 R S) fun R S => evCode C n108_6 R S := ev_seq
@[simp] theorem en108_2 : evCode C n108_2 R S = seqK (evCode C n108_3 R S) fun R S => evCode C n108_4 R S := ev_seq
@[simp] theorem en108_0 : evCode C n108_0 R S = seqK (evCode C n108_1 R S) fun R S => evCode C n108_2 R S := ev_seq
theorem q108 {n : Nat} {args : List Value} {S : St} : calls table.find (n + 1) 108 args S = endK S [.cell 12 false 1, .tmp 13] (evCode (calls table.find n) n108_0 (args ++ List.replicate (20 - args.length) undef) S.enter) := call_enter b108

/-! (*wainscot/mem.Mem).Cas2$1 -/
@[simp] def l112_1 : List IOper := [oy 7 (.mv (.t 0)),
  oy 8 (.idxS 1 (.t 7) (.c (.int .i64 0))),
  oy 9 (.load false 1 (.t 8)),
  oy 10 (.mv (.t 0)),
  oy 11 (.idxS 1 (.t 10) (.c (.int .i64 1))),
  oy 12 (.load false 1 (.t 11)),
  oy 13 (.build [(.int .u64 0), (.int .u64 0)] [(0, 1, (.t 9)), (1, 1, (.t 12))]),
  oy 14 (.load false 1 (.t 1)),
  oy 15 (.load false 1 (.t 2)),
  oy 16 (.build [(.int .u64 0), (.int .u64 0)] [(0, 1, (.t 14)), (1, 1, (.t 15))]),
  oy 17 (.bin .eql (.plain [(some .u64), (some .u64)]) (.t 13) (.t 16)),
  ox (.store 1 (.t 3) (.t 17))]
def n112_1 : ICode := .region l112_1
@[simp] def l112_3 : List IOper := [oy 18 (.load false 1 (.t 3))]
def n112_3 : ICode := .region l112_3
@[simp] def l112_5 : List IOper := [oy 19 (.mv (.t 0)),
  oy 20 (.mv (.t 0)),
  oy 21 (.load false 1 (.t 4)),
  oy 22 (.load false 1 (.t 5)),
  oy 23 (.idxS 1 (.t 19) (.c (.int .i64 0))),
  ⟨none, .store 1 (.t 23) (.t 21), none, [], [3], false⟩,
  oy 24 (.idxS 1 (.t 20) (.c (.int .i64 1))),
  ox (.store 1 (.t 24) (.t 22))]
def n112_5 : ICode := .region l112_5
def n112_6 : ICode := .skip
def n112_4 : ICode := .cond (.t 18) n112_5 n112_6
def n112_2 : ICode := .seq n112_3 n112_4
def n112_0 : ICode := .seq n112_1 n112_2
theorem b112 : table.find 112 = some ⟨25, n112_0, []⟩ := by kernel_rfl
@[simp] theorem en112_1 : evCode C n112_1 R S = regK (runOps C l112_1 R S) := ev_plain rfl
@[simp] theorem en112_3 : evCode C n112_3 R S = regK (runOps C l112_3 R S) := ev_plain rfl
@[simp] theorem en112_5 : evCode C n112_5 R S = regK (evOps C l112_5 l112_5 0 [] R S) := ev_region
@[simp] theorem en112_6 : evCode C n112_6 R S = some (.norm, R, S) := (rfl)
@[simp] theorem en112_4 : evCode C n112_4 R S = condK (IV.ev R (.t 18)) (fun _ => evCode C n112_5 R S) fun _ => evCode C n112_6 R S := ev_cond
@[simp] theorem en112_2 : evCode C n112_2 R S = seqK (evCode C n112_3 R S) fun R S => evCode C n112_4 R S := ev_seq
@[simp] theorem en112_0 : evCode C n112_0 R S = seqK (evCode C n112_1 R S) fun R S => evCode C n112_2 R S := ev_seq
theorem q112 {n : Nat} {args : List Value} {S : St} : calls table.find (n + 1) 112 args S = endK S [] (evCode (calls table.find n) n112_0 (args ++ List.replicate (25 - args.length) undef) S.enter) := call_enter b112

end Go.Proofs.YtepddcemoofmlaaGreat.Fast
