/- The pieces of the code, each with a name and a rule (written by program). -/
import Derived.Test.YtildgdaoapmjhaaGreatDoorFillIr
import Derived.Test.YtildgdaoapmjhaaGreatDoorAe33
namespace Go.Proofs.YtildgdaoapmjhaaGreatDoor.Fill
open Go Go.Proofs.YtildgdaoapmjhaaGreatDoor.AE
set_option maxRecDepth 100000
variable {C : CallS} {R : List Value} {S : St}

/-! wainscot/wainscotlaw24.FillAnswers -/
@[simp] def l3_1 : List IOper := [oy 3 (.box 24 17 (.t 0)),
  oy 6 (.mv (.c (.bool false)))]
def n3_1 : ICode := .region l3_1
@[simp] def l3_4 : List IOper := [oy 7 (.mv (.c (.int .i64 0)))]
def n3_4 : ICode := .region l3_4
@[simp] def l3_8 : List IOper := [oy 13 (.mv (.t 7)),
  oy 14 (.bin .lss .int (.t 13) (.c (.int .i64 2)))]
def n3_8 : ICode := .region l3_8
def n3_10 : ICode := .skip
def n3_11 : ICode := .exit 0
def n3_9 : ICode := .cond (.t 14) n3_10 n3_11
def n3_7 : ICode := .seq n3_8 n3_9
@[simp] def l3_15 : List IOper := [oy 17 (.load true 17 (.t 3)),
  oy 8 (.new 24 [(.int .i64 0), (.int .i64 0), (.int .i64 0), (.int .i64 0), (.int .i64 0), (.int .i64 0), (.int .i64 0), (.int .u64 0), (.int .u64 0), (.int .u64 0), (.int .u64 0), (.int .u64 0), (.int .i64 0), (.int .i64 0), (.int .i64 0), (.int .i64 0), (.int .i64 0)]),
  ox (.store 17 (.t 8) (.t 17))]
def n3_15 : ICode := .region l3_15
@[simp] def l3_18 : List IOper := [oy 18 (.mv (.t 7)),
  oy 19 (.bin .eql .int (.t 18) (.c (.int .i64 1)))]
def n3_18 : ICode := .region l3_18
@[simp] def l3_21 : List IOper := [oy 20 (.addOff 3 (.t 8)),
  ox (.store 1 (.t 20) (.c (.int .i64 0)))]
def n3_21 : ICode := .region l3_21
@[simp] def l3_22 : List IOper := [oy 21 (.addOff 4 (.t 8)),
  ox (.store 1 (.t 21) (.c (.int .i64 1)))]
def n3_22 : ICode := .region l3_22
def n3_20 : ICode := .seq n3_21 n3_22
def n3_23 : ICode := .skip
def n3_19 : ICode := .cond (.t 19) n3_20 n3_23
def n3_17 : ICode := .seq n3_18 n3_19
@[simp] def l3_25 : List IOper := [oy 23 (.load true 17 (.t 8)),
  oy 24 (.mv (.t 1)),
  oy 25 (.mv (.t 2)),
  oy 26 (.call (.c (.func (.func 7) #[] #[])) [(.t 23), (.t 24), (.t 25)] false),
  oy 22 (.mv (.t 26)),
  oy 27 (.extract (.t 22) 0),
  oy 28 (.extract (.t 22) 1),
  oy 9 (.new 24 [(.int .i64 0), (.int .i64 0), (.int .i64 0), (.int .i64 0), (.int .i64 0), (.int .i64 0), (.int .i64 0), (.int .u64 0), (.int .u64 0), (.int .u64 0), (.int .u64 0), (.int .u64 0), (.int .i64 0), (.int .i64 0), (.int .i64 0), (.int .i64 0), (.int .i64 0)]),
  ox (.store 17 (.t 9) (.t 27)),
  oy 10 (.mv (.t 28))]
def n3_25 : ICode := .region l3_25
@[simp] def l3_27 : List IOper := [oy 30 (.load true 17 (.t 8)),
  oy 31 (.mv (.t 1)),
  oy 32 (.mv (.t 2)),
  oy 33 (.call (.c (.func (.func 8) #[] #[])) [(.t 30), (.t 31), (.t 32)] false),
  oy 29 (.mv (.t 33)),
  oy 34 (.extract (.t 29) 0),
  oy 35 (.extract (.t 29) 1),
  oy 11 (.new 24 [(.int .i64 0), (.int .i64 0), (.int .i64 0), (.int .i64 0), (.int .i64 0), (.int .i64 0), (.int .i64 0), (.int .u64 0), (.int .u64 0), (.int .u64 0), (.int .u64 0), (.int .u64 0), (.int .i64 0), (.int .i64 0), (.int .i64 0), (.int .i64 0), (.int .i64 0)]),
  ox (.store 17 (.t 11) (.t 34)),
  oy 12 (.mv (.t 35))]
def n3_27 : ICode := .region l3_27
@[simp] def l3_29 : List IOper := [oy 36 (.load true 17 (.t 9)),
  oy 37 (.load true 17 (.t 11)),
  oy 38 (.bin .neq (.plain [(some .i64), (some .i64), (some .i64), (some .i64), (some .i64), (some .i64), (some .i64), (some .u64), (some .u64), (some .u64), (some .u64), (some .u64), (some .i64), (some .i64), (some .i64), (some .i64), (some .i64)]) (.t 36) (.t 37)),
  oy 39 (.mv (.t 38)),
  oz 40 39 false (.mv (.t 10)),
  oz 41 39 false (.mv (.t 12)),
  oz 42 39 false (.bin .neq .int (.t 40) (.t 41)),
  oy 43 (.pick (.t 39) (.c (.bool true)) (.t 42))]
def n3_29 : ICode := .region l3_29
@[simp] def l3_32 : List IOper := [oy 6 (.mv (.c (.bool false)))]
def n3_32 : ICode := .region l3_32
def n3_33 : ICode := .ret
def n3_31 : ICode := .seq n3_32 n3_33
def n3_34 : ICode := .skip
def n3_30 : ICode := .cond (.t 43) n3_31 n3_34
def n3_28 : ICode := .seq n3_29 n3_30
def n3_26 : ICode := .seq n3_27 n3_28
def n3_24 : ICode := .seq n3_25 n3_26
def n3_16 : ICode := .seq n3_17 n3_24
def n3_14 : ICode := .seq n3_15 n3_16
def n3_13 : ICode := .block 1 n3_14
@[simp] def l3_35 : List IOper := [oy 15 (.mv (.t 7)),
  oy 16 (.bin .add .int (.t 15) (.c (.int .i64 1))),
  oy 7 (.mv (.t 16))]
def n3_35 : ICode := .region l3_35
def n3_12 : ICode := .seq n3_13 n3_35
def n3_6 : ICode := .seq n3_7 n3_12
def loop3_0 : ICode := .loop n3_6
def n3_5 : ICode := .block 0 loop3_0
def n3_3 : ICode := .seq n3_4 n3_5
@[simp] def l3_37 : List IOper := [oy 44 (.call (.c (.func (.func 9) #[] #[])) [] false),
  oy 6 (.mv (.t 44))]
def n3_37 : ICode := .region l3_37
def n3_38 : ICode := .ret
def n3_36 : ICode := .seq n3_37 n3_38
def n3_2 : ICode := .seq n3_3 n3_36
def n3_0 : ICode := .seq n3_1 n3_2
theorem b3 : table.find 3 = some ⟨45, n3_0, [.tmp 6]⟩ := by kernel_rfl
@[simp] theorem en3_1 : evCode C n3_1 R S = regK (runOps C l3_1 R S) := ev_plain rfl
@[simp] theorem en3_4 : evCode C n3_4 R S = regK (runOps C l3_4 R S) := ev_plain rfl
@[simp] theorem en3_8 : evCode C n3_8 R S = regK (runOps C l3_8 R S) := ev_plain rfl
@[simp] theorem en3_10 : evCode C n3_10 R S = some (.norm, R, S) := (rfl)
@[simp] theorem en3_11 : evCode C n3_11 R S = some (.exit 0, R, S) := (rfl)
@[simp] theorem en3_9 : evCode C n3_9 R S = condK (IV.ev R (.t 14)) (fun _ => evCode C n3_10 R S) fun _ => evCode C n3_11 R S := ev_cond
@[simp] theorem en3_7 : evCode C n3_7 R S = seqK (evCode C n3_8 R S) fun R S => evCode C n3_9 R S := ev_seq
@[simp] theorem en3_15 : evCode C n3_15 R S = regK (runOps C l3_15 R S) := ev_plain rfl
@[simp] theorem en3_18 : evCode C n3_18 R S = regK (runOps C l3_18 R S) := ev_plain rfl
@[simp] theorem en3_21 : evCode C n3_21 R S = regK (runOps C l3_21 R S) := ev_plain rfl
@[simp] theorem en3_22 : evCode C n3_22 R S = regK (runOps C l3_22 R S) := ev_plain rfl
@[simp] theorem en3_20 : evCode C n3_20 R S = seqK (evCode C n3_21 R S) fun R S => evCode C n3_22 R S := ev_seq
@[simp] theorem en3_23 : evCode C n3_23 R S = some (.norm, R, S) := (rfl)
@[simp] theorem en3_19 : evCode C n3_19 R S = condK (IV.ev R (.t 19)) (fun _ => evCode C n3_20 R S) fun _ => evCode C n3_23 R S := ev_cond
@[simp] theorem en3_17 : evCode C n3_17 R S = seqK (evCode C n3_18 R S) fun R S => evCode C n3_19 R S := ev_seq
@[simp] theorem en3_25 : evCode C n3_25 R S = regK (runOps C l3_25 R S) := ev_plain rfl
@[simp] theorem en3_27 : evCode C n3_27 R S = regK (runOps C l3_27 R S) := ev_plain rfl
@[simp] theorem en3_29 : evCode C n3_29 R S = regK (runOps C l3_29 R S) := ev_plain rfl
@[simp] theorem en3_32 : evCode C n3_32 R S = regK (runOps C l3_32 R S) := ev_plain rfl
@[simp] theorem en3_33 : evCode C n3_33 R S = some (.ret, R, S) := (rfl)
@[simp] theorem en3_31 : evCode C n3_31 R S = seqK (evCode C n3_32 R S) fun R S => evCode C n3_33 R S := ev_seq
@[simp] theorem en3_34 : evCode C n3_34 R S = some (.norm, R, S) := (rfl)
@[simp] theorem en3_30 : evCode C n3_30 R S = condK (IV.ev R (.t 43)) (fun _ => evCode C n3_31 R S) fun _ => evCode C n3_34 R S := ev_cond
@[simp] theorem en3_28 : evCode C n3_28 R S = seqK (evCode C n3_29 R S) fun R S => evCode C n3_30 R S := ev_seq
@[simp] theorem en3_26 : evCode C n3_26 R S = seqK (evCode C n3_27 R S) fun R S => evCode C n3_28 R S := ev_seq
@[simp] theorem en3_24 : evCode C n3_24 R S = seqK (evCode C n3_25 R S) fun R S => evCode C n3_26 R S := ev_seq
@[simp] theorem en3_16 : evCode C n3_16 R S = seqK (evCode C n3_17 R S) fun R S => evCode C n3_24 R S := ev_seq
@[simp] theorem en3_14 : evCode C n3_14 R S = seqK (evCode C n3_15 R S) fun R S => evCode C n3_16 R S := ev_seq
@[simp] theorem en3_13 : evCode C n3_13 R S = blockK 1 (evCode C n3_14 R S) := ev_block
@[simp] theorem en3_35 : evCode C n3_35 R S = regK (runOps C l3_35 R S) := ev_plain rfl
@[simp] theorem en3_12 : evCode C n3_12 R S = seqK (evCode C n3_13 R S) fun R S => evCode C n3_35 R S := ev_seq
@[simp] theorem en3_6 : evCode C n3_6 R S = seqK (evCode C n3_7 R S) fun R S => evCode C n3_12 R S := ev_seq
theorem eloop3_0 : evCode C loop3_0 R S = iter (fun R S => evCode C n3_6 R S) rounds R S := (rfl)
@[simp] theorem en3_5 : evCode C n3_5 R S = blockK 0 (evCode C loop3_0 R S) := ev_block
@[simp] theorem en3_3 : evCode C n3_3 R S = seqK (evCode C n3_4 R S) fun R S => evCode C n3_5 R S := ev_seq
@[simp] theorem en3_37 : evCode C n3_37 R S = regK (runOps C l3_37 R S) := ev_plain rfl
@[simp] theorem en3_38 : evCode C n3_38 R S = some (.ret, R, S) := (rfl)
@[simp] theorem en3_36 : evCode C n3_36 R S = seqK (evCode C n3_37 R S) fun R S => evCode C n3_38 R S := ev_seq
@[simp] theorem en3_2 : evCode C n3_2 R S = seqK (evCode C n3_3 R S) fun R S => evCode C n3_36 R S := ev_seq
@[simp] theorem en3_0 : evCode C n3_0 R S = seqK (evCode C n3_1 R S) fun R S => evCode C n3_2 R S := ev_seq
theorem q3 {n : Nat} {args : List Value} {S : St} : calls table.find (n + 1) 3 args S = endK S [.tmp 6] (evCode (calls table.find n) n3_0 (args ++ List.replicate (45 - args.length) undef) S.enter) := call_enter b3

/-! wainscot/fill.Answer -/
@[simp] def l7_1 : List IOper := [oy 3 (.box 24 17 (.t 0)),
  oy 6 (.new 24 [(.int .i64 0), (.int .i64 0), (.int .i64 0), (.int .i64 0), (.int .i64 0), (.int .i64 0), (.int .i64 0), (.int .u64 0), (.int .u64 0), (.int .u64 0), (.int .u64 0), (.int .u64 0), (.int .i64 0), (.int .i64 0), (.int .i64 0), (.int .i64 0), (.int .i64 0)]),
  oy 7 (.mv (.c (.int .i64 0)))]
def n7_1 : ICode := .region l7_1
@[simp] def l7_6 : List IOper := [oy 9 (.addOff 3 (.t 3)),
  oy 10 (.load false 1 (.t 9)),
  oy 11 (.bin .neq .int (.t 10) (.c (.int .i64 0))),
  oy 8 (.mv (.t 11))]
def n7_6 : ICode := .region l7_6
def n7_8 : ICode := .skip
@[simp] def l7_9 : List IOper := [oy 12 (.addOff 4 (.t 3)),
  oy 13 (.load false 1 (.t 12)),
  oy 14 (.bin .neq .int (.t 13) (.c (.int .i64 1))),
  oy 8 (.mv (.t 14))]
def n7_9 : ICode := .region l7_9
def n7_7 : ICode := .cond (.t 8) n7_8 n7_9
def n7_5 : ICode := .seq n7_6 n7_7
@[simp] def l7_12 : List IOper := [oy 15 (.build [(.int .i64 0), (.int .i64 0), (.int .i64 0), (.int .i64 0), (.int .i64 0), (.int .i64 0), (.int .i64 0), (.int .u64 0), (.int .u64 0), (.int .u64 0), (.int .u64 0), (.int .u64 0), (.int .i64 0), (.int .i64 0), (.int .i64 0), (.int .i64 0), (.int .i64 0)] []),
  ox (.store 17 (.t 6) (.t 15)),
  oy 7 (.mv (.c (.int .i64 292)))]
def n7_12 : ICode := .region l7_12
def n7_13 : ICode := .ret
def n7_11 : ICode := .seq n7_12 n7_13
@[simp] def l7_15 : List IOper := [oy 17 (.mv (.t 1)),
  oy 18 (.mv (.t 17)),
  oz 19 18 true (.mv (.t 2)),
  oz 20 18 true (.bin .lss .int (.t 19) (.c (.int .i64 0))),
  oz 21 18 true (.mv (.t 20)),
  oz 22 21 false (.mv (.t 2)),
  oz 23 21 false (.bin .geq .int (.t 22) (.c (.int .i64 32))),
  oz 24 18 true (.pick (.t 21) (.c (.bool true)) (.t 23)),
  oy 25 (.pick (.t 18) (.t 24) (.c (.bool false))),
  oy 16 (.mv (.t 25))]
def n7_15 : ICode := .region l7_15
@[simp] def l7_18 : List IOper := [oy 26 (.build [(.int .i64 0), (.int .i64 0), (.int .i64 0), (.int .i64 0), (.int .i64 0), (.int .i64 0), (.int .i64 0), (.int .u64 0), (.int .u64 0), (.int .u64 0), (.int .u64 0), (.int .u64 0), (.int .i64 0), (.int .i64 0), (.int .i64 0), (.int .i64 0), (.int .i64 0)] []),
  ox (.store 17 (.t 6) (.t 26)),
  oy 7 (.mv (.c (.int .i64 2)))]
def n7_18 : ICode := .region l7_18
def n7_19 : ICode := .ret
def n7_17 : ICode := .seq n7_18 n7_19
def n7_20 : ICode := .skip
def n7_16 : ICode := .cond (.t 16) n7_17 n7_20
def n7_14 : ICode := .seq n7_15 n7_16
def n7_10 : ICode := .cond (.t 8) n7_11 n7_14
def n7_4 : ICode := .seq n7_5 n7_10
def n7_3 : ICode := .block 0 n7_4
@[simp] def l7_22 : List IOper := [oy 27 (.addOff 4 (.t 3)),
  ox (.store 1 (.t 27) (.c (.int .i64 0)))]
def n7_22 : ICode := .region l7_22
@[simp] def l7_25 : List IOper := [oy 28 (.mv (.t 1)),
  oy 29 (.un .not (.t 28))]
def n7_25 : ICode := .region l7_25
@[simp] def l7_28 : List IOper := [oy 30 (.addOff 3 (.t 3)),
  ox (.store 1 (.t 30) (.c (.int .i64 2)))]
def n7_28 : ICode := .region l7_28
@[simp] def l7_30 : List IOper := [oy 31 (.load true 17 (.t 3)),
  ox (.store 17 (.t 6) (.t 31)),
  oy 7 (.mv (.c (.int .i64 0)))]
def n7_30 : ICode := .region l7_30
def n7_31 : ICode := .ret
def n7_29 : ICode := .seq n7_30 n7_31
def n7_27 : ICode := .seq n7_28 n7_29
def n7_32 : ICode := .skip
def n7_26 : ICode := .cond (.t 29) n7_27 n7_32
def n7_24 : ICode := .seq n7_25 n7_26
@[simp] def l7_34 : List IOper := [oy 32 (.mv (.t 2)),
  oy 33 (.addOff 5 (.t 3)),
  ox (.store 1 (.t 33) (.t 32)),
  oy 34 (.addOff 13 (.t 3)),
  ox (.store 1 (.t 34) (.c (.int .i64 0))),
  oy 35 (.addOff 2 (.t 3)),
  ox (.store 1 (.t 35) (.c (.int .i64 43)))]
def n7_34 : ICode := .region l7_34
@[simp] def l7_36 : List IOper := [oy 36 (.load true 17 (.t 3)),
  ox (.store 17 (.t 6) (.t 36)),
  oy 7 (.mv (.c (.int .i64 0)))]
def n7_36 : ICode := .region l7_36
def n7_37 : ICode := .ret
def n7_35 : ICode := .seq n7_36 n7_37
def n7_33 : ICode := .seq n7_34 n7_35
def n7_23 : ICode := .seq n7_24 n7_33
def n7_21 : ICode := .seq n7_22 n7_23
def n7_2 : ICode := .seq n7_3 n7_21
def n7_0 : ICode := .seq n7_1 n7_2
theorem b7 : table.find 7 = some ⟨37, n7_0, [.cell 6 true 17, .tmp 7]⟩ := by kernel_rfl
@[simp] theorem en7_1 : evCode C n7_1 R S = regK (runOps C l7_1 R S) := ev_plain rfl
@[simp] theorem en7_6 : evCode C n7_6 R S = regK (runOps C l7_6 R S) := ev_plain rfl
@[simp] theorem en7_8 : evCode C n7_8 R S = some (.norm, R, S) := (rfl)
@[simp] theorem en7_9 : evCode C n7_9 R S = regK (runOps C l7_9 R S) := ev_plain rfl
@[simp] theorem en7_7 : evCode C n7_7 R S = condK (IV.ev R (.t 8)) (fun _ => evCode C n7_8 R S) fun _ => evCode C n7_9 R S := ev_cond
@[simp] theorem en7_5 : evCode C n7_5 R S = seqK (evCode C n7_6 R S) fun R S => evCode C n7_7 R S := ev_seq
@[simp] theorem en7_12 : evCode C n7_12 R S = regK (runOps C l7_12 R S) := ev_plain rfl
@[simp] theorem en7_13 : evCode C n7_13 R S = some (.ret, R, S) := (rfl)
@[simp] theorem en7_11 : evCode C n7_11 R S = seqK (evCode C n7_12 R S) fun R S => evCode C n7_13 R S := ev_seq
@[simp] theorem en7_15 : evCode C n7_15 R S = regK (runOps C l7_15 R S) := ev_plain rfl
@[simp] theorem en7_18 : evCode C n7_18 R S = regK (runOps C l7_18 R S) := ev_plain rfl
@[simp] theorem en7_19 : evCode C n7_19 R S = some (.ret, R, S) := (rfl)
@[simp] theorem en7_17 : evCode C n7_17 R S = seqK (evCode C n7_18 R S) fun R S => evCode C n7_19 R S := ev_seq
@[simp] theorem en7_20 : evCode C n7_20 R S = some (.norm, R, S) := (rfl)
@[simp] theorem en7_16 : evCode C n7_16 R S = condK (IV.ev R (.t 16)) (fun _ => evCode C n7_17 R S) fun _ => evCode C n7_20 R S := ev_cond
@[simp] theorem en7_14 : evCode C n7_14 R S = seqK (evCode C n7_15 R S) fun R S => evCode C n7_16 R S := ev_seq
@[simp] theorem en7_10 : evCode C n7_10 R S = condK (IV.ev R (.t 8)) (fun _ => evCode C n7_11 R S) fun _ => evCode C n7_14 R S := ev_cond
@[simp] theorem en7_4 : evCode C n7_4 R S = seqK (evCode C n7_5 R S) fun R S => evCode C n7_10 R S := ev_seq
@[simp] theorem en7_3 : evCode C n7_3 R S = blockK 0 (evCode C n7_4 R S) := ev_block
@[simp] theorem en7_22 : evCode C n7_22 R S = regK (runOps C l7_22 R S) := ev_plain rfl
@[simp] theorem en7_25 : evCode C n7_25 R S = regK (runOps C l7_25 R S) := ev_plain rfl
@[simp] theorem en7_28 : evCode C n7_28 R S = regK (runOps C l7_28 R S) := ev_plain rfl
@[simp] theorem en7_30 : evCode C n7_30 R S = regK (runOps C l7_30 R S) := ev_plain rfl
@[simp] theorem en7_31 : evCode C n7_31 R S = some (.ret, R, S) := (rfl)
@[simp] theorem en7_29 : evCode C n7_29 R S = seqK (evCode C n7_30 R S) fun R S => evCode C n7_31 R S := ev_seq
@[simp] theorem en7_27 : evCode C n7_27 R S = seqK (evCode C n7_28 R S) fun R S => evCode C n7_29 R S := ev_seq
@[simp] theorem en7_32 : evCode C n7_32 R S = some (.norm, R, S) := (rfl)
@[simp] theorem en7_26 : evCode C n7_26 R S = condK (IV.ev R (.t 29)) (fun _ => evCode C n7_27 R S) fun _ => evCode C n7_32 R S := ev_cond
@[simp] theorem en7_24 : evCode C n7_24 R S = seqK (evCode C n7_25 R S) fun R S => evCode C n7_26 R S := ev_seq
@[simp] theorem en7_34 : evCode C n7_34 R S = regK (runOps C l7_34 R S) := ev_plain rfl
@[simp] theorem en7_36 : evCode C n7_36 R S = regK (runOps C l7_36 R S) := ev_plain rfl
@[simp] theorem en7_37 : evCode C n7_37 R S = some (.ret, R, S) := (rfl)
@[simp] theorem en7_35 : evCode C n7_35 R S = seqK (evCode C n7_36 R S) fun R S => evCode C n7_37 R S := ev_seq
@[simp] theorem en7_33 : evCode C n7_33 R S = seqK (evCode C n7_34 R S) fun R S => evCode C n7_35 R S := ev_seq
@[simp] theorem en7_23 : evCode C n7_23 R S = seqK (evCode C n7_24 R S) fun R S => evCode C n7_33 R S := ev_seq
@[simp] theorem en7_21 : evCode C n7_21 R S = seqK (evCode C n7_22 R S) fun R S => evCode C n7_23 R S := ev_seq
@[simp] theorem en7_2 : evCode C n7_2 R S = seqK (evCode C n7_3 R S) fun R S => evCode C n7_21 R S := ev_seq
@[simp] theorem en7_0 : evCode C n7_0 R S = seqK (evCode C n7_1 R S) fun R S => evCode C n7_2 R S := ev_seq
theorem q7 {n : Nat} {args : List Value} {S : St} : calls table.find (n + 1) 7 args S = endK S [.cell 6 true 17, .tmp 7] (evCode (calls table.find n) n7_0 (args ++ List.replicate (37 - args.length) undef) S.enter) := call_enter b7

/-! wainscot/wainscotref24.Answer -/
@[simp] def l8_1 : List IOper := [oy 3 (.box 24 17 (.t 0)),
  oy 6 (.new 24 [(.int .i64 0), (.int .i64 0), (.int .i64 0), (.int .i64 0), (.int .i64 0), (.int .i64 0), (.int .i64 0), (.int .u64 0), (.int .u64 0), (.int .u64 0), (.int .u64 0), (.int .u64 0), (.int .i64 0), (.int .i64 0), (.int .i64 0), (.int .i64 0), (.int .i64 0)]),
  oy 7 (.mv (.c (.int .i64 0)))]
def n8_1 : ICode := .region l8_1
@[simp] def l8_4 : List IOper := [oy 8 (.addOff 3 (.t 3)),
  oy 9 (.load false 1 (.t 8)),
  oy 10 (.bin .neq .int (.t 9) (.c (.int .i64 0))),
  oy 11 (.mv (.t 10)),
  oz 12 11 false (.addOff 4 (.t 3)),
  oz 13 11 false (.load false 1 (.t 12)),
  oz 14 11 false (.bin .neq .int (.t 13) (.c (.int .i64 1))),
  oy 15 (.pick (.t 11) (.c (.bool true)) (.t 14))]
def n8_4 : ICode := .region l8_4
@[simp] def l8_7 : List IOper := [oy 16 (.build [(.int .i64 0), (.int .i64 0), (.int .i64 0), (.int .i64 0), (.int .i64 0), (.int .i64 0), (.int .i64 0), (.int .u64 0), (.int .u64 0), (.int .u64 0), (.int .u64 0), (.int .u64 0), (.int .i64 0), (.int .i64 0), (.int .i64 0), (.int .i64 0), (.int .i64 0)] []),
  ox (.store 17 (.t 6) (.t 16)),
  oy 7 (.mv (.c (.int .i64 292)))]
def n8_7 : ICode := .region l8_7
def n8_8 : ICode := .ret
def n8_6 : ICode := .seq n8_7 n8_8
def n8_9 : ICode := .skip
def n8_5 : ICode := .cond (.t 15) n8_6 n8_9
def n8_3 : ICode := .seq n8_4 n8_5
@[simp] def l8_12 : List IOper := [oy 17 (.mv (.t 1)),
  oy 18 (.mv (.t 17)),
  oz 19 18 true (.mv (.t 2)),
  oz 20 18 true (.bin .lss .int (.t 19) (.c (.int .i64 0))),
  oz 21 18 true (.mv (.t 20)),
  oz 22 21 false (.mv (.t 2)),
  oz 23 21 false (.bin .geq .int (.t 22) (.c (.int .i64 32))),
  oz 24 18 true (.pick (.t 21) (.c (.bool true)) (.t 23)),
  oy 25 (.pick (.t 18) (.t 24) (.c (.bool false)))]
def n8_12 : ICode := .region l8_12
@[simp] def l8_15 : List IOper := [oy 26 (.build [(.int .i64 0), (.int .i64 0), (.int .i64 0), (.int .i64 0), (.int .i64 0), (.int .i64 0), (.int .i64 0), (.int .u64 0), (.int .u64 0), (.int .u64 0), (.int .u64 0), (.int .u64 0), (.int .i64 0), (.int .i64 0), (.int .i64 0), (.int .i64 0), (.int .i64 0)] []),
  ox (.store 17 (.t 6) (.t 26)),
  oy 7 (.mv (.c (.int .i64 2)))]
def n8_15 : ICode := .region l8_15
def n8_16 : ICode := .ret
def n8_14 : ICode := .seq n8_15 n8_16
def n8_17 : ICode := .skip
def n8_13 : ICode := .cond (.t 25) n8_14 n8_17
def n8_11 : ICode := .seq n8_12 n8_13
@[simp] def l8_19 : List IOper := [oy 27 (.addOff 4 (.t 3)),
  ox (.store 1 (.t 27) (.c (.int .i64 0)))]
def n8_19 : ICode := .region l8_19
@[simp] def l8_22 : List IOper := [oy 28 (.mv (.t 1)),
  oy 29 (.un .not (.t 28))]
def n8_22 : ICode := .region l8_22
@[simp] def l8_25 : List IOper := [oy 30 (.addOff 3 (.t 3)),
  ox (.store 1 (.t 30) (.c (.int .i64 2)))]
def n8_25 : ICode := .region l8_25
@[simp] def l8_27 : List IOper := [oy 31 (.load true 17 (.t 3)),
  ox (.store 17 (.t 6) (.t 31)),
  oy 7 (.mv (.c (.int .i64 0)))]
def n8_27 : ICode := .region l8_27
def n8_28 : ICode := .ret
def n8_26 : ICode := .seq n8_27 n8_28
def n8_24 : ICode := .seq n8_25 n8_26
def n8_29 : ICode := .skip
def n8_23 : ICode := .cond (.t 29) n8_24 n8_29
def n8_21 : ICode := .seq n8_22 n8_23
@[simp] def l8_31 : List IOper := [oy 32 (.mv (.t 2)),
  oy 33 (.addOff 5 (.t 3)),
  ox (.store 1 (.t 33) (.t 32))]
def n8_31 : ICode := .region l8_31
@[simp] def l8_33 : List IOper := [oy 34 (.addOff 13 (.t 3)),
  ox (.store 1 (.t 34) (.c (.int .i64 0)))]
def n8_33 : ICode := .region l8_33
@[simp] def l8_35 : List IOper := [oy 35 (.addOff 2 (.t 3)),
  ox (.store 1 (.t 35) (.c (.int .i64 43)))]
def n8_35 : ICode := .region l8_35
@[simp] def l8_37 : List IOper := [oy 36 (.load true 17 (.t 3)),
  ox (.store 17 (.t 6) (.t 36)),
  oy 7 (.mv (.c (.int .i64 0)))]
def n8_37 : ICode := .region l8_37
def n8_38 : ICode := .ret
def n8_36 : ICode := .seq n8_37 n8_38
def n8_34 : ICode := .seq n8_35 n8_36
def n8_32 : ICode := .seq n8_33 n8_34
def n8_30 : ICode := .seq n8_31 n8_32
def n8_20 : ICode := .seq n8_21 n8_30
def n8_18 : ICode := .seq n8_19 n8_20
def n8_10 : ICode := .seq n8_11 n8_18
def n8_2 : ICode := .seq n8_3 n8_10
def n8_0 : ICode := .seq n8_1 n8_2
theorem b8 : table.find 8 = some ⟨37, n8_0, [.cell 6 true 17, .tmp 7]⟩ := by kernel_rfl
@[simp] theorem en8_1 : evCode C n8_1 R S = regK (runOps C l8_1 R S) := ev_plain rfl
@[simp] theorem en8_4 : evCode C n8_4 R S = regK (runOps C l8_4 R S) := ev_plain rfl
@[simp] theorem en8_7 : evCode C n8_7 R S = regK (runOps C l8_7 R S) := ev_plain rfl
@[simp] theorem en8_8 : evCode C n8_8 R S = some (.ret, R, S) := (rfl)
@[simp] theorem en8_6 : evCode C n8_6 R S = seqK (evCode C n8_7 R S) fun R S => evCode C n8_8 R S := ev_seq
@[simp] theorem en8_9 : evCode C n8_9 R S = some (.norm, R, S) := (rfl)
@[simp] theorem en8_5 : evCode C n8_5 R S = condK (IV.ev R (.t 15)) (fun _ => evCode C n8_6 R S) fun _ => evCode C n8_9 R S := ev_cond
@[simp] theorem en8_3 : evCode C n8_3 R S = seqK (evCode C n8_4 R S) fun R S => evCode C n8_5 R S := ev_seq
@[simp] theorem en8_12 : evCode C n8_12 R S = regK (runOps C l8_12 R S) := ev_plain rfl
@[simp] theorem en8_15 : evCode C n8_15 R S = regK (runOps C l8_15 R S) := ev_plain rfl
@[simp] theorem en8_16 : evCode C n8_16 R S = some (.ret, R, S) := (rfl)
@[simp] theorem en8_14 : evCode C n8_14 R S = seqK (evCode C n8_15 R S) fun R S => evCode C n8_16 R S := ev_seq
@[simp] theorem en8_17 : evCode C n8_17 R S = some (.norm, R, S) := (rfl)
@[simp] theorem en8_13 : evCode C n8_13 R S = condK (IV.ev R (.t 25)) (fun _ => evCode C n8_14 R S) fun _ => evCode C n8_17 R S := ev_cond
@[simp] theorem en8_11 : evCode C n8_11 R S = seqK (evCode C n8_12 R S) fun R S => evCode C n8_13 R S := ev_seq
@[simp] theorem en8_19 : evCode C n8_19 R S = regK (runOps C l8_19 R S) := ev_plain rfl
@[simp] theorem en8_22 : evCode C n8_22 R S = regK (runOps C l8_22 R S) := ev_plain rfl
@[simp] theorem en8_25 : evCode C n8_25 R S = regK (runOps C l8_25 R S) := ev_plain rfl
@[simp] theorem en8_27 : evCode C n8_27 R S = regK (runOps C l8_27 R S) := ev_plain rfl
@[simp] theorem en8_28 : evCode C n8_28 R S = some (.ret, R, S) := (rfl)
@[simp] theorem en8_26 : evCode C n8_26 R S = seqK (evCode C n8_27 R S) fun R S => evCode C n8_28 R S := ev_seq
@[simp] theorem en8_24 : evCode C n8_24 R S = seqK (evCode C n8_25 R S) fun R S => evCode C n8_26 R S := ev_seq
@[simp] theorem en8_29 : evCode C n8_29 R S = some (.norm, R, S) := (rfl)
@[simp] theorem en8_23 : evCode C n8_23 R S = condK (IV.ev R (.t 29)) (fun _ => evCode C n8_24 R S) fun _ => evCode C n8_29 R S := ev_cond
@[simp] theorem en8_21 : evCode C n8_21 R S = seqK (evCode C n8_22 R S) fun R S => evCode C n8_23 R S := ev_seq
@[simp] theorem en8_31 : evCode C n8_31 R S = regK (runOps C l8_31 R S) := ev_plain rfl
@[simp] theorem en8_33 : evCode C n8_33 R S = regK (runOps C l8_33 R S) := ev_plain rfl
@[simp] theorem en8_35 : evCode C n8_35 R S = regK (runOps C l8_35 R S) := ev_plain rfl
@[simp] theorem en8_37 : evCode C n8_37 R S = regK (runOps C l8_37 R S) := ev_plain rfl
@[simp] theorem en8_38 : evCode C n8_38 R S = some (.ret, R, S) := (rfl)
@[simp] theorem en8_36 : evCode C n8_36 R S = seqK (evCode C n8_37 R S) fun R S => evCode C n8_38 R S := ev_seq
@[simp] theorem en8_34 : evCode C n8_34 R S = seqK (evCode C n8_35 R S) fun R S => evCode C n8_36 R S := ev_seq
@[simp] theorem en8_32 : evCode C n8_32 R S = seqK (evCode C n8_33 R S) fun R S => evCode C n8_34 R S := ev_seq
@[simp] theorem en8_30 : evCode C n8_30 R S = seqK (evCode C n8_31 R S) fun R S => evCode C n8_32 R S := ev_seq
@[simp] theorem en8_20 : evCode C n8_20 R S = seqK (evCode C n8_21 R S) fun R S => evCode C n8_30 R S := ev_seq
@[simp] theorem en8_18 : evCode C n8_18 R S = seqK (evCode C n8_19 R S) fun R S => evCode C n8_20 R S := ev_seq
@[simp] theorem en8_10 : evCode C n8_10 R S = seqK (evCode C n8_11 R S) fun R S => evCode C n8_18 R S := ev_seq
@[simp] theorem en8_2 : evCode C n8_2 R S = seqK (evCode C n8_3 R S) fun R S => evCode C n8_10 R S := ev_seq
@[simp] theorem en8_0 : evCode C n8_0 R S = seqK (evCode C n8_1 R S) fun R S => evCode C n8_2 R S := ev_seq
theorem q8 {n : Nat} {args : List Value} {S : St} : calls table.find (n + 1) 8 args S = endK S [.cell 6 true 17, .tmp 7] (evCode (calls table.find n) n8_0 (args ++ List.replicate (37 - args.length) undef) S.enter) := call_enter b8

end Go.Proofs.YtildgdaoapmjhaaGreatDoor.Fill
