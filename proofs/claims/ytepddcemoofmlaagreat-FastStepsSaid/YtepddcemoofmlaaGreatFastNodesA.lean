/- The pieces of the code, each with a name and a rule (written by program). -/
import Derived.Test.YtepddcemoofmlaaGreatFastIr
import Derived.Test.YtepddcemoofmlaaGreatAe33
set_option linter.unusedSimpArgs false
set_option linter.unusedVariables false
namespace Go.Proofs.YtepddcemoofmlaaGreat.Fast
open Go Go.Proofs.YtepddcemoofmlaaGreat.AE
set_option maxRecDepth 100000
variable {C : CallS} {R : List Value} {S : St}

/-! wainscot/mem.New -/
@[simp] def l13_1 : List IOper := [oy 2 (.mv (.c (.pointer none))),
  oy 3 (.mv (.c (.int .i64 0)))]
def n13_1 : ICode := .region l13_1
@[simp] def l13_4 : List IOper := [oy 4 (.mv (.t 0)),
  oy 5 (.bin .lss .int (.t 4) (.c (.int .i64 1))),
  oy 6 (.mv (.t 5)),
  oz 7 6 false (.mv (.t 0)),
  oz 8 6 false (.bin .gtr .int (.t 7) (.c (.int .i64 4096))),
  oy 9 (.pick (.t 6) (.c (.bool true)) (.t 8))]
def n13_4 : ICode := .region l13_4
@[simp] def l13_7 : List IOper := [oy 2 (.mv (.c (.pointer none))),
  oy 3 (.mv (.c (.int .i64 9)))]
def n13_7 : ICode := .region l13_7
def n13_8 : ICode := .ret
def n13_6 : ICode := .seq n13_7 n13_8
def n13_9 : ICode := .skip
def n13_5 : ICode := .cond (.t 9) n13_6 n13_9
def n13_3 : ICode := .seq n13_4 n13_5
@[simp] def l13_11 : List IOper := [oy 10 (.mv (.t 0)),
  oy 11 (.mkSlice 23 (.int .u64 0) 8 (.t 10) (.t 10)),
  oy 12 (.build [(.slice none 0 0), (.int .i64 0)] [(0, 1, (.t 11))]),
  oy 13 (.box 48 2 (.t 12)),
  oy 2 (.mv (.t 13)),
  oy 3 (.mv (.c (.int .i64 0)))]
def n13_11 : ICode := .region l13_11
def n13_12 : ICode := .ret
def n13_10 : ICode := .seq n13_11 n13_12
def n13_2 : ICode := .seq n13_3 n13_10
def n13_0 : ICode := .seq n13_1 n13_2
theorem b13 : table.find 13 = some ⟨14, n13_0, [.tmp 2, .tmp 3]⟩ := by kernel_rfl
@[simp] theorem en13_1 : evCode C n13_1 R S = regK (runOps C l13_1 R S) := ev_plain rfl
@[simp] theorem en13_4 : evCode C n13_4 R S = regK (runOps C l13_4 R S) := ev_plain rfl
@[simp] theorem en13_7 : evCode C n13_7 R S = regK (runOps C l13_7 R S) := ev_plain rfl
@[simp] theorem en13_8 : evCode C n13_8 R S = some (.ret, R, S) := (rfl)
@[simp] theorem en13_6 : evCode C n13_6 R S = seqK (evCode C n13_7 R S) fun R S => evCode C n13_8 R S := ev_seq
@[simp] theorem en13_9 : evCode C n13_9 R S = some (.norm, R, S) := (rfl)
@[simp] theorem en13_5 : evCode C n13_5 R S = condK (IV.ev R (.t 9)) (fun _ => evCode C n13_6 R S) fun _ => evCode C n13_9 R S := ev_cond
@[simp] theorem en13_3 : evCode C n13_3 R S = seqK (evCode C n13_4 R S) fun R S => evCode C n13_5 R S := ev_seq
@[simp] theorem en13_11 : evCode C n13_11 R S = regK (runOps C l13_11 R S) := ev_plain rfl
@[simp] theorem en13_12 : evCode C n13_12 R S = some (.ret, R, S) := (rfl)
@[simp] theorem en13_10 : evCode C n13_10 R S = seqK (evCode C n13_11 R S) fun R S => evCode C n13_12 R S := ev_seq
@[simp] theorem en13_2 : evCode C n13_2 R S = seqK (evCode C n13_3 R S) fun R S => evCode C n13_10 R S := ev_seq
@[simp] theorem en13_0 : evCode C n13_0 R S = seqK (evCode C n13_1 R S) fun R S => evCode C n13_2 R S := ev_seq
theorem q13 {n : Nat} {args : List Value} {S : St} : calls table.find (n + 1) 13 args S = endK S [.tmp 2, .tmp 3] (evCode (calls table.find n) n13_0 (args ++ List.replicate (14 - args.length) undef) S.enter) := call_enter b13

/-! (*wainscot/mem.Mem).Len -/
@[simp] def l17_1 : List IOper := [oy 2 (.mv (.c (.int .i64 0)))]
def n17_1 : ICode := .region l17_1
@[simp] def l17_4 : List IOper := [oy 3 (.mv (.t 0)),
  oy 4 (.bin .eql .ptr (.t 3) (.c (.pointer none)))]
def n17_4 : ICode := .region l17_4
@[simp] def l17_7 : List IOper := [oy 2 (.mv (.c (.int .i64 0)))]
def n17_7 : ICode := .region l17_7
def n17_8 : ICode := .ret
def n17_6 : ICode := .seq n17_7 n17_8
def n17_9 : ICode := .skip
def n17_5 : ICode := .cond (.t 4) n17_6 n17_9
def n17_3 : ICode := .seq n17_4 n17_5
@[simp] def l17_11 : List IOper := [oy 5 (.mv (.t 0)),
  oy 6 (.nilCheck (.t 5)),
  oy 7 (.addOff 0 (.t 6)),
  oy 8 (.load false 1 (.t 7)),
  oy 9 (.lenS (.t 8)),
  oy 2 (.mv (.t 9))]
def n17_11 : ICode := .region l17_11
def n17_12 : ICode := .ret
def n17_10 : ICode := .seq n17_11 n17_12
def n17_2 : ICode := .seq n17_3 n17_10
def n17_0 : ICode := .seq n17_1 n17_2
theorem b17 : table.find 17 = some ⟨10, n17_0, [.tmp 2]⟩ := by kernel_rfl
@[simp] theorem en17_1 : evCode C n17_1 R S = regK (runOps C l17_1 R S) := ev_plain rfl
@[simp] theorem en17_4 : evCode C n17_4 R S = regK (runOps C l17_4 R S) := ev_plain rfl
@[simp] theorem en17_7 : evCode C n17_7 R S = regK (runOps C l17_7 R S) := ev_plain rfl
@[simp] theorem en17_8 : evCode C n17_8 R S = some (.ret, R, S) := (rfl)
@[simp] theorem en17_6 : evCode C n17_6 R S = seqK (evCode C n17_7 R S) fun R S => evCode C n17_8 R S := ev_seq
@[simp] theorem en17_9 : evCode C n17_9 R S = some (.norm, R, S) := (rfl)
@[simp] theorem en17_5 : evCode C n17_5 R S = condK (IV.ev R (.t 4)) (fun _ => evCode C n17_6 R S) fun _ => evCode C n17_9 R S := ev_cond
@[simp] theorem en17_3 : evCode C n17_3 R S = seqK (evCode C n17_4 R S) fun R S => evCode C n17_5 R S := ev_seq
@[simp] theorem en17_11 : evCode C n17_11 R S = regK (runOps C l17_11 R S) := ev_plain rfl
@[simp] theorem en17_12 : evCode C n17_12 R S = some (.ret, R, S) := (rfl)
@[simp] theorem en17_10 : evCode C n17_10 R S = seqK (evCode C n17_11 R S) fun R S => evCode C n17_12 R S := ev_seq
@[simp] theorem en17_2 : evCode C n17_2 R S = seqK (evCode C n17_3 R S) fun R S => evCode C n17_10 R S := ev_seq
@[simp] theorem en17_0 : evCode C n17_0 R S = seqK (evCode C n17_1 R S) fun R S => evCode C n17_2 R S := ev_seq
theorem q17 {n : Nat} {args : List Value} {S : St} : calls table.find (n + 1) 17 args S = endK S [.tmp 2] (evCode (calls table.find n) n17_0 (args ++ List.replicate (10 - args.length) undef) S.enter) := call_enter b17

/-! wainscot/chart.Check -/
@[simp] def l18_1 : List IOper := [oy 1 (.box 25 6 (.t 0)),
  oy 2 (.mv (.c (.int .i64 0)))]
def n18_1 : ICode := .region l18_1
@[simp] def l18_6 : List IOper := [oy 4 (.addOff 0 (.t 1)),
  oy 5 (.load false 1 (.t 4)),
  oy 6 (.bin .lss .int (.t 5) (.c (.int .i64 1))),
  oy 3 (.mv (.t 6))]
def n18_6 : ICode := .region l18_6
def n18_8 : ICode := .skip
@[simp] def l18_10 : List IOper := [oy 7 (.addOff 0 (.t 1)),
  oy 8 (.load false 1 (.t 7)),
  oy 9 (.bin .gtr .int (.t 8) (.c (.int .i64 8))),
  oy 3 (.mv (.t 9))]
def n18_10 : ICode := .region l18_10
def n18_12 : ICode := .skip
@[simp] def l18_14 : List IOper := [oy 10 (.addOff 1 (.t 1)),
  oy 11 (.load false 1 (.t 10)),
  oy 12 (.bin .lss .int (.t 11) (.c (.int .i64 1))),
  oy 3 (.mv (.t 12))]
def n18_14 : ICode := .region l18_14
def n18_16 : ICode := .skip
@[simp] def l18_18 : List IOper := [oy 13 (.addOff 1 (.t 1)),
  oy 14 (.load false 1 (.t 13)),
  oy 15 (.bin .gtr .int (.t 14) (.c (.int .i64 32))),
  oy 3 (.mv (.t 15))]
def n18_18 : ICode := .region l18_18
def n18_20 : ICode := .skip
@[simp] def l18_22 : List IOper := [oy 16 (.addOff 2 (.t 1)),
  oy 17 (.load false 1 (.t 16)),
  oy 18 (.bin .lss .int (.t 17) (.c (.int .i64 1))),
  oy 3 (.mv (.t 18))]
def n18_22 : ICode := .region l18_22
def n18_24 : ICode := .skip
@[simp] def l18_25 : List IOper := [oy 19 (.addOff 2 (.t 1)),
  oy 20 (.load false 1 (.t 19)),
  oy 21 (.bin .gtr .int (.t 20) (.c (.int .i64 16))),
  oy 3 (.mv (.t 21))]
def n18_25 : ICode := .region l18_25
def n18_23 : ICode := .cond (.t 3) n18_24 n18_25
def n18_21 : ICode := .seq n18_22 n18_23
def n18_19 : ICode := .cond (.t 3) n18_20 n18_21
def n18_17 : ICode := .seq n18_18 n18_19
def n18_15 : ICode := .cond (.t 3) n18_16 n18_17
def n18_13 : ICode := .seq n18_14 n18_15
def n18_11 : ICode := .cond (.t 3) n18_12 n18_13
def n18_9 : ICode := .seq n18_10 n18_11
def n18_7 : ICode := .cond (.t 3) n18_8 n18_9
def n18_5 : ICode := .seq n18_6 n18_7
@[simp] def l18_28 : List IOper := [oy 2 (.mv (.c (.int .i64 2)))]
def n18_28 : ICode := .region l18_28
def n18_29 : ICode := .ret
def n18_27 : ICode := .seq n18_28 n18_29
@[simp] def l18_32 : List IOper := [oy 23 (.addOff 3 (.t 1)),
  oy 24 (.load false 1 (.t 23)),
  oy 25 (.bin .lss .int (.t 24) (.c (.int .i64 0))),
  oy 22 (.mv (.t 25))]
def n18_32 : ICode := .region l18_32
def n18_34 : ICode := .skip
@[simp] def l18_36 : List IOper := [oy 26 (.addOff 3 (.t 1)),
  oy 27 (.load false 1 (.t 26)),
  oy 28 (.bin .gtr .int (.t 27) (.c (.int .i64 32))),
  oy 22 (.mv (.t 28))]
def n18_36 : ICode := .region l18_36
def n18_38 : ICode := .skip
@[simp] def l18_40 : List IOper := [oy 29 (.addOff 4 (.t 1)),
  oy 30 (.load false 1 (.t 29)),
  oy 31 (.bin .lss .int (.t 30) (.c (.int .i64 0))),
  oy 22 (.mv (.t 31))]
def n18_40 : ICode := .region l18_40
def n18_42 : ICode := .skip
@[simp] def l18_43 : List IOper := [oy 32 (.addOff 4 (.t 1)),
  oy 33 (.load false 1 (.t 32)),
  oy 34 (.bin .gtr .int (.t 33) (.c (.int .i64 32))),
  oy 22 (.mv (.t 34))]
def n18_43 : ICode := .region l18_43
def n18_41 : ICode := .cond (.t 22) n18_42 n18_43
def n18_39 : ICode := .seq n18_40 n18_41
def n18_37 : ICode := .cond (.t 22) n18_38 n18_39
def n18_35 : ICode := .seq n18_36 n18_37
def n18_33 : ICode := .cond (.t 22) n18_34 n18_35
def n18_31 : ICode := .seq n18_32 n18_33
@[simp] def l18_46 : List IOper := [oy 2 (.mv (.c (.int .i64 2)))]
def n18_46 : ICode := .region l18_46
def n18_47 : ICode := .ret
def n18_45 : ICode := .seq n18_46 n18_47
def n18_48 : ICode := .skip
def n18_44 : ICode := .cond (.t 22) n18_45 n18_48
def n18_30 : ICode := .seq n18_31 n18_44
def n18_26 : ICode := .cond (.t 3) n18_27 n18_30
def n18_4 : ICode := .seq n18_5 n18_26
def n18_3 : ICode := .block 0 n18_4
@[simp] def l18_50 : List IOper := [oy 2 (.mv (.c (.int .i64 0)))]
def n18_50 : ICode := .region l18_50
def n18_51 : ICode := .ret
def n18_49 : ICode := .seq n18_50 n18_51
def n18_2 : ICode := .seq n18_3 n18_49
def n18_0 : ICode := .seq n18_1 n18_2
theorem b18 : table.find 18 = some ⟨35, n18_0, [.tmp 2]⟩ := by kernel_rfl
@[simp] theorem en18_1 : evCode C n18_1 R S = regK (runOps C l18_1 R S) := ev_plain rfl
@[simp] theorem en18_6 : evCode C n18_6 R S = regK (runOps C l18_6 R S) := ev_plain rfl
@[simp] theorem en18_8 : evCode C n18_8 R S = some (.norm, R, S) := (rfl)
@[simp] theorem en18_10 : evCode C n18_10 R S = regK (runOps C l18_10 R S) := ev_plain rfl
@[simp] theorem en18_12 : evCode C n18_12 R S = some (.norm, R, S) := (rfl)
@[simp] theorem en18_14 : evCode C n18_14 R S = regK (runOps C l18_14 R S) := ev_plain rfl
@[simp] theorem en18_16 : evCode C n18_16 R S = some (.norm, R, S) := (rfl)
@[simp] theorem en18_18 : evCode C n18_18 R S = regK (runOps C l18_18 R S) := ev_plain rfl
@[simp] theorem en18_20 : evCode C n18_20 R S = some (.norm, R, S) := (rfl)
@[simp] theorem en18_22 : evCode C n18_22 R S = regK (runOps C l18_22 R S) := ev_plain rfl
@[simp] theorem en18_24 : evCode C n18_24 R S = some (.norm, R, S) := (rfl)
@[simp] theorem en18_25 : evCode C n18_25 R S = regK (runOps C l18_25 R S) := ev_plain rfl
@[simp] theorem en18_23 : evCode C n18_23 R S = condK (IV.ev R (.t 3)) (fun _ => evCode C n18_24 R S) fun _ => evCode C n18_25 R S := ev_cond
@[simp] theorem en18_21 : evCode C n18_21 R S = seqK (evCode C n18_22 R S) fun R S => evCode C n18_23 R S := ev_seq
@[simp] theorem en18_19 : evCode C n18_19 R S = condK (IV.ev R (.t 3)) (fun _ => evCode C n18_20 R S) fun _ => evCode C n18_21 R S := ev_cond
@[simp] theorem en18_17 : evCode C n18_17 R S = seqK (evCode C n18_18 R S) fun R S => evCode C n18_19 R S := ev_seq
@[simp] theorem en18_15 : evCode C n18_15 R S = condK (IV.ev R (.t 3)) (fun _ => evCode C n18_16 R S) fun _ => evCode C n18_17 R S := ev_cond
@[simp] theorem en18_13 : evCode C n18_13 R S = seqK (evCode C n18_14 R S) fun R S => evCode C n18_15 R S := ev_seq
@[simp] theorem en18_11 : evCode C n18_11 R S = condK (IV.ev R (.t 3)) (fun _ => evCode C n18_12 R S) fun _ => evCode C n18_13 R S := ev_cond
@[simp] theorem en18_9 : evCode C n18_9 R S = seqK (evCode C n18_10 R S) fun R S => evCode C n18_11 R S := ev_seq
@[simp] theorem en18_7 : evCode C n18_7 R S = condK (IV.ev R (.t 3)) (fun _ => evCode C n18_8 R S) fun _ => evCode C n18_9 R S := ev_cond
@[simp] theorem en18_5 : evCode C n18_5 R S = seqK (evCode C n18_6 R S) fun R S => evCode C n18_7 R S := ev_seq
@[simp] theorem en18_28 : evCode C n18_28 R S = regK (runOps C l18_28 R S) := ev_plain rfl
@[simp] theorem en18_29 : evCode C n18_29 R S = some (.ret, R, S) := (rfl)
@[simp] theorem en18_27 : evCode C n18_27 R S = seqK (evCode C n18_28 R S) fun R S => evCode C n18_29 R S := ev_seq
@[simp] theorem en18_32 : evCode C n18_32 R S = regK (runOps C l18_32 R S) := ev_plain rfl
@[simp] theorem en18_34 : evCode C n18_34 R S = some (.norm, R, S) := (rfl)
@[simp] theorem en18_36 : evCode C n18_36 R S = regK (runOps C l18_36 R S) := ev_plain rfl
@[simp] theorem en18_38 : evCode C n18_38 R S = some (.norm, R, S) := (rfl)
@[simp] theorem en18_40 : evCode C n18_40 R S = regK (runOps C l18_40 R S) := ev_plain rfl
@[simp] theorem en18_42 : evCode C n18_42 R S = some (.norm, R, S) := (rfl)
@[simp] theorem en18_43 : evCode C n18_43 R S = regK (runOps C l18_43 R S) := ev_plain rfl
@[simp] theorem en18_41 : evCode C n18_41 R S = condK (IV.ev R (.t 22)) (fun _ => evCode C n18_42 R S) fun _ => evCode C n18_43 R S := ev_cond
@[simp] theorem en18_39 : evCode C n18_39 R S = seqK (evCode C n18_40 R S) fun R S => evCode C n18_41 R S := ev_seq
@[simp] theorem en18_37 : evCode C n18_37 R S = condK (IV.ev R (.t 22)) (fun _ => evCode C n18_38 R S) fun _ => evCode C n18_39 R S := ev_cond
@[simp] theorem en18_35 : evCode C n18_35 R S = seqK (evCode C n18_36 R S) fun R S => evCode C n18_37 R S := ev_seq
@[simp] theorem en18_33 : evCode C n18_33 R S = condK (IV.ev R (.t 22)) (fun _ => evCode C n18_34 R S) fun _ => evCode C n18_35 R S := ev_cond
@[simp] theorem en18_31 : evCode C n18_31 R S = seqK (evCode C n18_32 R S) fun R S => evCode C n18_33 R S := ev_seq
@[simp] theorem en18_46 : evCode C n18_46 R S = regK (runOps C l18_46 R S) := ev_plain rfl
@[simp] theorem en18_47 : evCode C n18_47 R S = some (.ret, R, S) := (rfl)
@[simp] theorem en18_45 : evCode C n18_45 R S = seqK (evCode C n18_46 R S) fun R S => evCode C n18_47 R S := ev_seq
@[simp] theorem en18_48 : evCode C n18_48 R S = some (.norm, R, S) := (rfl)
@[simp] theorem en18_44 : evCode C n18_44 R S = condK (IV.ev R (.t 22)) (fun _ => evCode C n18_45 R S) fun _ => evCode C n18_48 R S := ev_cond
@[simp] theorem en18_30 : evCode C n18_30 R S = seqK (evCode C n18_31 R S) fun R S => evCode C n18_44 R S := ev_seq
@[simp] theorem en18_26 : evCode C n18_26 R S = condK (IV.ev R (.t 3)) (fun _ => evCode C n18_27 R S) fun _ => evCode C n18_30 R S := ev_cond
@[simp] theorem en18_4 : evCode C n18_4 R S = seqK (evCode C n18_5 R S) fun R S => evCode C n18_26 R S := ev_seq
@[simp] theorem en18_3 : evCode C n18_3 R S = blockK 0 (evCode C n18_4 R S) := ev_block
@[simp] theorem en18_50 : evCode C n18_50 R S = regK (runOps C l18_50 R S) := ev_plain rfl
@[simp] theorem en18_51 : evCode C n18_51 R S = some (.ret, R, S) := (rfl)
@[simp] theorem en18_49 : evCode C n18_49 R S = seqK (evCode C n18_50 R S) fun R S => evCode C n18_51 R S := ev_seq
@[simp] theorem en18_2 : evCode C n18_2 R S = seqK (evCode C n18_3 R S) fun R S => evCode C n18_49 R S := ev_seq
@[simp] theorem en18_0 : evCode C n18_0 R S = seqK (evCode C n18_1 R S) fun R S => evCode C n18_2 R S := ev_seq
theorem q18 {n : Nat} {args : List Value} {S : St} : calls table.find (n + 1) 18 args S = endK S [.tmp 2] (evCode (calls table.find n) n18_0 (args ++ List.replicate (35 - args.length) undef) S.enter) := call_enter b18

/-! wainscot/chart.Words -/
@[simp] def l56_1 : List IOper := [oy 1 (.box 25 6 (.t 0)),
  oy 2 (.mv (.c (.int .i64 0)))]
def n56_1 : ICode := .region l56_1
@[simp] def l56_4 : List IOper := [oy 3 (.load true 6 (.t 1)),
  oy 4 (.call (.c (.func (.func 18) #[] #[])) [(.t 3)] true),
  oy 5 (.bin .neq .int (.t 4) (.c (.int .i64 0)))]
def n56_4 : ICode := .region l56_4
@[simp] def l56_7 : List IOper := [oy 2 (.mv (.c (.int .i64 0)))]
def n56_7 : ICode := .region l56_7
def n56_8 : ICode := .ret
def n56_6 : ICode := .seq n56_7 n56_8
def n56_9 : ICode := .skip
def n56_5 : ICode := .cond (.t 5) n56_6 n56_9
def n56_3 : ICode := .seq n56_4 n56_5
@[simp] def l56_11 : List IOper := [oy 6 (.load true 6 (.t 1)),
  oy 7 (.call (.c (.func (.func 77) #[] #[])) [(.t 6)] true),
  oy 8 (.addOff 1 (.t 1)),
  oy 9 (.load false 1 (.t 8)),
  oy 10 (.addOff 2 (.t 1)),
  oy 11 (.load false 1 (.t 10)),
  oy 12 (.bin .mul .int (.t 9) (.t 11)),
  oy 13 (.bin .add .int (.t 7) (.t 12)),
  oy 2 (.mv (.t 13))]
def n56_11 : ICode := .region l56_11
def n56_12 : ICode := .ret
def n56_10 : ICode := .seq n56_11 n56_12
def n56_2 : ICode := .seq n56_3 n56_10
def n56_0 : ICode := .seq n56_1 n56_2
theorem b56 : table.find 56 = some ⟨14, n56_0, [.tmp 2]⟩ := by kernel_rfl
@[simp] theorem en56_1 : evCode C n56_1 R S = regK (runOps C l56_1 R S) := ev_plain rfl
@[simp] theorem en56_4 : evCode C n56_4 R S = regK (runOps C l56_4 R S) := ev_plain rfl
@[simp] theorem en56_7 : evCode C n56_7 R S = regK (runOps C l56_7 R S) := ev_plain rfl
@[simp] theorem en56_8 : evCode C n56_8 R S = some (.ret, R, S) := (rfl)
@[simp] theorem en56_6 : evCode C n56_6 R S = seqK (evCode C n56_7 R S) fun R S => evCode C n56_8 R S := ev_seq
@[simp] theorem en56_9 : evCode C n56_9 R S = some (.norm, R, S) := (rfl)
@[simp] theorem en56_5 : evCode C n56_5 R S = condK (IV.ev R (.t 5)) (fun _ => evCode C n56_6 R S) fun _ => evCode C n56_9 R S := ev_cond
@[simp] theorem en56_3 : evCode C n56_3 R S = seqK (evCode C n56_4 R S) fun R S => evCode C n56_5 R S := ev_seq
@[simp] theorem en56_11 : evCode C n56_11 R S = regK (runOps C l56_11 R S) := ev_plain rfl
@[simp] theorem en56_12 : evCode C n56_12 R S = some (.ret, R, S) := (rfl)
@[simp] theorem en56_10 : evCode C n56_10 R S = seqK (evCode C n56_11 R S) fun R S => evCode C n56_12 R S := ev_seq
@[simp] theorem en56_2 : evCode C n56_2 R S = seqK (evCode C n56_3 R S) fun R S => evCode C n56_10 R S := ev_seq
@[simp] theorem en56_0 : evCode C n56_0 R S = seqK (evCode C n56_1 R S) fun R S => evCode C n56_2 R S := ev_seq
theorem q56 {n : Nat} {args : List Value} {S : St} : calls table.find (n + 1) 56 args S = endK S [.tmp 2] (evCode (calls table.find n) n56_0 (args ++ List.replicate (14 - args.length) undef) S.enter) := call_enter b56

/-! wainscot/link.Fresh -/
@[simp] def l57_1 : List IOper := [oy 4 (.mv (.c (.slice none 0 0))),
  oy 5 (.mv (.c (.int .i64 0)))]
def n57_1 : ICode := .region l57_1
@[simp] def l57_4 : List IOper := [oy 8 (.mv (.t 0)),
  oy 9 (.bin .lss .int (.t 8) (.c (.int .i64 1))),
  oy 10 (.mv (.t 9)),
  oz 11 10 false (.mv (.t 0)),
  oz 12 10 false (.bin .gtr .int (.t 11) (.c (.int .i64 16))),
  oy 13 (.pick (.t 10) (.c (.bool true)) (.t 12))]
def n57_4 : ICode := .region l57_4
@[simp] def l57_7 : List IOper := [oy 4 (.mv (.c (.slice none 0 0))),
  oy 5 (.mv (.c (.int .i64 2)))]
def n57_7 : ICode := .region l57_7
def n57_8 : ICode := .ret
def n57_6 : ICode := .seq n57_7 n57_8
def n57_9 : ICode := .skip
def n57_5 : ICode := .cond (.t 13) n57_6 n57_9
def n57_3 : ICode := .seq n57_4 n57_5
@[simp] def l57_11 : List IOper := [oy 14 (.mv (.t 0)),
  oy 15 (.mkSlice 23 (.int .u64 0) 8 (.t 14) (.t 14)),
  oy 6 (.mv (.t 15))]
def n57_11 : ICode := .region l57_11
@[simp] def l57_14 : List IOper := [oy 16 (.mv (.t 6)),
  oy 17 (.lenS (.t 16)),
  oy 18 (.mv (.c (.int .i64 0)))]
def n57_14 : ICode := .region l57_14
@[simp] def l57_17 : List IOper := [oy 19 (.bin .lss .int (.t 18) (.t 17))]
def n57_17 : ICode := .region l57_17
def n57_20 : ICode := .skip
def n57_21 : ICode := .exit 0
def n57_19 : ICode := .cond (.t 19) n57_20 n57_21
@[simp] def l57_25 : List IOper := [oy 20 (.mv (.t 18)),
  oy 7 (.mv (.t 20))]
def n57_25 : ICode := .region l57_25
@[simp] def l57_26 : List IOper := [oy 21 (.mv (.t 6)),
  oy 22 (.mv (.t 7)),
  oy 23 (.mv (.t 7)),
  oy 24 (.bin .add .int (.t 23) (.c (.int .i64 2))),
  oy 25 (.conv .u64 (.t 24)),
  oy 26 (.mv (.t 1)),
  oy 27 (.mv (.t 7)),
  oy 28 (.call (.c (.func (.func 78) #[] #[])) [(.t 26), (.t 27)] true),
  oy 29 (.bin .xor .int (.t 25) (.t 28)),
  oy 30 (.idxS 1 (.t 21) (.t 22)),
  ox (.store 1 (.t 30) (.t 29))]
def n57_26 : ICode := .region l57_26
def n57_24 : ICode := .seq n57_25 n57_26
def n57_23 : ICode := .block 1 n57_24
@[simp] def l57_27 : List IOper := [oy 31 (.bin .add .int (.t 18) (.c (.int .i64 1))),
  oy 18 (.mv (.t 31))]
def n57_27 : ICode := .region l57_27
def n57_22 : ICode := .seq n57_23 n57_27
def n57_18 : ICode := .seq n57_19 n57_22
def n57_16 : ICode := .seq n57_17 n57_18
def loop57_0 : ICode := .loop n57_16
def n57_15 : ICode := .block 0 loop57_0
def n57_13 : ICode := .seq n57_14 n57_15
@[simp] def l57_29 : List IOper := [oy 32 (.mv (.t 6)),
  oy 33 (.mv (.t 0)),
  oy 34 (.bin .sub .int (.t 33) (.c (.int .i64 1))),
  oy 35 (.mv (.t 1)),
  oy 36 (.mv (.t 0)),
  oy 37 (.bin .sub .int (.t 36) (.c (.int .i64 1))),
  oy 38 (.call (.c (.func (.func 78) #[] #[])) [(.t 35), (.t 37)] true),
  oy 39 (.idxS 1 (.t 32) (.t 34)),
  ox (.store 1 (.t 39) (.t 38))]
def n57_29 : ICode := .region l57_29
@[simp] def l57_31 : List IOper := [oy 40 (.mv (.t 6)),
  oy 4 (.mv (.t 40)),
  oy 5 (.mv (.c (.int .i64 0)))]
def n57_31 : ICode := .region l57_31
def n57_32 : ICode := .ret
def n57_30 : ICode := .seq n57_31 n57_32
def n57_28 : ICode := .seq n57_29 n57_30
def n57_12 : ICode := .seq n57_13 n57_28
def n57_10 : ICode := .seq n57_11 n57_12
def n57_2 : ICode := .seq n57_3 n57_10
def n57_0 : ICode := .seq n57_1 n57_2
theorem b57 : table.find 57 = some ⟨41, n57_0, [.tmp 4, .tmp 5]⟩ := by kernel_rfl
@[simp] theorem en57_1 : evCode C n57_1 R S = regK (runOps C l57_1 R S) := ev_plain rfl
@[simp] theorem en57_4 : evCode C n57_4 R S = regK (runOps C l57_4 R S) := ev_plain rfl
@[simp] theorem en57_7 : evCode C n57_7 R S = regK (runOps C l57_7 R S) := ev_plain rfl
@[simp] theorem en57_8 : evCode C n57_8 R S = some (.ret, R, S) := (rfl)
@[simp] theorem en57_6 : evCode C n57_6 R S = seqK (evCode C n57_7 R S) fun R S => evCode C n57_8 R S := ev_seq
@[simp] theorem en57_9 : evCode C n57_9 R S = some (.norm, R, S) := (rfl)
@[simp] theorem en57_5 : evCode C n57_5 R S = condK (IV.ev R (.t 13)) (fun _ => evCode C n57_6 R S) fun _ => evCode C n57_9 R S := ev_cond
@[simp] theorem en57_3 : evCode C n57_3 R S = seqK (evCode C n57_4 R S) fun R S => evCode C n57_5 R S := ev_seq
@[simp] theorem en57_11 : evCode C n57_11 R S = regK (runOps C l57_11 R S) := ev_plain rfl
@[simp] theorem en57_14 : evCode C n57_14 R S = regK (runOps C l57_14 R S) := ev_plain rfl
@[simp] theorem en57_17 : evCode C n57_17 R S = regK (runOps C l57_17 R S) := ev_plain rfl
@[simp] theorem en57_20 : evCode C n57_20 R S = some (.norm, R, S) := (rfl)
@[simp] theorem en57_21 : evCode C n57_21 R S = some (.exit 0, R, S) := (rfl)
@[simp] theorem en57_19 : evCode C n57_19 R S = condK (IV.ev R (.t 19)) (fun _ => evCode C n57_20 R S) fun _ => evCode C n57_21 R S := ev_cond
@[simp] theorem en57_25 : evCode C n57_25 R S = regK (runOps C l57_25 R S) := ev_plain rfl
@[simp] theorem en57_26 : evCode C n57_26 R S = regK (runOps C l57_26 R S) := ev_plain rfl
@[simp] theorem en57_24 : evCode C n57_24 R S = seqK (evCode C n57_25 R S) fun R S => evCode C n57_26 R S := ev_seq
@[simp] theorem en57_23 : evCode C n57_23 R S = blockK 1 (evCode C n57_24 R S) := ev_block
@[simp] theorem en57_27 : evCode C n57_27 R S = regK (runOps C l57_27 R S) := ev_plain rfl
@[simp] theorem en57_22 : evCode C n57_22 R S = seqK (evCode C n57_23 R S) fun R S => evCode C n57_27 R S := ev_seq
@[simp] theorem en57_18 : evCode C n57_18 R S = seqK (evCode C n57_19 R S) fun R S => evCode C n57_22 R S := ev_seq
@[simp] theorem en57_16 : evCode C n57_16 R S = seqK (evCode C n57_17 R S) fun R S => evCode C n57_18 R S := ev_seq
theorem eloop57_0 : evCode C loop57_0 R S = iter (fun R S => evCode C n57_16 R S) rounds R S := (rfl)
@[simp] theorem en57_15 : evCode C n57_15 R S = blockK 0 (evCode C loop57_0 R S) := ev_block
@[simp] theorem en57_13 : evCode C n57_13 R S = seqK (evCode C n57_14 R S) fun R S => evCode C n57_15 R S := ev_seq
@[simp] theorem en57_29 : evCode C n57_29 R S = regK (runOps C l57_29 R S) := ev_plain rfl
@[simp] theorem en57_31 : evCode C n57_31 R S = regK (runOps C l57_31 R S) := ev_plain rfl
@[simp] theorem en57_32 : evCode C n57_32 R S = some (.ret, R, S) := (rfl)
@[simp] theorem en57_30 : evCode C n57_30 R S = seqK (evCode C n57_31 R S) fun R S => evCode C n57_32 R S := ev_seq
@[simp] theorem en57_28 : evCode C n57_28 R S = seqK (evCode C n57_29 R S) fun R S => evCode C n57_30 R S := ev_seq
@[simp] theorem en57_12 : evCode C n57_12 R S = seqK (evCode C n57_13 R S) fun R S => evCode C n57_28 R S := ev_seq
@[simp] theorem en57_10 : evCode C n57_10 R S = seqK (evCode C n57_11 R S) fun R S => evCode C n57_12 R S := ev_seq
@[simp] theorem en57_2 : evCode C n57_2 R S = seqK (evCode C n57_3 R S) fun R S => evCode C n57_10 R S := ev_seq
@[simp] theorem en57_0 : evCode C n57_0 R S = seqK (evCode C n57_1 R S) fun R S => evCode C n57_2 R S := ev_seq
theorem q57 {n : Nat} {args : List Value} {S : St} : calls table.find (n + 1) 57 args S = endK S [.tmp 4, .tmp 5] (evCode (calls table.find n) n57_0 (args ++ List.replicate (41 - args.length) undef) S.enter) := call_enter b57

/-! wainscot/chart.Key -/
@[simp] def l58_1 : List IOper := [oy 2 (.box 25 6 (.t 0)),
  oy 4 (.mv (.c (.int .u64 0)))]
def n58_1 : ICode := .region l58_1
@[simp] def l58_3 : List IOper := [oy 5 (.addOff 5 (.t 2)),
  oy 6 (.load false 1 (.t 5)),
  oy 7 (.mv (.t 1)),
  oy 8 (.conv .u64 (.t 7)),
  oy 9 (.bin .mul .int (.t 8) (.c (.int .u64 11400714819323198485))),
  oy 10 (.bin .add .int (.t 6) (.t 9)),
  oy 4 (.mv (.t 10))]
def n58_3 : ICode := .region l58_3
def n58_4 : ICode := .ret
def n58_2 : ICode := .seq n58_3 n58_4
def n58_0 : ICode := .seq n58_1 n58_2
theorem b58 : table.find 58 = some ⟨11, n58_0, [.tmp 4]⟩ := by kernel_rfl
@[simp] theorem en58_1 : evCode C n58_1 R S = regK (runOps C l58_1 R S) := ev_plain rfl
@[simp] theorem en58_3 : evCode C n58_3 R S = regK (runOps C l58_3 R S) := ev_plain rfl
@[simp] theorem en58_4 : evCode C n58_4 R S = some (.ret, R, S) := (rfl)
@[simp] theorem en58_2 : evCode C n58_2 R S = seqK (evCode C n58_3 R S) fun R S => evCode C n58_4 R S := ev_seq
@[simp] theorem en58_0 : evCode C n58_0 R S = seqK (evCode C n58_1 R S) fun R S => evCode C n58_2 R S := ev_seq
theorem q58 {n : Nat} {args : List Value} {S : St} : calls table.find (n + 1) 58 args S = endK S [.tmp 4] (evCode (calls table.find n) n58_0 (args ++ List.replicate (11 - args.length) undef) S.enter) := call_enter b58

/-! wainscot/chart.Link -/
@[simp] def l59_1 : List IOper := [oy 3 (.box 25 6 (.t 0)),
  oy 4 (.box 3 1 (.t 1)),
  oy 5 (.box 3 1 (.t 2)),
  oy 6 (.mv (.c (.int .i64 0)))]
def n59_1 : ICode := .region l59_1
@[simp] def l59_4 : List IOper := [oy 7 (.load false 1 (.t 4)),
  oy 8 (.bin .lss .int (.t 7) (.c (.int .i64 0))),
  oy 9 (.mv (.t 8)),
  oz 10 9 false (.load false 1 (.t 4)),
  oz 11 9 false (.addOff 1 (.t 3)),
  oz 12 9 false (.load false 1 (.t 11)),
  oz 13 9 false (.bin .geq .int (.t 10) (.t 12)),
  oy 14 (.pick (.t 9) (.c (.bool true)) (.t 13))]
def n59_4 : ICode := .region l59_4
@[simp] def l59_7 : List IOper := [oy 6 (.mv (.c (.int .i64 (-1))))]
def n59_7 : ICode := .region l59_7
def n59_8 : ICode := .ret
def n59_6 : ICode := .seq n59_7 n59_8
def n59_9 : ICode := .skip
def n59_5 : ICode := .cond (.t 14) n59_6 n59_9
def n59_3 : ICode := .seq n59_4 n59_5
@[simp] def l59_11 : List IOper := [oy 15 (.load true 6 (.t 3)),
  oy 16 (.load false 1 (.t 5)),
  oy 17 (.addOff 2 (.t 3)),
  oy 18 (.load false 1 (.t 17)),
  oy 19 (.mkFunc 80 [] [(.t 3), (.t 4), (.t 5)]),
  oy 20 (.call (.c (.func (.func 79) #[] #[])) [(.t 15), (.t 16), (.t 18), (.t 19)] true),
  oy 6 (.mv (.t 20))]
def n59_11 : ICode := .region l59_11
def n59_12 : ICode := .ret
def n59_10 : ICode := .seq n59_11 n59_12
def n59_2 : ICode := .seq n59_3 n59_10
def n59_0 : ICode := .seq n59_1 n59_2
theorem b59 : table.find 59 = some ⟨21, n59_0, [.tmp 6]⟩ := by kernel_rfl
@[simp] theorem en59_1 : evCode C n59_1 R S = regK (runOps C l59_1 R S) := ev_plain rfl
@[simp] theorem en59_4 : evCode C n59_4 R S = regK (runOps C l59_4 R S) := ev_plain rfl
@[simp] theorem en59_7 : evCode C n59_7 R S = regK (runOps C l59_7 R S) := ev_plain rfl
@[simp] theorem en59_8 : evCode C n59_8 R S = some (.ret, R, S) := (rfl)
@[simp] theorem en59_6 : evCode C n59_6 R S = seqK (evCode C n59_7 R S) fun R S => evCode C n59_8 R S := ev_seq
@[simp] theorem en59_9 : evCode C n59_9 R S = some (.norm, R, S) := (rfl)
@[simp] theorem en59_5 : evCode C n59_5 R S = condK (IV.ev R (.t 14)) (fun _ => evCode C n59_6 R S) fun _ => evCode C n59_9 R S := ev_cond
@[simp] theorem en59_3 : evCode C n59_3 R S = seqK (evCode C n59_4 R S) fun R S => evCode C n59_5 R S := ev_seq
@[simp] theorem en59_11 : evCode C n59_11 R S = regK (runOps C l59_11 R S) := ev_plain rfl
@[simp] theorem en59_12 : evCode C n59_12 R S = some (.ret, R, S) := (rfl)
@[simp] theorem en59_10 : evCode C n59_10 R S = seqK (evCode C n59_11 R S) fun R S => evCode C n59_12 R S := ev_seq
@[simp] theorem en59_2 : evCode C n59_2 R S = seqK (evCode C n59_3 R S) fun R S => evCode C n59_10 R S := ev_seq
@[simp] theorem en59_0 : evCode C n59_0 R S = seqK (evCode C n59_1 R S) fun R S => evCode C n59_2 R S := ev_seq
theorem q59 {n : Nat} {args : List Value} {S : St} : calls table.find (n + 1) 59 args S = endK S [.tmp 6] (evCode (calls table.find n) n59_0 (args ++ List.replicate (21 - args.length) undef) S.enter) := call_enter b59

/-! wainscot/count.Head -/
@[simp] def l60_1 : List IOper := [oy 4 (.mv (.c (.int .u64 0))),
  oy 5 (.mv (.c (.int .i64 0)))]
def n60_1 : ICode := .region l60_1
@[simp] def l60_5 : List IOper := [oy 7 (.mv (.t 0)),
  oy 8 (.bin .eql .int (.t 7) (.c (.int .i64 (-1)))),
  oy 9 (.mv (.t 8)),
  oz 10 9 true (.mv (.t 1)),
  oz 11 9 true (.bin .eql .int (.t 10) (.c (.int .i64 (-1)))),
  oy 12 (.pick (.t 9) (.t 11) (.c (.bool false))),
  oy 6 (.mv (.t 12))]
def n60_5 : ICode := .region l60_5
@[simp] def l60_8 : List IOper := [oy 4 (.mv (.c (.int .u64 0))),
  oy 5 (.mv (.c (.int .i64 0)))]
def n60_8 : ICode := .region l60_8
def n60_9 : ICode := .ret
def n60_7 : ICode := .seq n60_8 n60_9
@[simp] def l60_11 : List IOper := [oy 14 (.mv (.t 0)),
  oy 15 (.call (.c (.func (.func 81) #[] #[])) [(.t 14)] true),
  oy 16 (.un .not (.t 15)),
  oy 17 (.mv (.t 16)),
  oz 18 17 false (.mv (.t 1)),
  oz 19 17 false (.bin .lss .int (.t 18) (.c (.int .i64 (-1)))),
  oy 20 (.pick (.t 17) (.c (.bool true)) (.t 19)),
  oy 21 (.mv (.t 20)),
  oz 22 21 false (.mv (.t 1)),
  oz 23 21 false (.bin .geq .int (.t 22) (.c (.int .i64 16))),
  oy 24 (.pick (.t 21) (.c (.bool true)) (.t 23)),
  oy 13 (.mv (.t 24))]
def n60_11 : ICode := .region l60_11
@[simp] def l60_14 : List IOper := [oy 4 (.mv (.c (.int .u64 0))),
  oy 5 (.mv (.c (.int .i64 2)))]
def n60_14 : ICode := .region l60_14
def n60_15 : ICode := .ret
def n60_13 : ICode := .seq n60_14 n60_15
def n60_16 : ICode := .skip
def n60_12 : ICode := .cond (.t 13) n60_13 n60_16
def n60_10 : ICode := .seq n60_11 n60_12
def n60_6 : ICode := .cond (.t 6) n60_7 n60_10
def n60_4 : ICode := .seq n60_5 n60_6
def n60_3 : ICode := .block 0 n60_4
@[simp] def l60_18 : List IOper := [oy 25 (.mv (.t 0)),
  oy 26 (.bin .add .int (.t 25) (.c (.int .i64 1))),
  oy 27 (.conv .u64 (.t 26)),
  oy 28 (.bin .shl .int (.t 27) (.c (.int .u64 6))),
  oy 29 (.mv (.t 1)),
  oy 30 (.bin .add .int (.t 29) (.c (.int .i64 1))),
  oy 31 (.conv .u64 (.t 30)),
  oy 32 (.bin .or .int (.t 28) (.t 31)),
  oy 4 (.mv (.t 32)),
  oy 5 (.mv (.c (.int .i64 0)))]
def n60_18 : ICode := .region l60_18
def n60_19 : ICode := .ret
def n60_17 : ICode := .seq n60_18 n60_19
def n60_2 : ICode := .seq n60_3 n60_17
def n60_0 : ICode := .seq n60_1 n60_2
theorem b60 : table.find 60 = some ⟨33, n60_0, [.tmp 4, .tmp 5]⟩ := by kernel_rfl
@[simp] theorem en60_1 : evCode C n60_1 R S = regK (runOps C l60_1 R S) := ev_plain rfl
@[simp] theorem en60_5 : evCode C n60_5 R S = regK (runOps C l60_5 R S) := ev_plain rfl
@[simp] theorem en60_8 : evCode C n60_8 R S = regK (runOps C l60_8 R S) := ev_plain rfl
@[simp] theorem en60_9 : evCode C n60_9 R S = some (.ret, R, S) := (rfl)
@[simp] theorem en60_7 : evCode C n60_7 R S = seqK (evCode C n60_8 R S) fun R S => evCode C n60_9 R S := ev_seq
@[simp] theorem en60_11 : evCode C n60_11 R S = regK (runOps C l60_11 R S) := ev_plain rfl
@[simp] theorem en60_14 : evCode C n60_14 R S = regK (runOps C l60_14 R S) := ev_plain rfl
@[simp] theorem en60_15 : evCode C n60_15 R S = some (.ret, R, S) := (rfl)
@[simp] theorem en60_13 : evCode C n60_13 R S = seqK (evCode C n60_14 R S) fun R S => evCode C n60_15 R S := ev_seq
@[simp] theorem en60_16 : evCode C n60_16 R S = some (.norm, R, S) := (rfl)
@[simp] theorem en60_12 : evCode C n60_12 R S = condK (IV.ev R (.t 13)) (fun _ => evCode C n60_13 R S) fun _ => evCode C n60_16 R S := ev_cond
@[simp] theorem en60_10 : evCode C n60_10 R S = seqK (evCode C n60_11 R S) fun R S => evCode C n60_12 R S := ev_seq
@[simp] theorem en60_6 : evCode C n60_6 R S = condK (IV.ev R (.t 6)) (fun _ => evCode C n60_7 R S) fun _ => evCode C n60_10 R S := ev_cond
@[simp] theorem en60_4 : evCode C n60_4 R S = seqK (evCode C n60_5 R S) fun R S => evCode C n60_6 R S := ev_seq
@[simp] theorem en60_3 : evCode C n60_3 R S = blockK 0 (evCode C n60_4 R S) := ev_block
@[simp] theorem en60_18 : evCode C n60_18 R S = regK (runOps C l60_18 R S) := ev_plain rfl
@[simp] theorem en60_19 : evCode C n60_19 R S = some (.ret, R, S) := (rfl)
@[simp] theorem en60_17 : evCode C n60_17 R S = seqK (evCode C n60_18 R S) fun R S => evCode C n60_19 R S := ev_seq
@[simp] theorem en60_2 : evCode C n60_2 R S = seqK (evCode C n60_3 R S) fun R S => evCode C n60_17 R S := ev_seq
@[simp] theorem en60_0 : evCode C n60_0 R S = seqK (evCode C n60_1 R S) fun R S => evCode C n60_2 R S := ev_seq
theorem q60 {n : Nat} {args : List Value} {S : St} : calls table.find (n + 1) 60 args S = endK S [.tmp 4, .tmp 5] (evCode (calls table.find n) n60_0 (args ++ List.replicate (33 - args.length) undef) S.enter) := call_enter b60

/-! wainscot/count.Pack -/
@[simp] def l61_1 : List IOper := [oy 1 (.box 97 4 (.t 0)),
  oy 2 (.mv (.c (.int .u64 0))),
  oy 3 (.mv (.c (.int .i64 0)))]
def n61_1 : ICode := .region l61_1
@[simp] def l61_4 : List IOper := [oy 4 (.load true 4 (.t 1)),
  oy 5 (.call (.c (.func (.func 82) #[] #[])) [(.t 4)] true),
  oy 6 (.un .not (.t 5))]
def n61_4 : ICode := .region l61_4
@[simp] def l61_7 : List IOper := [oy 2 (.mv (.c (.int .u64 0))),
  oy 3 (.mv (.c (.int .i64 2)))]
def n61_7 : ICode := .region l61_7
def n61_8 : ICode := .ret
def n61_6 : ICode := .seq n61_7 n61_8
def n61_9 : ICode := .skip
def n61_5 : ICode := .cond (.t 6) n61_6 n61_9
def n61_3 : ICode := .seq n61_4 n61_5
@[simp] def l61_11 : List IOper := [oy 7 (.addOff 0 (.t 1)),
  oy 8 (.load false 1 (.t 7)),
  oy 9 (.conv .u64 (.t 8)),
  oy 10 (.addOff 1 (.t 1)),
  oy 11 (.load false 1 (.t 10)),
  oy 12 (.conv .u64 (.t 11)),
  oy 13 (.bin .shl .int (.t 12) (.c (.int .u64 8))),
  oy 14 (.bin .or .int (.t 9) (.t 13)),
  oy 15 (.addOff 2 (.t 1)),
  oy 16 (.load false 1 (.t 15)),
  oy 17 (.call (.c (.func (.func 83) #[] #[])) [(.t 16), (.c (.int .u64 65536))] true),
  oy 18 (.bin .or .int (.t 14) (.t 17)),
  oy 19 (.addOff 3 (.t 1)),
  oy 20 (.load false 1 (.t 19)),
  oy 21 (.call (.c (.func (.func 83) #[] #[])) [(.t 20), (.c (.int .u64 131072))] true),
  oy 22 (.bin .or .int (.t 18) (.t 21)),
  oy 2 (.mv (.t 22)),
  oy 3 (.mv (.c (.int .i64 0)))]
def n61_11 : ICode := .region l61_11
def n61_12 : ICode := .ret
def n61_10 : ICode := .seq n61_11 n61_12
def n61_2 : ICode := .seq n61_3 n61_10
def n61_0 : ICode := .seq n61_1 n61_2
theorem b61 : table.find 61 = some ⟨23, n61_0, [.tmp 2, .tmp 3]⟩ := by kernel_rfl
@[simp] theorem en61_1 : evCode C n61_1 R S = regK (runOps C l61_1 R S) := ev_plain rfl
@[simp] theorem en61_4 : evCode C n61_4 R S = regK (runOps C l61_4 R S) := ev_plain rfl
@[simp] theorem en61_7 : evCode C n61_7 R S = regK (runOps C l61_7 R S) := ev_plain rfl
@[simp] theorem en61_8 : evCode C n61_8 R S = some (.ret, R, S) := (rfl)
@[simp] theorem en61_6 : evCode C n61_6 R S = seqK (evCode C n61_7 R S) fun R S => evCode C n61_8 R S := ev_seq
@[simp] theorem en61_9 : evCode C n61_9 R S = some (.norm, R, S) := (rfl)
@[simp] theorem en61_5 : evCode C n61_5 R S = condK (IV.ev R (.t 6)) (fun _ => evCode C n61_6 R S) fun _ => evCode C n61_9 R S := ev_cond
@[simp] theorem en61_3 : evCode C n61_3 R S = seqK (evCode C n61_4 R S) fun R S => evCode C n61_5 R S := ev_seq
@[simp] theorem en61_11 : evCode C n61_11 R S = regK (runOps C l61_11 R S) := ev_plain rfl
@[simp] theorem en61_12 : evCode C n61_12 R S = some (.ret, R, S) := (rfl)
@[simp] theorem en61_10 : evCode C n61_10 R S = seqK (evCode C n61_11 R S) fun R S => evCode C n61_12 R S := ev_seq
@[simp] theorem en61_2 : evCode C n61_2 R S = seqK (evCode C n61_3 R S) fun R S => evCode C n61_10 R S := ev_seq
@[simp] theorem en61_0 : evCode C n61_0 R S = seqK (evCode C n61_1 R S) fun R S => evCode C n61_2 R S := ev_seq
theorem q61 {n : Nat} {args : List Value} {S : St} : calls table.find (n + 1) 61 args S = endK S [.tmp 2, .tmp 3] (evCode (calls table.find n) n61_0 (args ++ List.replicate (23 - args.length) undef) S.enter) := call_enter b61

/-! wainscot/chart.Head -/
@[simp] def l62_1 : List IOper := [oy 2 (.box 25 6 (.t 0)),
  oy 3 (.box 3 1 (.t 1)),
  oy 4 (.mv (.c (.int .i64 0)))]
def n62_1 : ICode := .region l62_1
@[simp] def l62_3 : List IOper := [oy 5 (.load true 6 (.t 2)),
  oy 6 (.load false 1 (.t 3)),
  oy 7 (.addOff 0 (.t 2)),
  oy 8 (.load false 1 (.t 7)),
  oy 9 (.mkFunc 84 [] [(.t 3)]),
  oy 10 (.call (.c (.func (.func 79) #[] #[])) [(.t 5), (.t 6), (.t 8), (.t 9)] true),
  oy 4 (.mv (.t 10))]
def n62_3 : ICode := .region l62_3
def n62_4 : ICode := .ret
def n62_2 : ICode := .seq n62_3 n62_4
def n62_0 : ICode := .seq n62_1 n62_2
theorem b62 : table.find 62 = some ⟨11, n62_0, [.tmp 4]⟩ := by kernel_rfl
@[simp] theorem en62_1 : evCode C n62_1 R S = regK (runOps C l62_1 R S) := ev_plain rfl
@[simp] theorem en62_3 : evCode C n62_3 R S = regK (runOps C l62_3 R S) := ev_plain rfl
@[simp] theorem en62_4 : evCode C n62_4 R S = some (.ret, R, S) := (rfl)
@[simp] theorem en62_2 : evCode C n62_2 R S = seqK (evCode C n62_3 R S) fun R S => evCode C n62_4 R S := ev_seq
@[simp] theorem en62_0 : evCode C n62_0 R S = seqK (evCode C n62_1 R S) fun R S => evCode C n62_2 R S := ev_seq
theorem q62 {n : Nat} {args : List Value} {S : St} : calls table.find (n + 1) 62 args S = endK S [.tmp 4] (evCode (calls table.find n) n62_0 (args ++ List.replicate (11 - args.length) undef) S.enter) := call_enter b62

/-! wainscot/chart.First -/
@[simp] def l63_1 : List IOper := [oy 2 (.box 25 6 (.t 0)),
  oy 3 (.box 3 1 (.t 1)),
  oy 4 (.mv (.c (.int .i64 0)))]
def n63_1 : ICode := .region l63_1
@[simp] def l63_3 : List IOper := [oy 5 (.load true 6 (.t 2)),
  oy 6 (.load false 1 (.t 3)),
  oy 7 (.addOff 1 (.t 2)),
  oy 8 (.load false 1 (.t 7)),
  oy 9 (.mkFunc 85 [] [(.t 2), (.t 3)]),
  oy 10 (.call (.c (.func (.func 79) #[] #[])) [(.t 5), (.t 6), (.t 8), (.t 9)] true),
  oy 4 (.mv (.t 10))]
def n63_3 : ICode := .region l63_3
def n63_4 : ICode := .ret
def n63_2 : ICode := .seq n63_3 n63_4
def n63_0 : ICode := .seq n63_1 n63_2
theorem b63 : table.find 63 = some ⟨11, n63_0, [.tmp 4]⟩ := by kernel_rfl
@[simp] theorem en63_1 : evCode C n63_1 R S = regK (runOps C l63_1 R S) := ev_plain rfl
@[simp] theorem en63_3 : evCode C n63_3 R S = regK (runOps C l63_3 R S) := ev_plain rfl
@[simp] theorem en63_4 : evCode C n63_4 R S = some (.ret, R, S) := (rfl)
@[simp] theorem en63_2 : evCode C n63_2 R S = seqK (evCode C n63_3 R S) fun R S => evCode C n63_4 R S := ev_seq
@[simp] theorem en63_0 : evCode C n63_0 R S = seqK (evCode C n63_1 R S) fun R S => evCode C n63_2 R S := ev_seq
theorem q63 {n : Nat} {args : List Value} {S : St} : calls table.find (n + 1) 63 args S = endK S [.tmp 4] (evCode (calls table.find n) n63_0 (args ++ List.replicate (11 - args.length) undef) S.enter) := call_enter b63

/-! wainscot/chart.See -/
@[simp] def l64_1 : List IOper := [oy 3 (.box 25 6 (.t 1)),
  oy 4 (.new 101 [(.slice none 0 0), (.slice none 0 0), (.bool false), (.slice none 0 0)]),
  oy 5 (.mv (.c (.int .i64 0)))]
def n64_1 : ICode := .region l64_1
@[simp] def l64_4 : List IOper := [oy 16 (.load true 6 (.t 3)),
  oy 17 (.call (.c (.func (.func 18) #[] #[])) [(.t 16)] true),
  oy 18 (.bin .neq .int (.t 17) (.c (.int .i64 0))),
  oy 19 (.mv (.t 18)),
  oz 20 19 false (.mv (.t 0)),
  oz 21 19 false (.lenS (.t 20)),
  oz 22 19 false (.load true 6 (.t 3)),
  oz 23 19 false (.call (.c (.func (.func 56) #[] #[])) [(.t 22)] true),
  oz 24 19 false (.bin .neq .int (.t 21) (.t 23)),
  oy 25 (.pick (.t 19) (.c (.bool true)) (.t 24))]
def n64_4 : ICode := .region l64_4
@[simp] def l64_7 : List IOper := [oy 26 (.build [(.slice none 0 0), (.slice none 0 0), (.bool false), (.slice none 0 0)] []),
  ox (.store 4 (.t 4) (.t 26)),
  oy 5 (.mv (.c (.int .i64 2)))]
def n64_7 : ICode := .region l64_7
def n64_8 : ICode := .ret
def n64_6 : ICode := .seq n64_7 n64_8
def n64_9 : ICode := .skip
def n64_5 : ICode := .cond (.t 25) n64_6 n64_9
def n64_3 : ICode := .seq n64_4 n64_5
@[simp] def l64_11 : List IOper := [oy 27 (.mv (.t 0)),
  oy 28 (.load true 6 (.t 3)),
  oy 29 (.build [(.slice none 0 0), (.int .i64 0), (.int .i64 0), (.int .i64 0), (.int .i64 0), (.int .i64 0), (.int .u64 0)] [(0, 1, (.t 27)), (1, 6, (.t 28))]),
  oy 6 (.new 122 [(.slice none 0 0), (.int .i64 0), (.int .i64 0), (.int .i64 0), (.int .i64 0), (.int .i64 0), (.int .u64 0)]),
  ox (.store 7 (.t 6) (.t 29))]
def n64_11 : ICode := .region l64_11
@[simp] def l64_13 : List IOper := [oy 30 (.mv (.t 0)),
  oy 31 (.load true 6 (.t 3)),
  oy 32 (.call (.c (.func (.func 87) #[] #[])) [(.t 31)] true),
  oy 33 (.idxS 1 (.t 30) (.t 32)),
  oy 34 (.load false 1 (.t 33)),
  oy 35 (.bin .neq .int (.t 34) (.c (.int .u64 0))),
  oy 36 (.build [(.slice none 0 0), (.slice none 0 0), (.bool false), (.slice none 0 0)] [(2, 1, (.t 35))]),
  oy 7 (.new 101 [(.slice none 0 0), (.slice none 0 0), (.bool false), (.slice none 0 0)]),
  ox (.store 4 (.t 7) (.t 36))]
def n64_13 : ICode := .region l64_13
@[simp] def l64_16 : List IOper := [oy 37 (.addOff 0 (.t 3)),
  oy 38 (.load false 1 (.t 37)),
  oy 39 (.mv (.c (.int .i64 0)))]
def n64_16 : ICode := .region l64_16
@[simp] def l64_19 : List IOper := [oy 40 (.bin .lss .int (.t 39) (.t 38))]
def n64_19 : ICode := .region l64_19
def n64_22 : ICode := .skip
def n64_23 : ICode := .exit 0
def n64_21 : ICode := .cond (.t 40) n64_22 n64_23
@[simp] def l64_27 : List IOper := [oy 41 (.mv (.t 39)),
  oy 8 (.mv (.t 41))]
def n64_27 : ICode := .region l64_27
@[simp] def l64_29 : List IOper := [oy 43 (.load true 7 (.t 6)),
  oy 44 (.mv (.t 8)),
  oy 45 (.call (.c (.func (.func 88) #[] #[])) [(.t 43), (.t 44)] true),
  oy 42 (.mv (.t 45)),
  oy 46 (.extract (.t 42) 0),
  oy 47 (.extract (.t 42) 1),
  oy 9 (.new 105 [(.int .i64 0), (.slice none 0 0), (.int .u64 0), (.slice none 0 0)]),
  ox (.store 4 (.t 9) (.t 46)),
  oy 10 (.mv (.t 47))]
def n64_29 : ICode := .region l64_29
@[simp] def l64_32 : List IOper := [oy 48 (.mv (.t 10)),
  oy 49 (.un .not (.t 48))]
def n64_32 : ICode := .region l64_32
@[simp] def l64_35 : List IOper := [oy 50 (.build [(.slice none 0 0), (.slice none 0 0), (.bool false), (.slice none 0 0)] []),
  ox (.store 4 (.t 4) (.t 50)),
  oy 5 (.mv (.c (.int .i64 150)))]
def n64_35 : ICode := .region l64_35
def n64_36 : ICode := .ret
def n64_34 : ICode := .seq n64_35 n64_36
def n64_37 : ICode := .skip
def n64_33 : ICode := .cond (.t 49) n64_34 n64_37
def n64_31 : ICode := .seq n64_32 n64_33
@[simp] def l64_38 : List IOper := [oy 51 (.addOff 0 (.t 7)),
  oy 52 (.load false 1 (.t 51)),
  oy 53 (.load true 4 (.t 9)),
  oy 54 (.buildSlice 105 [(.int .i64 0), (.slice none 0 0), (.int .u64 0), (.slice none 0 0)] 1 [(0, 4, (.t 53))]),
  oy 55 (.append 105 4 64 (.t 52) (.t 54)),
  oy 56 (.addOff 0 (.t 7)),
  ox (.store 1 (.t 56) (.t 55))]
def n64_38 : ICode := .region l64_38
def n64_30 : ICode := .seq n64_31 n64_38
def n64_28 : ICode := .seq n64_29 n64_30
def n64_26 : ICode := .seq n64_27 n64_28
def n64_25 : ICode := .block 1 n64_26
@[simp] def l64_39 : List IOper := [oy 57 (.bin .add .int (.t 39) (.c (.int .i64 1))),
  oy 39 (.mv (.t 57))]
def n64_39 : ICode := .region l64_39
def n64_24 : ICode := .seq n64_25 n64_39
def n64_20 : ICode := .seq n64_21 n64_24
def n64_18 : ICode := .seq n64_19 n64_20
def loop64_0 : ICode := .loop n64_18
def n64_17 : ICode := .block 0 loop64_0
def n64_15 : ICode := .seq n64_16 n64_17
@[simp] def l64_41 : List IOper := [oy 59 (.load true 7 (.t 6)),
  oy 60 (.mv (.t 0)),
  oy 61 (.load true 6 (.t 3)),
  oy 62 (.call (.c (.func (.func 90) #[] #[])) [(.t 61)] true),
  oy 63 (.idxS 1 (.t 60) (.t 62)),
  oy 64 (.load false 1 (.t 63)),
  oy 65 (.call (.c (.func (.func 89) #[] #[])) [(.t 59), (.t 64), (.c (.func (.func 91) #[] #[]))] true),
  oy 58 (.mv (.t 65)),
  oy 66 (.extract (.t 58) 0),
  oy 67 (.extract (.t 58) 1),
  oy 11 (.mv (.t 66)),
  oy 12 (.mv (.t 67))]
def n64_41 : ICode := .region l64_41
@[simp] def l64_44 : List IOper := [oy 68 (.mv (.t 12)),
  oy 69 (.un .not (.t 68))]
def n64_44 : ICode := .region l64_44
@[simp] def l64_47 : List IOper := [oy 70 (.build [(.slice none 0 0), (.slice none 0 0), (.bool false), (.slice none 0 0)] []),
  ox (.store 4 (.t 4) (.t 70)),
  oy 5 (.mv (.c (.int .i64 150)))]
def n64_47 : ICode := .region l64_47
def n64_48 : ICode := .ret
def n64_46 : ICode := .seq n64_47 n64_48
def n64_49 : ICode := .skip
def n64_45 : ICode := .cond (.t 69) n64_46 n64_49
def n64_43 : ICode := .seq n64_44 n64_45
@[simp] def l64_51 : List IOper := [oy 71 (.mv (.t 11)),
  oy 72 (.addOff 1 (.t 7)),
  ox (.store 1 (.t 72) (.t 71))]
def n64_51 : ICode := .region l64_51
@[simp] def l64_54 : List IOper := [oy 73 (.addOff 1 (.t 3)),
  oy 74 (.load false 1 (.t 73)),
  oy 75 (.mv (.c (.int .i64 0)))]
def n64_54 : ICode := .region l64_54
@[simp] def l64_57 : List IOper := [oy 76 (.bin .lss .int (.t 75) (.t 74))]
def n64_57 : ICode := .region l64_57
def n64_60 : ICode := .skip
def n64_61 : ICode := .exit 2
def n64_59 : ICode := .cond (.t 76) n64_60 n64_61
@[simp] def l64_65 : List IOper := [oy 77 (.mv (.t 75)),
  oy 13 (.mv (.t 77))]
def n64_65 : ICode := .region l64_65
@[simp] def l64_67 : List IOper := [oy 79 (.load true 7 (.t 6)),
  oy 80 (.mv (.t 13)),
  oy 81 (.call (.c (.func (.func 92) #[] #[])) [(.t 79), (.t 80)] true),
  oy 78 (.mv (.t 81)),
  oy 82 (.extract (.t 78) 0),
  oy 83 (.extract (.t 78) 1),
  oy 14 (.new 129 [(.int .i64 0), (.int .i64 0), (.bool false), (.bool false), (.slice none 0 0)]),
  ox (.store 5 (.t 14) (.t 82)),
  oy 15 (.mv (.t 83))]
def n64_67 : ICode := .region l64_67
@[simp] def l64_70 : List IOper := [oy 84 (.mv (.t 15)),
  oy 85 (.un .not (.t 84))]
def n64_70 : ICode := .region l64_70
@[simp] def l64_73 : List IOper := [oy 86 (.build [(.slice none 0 0), (.slice none 0 0), (.bool false), (.slice none 0 0)] []),
  ox (.store 4 (.t 4) (.t 86)),
  oy 5 (.mv (.c (.int .i64 150)))]
def n64_73 : ICode := .region l64_73
def n64_74 : ICode := .ret
def n64_72 : ICode := .seq n64_73 n64_74
def n64_75 : ICode := .skip
def n64_71 : ICode := .cond (.t 85) n64_72 n64_75
def n64_69 : ICode := .seq n64_70 n64_71
@[simp] def l64_76 : List IOper := [oy 87 (.addOff 3 (.t 7)),
  oy 88 (.load false 1 (.t 87)),
  oy 89 (.load true 5 (.t 14)),
  oy 90 (.buildSlice 129 [(.int .i64 0), (.int .i64 0), (.bool false), (.bool false), (.slice none 0 0)] 1 [(0, 5, (.t 89))]),
  oy 91 (.append 129 5 48 (.t 88) (.t 90)),
  oy 92 (.addOff 3 (.t 7)),
  ox (.store 1 (.t 92) (.t 91))]
def n64_76 : ICode := .region l64_76
def n64_68 : ICode := .seq n64_69 n64_76
def n64_66 : ICode := .seq n64_67 n64_68
def n64_64 : ICode := .seq n64_65 n64_66
def n64_63 : ICode := .block 3 n64_64
@[simp] def l64_77 : List IOper := [oy 93 (.bin .add .int (.t 75) (.c (.int .i64 1))),
  oy 75 (.mv (.t 93))]
def n64_77 : ICode := .region l64_77
def n64_62 : ICode := .seq n64_63 n64_77
def n64_58 : ICode := .seq n64_59 n64_62
def n64_56 : ICode := .seq n64_57 n64_58
def loop64_1 : ICode := .loop n64_56
def n64_55 : ICode := .block 2 loop64_1
def n64_53 : ICode := .seq n64_54 n64_55
@[simp] def l64_79 : List IOper := [oy 94 (.load true 4 (.t 7)),
  ox (.store 4 (.t 4) (.t 94)),
  oy 5 (.mv (.c (.int .i64 0)))]
def n64_79 : ICode := .region l64_79
def n64_80 : ICode := .ret
def n64_78 : ICode := .seq n64_79 n64_80
def n64_52 : ICode := .seq n64_53 n64_78
def n64_50 : ICode := .seq n64_51 n64_52
def n64_42 : ICode := .seq n64_43 n64_50
def n64_40 : ICode := .seq n64_41 n64_42
def n64_14 : ICode := .seq n64_15 n64_40
def n64_12 : ICode := .seq n64_13 n64_14
def n64_10 : ICode := .seq n64_11 n64_12
def n64_2 : ICode := .seq n64_3 n64_10
def n64_0 : ICode := .seq n64_1 n64_2
theorem b64 : table.find 64 = some ⟨95, n64_0, [.cell 4 true 4, .tmp 5]⟩ := by kernel_rfl
@[simp] theorem en64_1 : evCode C n64_1 R S = regK (runOps C l64_1 R S) := ev_plain rfl
@[simp] theorem en64_4 : evCode C n64_4 R S = regK (runOps C l64_4 R S) := ev_plain rfl
@[simp] theorem en64_7 : evCode C n64_7 R S = regK (runOps C l64_7 R S) := ev_plain rfl
@[simp] theorem en64_8 : evCode C n64_8 R S = some (.ret, R, S) := (rfl)
@[simp] theorem en64_6 : evCode C n64_6 R S = seqK (evCode C n64_7 R S) fun R S => evCode C n64_8 R S := ev_seq
@[simp] theorem en64_9 : evCode C n64_9 R S = some (.norm, R, S) := (rfl)
@[simp] theorem en64_5 : evCode C n64_5 R S = condK (IV.ev R (.t 25)) (fun _ => evCode C n64_6 R S) fun _ => evCode C n64_9 R S := ev_cond
@[simp] theorem en64_3 : evCode C n64_3 R S = seqK (evCode C n64_4 R S) fun R S => evCode C n64_5 R S := ev_seq
@[simp] theorem en64_11 : evCode C n64_11 R S = regK (runOps C l64_11 R S) := ev_plain rfl
@[simp] theorem en64_13 : evCode C n64_13 R S = regK (runOps C l64_13 R S) := ev_plain rfl
@[simp] theorem en64_16 : evCode C n64_16 R S = regK (runOps C l64_16 R S) := ev_plain rfl
@[simp] theorem en64_19 : evCode C n64_19 R S = regK (runOps C l64_19 R S) := ev_plain rfl
@[simp] theorem en64_22 : evCode C n64_22 R S = some (.norm, R, S) := (rfl)
@[simp] theorem en64_23 : evCode C n64_23 R S = some (.exit 0, R, S) := (rfl)
@[simp] theorem en64_21 : evCode C n64_21 R S = condK (IV.ev R (.t 40)) (fun _ => evCode C n64_22 R S) fun _ => evCode C n64_23 R S := ev_cond
@[simp] theorem en64_27 : evCode C n64_27 R S = regK (runOps C l64_27 R S) := ev_plain rfl
@[simp] theorem en64_29 : evCode C n64_29 R S = regK (runOps C l64_29 R S) := ev_plain rfl
@[simp] theorem en64_32 : evCode C n64_32 R S = regK (runOps C l64_32 R S) := ev_plain rfl
@[simp] theorem en64_35 : evCode C n64_35 R S = regK (runOps C l64_35 R S) := ev_plain rfl
@[simp] theorem en64_36 : evCode C n64_36 R S = some (.ret, R, S) := (rfl)
@[simp] theorem en64_34 : evCode C n64_34 R S = seqK (evCode C n64_35 R S) fun R S => evCode C n64_36 R S := ev_seq
@[simp] theorem en64_37 : evCode C n64_37 R S = some (.norm, R, S) := (rfl)
@[simp] theorem en64_33 : evCode C n64_33 R S = condK (IV.ev R (.t 49)) (fun _ => evCode C n64_34 R S) fun _ => evCode C n64_37 R S := ev_cond
@[simp] theorem en64_31 : evCode C n64_31 R S = seqK (evCode C n64_32 R S) fun R S => evCode C n64_33 R S := ev_seq
@[simp] theorem en64_38 : evCode C n64_38 R S = regK (runOps C l64_38 R S) := ev_plain rfl
@[simp] theorem en64_30 : evCode C n64_30 R S = seqK (evCode C n64_31 R S) fun R S => evCode C n64_38 R S := ev_seq
@[simp] theorem en64_28 : evCode C n64_28 R S = seqK (evCode C n64_29 R S) fun R S => evCode C n64_30 R S := ev_seq
@[simp] theorem en64_26 : evCode C n64_26 R S = seqK (evCode C n64_27 R S) fun R S => evCode C n64_28 R S := ev_seq
@[simp] theorem en64_25 : evCode C n64_25 R S = blockK 1 (evCode C n64_26 R S) := ev_block
@[simp] theorem en64_39 : evCode C n64_39 R S = regK (runOps C l64_39 R S) := ev_plain rfl
@[simp] theorem en64_24 : evCode C n64_24 R S = seqK (evCode C n64_25 R S) fun R S => evCode C n64_39 R S := ev_seq
@[simp] theorem en64_20 : evCode C n64_20 R S = seqK (evCode C n64_21 R S) fun R S => evCode C n64_24 R S := ev_seq
@[simp] theorem en64_18 : evCode C n64_18 R S = seqK (evCode C n64_19 R S) fun R S => evCode C n64_20 R S := ev_seq
theorem eloop64_0 : evCode C loop64_0 R S = iter (fun R S => evCode C n64_18 R S) rounds R S := (rfl)
@[simp] theorem en64_17 : evCode C n64_17 R S = blockK 0 (evCode C loop64_0 R S) := ev_block
@[simp] theorem en64_15 : evCode C n64_15 R S = seqK (evCode C n64_16 R S) fun R S => evCode C n64_17 R S := ev_seq
@[simp] theorem en64_41 : evCode C n64_41 R S = regK (runOps C l64_41 R S) := ev_plain rfl
@[simp] theorem en64_44 : evCode C n64_44 R S = regK (runOps C l64_44 R S) := ev_plain rfl
@[simp] theorem en64_47 : evCode C n64_47 R S = regK (runOps C l64_47 R S) := ev_plain rfl
@[simp] theorem en64_48 : evCode C n64_48 R S = some (.ret, R, S) := (rfl)
@[simp] theorem en64_46 : evCode C n64_46 R S = seqK (evCode C n64_47 R S) fun R S => evCode C n64_48 R S := ev_seq
@[simp] theorem en64_49 : evCode C n64_49 R S = some (.norm, R, S) := (rfl)
@[simp] theorem en64_45 : evCode C n64_45 R S = condK (IV.ev R (.t 69)) (fun _ => evCode C n64_46 R S) fun _ => evCode C n64_49 R S := ev_cond
@[simp] theorem en64_43 : evCode C n64_43 R S = seqK (evCode C n64_44 R S) fun R S => evCode C n64_45 R S := ev_seq
@[simp] theorem en64_51 : evCode C n64_51 R S = regK (runOps C l64_51 R S) := ev_plain rfl
@[simp] theorem en64_54 : evCode C n64_54 R S = regK (runOps C l64_54 R S) := ev_plain rfl
@[simp] theorem en64_57 : evCode C n64_57 R S = regK (runOps C l64_57 R S) := ev_plain rfl
@[simp] theorem en64_60 : evCode C n64_60 R S = some (.norm, R, S) := (rfl)
@[simp] theorem en64_61 : evCode C n64_61 R S = some (.exit 2, R, S) := (rfl)
@[simp] theorem en64_59 : evCode C n64_59 R S = condK (IV.ev R (.t 76)) (fun _ => evCode C n64_60 R S) fun _ => evCode C n64_61 R S := ev_cond
@[simp] theorem en64_65 : evCode C n64_65 R S = regK (runOps C l64_65 R S) := ev_plain rfl
@[simp] theorem en64_67 : evCode C n64_67 R S = regK (runOps C l64_67 R S) := ev_plain rfl
@[simp] theorem en64_70 : evCode C n64_70 R S = regK (runOps C l64_70 R S) := ev_plain rfl
@[simp] theorem en64_73 : evCode C n64_73 R S = regK (runOps C l64_73 R S) := ev_plain rfl
@[simp] theorem en64_74 : evCode C n64_74 R S = some (.ret, R, S) := (rfl)
@[simp] theorem en64_72 : evCode C n64_72 R S = seqK (evCode C n64_73 R S) fun R S => evCode C n64_74 R S := ev_seq
@[simp] theorem en64_75 : evCode C n64_75 R S = some (.norm, R, S) := (rfl)
@[simp] theorem en64_71 : evCode C n64_71 R S = condK (IV.ev R (.t 85)) (fun _ => evCode C n64_72 R S) fun _ => evCode C n64_75 R S := ev_cond
@[simp] theorem en64_69 : evCode C n64_69 R S = seqK (evCode C n64_70 R S) fun R S => evCode C n64_71 R S := ev_seq
@[simp] theorem en64_76 : evCode C n64_76 R S = regK (runOps C l64_76 R S) := ev_plain rfl
@[simp] theorem en64_68 : evCode C n64_68 R S = seqK (evCode C n64_69 R S) fun R S => evCode C n64_76 R S := ev_seq
@[simp] theorem en64_66 : evCode C n64_66 R S = seqK (evCode C n64_67 R S) fun R S => evCode C n64_68 R S := ev_seq
@[simp] theorem en64_64 : evCode C n64_64 R S = seqK (evCode C n64_65 R S) fun R S => evCode C n64_66 R S := ev_seq
@[simp] theorem en64_63 : evCode C n64_63 R S = blockK 3 (evCode C n64_64 R S) := ev_block
@[simp] theorem en64_77 : evCode C n64_77 R S = regK (runOps C l64_77 R S) := ev_plain rfl
@[simp] theorem en64_62 : evCode C n64_62 R S = seqK (evCode C n64_63 R S) fun R S => evCode C n64_77 R S := ev_seq
@[simp] theorem en64_58 : evCode C n64_58 R S = seqK (evCode C n64_59 R S) fun R S => evCode C n64_62 R S := ev_seq
@[simp] theorem en64_56 : evCode C n64_56 R S = seqK (evCode C n64_57 R S) fun R S => evCode C n64_58 R S := ev_seq
theorem eloop64_1 : evCode C loop64_1 R S = iter (fun R S => evCode C n64_56 R S) rounds R S := (rfl)
@[simp] theorem en64_55 : evCode C n64_55 R S = blockK 2 (evCode C loop64_1 R S) := ev_block
@[simp] theorem en64_53 : evCode C n64_53 R S = seqK (evCode C n64_54 R S) fun R S => evCode C n64_55 R S := ev_seq
@[simp] theorem en64_79 : evCode C n64_79 R S = regK (runOps C l64_79 R S) := ev_plain rfl
@[simp] theorem en64_80 : evCode C n64_80 R S = some (.ret, R, S) := (rfl)
@[simp] theorem en64_78 : evCode C n64_78 R S = seqK (evCode C n64_79 R S) fun R S => evCode C n64_80 R S := ev_seq
@[simp] theorem en64_52 : evCode C n64_52 R S = seqK (evCode C n64_53 R S) fun R S => evCode C n64_78 R S := ev_seq
@[simp] theorem en64_50 : evCode C n64_50 R S = seqK (evCode C n64_51 R S) fun R S => evCode C n64_52 R S := ev_seq
@[simp] theorem en64_42 : evCode C n64_42 R S = seqK (evCode C n64_43 R S) fun R S => evCode C n64_50 R S := ev_seq
@[simp] theorem en64_40 : evCode C n64_40 R S = seqK (evCode C n64_41 R S) fun R S => evCode C n64_42 R S := ev_seq
@[simp] theorem en64_14 : evCode C n64_14 R S = seqK (evCode C n64_15 R S) fun R S => evCode C n64_40 R S := ev_seq
@[simp] theorem en64_12 : evCode C n64_12 R S = seqK (evCode C n64_13 R S) fun R S => evCode C n64_14 R S := ev_seq
@[simp] theorem en64_10 : evCode C n64_10 R S = seqK (evCode C n64_11 R S) fun R S => evCode C n64_12 R S := ev_seq
@[simp] theorem en64_2 : evCode C n64_2 R S = seqK (evCode C n64_3 R S) fun R S => evCode C n64_10 R S := ev_seq
@[simp] theorem en64_0 : evCode C n64_0 R S = seqK (evCode C n64_1 R S) fun R S => evCode C n64_2 R S := ev_seq
theorem q64 {n : Nat} {args : List Value} {S : St} : calls table.find (n + 1) 64 args S = endK S [.cell 4 true 4, .tmp 5] (evCode (calls table.find n) n64_0 (args ++ List.replicate (95 - args.length) undef) S.enter) := call_enter b64

/-! wainscot/fast.behind -/
@[simp] def l66_1 : List IOper := [oy 2 (.mv (.c (.int .i64 0)))]
def n66_1 : ICode := .region l66_1
@[simp] def l66_4 : List IOper := [oy 3 (.mv (.t 0)),
  oy 4 (.bin .lss .int (.t 3) (.c (.int .i64 0)))]
def n66_4 : ICode := .region l66_4
@[simp] def l66_7 : List IOper := [oy 5 (.mv (.t 0)),
  oy 2 (.mv (.t 5))]
def n66_7 : ICode := .region l66_7
def n66_8 : ICode := .ret
def n66_6 : ICode := .seq n66_7 n66_8
def n66_9 : ICode := .skip
def n66_5 : ICode := .cond (.t 4) n66_6 n66_9
def n66_3 : ICode := .seq n66_4 n66_5
@[simp] def l66_11 : List IOper := [oy 6 (.mv (.t 0)),
  oy 7 (.bin .add .int (.t 6) (.c (.int .i64 1))),
  oy 2 (.mv (.t 7))]
def n66_11 : ICode := .region l66_11
def n66_12 : ICode := .ret
def n66_10 : ICode := .seq n66_11 n66_12
def n66_2 : ICode := .seq n66_3 n66_10
def n66_0 : ICode := .seq n66_1 n66_2
theorem b66 : table.find 66 = some ⟨8, n66_0, [.tmp 2]⟩ := by kernel_rfl
@[simp] theorem en66_1 : evCode C n66_1 R S = regK (runOps C l66_1 R S) := ev_plain rfl
@[simp] theorem en66_4 : evCode C n66_4 R S = regK (runOps C l66_4 R S) := ev_plain rfl
@[simp] theorem en66_7 : evCode C n66_7 R S = regK (runOps C l66_7 R S) := ev_plain rfl
@[simp] theorem en66_8 : evCode C n66_8 R S = some (.ret, R, S) := (rfl)
@[simp] theorem en66_6 : evCode C n66_6 R S = seqK (evCode C n66_7 R S) fun R S => evCode C n66_8 R S := ev_seq
@[simp] theorem en66_9 : evCode C n66_9 R S = some (.norm, R, S) := (rfl)
@[simp] theorem en66_5 : evCode C n66_5 R S = condK (IV.ev R (.t 4)) (fun _ => evCode C n66_6 R S) fun _ => evCode C n66_9 R S := ev_cond
@[simp] theorem en66_3 : evCode C n66_3 R S = seqK (evCode C n66_4 R S) fun R S => evCode C n66_5 R S := ev_seq
@[simp] theorem en66_11 : evCode C n66_11 R S = regK (runOps C l66_11 R S) := ev_plain rfl
@[simp] theorem en66_12 : evCode C n66_12 R S = some (.ret, R, S) := (rfl)
@[simp] theorem en66_10 : evCode C n66_10 R S = seqK (evCode C n66_11 R S) fun R S => evCode C n66_12 R S := ev_seq
@[simp] theorem en66_2 : evCode C n66_2 R S = seqK (evCode C n66_3 R S) fun R S => evCode C n66_10 R S := ev_seq
@[simp] theorem en66_0 : evCode C n66_0 R S = seqK (evCode C n66_1 R S) fun R S => evCode C n66_2 R S := ev_seq
theorem q66 {n : Nat} {args : List Value} {S : St} : calls table.find (n + 1) 66 args S = endK S [.tmp 2] (evCode (calls table.find n) n66_0 (args ++ List.replicate (8 - args.length) undef) S.enter) := call_enter b66

/-! wainscot/link.Show -/
@[simp] def l69_1 : List IOper := [oy 6 (.mv (.c (.int .i64 0))),
  oy 7 (.mv (.c (.bool false)))]
def n69_1 : ICode := .region l69_1
@[simp] def l69_4 : List IOper := [oy 8 (.mv (.t 2)),
  oy 9 (.call (.c (.func (.func 95) #[] #[])) [(.t 8)] true),
  oy 10 (.un .not (.t 9))]
def n69_4 : ICode := .region l69_4
@[simp] def l69_7 : List IOper := [oy 6 (.mv (.c (.int .i64 0))),
  oy 7 (.mv (.c (.bool false)))]
def n69_7 : ICode := .region l69_7
def n69_8 : ICode := .ret
def n69_6 : ICode := .seq n69_7 n69_8
def n69_9 : ICode := .skip
def n69_5 : ICode := .cond (.t 10) n69_6 n69_9
def n69_3 : ICode := .seq n69_4 n69_5
@[simp] def l69_12 : List IOper := [oy 11 (.mv (.t 0)),
  oy 12 (.mv (.t 1)),
  oy 13 (.mv (.t 2)),
  oy 14 (.call (.c (.func (.func 78) #[] #[])) [(.t 12), (.t 13)] true),
  oy 15 (.bin .xor .int (.t 11) (.t 14)),
  oy 0 (.mv (.t 15))]
def n69_12 : ICode := .region l69_12
@[simp] def l69_14 : List IOper := [oy 16 (.mv (.t 0)),
  oy 17 (.bin .gtr .int (.t 16) (.c (.int .u64 16)))]
def n69_14 : ICode := .region l69_14
@[simp] def l69_17 : List IOper := [oy 6 (.mv (.c (.int .i64 0))),
  oy 7 (.mv (.c (.bool false)))]
def n69_17 : ICode := .region l69_17
def n69_18 : ICode := .ret
def n69_16 : ICode := .seq n69_17 n69_18
def n69_19 : ICode := .skip
def n69_15 : ICode := .cond (.t 17) n69_16 n69_19
def n69_13 : ICode := .seq n69_14 n69_15
def n69_11 : ICode := .seq n69_12 n69_13
@[simp] def l69_21 : List IOper := [oy 18 (.mv (.t 0)),
  oy 19 (.conv .i64 (.t 18)),
  oy 20 (.bin .sub .int (.t 19) (.c (.int .i64 1))),
  oy 6 (.mv (.t 20)),
  oy 7 (.mv (.c (.bool true)))]
def n69_21 : ICode := .region l69_21
def n69_22 : ICode := .ret
def n69_20 : ICode := .seq n69_21 n69_22
def n69_10 : ICode := .seq n69_11 n69_20
def n69_2 : ICode := .seq n69_3 n69_10
def n69_0 : ICode := .seq n69_1 n69_2
theorem b69 : table.find 69 = some ⟨21, n69_0, [.tmp 6, .tmp 7]⟩ := by kernel_rfl
@[simp] theorem en69_1 : evCode C n69_1 R S = regK (runOps C l69_1 R S) := ev_plain rfl
@[simp] theorem en69_4 : evCode C n69_4 R S = regK (runOps C l69_4 R S) := ev_plain rfl
@[simp] theorem en69_7 : evCode C n69_7 R S = regK (runOps C l69_7 R S) := ev_plain rfl
@[simp] theorem en69_8 : evCode C n69_8 R S = some (.ret, R, S) := (rfl)
@[simp] theorem en69_6 : evCode C n69_6 R S = seqK (evCode C n69_7 R S) fun R S => evCode C n69_8 R S := ev_seq
@[simp] theorem en69_9 : evCode C n69_9 R S = some (.norm, R, S) := (rfl)
@[simp] theorem en69_5 : evCode C n69_5 R S = condK (IV.ev R (.t 10)) (fun _ => evCode C n69_6 R S) fun _ => evCode C n69_9 R S := ev_cond
@[simp] theorem en69_3 : evCode C n69_3 R S = seqK (evCode C n69_4 R S) fun R S => evCode C n69_5 R S := ev_seq
@[simp] theorem en69_12 : evCode C n69_12 R S = regK (runOps C l69_12 R S) := ev_plain rfl
@[simp] theorem en69_14 : evCode C n69_14 R S = regK (runOps C l69_14 R S) := ev_plain rfl
@[simp] theorem en69_17 : evCode C n69_17 R S = regK (runOps C l69_17 R S) := ev_plain rfl
@[simp] theorem en69_18 : evCode C n69_18 R S = some (.ret, R, S) := (rfl)
@[simp] theorem en69_16 : evCode C n69_16 R S = seqK (evCode C n69_17 R S) fun R S => evCode C n69_18 R S := ev_seq
@[simp] theorem en69_19 : evCode C n69_19 R S = some (.norm, R, S) := (rfl)
@[simp] theorem en69_15 : evCode C n69_15 R S = condK (IV.ev R (.t 17)) (fun _ => evCode C n69_16 R S) fun _ => evCode C n69_19 R S := ev_cond
@[simp] theorem en69_13 : evCode C n69_13 R S = seqK (evCode C n69_14 R S) fun R S => evCode C n69_15 R S := ev_seq
@[simp] theorem en69_11 : evCode C n69_11 R S = seqK (evCode C n69_12 R S) fun R S => evCode C n69_13 R S := ev_seq
@[simp] theorem en69_21 : evCode C n69_21 R S = regK (runOps C l69_21 R S) := ev_plain rfl
@[simp] theorem en69_22 : evCode C n69_22 R S = some (.ret, R, S) := (rfl)
@[simp] theorem en69_20 : evCode C n69_20 R S = seqK (evCode C n69_21 R S) fun R S => evCode C n69_22 R S := ev_seq
@[simp] theorem en69_10 : evCode C n69_10 R S = seqK (evCode C n69_11 R S) fun R S => evCode C n69_20 R S := ev_seq
@[simp] theorem en69_2 : evCode C n69_2 R S = seqK (evCode C n69_3 R S) fun R S => evCode C n69_10 R S := ev_seq
@[simp] theorem en69_0 : evCode C n69_0 R S = seqK (evCode C n69_1 R S) fun R S => evCode C n69_2 R S := ev_seq
theorem q69 {n : Nat} {args : List Value} {S : St} : calls table.find (n + 1) 69 args S = endK S [.tmp 6, .tmp 7] (evCode (calls table.find n) n69_0 (args ++ List.replicate (21 - args.length) undef) S.enter) := call_enter b69

/-! wainscot/link.Hide -/
@[simp] def l71_1 : List IOper := [oy 6 (.mv (.c (.int .u64 0))),
  oy 7 (.mv (.c (.int .i64 0)))]
def n71_1 : ICode := .region l71_1
@[simp] def l71_4 : List IOper := [oy 8 (.mv (.t 0)),
  oy 9 (.bin .neq .int (.t 8) (.c (.int .i64 (-1)))),
  oy 10 (.mv (.t 9)),
  oz 11 10 true (.mv (.t 0)),
  oz 12 10 true (.call (.c (.func (.func 95) #[] #[])) [(.t 11)] true),
  oz 13 10 true (.un .not (.t 12)),
  oy 14 (.pick (.t 10) (.t 13) (.c (.bool false))),
  oy 15 (.mv (.t 14)),
  oz 16 15 false (.mv (.t 2)),
  oz 17 15 false (.call (.c (.func (.func 95) #[] #[])) [(.t 16)] true),
  oz 18 15 false (.un .not (.t 17)),
  oy 19 (.pick (.t 15) (.c (.bool true)) (.t 18))]
def n71_4 : ICode := .region l71_4
@[simp] def l71_7 : List IOper := [oy 6 (.mv (.c (.int .u64 0))),
  oy 7 (.mv (.c (.int .i64 2)))]
def n71_7 : ICode := .region l71_7
def n71_8 : ICode := .ret
def n71_6 : ICode := .seq n71_7 n71_8
def n71_9 : ICode := .skip
def n71_5 : ICode := .cond (.t 19) n71_6 n71_9
def n71_3 : ICode := .seq n71_4 n71_5
@[simp] def l71_11 : List IOper := [oy 20 (.mv (.t 0)),
  oy 21 (.bin .add .int (.t 20) (.c (.int .i64 1))),
  oy 22 (.conv .u64 (.t 21)),
  oy 23 (.mv (.t 1)),
  oy 24 (.mv (.t 2)),
  oy 25 (.call (.c (.func (.func 78) #[] #[])) [(.t 23), (.t 24)] true),
  oy 26 (.bin .xor .int (.t 22) (.t 25)),
  oy 6 (.mv (.t 26)),
  oy 7 (.mv (.c (.int .i64 0)))]
def n71_11 : ICode := .region l71_11
def n71_12 : ICode := .ret
def n71_10 : ICode := .seq n71_11 n71_12
def n71_2 : ICode := .seq n71_3 n71_10
def n71_0 : ICode := .seq n71_1 n71_2
theorem b71 : table.find 71 = some ⟨27, n71_0, [.tmp 6, .tmp 7]⟩ := by kernel_rfl
@[simp] theorem en71_1 : evCode C n71_1 R S = regK (runOps C l71_1 R S) := ev_plain rfl
@[simp] theorem en71_4 : evCode C n71_4 R S = regK (runOps C l71_4 R S) := ev_plain rfl
@[simp] theorem en71_7 : evCode C n71_7 R S = regK (runOps C l71_7 R S) := ev_plain rfl
@[simp] theorem en71_8 : evCode C n71_8 R S = some (.ret, R, S) := (rfl)
@[simp] theorem en71_6 : evCode C n71_6 R S = seqK (evCode C n71_7 R S) fun R S => evCode C n71_8 R S := ev_seq
@[simp] theorem en71_9 : evCode C n71_9 R S = some (.norm, R, S) := (rfl)
@[simp] theorem en71_5 : evCode C n71_5 R S = condK (IV.ev R (.t 19)) (fun _ => evCode C n71_6 R S) fun _ => evCode C n71_9 R S := ev_cond
@[simp] theorem en71_3 : evCode C n71_3 R S = seqK (evCode C n71_4 R S) fun R S => evCode C n71_5 R S := ev_seq
@[simp] theorem en71_11 : evCode C n71_11 R S = regK (runOps C l71_11 R S) := ev_plain rfl
@[simp] theorem en71_12 : evCode C n71_12 R S = some (.ret, R, S) := (rfl)
@[simp] theorem en71_10 : evCode C n71_10 R S = seqK (evCode C n71_11 R S) fun R S => evCode C n71_12 R S := ev_seq
@[simp] theorem en71_2 : evCode C n71_2 R S = seqK (evCode C n71_3 R S) fun R S => evCode C n71_10 R S := ev_seq
@[simp] theorem en71_0 : evCode C n71_0 R S = seqK (evCode C n71_1 R S) fun R S => evCode C n71_2 R S := ev_seq
theorem q71 {n : Nat} {args : List Value} {S : St} : calls table.find (n + 1) 71 args S = endK S [.tmp 6, .tmp 7] (evCode (calls table.find n) n71_0 (args ++ List.replicate (27 - args.length) undef) S.enter) := call_enter b71

/-! wainscot/chart.links -/
@[simp] def l77_1 : List IOper := [oy 1 (.box 25 6 (.t 0)),
  oy 2 (.mv (.c (.int .i64 0)))]
def n77_1 : ICode := .region l77_1
@[simp] def l77_3 : List IOper := [oy 3 (.load true 6 (.t 1)),
  oy 4 (.call (.c (.func (.func 86) #[] #[])) [(.t 3)] true),
  oy 5 (.addOff 1 (.t 1)),
  oy 6 (.load false 1 (.t 5)),
  oy 7 (.bin .mul .int (.c (.int .i64 4)) (.t 6)),
  oy 8 (.bin .add .int (.t 4) (.t 7)),
  oy 2 (.mv (.t 8))]
def n77_3 : ICode := .region l77_3
def n77_4 : ICode := .ret
def n77_2 : ICode := .seq n77_3 n77_4
def n77_0 : ICode := .seq n77_1 n77_2
theorem b77 : table.find 77 = some ⟨9, n77_0, [.tmp 2]⟩ := by kernel_rfl
@[simp] theorem en77_1 : evCode C n77_1 R S = regK (runOps C l77_1 R S) := ev_plain rfl
@[simp] theorem en77_3 : evCode C n77_3 R S = regK (runOps C l77_3 R S) := ev_plain rfl
@[simp] theorem en77_4 : evCode C n77_4 R S = some (.ret, R, S) := (rfl)
@[simp] theorem en77_2 : evCode C n77_2 R S = seqK (evCode C n77_3 R S) fun R S => evCode C n77_4 R S := ev_seq
@[simp] theorem en77_0 : evCode C n77_0 R S = seqK (evCode C n77_1 R S) fun R S => evCode C n77_2 R S := ev_seq
theorem q77 {n : Nat} {args : List Value} {S : St} : calls table.find (n + 1) 77 args S = endK S [.tmp 2] (evCode (calls table.find n) n77_0 (args ++ List.replicate (9 - args.length) undef) S.enter) := call_enter b77

/-! wainscot/link.turned -/
@[simp] def l78_1 : List IOper := [oy 4 (.mv (.c (.int .u64 0)))]
def n78_1 : ICode := .region l78_1
@[simp] def l78_3 : List IOper := [oy 5 (.mv (.t 0)),
  oy 6 (.mv (.t 1)),
  oy 7 (.bin .mul .int (.c (.int .i64 5)) (.t 6)),
  oy 8 (.call (.c (.func (.func 97) #[] #[])) [(.t 5), (.t 7)] true),
  oy 9 (.mv (.t 1)),
  oy 10 (.conv .u64 (.t 9)),
  oy 11 (.bin .mul .int (.t 10) (.c (.int .u64 2654435769))),
  oy 12 (.bin .add .int (.t 8) (.t 11)),
  oy 4 (.mv (.t 12))]
def n78_3 : ICode := .region l78_3
def n78_4 : ICode := .ret
def n78_2 : ICode := .seq n78_3 n78_4
def n78_0 : ICode := .seq n78_1 n78_2
theorem b78 : table.find 78 = some ⟨13, n78_0, [.tmp 4]⟩ := by kernel_rfl
@[simp] theorem en78_1 : evCode C n78_1 R S = regK (runOps C l78_1 R S) := ev_plain rfl
@[simp] theorem en78_3 : evCode C n78_3 R S = regK (runOps C l78_3 R S) := ev_plain rfl
@[simp] theorem en78_4 : evCode C n78_4 R S = some (.ret, R, S) := (rfl)
@[simp] theorem en78_2 : evCode C n78_2 R S = seqK (evCode C n78_3 R S) fun R S => evCode C n78_4 R S := ev_seq
@[simp] theorem en78_0 : evCode C n78_0 R S = seqK (evCode C n78_1 R S) fun R S => evCode C n78_2 R S := ev_seq
theorem q78 {n : Nat} {args : List Value} {S : St} : calls table.find (n + 1) 78 args S = endK S [.tmp 4] (evCode (calls table.find n) n78_0 (args ++ List.replicate (13 - args.length) undef) S.enter) := call_enter b78

/-! wainscot/chart.guarded -/
@[simp] def l79_1 : List IOper := [oy 4 (.box 25 6 (.t 0)),
  oy 8 (.mv (.c (.int .i64 0)))]
def n79_1 : ICode := .region l79_1
@[simp] def l79_4 : List IOper := [oy 9 (.load true 6 (.t 4)),
  oy 10 (.call (.c (.func (.func 18) #[] #[])) [(.t 9)] true),
  oy 11 (.bin .neq .int (.t 10) (.c (.int .i64 0))),
  oy 12 (.mv (.t 11)),
  oz 13 12 false (.mv (.t 1)),
  oz 14 12 false (.bin .lss .int (.t 13) (.c (.int .i64 0))),
  oy 15 (.pick (.t 12) (.c (.bool true)) (.t 14)),
  oy 16 (.mv (.t 15)),
  oz 17 16 false (.mv (.t 1)),
  oz 18 16 false (.mv (.t 2)),
  oz 19 16 false (.bin .geq .int (.t 17) (.t 18)),
  oy 20 (.pick (.t 16) (.c (.bool true)) (.t 19))]
def n79_4 : ICode := .region l79_4
@[simp] def l79_7 : List IOper := [oy 8 (.mv (.c (.int .i64 (-1))))]
def n79_7 : ICode := .region l79_7
def n79_8 : ICode := .ret
def n79_6 : ICode := .seq n79_7 n79_8
def n79_9 : ICode := .skip
def n79_5 : ICode := .cond (.t 20) n79_6 n79_9
def n79_3 : ICode := .seq n79_4 n79_5
@[simp] def l79_11 : List IOper := [oy 21 (.mv (.t 3)),
  oy 22 (.call (.t 21) [] false),
  oy 8 (.mv (.t 22))]
def n79_11 : ICode := .region l79_11
def n79_12 : ICode := .ret
def n79_10 : ICode := .seq n79_11 n79_12
def n79_2 : ICode := .seq n79_3 n79_10
def n79_0 : ICode := .seq n79_1 n79_2
theorem b79 : table.find 79 = some ⟨23, n79_0, [.tmp 8]⟩ := by kernel_rfl
@[simp] theorem en79_1 : evCode C n79_1 R S = regK (runOps C l79_1 R S) := ev_plain rfl
@[simp] theorem en79_4 : evCode C n79_4 R S = regK (runOps C l79_4 R S) := ev_plain rfl
@[simp] theorem en79_7 : evCode C n79_7 R S = regK (runOps C l79_7 R S) := ev_plain rfl
@[simp] theorem en79_8 : evCode C n79_8 R S = some (.ret, R, S) := (rfl)
@[simp] theorem en79_6 : evCode C n79_6 R S = seqK (evCode C n79_7 R S) fun R S => evCode C n79_8 R S := ev_seq
@[simp] theorem en79_9 : evCode C n79_9 R S = some (.norm, R, S) := (rfl)
@[simp] theorem en79_5 : evCode C n79_5 R S = condK (IV.ev R (.t 20)) (fun _ => evCode C n79_6 R S) fun _ => evCode C n79_9 R S := ev_cond
@[simp] theorem en79_3 : evCode C n79_3 R S = seqK (evCode C n79_4 R S) fun R S => evCode C n79_5 R S := ev_seq
@[simp] theorem en79_11 : evCode C n79_11 R S = regK (runOps C l79_11 R S) := ev_plain rfl
@[simp] theorem en79_12 : evCode C n79_12 R S = some (.ret, R, S) := (rfl)
@[simp] theorem en79_10 : evCode C n79_10 R S = seqK (evCode C n79_11 R S) fun R S => evCode C n79_12 R S := ev_seq
@[simp] theorem en79_2 : evCode C n79_2 R S = seqK (evCode C n79_3 R S) fun R S => evCode C n79_10 R S := ev_seq
@[simp] theorem en79_0 : evCode C n79_0 R S = seqK (evCode C n79_1 R S) fun R S => evCode C n79_2 R S := ev_seq
theorem q79 {n : Nat} {args : List Value} {S : St} : calls table.find (n + 1) 79 args S = endK S [.tmp 8] (evCode (calls table.find n) n79_0 (args ++ List.replicate (23 - args.length) undef) S.enter) := call_enter b79

/-! wainscot/chart.Link$1 -/
@[simp] def l80_1 : List IOper := [oy 3 (.mv (.c (.int .i64 0)))]
def n80_1 : ICode := .region l80_1
@[simp] def l80_3 : List IOper := [oy 4 (.load true 6 (.t 0)),
  oy 5 (.call (.c (.func (.func 77) #[] #[])) [(.t 4)] true),
  oy 6 (.load false 1 (.t 1)),
  oy 7 (.addOff 2 (.t 0)),
  oy 8 (.load false 1 (.t 7)),
  oy 9 (.bin .mul .int (.t 6) (.t 8)),
  oy 10 (.bin .add .int (.t 5) (.t 9)),
  oy 11 (.load false 1 (.t 2)),
  oy 12 (.bin .add .int (.t 10) (.t 11)),
  oy 3 (.mv (.t 12))]
def n80_3 : ICode := .region l80_3
def n80_4 : ICode := .ret
def n80_2 : ICode := .seq n80_3 n80_4
def n80_0 : ICode := .seq n80_1 n80_2
theorem b80 : table.find 80 = some ⟨13, n80_0, [.tmp 3]⟩ := by kernel_rfl
@[simp] theorem en80_1 : evCode C n80_1 R S = regK (runOps C l80_1 R S) := ev_plain rfl
@[simp] theorem en80_3 : evCode C n80_3 R S = regK (runOps C l80_3 R S) := ev_plain rfl
@[simp] theorem en80_4 : evCode C n80_4 R S = some (.ret, R, S) := (rfl)
@[simp] theorem en80_2 : evCode C n80_2 R S = seqK (evCode C n80_3 R S) fun R S => evCode C n80_4 R S := ev_seq
@[simp] theorem en80_0 : evCode C n80_0 R S = seqK (evCode C n80_1 R S) fun R S => evCode C n80_2 R S := ev_seq
theorem q80 {n : Nat} {args : List Value} {S : St} : calls table.find (n + 1) 80 args S = endK S [.tmp 3] (evCode (calls table.find n) n80_0 (args ++ List.replicate (13 - args.length) undef) S.enter) := call_enter b80

/-! wainscot/count.slabMay -/
@[simp] def l81_1 : List IOper := [oy 2 (.mv (.c (.bool false)))]
def n81_1 : ICode := .region l81_1
@[simp] def l81_3 : List IOper := [oy 3 (.mv (.t 0)),
  oy 4 (.bin .leq .int (.c (.int .i64 0)) (.t 3)),
  oy 5 (.mv (.t 4)),
  oz 6 5 true (.mv (.t 0)),
  oz 7 5 true (.bin .lss .int (.t 6) (.c (.int .i64 32))),
  oy 8 (.pick (.t 5) (.t 7) (.c (.bool false))),
  oy 2 (.mv (.t 8))]
def n81_3 : ICode := .region l81_3
def n81_4 : ICode := .ret
def n81_2 : ICode := .seq n81_3 n81_4
def n81_0 : ICode := .seq n81_1 n81_2
theorem b81 : table.find 81 = some ⟨9, n81_0, [.tmp 2]⟩ := by kernel_rfl
@[simp] theorem en81_1 : evCode C n81_1 R S = regK (runOps C l81_1 R S) := ev_plain rfl
@[simp] theorem en81_3 : evCode C n81_3 R S = regK (runOps C l81_3 R S) := ev_plain rfl
@[simp] theorem en81_4 : evCode C n81_4 R S = some (.ret, R, S) := (rfl)
@[simp] theorem en81_2 : evCode C n81_2 R S = seqK (evCode C n81_3 R S) fun R S => evCode C n81_4 R S := ev_seq
@[simp] theorem en81_0 : evCode C n81_0 R S = seqK (evCode C n81_1 R S) fun R S => evCode C n81_2 R S := ev_seq
theorem q81 {n : Nat} {args : List Value} {S : St} : calls table.find (n + 1) 81 args S = endK S [.tmp 2] (evCode (calls table.find n) n81_0 (args ++ List.replicate (9 - args.length) undef) S.enter) := call_enter b81

/-! wainscot/count.may -/
@[simp] def l82_1 : List IOper := [oy 1 (.box 97 4 (.t 0)),
  oy 2 (.mv (.c (.bool false)))]
def n82_1 : ICode := .region l82_1
@[simp] def l82_3 : List IOper := [oy 3 (.addOff 3 (.t 1)),
  oy 4 (.load false 1 (.t 3)),
  oy 5 (.mv (.t 4)),
  oz 6 5 true (.addOff 1 (.t 1)),
  oz 7 5 true (.load false 1 (.t 6)),
  oz 8 5 true (.bin .leq .int (.c (.int .i64 1)) (.t 7)),
  oy 9 (.pick (.t 5) (.t 8) (.c (.bool false))),
  oy 10 (.mv (.t 9)),
  oz 11 10 true (.addOff 1 (.t 1)),
  oz 12 10 true (.load false 1 (.t 11)),
  oz 13 10 true (.bin .leq .int (.t 12) (.c (.int .i64 16))),
  oy 14 (.pick (.t 10) (.t 13) (.c (.bool false))),
  oy 15 (.mv (.t 14)),
  oz 16 15 true (.addOff 0 (.t 1)),
  oz 17 15 true (.load false 1 (.t 16)),
  oz 18 15 true (.bin .leq .int (.c (.int .i64 0)) (.t 17)),
  oy 19 (.pick (.t 15) (.t 18) (.c (.bool false))),
  oy 20 (.mv (.t 19)),
  oz 21 20 true (.addOff 0 (.t 1)),
  oz 22 20 true (.load false 1 (.t 21)),
  oz 23 20 true (.addOff 1 (.t 1)),
  oz 24 20 true (.load false 1 (.t 23)),
  oz 25 20 true (.bin .leq .int (.t 22) (.t 24)),
  oy 26 (.pick (.t 20) (.t 25) (.c (.bool false))),
  oy 27 (.mv (.t 26)),
  oz 28 27 false (.load true 4 (.t 1)),
  oz 29 27 false (.build [(.int .i64 0), (.int .i64 0), (.bool false), (.bool false)] []),
  oz 30 27 false (.bin .eql (.plain [(some .i64), (some .i64), none, none]) (.t 28) (.t 29)),
  oy 31 (.pick (.t 27) (.c (.bool true)) (.t 30)),
  oy 2 (.mv (.t 31))]
def n82_3 : ICode := .region l82_3
def n82_4 : ICode := .ret
def n82_2 : ICode := .seq n82_3 n82_4
def n82_0 : ICode := .seq n82_1 n82_2
theorem b82 : table.find 82 = some ⟨32, n82_0, [.tmp 2]⟩ := by kernel_rfl
@[simp] theorem en82_1 : evCode C n82_1 R S = regK (runOps C l82_1 R S) := ev_plain rfl
@[simp] theorem en82_3 : evCode C n82_3 R S = regK (runOps C l82_3 R S) := ev_plain rfl
@[simp] theorem en82_4 : evCode C n82_4 R S = some (.ret, R, S) := (rfl)
@[simp] theorem en82_2 : evCode C n82_2 R S = seqK (evCode C n82_3 R S) fun R S => evCode C n82_4 R S := ev_seq
@[simp] theorem en82_0 : evCode C n82_0 R S = seqK (evCode C n82_1 R S) fun R S => evCode C n82_2 R S := ev_seq
theorem q82 {n : Nat} {args : List Value} {S : St} : calls table.find (n + 1) 82 args S = endK S [.tmp 2] (evCode (calls table.find n) n82_0 (args ++ List.replicate (32 - args.length) undef) S.enter) := call_enter b82

/-! wainscot/count.flag -/
@[simp] def l83_1 : List IOper := [oy 4 (.mv (.c (.int .u64 0)))]
def n83_1 : ICode := .region l83_1
@[simp] def l83_4 : List IOper := [oy 5 (.mv (.t 0))]
def n83_4 : ICode := .region l83_4
@[simp] def l83_7 : List IOper := [oy 6 (.mv (.t 1)),
  oy 4 (.mv (.t 6))]
def n83_7 : ICode := .region l83_7
def n83_8 : ICode := .ret
def n83_6 : ICode := .seq n83_7 n83_8
def n83_9 : ICode := .skip
def n83_5 : ICode := .cond (.t 5) n83_6 n83_9
def n83_3 : ICode := .seq n83_4 n83_5
@[simp] def l83_11 : List IOper := [oy 4 (.mv (.c (.int .u64 0)))]
def n83_11 : ICode := .region l83_11
def n83_12 : ICode := .ret
def n83_10 : ICode := .seq n83_11 n83_12
def n83_2 : ICode := .seq n83_3 n83_10
def n83_0 : ICode := .seq n83_1 n83_2
theorem b83 : table.find 83 = some ⟨7, n83_0, [.tmp 4]⟩ := by kernel_rfl
@[simp] theorem en83_1 : evCode C n83_1 R S = regK (runOps C l83_1 R S) := ev_plain rfl
@[simp] theorem en83_4 : evCode C n83_4 R S = regK (runOps C l83_4 R S) := ev_plain rfl
@[simp] theorem en83_7 : evCode C n83_7 R S = regK (runOps C l83_7 R S) := ev_plain rfl
@[simp] theorem en83_8 : evCode C n83_8 R S = some (.ret, R, S) := (rfl)
@[simp] theorem en83_6 : evCode C n83_6 R S = seqK (evCode C n83_7 R S) fun R S => evCode C n83_8 R S := ev_seq
@[simp] theorem en83_9 : evCode C n83_9 R S = some (.norm, R, S) := (rfl)
@[simp] theorem en83_5 : evCode C n83_5 R S = condK (IV.ev R (.t 5)) (fun _ => evCode C n83_6 R S) fun _ => evCode C n83_9 R S := ev_cond
@[simp] theorem en83_3 : evCode C n83_3 R S = seqK (evCode C n83_4 R S) fun R S => evCode C n83_5 R S := ev_seq
@[simp] theorem en83_11 : evCode C n83_11 R S = regK (runOps C l83_11 R S) := ev_plain rfl
@[simp] theorem en83_12 : evCode C n83_12 R S = some (.ret, R, S) := (rfl)
@[simp] theorem en83_10 : evCode C n83_10 R S = seqK (evCode C n83_11 R S) fun R S => evCode C n83_12 R S := ev_seq
@[simp] theorem en83_2 : evCode C n83_2 R S = seqK (evCode C n83_3 R S) fun R S => evCode C n83_10 R S := ev_seq
@[simp] theorem en83_0 : evCode C n83_0 R S = seqK (evCode C n83_1 R S) fun R S => evCode C n83_2 R S := ev_seq
theorem q83 {n : Nat} {args : List Value} {S : St} : calls table.find (n + 1) 83 args S = endK S [.tmp 4] (evCode (calls table.find n) n83_0 (args ++ List.replicate (7 - args.length) undef) S.enter) := call_enter b83

/-! wainscot/chart.Head$1 -/
@[simp] def l84_1 : List IOper := [oy 1 (.mv (.c (.int .i64 0)))]
def n84_1 : ICode := .region l84_1
@[simp] def l84_3 : List IOper := [oy 2 (.load false 1 (.t 0)),
  oy 3 (.bin .mul .int (.c (.int .i64 4)) (.t 2)),
  oy 1 (.mv (.t 3))]
def n84_3 : ICode := .region l84_3
def n84_4 : ICode := .ret
def n84_2 : ICode := .seq n84_3 n84_4
def n84_0 : ICode := .seq n84_1 n84_2
theorem b84 : table.find 84 = some ⟨4, n84_0, [.tmp 1]⟩ := by kernel_rfl
@[simp] theorem en84_1 : evCode C n84_1 R S = regK (runOps C l84_1 R S) := ev_plain rfl
@[simp] theorem en84_3 : evCode C n84_3 R S = regK (runOps C l84_3 R S) := ev_plain rfl
@[simp] theorem en84_4 : evCode C n84_4 R S = some (.ret, R, S) := (rfl)
@[simp] theorem en84_2 : evCode C n84_2 R S = seqK (evCode C n84_3 R S) fun R S => evCode C n84_4 R S := ev_seq
@[simp] theorem en84_0 : evCode C n84_0 R S = seqK (evCode C n84_1 R S) fun R S => evCode C n84_2 R S := ev_seq
theorem q84 {n : Nat} {args : List Value} {S : St} : calls table.find (n + 1) 84 args S = endK S [.tmp 1] (evCode (calls table.find n) n84_0 (args ++ List.replicate (4 - args.length) undef) S.enter) := call_enter b84

/-! wainscot/chart.First$1 -/
@[simp] def l85_1 : List IOper := [oy 2 (.mv (.c (.int .i64 0)))]
def n85_1 : ICode := .region l85_1
@[simp] def l85_3 : List IOper := [oy 3 (.load true 6 (.t 0)),
  oy 4 (.call (.c (.func (.func 86) #[] #[])) [(.t 3)] true),
  oy 5 (.load false 1 (.t 1)),
  oy 6 (.bin .mul .int (.c (.int .i64 4)) (.t 5)),
  oy 7 (.bin .add .int (.t 4) (.t 6)),
  oy 2 (.mv (.t 7))]
def n85_3 : ICode := .region l85_3
def n85_4 : ICode := .ret
def n85_2 : ICode := .seq n85_3 n85_4
def n85_0 : ICode := .seq n85_1 n85_2
theorem b85 : table.find 85 = some ⟨8, n85_0, [.tmp 2]⟩ := by kernel_rfl
@[simp] theorem en85_1 : evCode C n85_1 R S = regK (runOps C l85_1 R S) := ev_plain rfl
@[simp] theorem en85_3 : evCode C n85_3 R S = regK (runOps C l85_3 R S) := ev_plain rfl
@[simp] theorem en85_4 : evCode C n85_4 R S = some (.ret, R, S) := (rfl)
@[simp] theorem en85_2 : evCode C n85_2 R S = seqK (evCode C n85_3 R S) fun R S => evCode C n85_4 R S := ev_seq
@[simp] theorem en85_0 : evCode C n85_0 R S = seqK (evCode C n85_1 R S) fun R S => evCode C n85_2 R S := ev_seq
theorem q85 {n : Nat} {args : List Value} {S : St} : calls table.find (n + 1) 85 args S = endK S [.tmp 2] (evCode (calls table.find n) n85_0 (args ++ List.replicate (8 - args.length) undef) S.enter) := call_enter b85

/-! wainscot/chart.slabs -/
@[simp] def l86_1 : List IOper := [oy 1 (.box 25 6 (.t 0)),
  oy 2 (.mv (.c (.int .i64 0)))]
def n86_1 : ICode := .region l86_1
@[simp] def l86_3 : List IOper := [oy 3 (.load true 6 (.t 1)),
  oy 4 (.call (.c (.func (.func 98) #[] #[])) [(.t 3)] true),
  oy 5 (.bin .add .int (.t 4) (.c (.int .i64 4))),
  oy 2 (.mv (.t 5))]
def n86_3 : ICode := .region l86_3
def n86_4 : ICode := .ret
def n86_2 : ICode := .seq n86_3 n86_4
def n86_0 : ICode := .seq n86_1 n86_2
theorem b86 : table.find 86 = some ⟨6, n86_0, [.tmp 2]⟩ := by kernel_rfl
@[simp] theorem en86_1 : evCode C n86_1 R S = regK (runOps C l86_1 R S) := ev_plain rfl
@[simp] theorem en86_3 : evCode C n86_3 R S = regK (runOps C l86_3 R S) := ev_plain rfl
@[simp] theorem en86_4 : evCode C n86_4 R S = some (.ret, R, S) := (rfl)
@[simp] theorem en86_2 : evCode C n86_2 R S = seqK (evCode C n86_3 R S) fun R S => evCode C n86_4 R S := ev_seq
@[simp] theorem en86_0 : evCode C n86_0 R S = seqK (evCode C n86_1 R S) fun R S => evCode C n86_2 R S := ev_seq
theorem q86 {n : Nat} {args : List Value} {S : St} : calls table.find (n + 1) 86 args S = endK S [.tmp 2] (evCode (calls table.find n) n86_0 (args ++ List.replicate (6 - args.length) undef) S.enter) := call_enter b86

/-! wainscot/chart.Lock -/
@[simp] def l87_1 : List IOper := [oy 1 (.box 25 6 (.t 0)),
  oy 2 (.mv (.c (.int .i64 0)))]
def n87_1 : ICode := .region l87_1
@[simp] def l87_3 : List IOper := [oy 3 (.load true 6 (.t 1)),
  oy 4 (.mkFunc 99 [] [(.t 1)]),
  oy 5 (.call (.c (.func (.func 79) #[] #[])) [(.t 3), (.c (.int .i64 0)), (.c (.int .i64 1)), (.t 4)] true),
  oy 2 (.mv (.t 5))]
def n87_3 : ICode := .region l87_3
def n87_4 : ICode := .ret
def n87_2 : ICode := .seq n87_3 n87_4
def n87_0 : ICode := .seq n87_1 n87_2
theorem b87 : table.find 87 = some ⟨6, n87_0, [.tmp 2]⟩ := by kernel_rfl
@[simp] theorem en87_1 : evCode C n87_1 R S = regK (runOps C l87_1 R S) := ev_plain rfl
@[simp] theorem en87_3 : evCode C n87_3 R S = regK (runOps C l87_3 R S) := ev_plain rfl
@[simp] theorem en87_4 : evCode C n87_4 R S = some (.ret, R, S) := (rfl)
@[simp] theorem en87_2 : evCode C n87_2 R S = seqK (evCode C n87_3 R S) fun R S => evCode C n87_4 R S := ev_seq
@[simp] theorem en87_0 : evCode C n87_0 R S = seqK (evCode C n87_1 R S) fun R S => evCode C n87_2 R S := ev_seq
theorem q87 {n : Nat} {args : List Value} {S : St} : calls table.find (n + 1) 87 args S = endK S [.tmp 2] (evCode (calls table.find n) n87_0 (args ++ List.replicate (6 - args.length) undef) S.enter) := call_enter b87

/-! wainscot/chart.Shelf -/
@[simp] def l90_1 : List IOper := [oy 1 (.box 25 6 (.t 0)),
  oy 2 (.mv (.c (.int .i64 0)))]
def n90_1 : ICode := .region l90_1
@[simp] def l90_3 : List IOper := [oy 3 (.load true 6 (.t 1)),
  oy 4 (.mkFunc 103 [] [(.t 1)]),
  oy 5 (.call (.c (.func (.func 79) #[] #[])) [(.t 3), (.c (.int .i64 0)), (.c (.int .i64 1)), (.t 4)] true),
  oy 2 (.mv (.t 5))]
def n90_3 : ICode := .region l90_3
def n90_4 : ICode := .ret
def n90_2 : ICode := .seq n90_3 n90_4
def n90_0 : ICode := .seq n90_1 n90_2
theorem b90 : table.find 90 = some ⟨6, n90_0, [.tmp 2]⟩ := by kernel_rfl
@[simp] theorem en90_1 : evCode C n90_1 R S = regK (runOps C l90_1 R S) := ev_plain rfl
@[simp] theorem en90_3 : evCode C n90_3 R S = regK (runOps C l90_3 R S) := ev_plain rfl
@[simp] theorem en90_4 : evCode C n90_4 R S = some (.ret, R, S) := (rfl)
@[simp] theorem en90_2 : evCode C n90_2 R S = seqK (evCode C n90_3 R S) fun R S => evCode C n90_4 R S := ev_seq
@[simp] theorem en90_0 : evCode C n90_0 R S = seqK (evCode C n90_1 R S) fun R S => evCode C n90_2 R S := ev_seq
theorem q90 {n : Nat} {args : List Value} {S : St} : calls table.find (n + 1) 90 args S = endK S [.tmp 2] (evCode (calls table.find n) n90_0 (args ++ List.replicate (6 - args.length) undef) S.enter) := call_enter b90

/-! wainscot/count.HeadOf -/
@[simp] def l94_1 : List IOper := [oy 2 (.mv (.c (.int .i64 0))),
  oy 3 (.mv (.c (.int .i64 0))),
  oy 4 (.mv (.c (.bool false)))]
def n94_1 : ICode := .region l94_1
@[simp] def l94_3 : List IOper := [oy 6 (.mv (.t 0)),
  oy 7 (.call (.c (.func (.func 106) #[] #[])) [(.t 6), (.c (.int .i64 1)), (.c (.int .i64 1)), (.c (.func (.func 107) #[] #[]))] true),
  oy 5 (.mv (.t 7)),
  oy 8 (.extract (.t 5) 0),
  oy 9 (.extract (.t 5) 1),
  oy 10 (.extract (.t 5) 2),
  oy 2 (.mv (.t 8)),
  oy 3 (.mv (.t 9)),
  oy 4 (.mv (.t 10))]
def n94_3 : ICode := .region l94_3
@[simp] def l94_6 : List IOper := [oy 11 (.mv (.t 4)),
  oy 12 (.un .not (.t 11))]
def n94_6 : ICode := .region l94_6
@[simp] def l94_9 : List IOper := [oy 2 (.mv (.c (.int .i64 (-1)))),
  oy 3 (.mv (.c (.int .i64 (-1)))),
  oy 4 (.mv (.c (.bool false)))]
def n94_9 : ICode := .region l94_9
def n94_10 : ICode := .ret
def n94_8 : ICode := .seq n94_9 n94_10
def n94_11 : ICode := .skip
def n94_7 : ICode := .cond (.t 12) n94_8 n94_11
def n94_5 : ICode := .seq n94_6 n94_7
@[simp] def l94_13 : List IOper := [oy 13 (.mv (.t 2)),
  oy 14 (.mv (.t 3)),
  oy 2 (.mv (.t 13)),
  oy 3 (.mv (.t 14)),
  oy 4 (.mv (.c (.bool true)))]
def n94_13 : ICode := .region l94_13
def n94_14 : ICode := .ret
def n94_12 : ICode := .seq n94_13 n94_14
def n94_4 : ICode := .seq n94_5 n94_12
def n94_2 : ICode := .seq n94_3 n94_4
def n94_0 : ICode := .seq n94_1 n94_2
theorem b94 : table.find 94 = some ⟨15, n94_0, [.tmp 2, .tmp 3, .tmp 4]⟩ := by kernel_rfl
@[simp] theorem en94_1 : evCode C n94_1 R S = regK (runOps C l94_1 R S) := ev_plain rfl
@[simp] theorem en94_3 : evCode C n94_3 R S = regK (runOps C l94_3 R S) := ev_plain rfl
@[simp] theorem en94_6 : evCode C n94_6 R S = regK (runOps C l94_6 R S) := ev_plain rfl
@[simp] theorem en94_9 : evCode C n94_9 R S = regK (runOps C l94_9 R S) := ev_plain rfl
@[simp] theorem en94_10 : evCode C n94_10 R S = some (.ret, R, S) := (rfl)
@[simp] theorem en94_8 : evCode C n94_8 R S = seqK (evCode C n94_9 R S) fun R S => evCode C n94_10 R S := ev_seq
@[simp] theorem en94_11 : evCode C n94_11 R S = some (.norm, R, S) := (rfl)
@[simp] theorem en94_7 : evCode C n94_7 R S = condK (IV.ev R (.t 12)) (fun _ => evCode C n94_8 R S) fun _ => evCode C n94_11 R S := ev_cond
@[simp] theorem en94_5 : evCode C n94_5 R S = seqK (evCode C n94_6 R S) fun R S => evCode C n94_7 R S := ev_seq
@[simp] theorem en94_13 : evCode C n94_13 R S = regK (runOps C l94_13 R S) := ev_plain rfl
@[simp] theorem en94_14 : evCode C n94_14 R S = some (.ret, R, S) := (rfl)
@[simp] theorem en94_12 : evCode C n94_12 R S = seqK (evCode C n94_13 R S) fun R S => evCode C n94_14 R S := ev_seq
@[simp] theorem en94_4 : evCode C n94_4 R S = seqK (evCode C n94_5 R S) fun R S => evCode C n94_12 R S := ev_seq
@[simp] theorem en94_2 : evCode C n94_2 R S = seqK (evCode C n94_3 R S) fun R S => evCode C n94_4 R S := ev_seq
@[simp] theorem en94_0 : evCode C n94_0 R S = seqK (evCode C n94_1 R S) fun R S => evCode C n94_2 R S := ev_seq
theorem q94 {n : Nat} {args : List Value} {S : St} : calls table.find (n + 1) 94 args S = endK S [.tmp 2, .tmp 3, .tmp 4] (evCode (calls table.find n) n94_0 (args ++ List.replicate (15 - args.length) undef) S.enter) := call_enter b94

/-! wainscot/link.object -/
@[simp] def l95_1 : List IOper := [oy 2 (.mv (.c (.bool false)))]
def n95_1 : ICode := .region l95_1
@[simp] def l95_3 : List IOper := [oy 3 (.mv (.t 0)),
  oy 4 (.bin .leq .int (.c (.int .i64 0)) (.t 3)),
  oy 5 (.mv (.t 4)),
  oz 6 5 true (.mv (.t 0)),
  oz 7 5 true (.bin .lss .int (.t 6) (.c (.int .i64 16))),
  oy 8 (.pick (.t 5) (.t 7) (.c (.bool false))),
  oy 2 (.mv (.t 8))]
def n95_3 : ICode := .region l95_3
def n95_4 : ICode := .ret
def n95_2 : ICode := .seq n95_3 n95_4
def n95_0 : ICode := .seq n95_1 n95_2
theorem b95 : table.find 95 = some ⟨9, n95_0, [.tmp 2]⟩ := by kernel_rfl
@[simp] theorem en95_1 : evCode C n95_1 R S = regK (runOps C l95_1 R S) := ev_plain rfl
@[simp] theorem en95_3 : evCode C n95_3 R S = regK (runOps C l95_3 R S) := ev_plain rfl
@[simp] theorem en95_4 : evCode C n95_4 R S = some (.ret, R, S) := (rfl)
@[simp] theorem en95_2 : evCode C n95_2 R S = seqK (evCode C n95_3 R S) fun R S => evCode C n95_4 R S := ev_seq
@[simp] theorem en95_0 : evCode C n95_0 R S = seqK (evCode C n95_1 R S) fun R S => evCode C n95_2 R S := ev_seq
theorem q95 {n : Nat} {args : List Value} {S : St} : calls table.find (n + 1) 95 args S = endK S [.tmp 2] (evCode (calls table.find n) n95_0 (args ++ List.replicate (9 - args.length) undef) S.enter) := call_enter b95

/-! math/bits.RotateLeft64 -/
@[simp] def l97_1 : List IOper := [oy 4 (.mv (.c (.int .u64 0)))]
def n97_1 : ICode := .region l97_1
@[simp] def l97_3 : List IOper := [oy 6 (.mv (.t 1)),
  oy 7 (.conv .u64 (.t 6)),
  oy 8 (.bin .and .int (.t 7) (.c (.int .u64 63))),
  oy 5 (.mv (.t 8))]
def n97_3 : ICode := .region l97_3
@[simp] def l97_5 : List IOper := [oy 9 (.mv (.t 0)),
  oy 10 (.mv (.t 5)),
  oy 11 (.bin .shl .int (.t 9) (.t 10)),
  oy 12 (.mv (.t 0)),
  oy 13 (.mv (.t 5)),
  oy 14 (.bin .sub .int (.c (.int .u64 64)) (.t 13)),
  oy 15 (.bin .shr .int (.t 12) (.t 14)),
  oy 16 (.bin .or .int (.t 11) (.t 15)),
  oy 4 (.mv (.t 16))]
def n97_5 : ICode := .region l97_5
def n97_6 : ICode := .ret
def n97_4 : ICode := .seq n97_5 n97_6
def n97_2 : ICode := .seq n97_3 n97_4
def n97_0 : ICode := .seq n97_1 n97_2
theorem b97 : table.find 97 = some ⟨17, n97_0, [.tmp 4]⟩ := by kernel_rfl
@[simp] theorem en97_1 : evCode C n97_1 R S = regK (runOps C l97_1 R S) := ev_plain rfl
@[simp] theorem en97_3 : evCode C n97_3 R S = regK (runOps C l97_3 R S) := ev_plain rfl
@[simp] theorem en97_5 : evCode C n97_5 R S = regK (runOps C l97_5 R S) := ev_plain rfl
@[simp] theorem en97_6 : evCode C n97_6 R S = some (.ret, R, S) := (rfl)
@[simp] theorem en97_4 : evCode C n97_4 R S = seqK (evCode C n97_5 R S) fun R S => evCode C n97_6 R S := ev_seq
@[simp] theorem en97_2 : evCode C n97_2 R S = seqK (evCode C n97_3 R S) fun R S => evCode C n97_4 R S := ev_seq
@[simp] theorem en97_0 : evCode C n97_0 R S = seqK (evCode C n97_1 R S) fun R S => evCode C n97_2 R S := ev_seq
theorem q97 {n : Nat} {args : List Value} {S : St} : calls table.find (n + 1) 97 args S = endK S [.tmp 4] (evCode (calls table.find n) n97_0 (args ++ List.replicate (17 - args.length) undef) S.enter) := call_enter b97

/-! wainscot/chart.base -/
@[simp] def l98_1 : List IOper := [oy 1 (.box 25 6 (.t 0)),
  oy 2 (.mv (.c (.int .i64 0)))]
def n98_1 : ICode := .region l98_1
@[simp] def l98_3 : List IOper := [oy 3 (.addOff 0 (.t 1)),
  oy 4 (.load false 1 (.t 3)),
  oy 5 (.bin .mul .int (.c (.int .i64 4)) (.t 4)),
  oy 2 (.mv (.t 5))]
def n98_3 : ICode := .region l98_3
def n98_4 : ICode := .ret
def n98_2 : ICode := .seq n98_3 n98_4
def n98_0 : ICode := .seq n98_1 n98_2
theorem b98 : table.find 98 = some ⟨6, n98_0, [.tmp 2]⟩ := by kernel_rfl
@[simp] theorem en98_1 : evCode C n98_1 R S = regK (runOps C l98_1 R S) := ev_plain rfl
@[simp] theorem en98_3 : evCode C n98_3 R S = regK (runOps C l98_3 R S) := ev_plain rfl
@[simp] theorem en98_4 : evCode C n98_4 R S = some (.ret, R, S) := (rfl)
@[simp] theorem en98_2 : evCode C n98_2 R S = seqK (evCode C n98_3 R S) fun R S => evCode C n98_4 R S := ev_seq
@[simp] theorem en98_0 : evCode C n98_0 R S = seqK (evCode C n98_1 R S) fun R S => evCode C n98_2 R S := ev_seq
theorem q98 {n : Nat} {args : List Value} {S : St} : calls table.find (n + 1) 98 args S = endK S [.tmp 2] (evCode (calls table.find n) n98_0 (args ++ List.replicate (6 - args.length) undef) S.enter) := call_enter b98

/-! wainscot/chart.Lock$1 -/
@[simp] def l99_1 : List IOper := [oy 1 (.mv (.c (.int .i64 0)))]
def n99_1 : ICode := .region l99_1
@[simp] def l99_3 : List IOper := [oy 2 (.load true 6 (.t 0)),
  oy 3 (.call (.c (.func (.func 98) #[] #[])) [(.t 2)] true),
  oy 1 (.mv (.t 3))]
def n99_3 : ICode := .region l99_3
def n99_4 : ICode := .ret
def n99_2 : ICode := .seq n99_3 n99_4
def n99_0 : ICode := .seq n99_1 n99_2
theorem b99 : table.find 99 = some ⟨4, n99_0, [.tmp 1]⟩ := by kernel_rfl
@[simp] theorem en99_1 : evCode C n99_1 R S = regK (runOps C l99_1 R S) := ev_plain rfl
@[simp] theorem en99_3 : evCode C n99_3 R S = regK (runOps C l99_3 R S) := ev_plain rfl
@[simp] theorem en99_4 : evCode C n99_4 R S = some (.ret, R, S) := (rfl)
@[simp] theorem en99_2 : evCode C n99_2 R S = seqK (evCode C n99_3 R S) fun R S => evCode C n99_4 R S := ev_seq
@[simp] theorem en99_0 : evCode C n99_0 R S = seqK (evCode C n99_1 R S) fun R S => evCode C n99_2 R S := ev_seq
theorem q99 {n : Nat} {args : List Value} {S : St} : calls table.find (n + 1) 99 args S = endK S [.tmp 1] (evCode (calls table.find n) n99_0 (args ++ List.replicate (4 - args.length) undef) S.enter) := call_enter b99

/-! wainscot/chart.Next -/
@[simp] def l102_1 : List IOper := [oy 2 (.box 25 6 (.t 0)),
  oy 3 (.box 3 1 (.t 1)),
  oy 4 (.mv (.c (.int .i64 0)))]
def n102_1 : ICode := .region l102_1
@[simp] def l102_3 : List IOper := [oy 5 (.load true 6 (.t 2)),
  oy 6 (.load false 1 (.t 3)),
  oy 7 (.addOff 1 (.t 2)),
  oy 8 (.load false 1 (.t 7)),
  oy 9 (.mkFunc 111 [] [(.t 2), (.t 3)]),
  oy 10 (.call (.c (.func (.func 79) #[] #[])) [(.t 5), (.t 6), (.t 8), (.t 9)] true),
  oy 4 (.mv (.t 10))]
def n102_3 : ICode := .region l102_3
def n102_4 : ICode := .ret
def n102_2 : ICode := .seq n102_3 n102_4
def n102_0 : ICode := .seq n102_1 n102_2
theorem b102 : table.find 102 = some ⟨11, n102_0, [.tmp 4]⟩ := by kernel_rfl
@[simp] theorem en102_1 : evCode C n102_1 R S = regK (runOps C l102_1 R S) := ev_plain rfl
@[simp] theorem en102_3 : evCode C n102_3 R S = regK (runOps C l102_3 R S) := ev_plain rfl
@[simp] theorem en102_4 : evCode C n102_4 R S = some (.ret, R, S) := (rfl)
@[simp] theorem en102_2 : evCode C n102_2 R S = seqK (evCode C n102_3 R S) fun R S => evCode C n102_4 R S := ev_seq
@[simp] theorem en102_0 : evCode C n102_0 R S = seqK (evCode C n102_1 R S) fun R S => evCode C n102_2 R S := ev_seq
theorem q102 {n : Nat} {args : List Value} {S : St} : calls table.find (n + 1) 102 args S = endK S [.tmp 4] (evCode (calls table.find n) n102_0 (args ++ List.replicate (11 - args.length) undef) S.enter) := call_enter b102

/-! wainscot/chart.Shelf$1 -/
@[simp] def l103_1 : List IOper := [oy 1 (.mv (.c (.int .i64 0)))]
def n103_1 : ICode := .region l103_1
@[simp] def l103_3 : List IOper := [oy 2 (.load true 6 (.t 0)),
  oy 3 (.call (.c (.func (.func 98) #[] #[])) [(.t 2)] true),
  oy 4 (.bin .add .int (.t 3) (.c (.int .i64 1))),
  oy 1 (.mv (.t 4))]
def n103_3 : ICode := .region l103_3
def n103_4 : ICode := .ret
def n103_2 : ICode := .seq n103_3 n103_4
def n103_0 : ICode := .seq n103_1 n103_2
theorem b103 : table.find 103 = some ⟨5, n103_0, [.tmp 1]⟩ := by kernel_rfl
@[simp] theorem en103_1 : evCode C n103_1 R S = regK (runOps C l103_1 R S) := ev_plain rfl
@[simp] theorem en103_3 : evCode C n103_3 R S = regK (runOps C l103_3 R S) := ev_plain rfl
@[simp] theorem en103_4 : evCode C n103_4 R S = some (.ret, R, S) := (rfl)
@[simp] theorem en103_2 : evCode C n103_2 R S = seqK (evCode C n103_3 R S) fun R S => evCode C n103_4 R S := ev_seq
@[simp] theorem en103_0 : evCode C n103_0 R S = seqK (evCode C n103_1 R S) fun R S => evCode C n103_2 R S := ev_seq
theorem q103 {n : Nat} {args : List Value} {S : St} : calls table.find (n + 1) 103 args S = endK S [.tmp 1] (evCode (calls table.find n) n103_0 (args ++ List.replicate (5 - args.length) undef) S.enter) := call_enter b103

/-! wainscot/count.Counts -/
@[simp] def l104_1 : List IOper := [oy 2 (.new 97 [(.int .i64 0), (.int .i64 0), (.bool false), (.bool false)]),
  oy 3 (.mv (.c (.bool false)))]
def n104_1 : ICode := .region l104_1
@[simp] def l104_3 : List IOper := [oy 5 (.mv (.t 0)),
  oy 6 (.bin .and .int (.t 5) (.c (.int .u64 255))),
  oy 7 (.conv .i64 (.t 6)),
  oy 8 (.mv (.t 0)),
  oy 9 (.bin .shr .int (.t 8) (.c (.int .u64 8))),
  oy 10 (.bin .and .int (.t 9) (.c (.int .u64 255))),
  oy 11 (.conv .i64 (.t 10)),
  oy 12 (.mv (.t 0)),
  oy 13 (.bin .and .int (.t 12) (.c (.int .u64 65536))),
  oy 14 (.bin .neq .int (.t 13) (.c (.int .u64 0))),
  oy 15 (.mv (.t 0)),
  oy 16 (.bin .and .int (.t 15) (.c (.int .u64 131072))),
  oy 17 (.bin .neq .int (.t 16) (.c (.int .u64 0))),
  oy 18 (.build [(.int .i64 0), (.int .i64 0), (.bool false), (.bool false)] [(0, 1, (.t 7)), (1, 1, (.t 11)), (2, 1, (.t 14)), (3, 1, (.t 17))]),
  oy 4 (.new 97 [(.int .i64 0), (.int .i64 0), (.bool false), (.bool false)]),
  ox (.store 4 (.t 4) (.t 18))]
def n104_3 : ICode := .region l104_3
@[simp] def l104_6 : List IOper := [oy 19 (.mv (.t 0)),
  oy 20 (.bin .geq .int (.t 19) (.c (.int .u64 262144))),
  oy 21 (.mv (.t 20)),
  oz 22 21 false (.load true 4 (.t 4)),
  oz 23 21 false (.call (.c (.func (.func 82) #[] #[])) [(.t 22)] true),
  oz 24 21 false (.un .not (.t 23)),
  oy 25 (.pick (.t 21) (.c (.bool true)) (.t 24))]
def n104_6 : ICode := .region l104_6
@[simp] def l104_9 : List IOper := [oy 26 (.build [(.int .i64 0), (.int .i64 0), (.bool false), (.bool false)] []),
  ox (.store 4 (.t 2) (.t 26)),
  oy 3 (.mv (.c (.bool false)))]
def n104_9 : ICode := .region l104_9
def n104_10 : ICode := .ret
def n104_8 : ICode := .seq n104_9 n104_10
def n104_11 : ICode := .skip
def n104_7 : ICode := .cond (.t 25) n104_8 n104_11
def n104_5 : ICode := .seq n104_6 n104_7
@[simp] def l104_13 : List IOper := [oy 27 (.load true 4 (.t 4)),
  ox (.store 4 (.t 2) (.t 27)),
  oy 3 (.mv (.c (.bool true)))]
def n104_13 : ICode := .region l104_13
def n104_14 : ICode := .ret
def n104_12 : ICode := .seq n104_13 n104_14
def n104_4 : ICode := .seq n104_5 n104_12
def n104_2 : ICode := .seq n104_3 n104_4
def n104_0 : ICode := .seq n104_1 n104_2
theorem b104 : table.find 104 = some ⟨28, n104_0, [.cell 2 true 4, .tmp 3]⟩ := by kernel_rfl
@[simp] theorem en104_1 : evCode C n104_1 R S = regK (runOps C l104_1 R S) := ev_plain rfl
@[simp] theorem en104_3 : evCode C n104_3 R S = regK (runOps C l104_3 R S) := ev_plain rfl
@[simp] theorem en104_6 : evCode C n104_6 R S = regK (runOps C l104_6 R S) := ev_plain rfl
@[simp] theorem en104_9 : evCode C n104_9 R S = regK (runOps C l104_9 R S) := ev_plain rfl
@[simp] theorem en104_10 : evCode C n104_10 R S = some (.ret, R, S) := (rfl)
@[simp] theorem en104_8 : evCode C n104_8 R S = seqK (evCode C n104_9 R S) fun R S => evCode C n104_10 R S := ev_seq
@[simp] theorem en104_11 : evCode C n104_11 R S = some (.norm, R, S) := (rfl)
@[simp] theorem en104_7 : evCode C n104_7 R S = condK (IV.ev R (.t 25)) (fun _ => evCode C n104_8 R S) fun _ => evCode C n104_11 R S := ev_cond
@[simp] theorem en104_5 : evCode C n104_5 R S = seqK (evCode C n104_6 R S) fun R S => evCode C n104_7 R S := ev_seq
@[simp] theorem en104_13 : evCode C n104_13 R S = regK (runOps C l104_13 R S) := ev_plain rfl
@[simp] theorem en104_14 : evCode C n104_14 R S = some (.ret, R, S) := (rfl)
@[simp] theorem en104_12 : evCode C n104_12 R S = seqK (evCode C n104_13 R S) fun R S => evCode C n104_14 R S := ev_seq
@[simp] theorem en104_4 : evCode C n104_4 R S = seqK (evCode C n104_5 R S) fun R S => evCode C n104_12 R S := ev_seq
@[simp] theorem en104_2 : evCode C n104_2 R S = seqK (evCode C n104_3 R S) fun R S => evCode C n104_4 R S := ev_seq
@[simp] theorem en104_0 : evCode C n104_0 R S = seqK (evCode C n104_1 R S) fun R S => evCode C n104_2 R S := ev_seq
theorem q104 {n : Nat} {args : List Value} {S : St} : calls table.find (n + 1) 104 args S = endK S [.cell 2 true 4, .tmp 3] (evCode (calls table.find n) n104_0 (args ++ List.replicate (28 - args.length) undef) S.enter) := call_enter b104

/-! wainscot/count.told[int] -/
@[simp] def l106_1 : List IOper := [oy 8 (.mv (.c (.int .i64 0))),
  oy 9 (.mv (.c (.int .i64 0))),
  oy 10 (.mv (.c (.bool false)))]
def n106_1 : ICode := .region l106_1
@[simp] def l106_3 : List IOper := [oy 13 (.mv (.t 0)),
  oy 14 (.bin .shr .int (.t 13) (.c (.int .u64 6))),
  oy 15 (.conv .i64 (.t 14)),
  oy 16 (.mv (.t 1)),
  oy 17 (.bin .sub .int (.t 15) (.t 16)),
  oy 18 (.mv (.t 0)),
  oy 19 (.bin .and .int (.t 18) (.c (.int .u64 63))),
  oy 20 (.conv .i64 (.t 19)),
  oy 21 (.mv (.t 2)),
  oy 22 (.bin .sub .int (.t 20) (.t 21)),
  oy 11 (.mv (.t 17)),
  oy 12 (.mv (.t 22))]
def n106_3 : ICode := .region l106_3
@[simp] def l106_6 : List IOper := [oy 23 (.mv (.t 0)),
  oy 24 (.bin .gtr .int (.t 23) (.c (.int .u64 4095))),
  oy 25 (.mv (.t 24)),
  oz 26 25 false (.mv (.t 3)),
  oz 27 25 false (.mv (.t 11)),
  oz 28 25 false (.mv (.t 12)),
  oz 29 25 false (.call (.t 26) [(.t 27), (.t 28)] false),
  oz 30 25 false (.un .not (.t 29)),
  oy 31 (.pick (.t 25) (.c (.bool true)) (.t 30))]
def n106_6 : ICode := .region l106_6
@[simp] def l106_9 : List IOper := [oy 8 (.mv (.c (.int .i64 0))),
  oy 9 (.mv (.c (.int .i64 0))),
  oy 10 (.mv (.c (.bool false)))]
def n106_9 : ICode := .region l106_9
def n106_10 : ICode := .ret
def n106_8 : ICode := .seq n106_9 n106_10
def n106_11 : ICode := .skip
def n106_7 : ICode := .cond (.t 31) n106_8 n106_11
def n106_5 : ICode := .seq n106_6 n106_7
@[simp] def l106_13 : List IOper := [oy 32 (.mv (.t 11)),
  oy 33 (.mv (.t 12)),
  oy 8 (.mv (.t 32)),
  oy 9 (.mv (.t 33)),
  oy 10 (.mv (.c (.bool true)))]
def n106_13 : ICode := .region l106_13
def n106_14 : ICode := .ret
def n106_12 : ICode := .seq n106_13 n106_14
def n106_4 : ICode := .seq n106_5 n106_12
def n106_2 : ICode := .seq n106_3 n106_4
def n106_0 : ICode := .seq n106_1 n106_2
theorem b106 : table.find 106 = some ⟨34, n106_0, [.tmp 8, .tmp 9, .tmp 10]⟩ := by kernel_rfl
@[simp] theorem en106_1 : evCode C n106_1 R S = regK (runOps C l106_1 R S) := ev_plain rfl
@[simp] theorem en106_3 : evCode C n106_3 R S = regK (runOps C l106_3 R S) := ev_plain rfl
@[simp] theorem en106_6 : evCode C n106_6 R S = regK (runOps C l106_6 R S) := ev_plain rfl
@[simp] theorem en106_9 : evCode C n106_9 R S = regK (runOps C l106_9 R S) := ev_plain rfl
@[simp] theorem en106_10 : evCode C n106_10 R S = some (.ret, R, S) := (rfl)
@[simp] theorem en106_8 : evCode C n106_8 R S = seqK (evCode C n106_9 R S) fun R S => evCode C n106_10 R S := ev_seq
@[simp] theorem en106_11 : evCode C n106_11 R S = some (.norm, R, S) := (rfl)
@[simp] theorem en106_7 : evCode C n106_7 R S = condK (IV.ev R (.t 31)) (fun _ => evCode C n106_8 R S) fun _ => evCode C n106_11 R S := ev_cond
@[simp] theorem en106_5 : evCode C n106_5 R S = seqK (evCode C n106_6 R S) fun R S => evCode C n106_7 R S := ev_seq
@[simp] theorem en106_13 : evCode C n106_13 R S = regK (runOps C l106_13 R S) := ev_plain rfl
@[simp] theorem en106_14 : evCode C n106_14 R S = some (.ret, R, S) := (rfl)
@[simp] theorem en106_12 : evCode C n106_12 R S = seqK (evCode C n106_13 R S) fun R S => evCode C n106_14 R S := ev_seq
@[simp] theorem en106_4 : evCode C n106_4 R S = seqK (evCode C n106_5 R S) fun R S => evCode C n106_12 R S := ev_seq
@[simp] theorem en106_2 : evCode C n106_2 R S = seqK (evCode C n106_3 R S) fun R S => evCode C n106_4 R S := ev_seq
@[simp] theorem en106_0 : evCode C n106_0 R S = seqK (evCode C n106_1 R S) fun R S => evCode C n106_2 R S := ev_seq
theorem q106 {n : Nat} {args : List Value} {S : St} : calls table.find (n + 1) 106 args S = endK S [.tmp 8, .tmp 9, .tmp 10] (evCode (calls table.find n) n106_0 (args ++ List.replicate (34 - args.length) undef) S.enter) := call_enter b106

/-! wainscot/count.HeadOf$1 -/
@[simp] def l107_1 : List IOper := [oy 4 (.mv (.c (.bool false)))]
def n107_1 : ICode := .region l107_1
@[simp] def l107_3 : List IOper := [oy 8 (.mv (.t 0)),
  oy 9 (.mv (.t 1)),
  oy 10 (.call (.c (.func (.func 60) #[] #[])) [(.t 8), (.t 9)] true),
  oy 7 (.mv (.t 10)),
  oy 11 (.extract (.t 7) 0),
  oy 12 (.extract (.t 7) 1),
  oy 5 (.mv (.t 11)),
  oy 6 (.mv (.t 12))]
def n107_3 : ICode := .region l107_3
@[simp] def l107_5 : List IOper := [oy 13 (.mv (.t 6)),
  oy 14 (.bin .eql .int (.t 13) (.c (.int .i64 0))),
  oy 4 (.mv (.t 14))]
def n107_5 : ICode := .region l107_5
def n107_6 : ICode := .ret
def n107_4 : ICode := .seq n107_5 n107_6
def n107_2 : ICode := .seq n107_3 n107_4
def n107_0 : ICode := .seq n107_1 n107_2
theorem b107 : table.find 107 = some ⟨15, n107_0, [.tmp 4]⟩ := by kernel_rfl
@[simp] theorem en107_1 : evCode C n107_1 R S = regK (runOps C l107_1 R S) := ev_plain rfl
@[simp] theorem en107_3 : evCode C n107_3 R S = regK (runOps C l107_3 R S) := ev_plain rfl
@[simp] theorem en107_5 : evCode C n107_5 R S = regK (runOps C l107_5 R S) := ev_plain rfl
@[simp] theorem en107_6 : evCode C n107_6 R S = some (.ret, R, S) := (rfl)
@[simp] theorem en107_4 : evCode C n107_4 R S = seqK (evCode C n107_5 R S) fun R S => evCode C n107_6 R S := ev_seq
@[simp] theorem en107_2 : evCode C n107_2 R S = seqK (evCode C n107_3 R S) fun R S => evCode C n107_4 R S := ev_seq
@[simp] theorem en107_0 : evCode C n107_0 R S = seqK (evCode C n107_1 R S) fun R S => evCode C n107_2 R S := ev_seq
theorem q107 {n : Nat} {args : List Value} {S : St} : calls table.find (n + 1) 107 args S = endK S [.tmp 4] (evCode (calls table.find n) n107_0 (args ++ List.replicate (15 - args.length) undef) S.enter) := call_enter b107

/-! wainscot/link.List -/
@[simp] def l109_1 : List IOper := [oy 6 (.mv (.c (.slice none 0 0))),
  oy 7 (.mv (.c (.int .i64 0)))]
def n109_1 : ICode := .region l109_1
@[simp] def l109_4 : List IOper := [oy 12 (.mv (.t 0)),
  oy 13 (.lenS (.t 12)),
  oy 14 (.bin .gtr .int (.t 13) (.c (.int .i64 16))),
  oy 15 (.mv (.t 14)),
  oz 16 15 false (.mv (.t 2)),
  oz 17 15 false (.bin .lss .int (.t 16) (.c (.int .i64 (-1)))),
  oy 18 (.pick (.t 15) (.c (.bool true)) (.t 17)),
  oy 19 (.mv (.t 18)),
  oz 20 19 false (.mv (.t 2)),
  oz 21 19 false (.mv (.t 0)),
  oz 22 19 false (.lenS (.t 21)),
  oz 23 19 false (.bin .geq .int (.t 20) (.t 22)),
  oy 24 (.pick (.t 19) (.c (.bool true)) (.t 23))]
def n109_4 : ICode := .region l109_4
@[simp] def l109_7 : List IOper := [oy 6 (.mv (.c (.slice none 0 0))),
  oy 7 (.mv (.c (.int .i64 2)))]
def n109_7 : ICode := .region l109_7
def n109_8 : ICode := .ret
def n109_6 : ICode := .seq n109_7 n109_8
def n109_9 : ICode := .skip
def n109_5 : ICode := .cond (.t 24) n109_6 n109_9
def n109_3 : ICode := .seq n109_4 n109_5
@[simp] def l109_11 : List IOper := [oy 8 (.new 142 [(.bool false), (.bool false), (.bool false), (.bool false), (.bool false), (.bool false), (.bool false), (.bool false), (.bool false), (.bool false), (.bool false), (.bool false), (.bool false), (.bool false), (.bool false), (.bool false)])]
def n109_11 : ICode := .region l109_11
@[simp] def l109_13 : List IOper := [oy 9 (.mv (.c (.slice none 0 0)))]
def n109_13 : ICode := .region l109_13
def n109_15 : ICode := .skip
@[simp] def l109_22 : List IOper := [oy 26 (.mv (.t 2)),
  oy 27 (.bin .eql .int (.t 26) (.c (.int .i64 (-1)))),
  oy 25 (.mv (.t 27))]
def n109_22 : ICode := .region l109_22
def n109_24 : ICode := .exit 0
@[simp] def l109_26 : List IOper := [oy 29 (.mv (.t 2)),
  oy 30 (.idxA 16 1 (.t 8) (.t 29)),
  oy 31 (.load false 1 (.t 30)),
  oy 28 (.mv (.t 31))]
def n109_26 : ICode := .region l109_26
@[simp] def l109_29 : List IOper := [oy 6 (.mv (.c (.slice none 0 0))),
  oy 7 (.mv (.c (.int .i64 150)))]
def n109_29 : ICode := .region l109_29
def n109_30 : ICode := .ret
def n109_28 : ICode := .seq n109_29 n109_30
def n109_31 : ICode := .skip
def n109_27 : ICode := .cond (.t 28) n109_28 n109_31
def n109_25 : ICode := .seq n109_26 n109_27
def n109_23 : ICode := .cond (.t 25) n109_24 n109_25
def n109_21 : ICode := .seq n109_22 n109_23
def n109_20 : ICode := .block 2 n109_21
@[simp] def l109_33 : List IOper := [oy 32 (.mv (.t 2)),
  oy 33 (.idxA 16 1 (.t 8) (.t 32)),
  ox (.store 1 (.t 33) (.c (.bool true)))]
def n109_33 : ICode := .region l109_33
@[simp] def l109_35 : List IOper := [oy 34 (.mv (.t 9)),
  oy 35 (.mv (.t 2)),
  oy 36 (.buildSlice 3 [(.int .i64 0)] 1 [(0, 1, (.t 35))]),
  oy 37 (.append 3 1 8 (.t 34) (.t 36)),
  oy 9 (.mv (.t 37))]
def n109_35 : ICode := .region l109_35
@[simp] def l109_37 : List IOper := [oy 39 (.mv (.t 0)),
  oy 40 (.mv (.t 2)),
  oy 41 (.idxS 1 (.t 39) (.t 40)),
  oy 42 (.load false 1 (.t 41)),
  oy 43 (.mv (.t 1)),
  oy 44 (.mv (.t 2)),
  oy 45 (.call (.c (.func (.func 69) #[] #[])) [(.t 42), (.t 43), (.t 44)] true),
  oy 38 (.mv (.t 45)),
  oy 46 (.extract (.t 38) 0),
  oy 47 (.extract (.t 38) 1),
  oy 10 (.mv (.t 46)),
  oy 11 (.mv (.t 47))]
def n109_37 : ICode := .region l109_37
@[simp] def l109_40 : List IOper := [oy 48 (.mv (.t 11)),
  oy 49 (.un .not (.t 48)),
  oy 50 (.mv (.t 49)),
  oz 51 50 false (.mv (.t 10)),
  oz 52 50 false (.mv (.t 0)),
  oz 53 50 false (.lenS (.t 52)),
  oz 54 50 false (.bin .geq .int (.t 51) (.t 53)),
  oy 55 (.pick (.t 50) (.c (.bool true)) (.t 54))]
def n109_40 : ICode := .region l109_40
@[simp] def l109_43 : List IOper := [oy 6 (.mv (.c (.slice none 0 0))),
  oy 7 (.mv (.c (.int .i64 150)))]
def n109_43 : ICode := .region l109_43
def n109_44 : ICode := .ret
def n109_42 : ICode := .seq n109_43 n109_44
def n109_45 : ICode := .skip
def n109_41 : ICode := .cond (.t 55) n109_42 n109_45
def n109_39 : ICode := .seq n109_40 n109_41
@[simp] def l109_46 : List IOper := [oy 56 (.mv (.t 10)),
  oy 2 (.mv (.t 56))]
def n109_46 : ICode := .region l109_46
def n109_38 : ICode := .seq n109_39 n109_46
def n109_36 : ICode := .seq n109_37 n109_38
def n109_34 : ICode := .seq n109_35 n109_36
def n109_32 : ICode := .seq n109_33 n109_34
def n109_19 : ICode := .seq n109_20 n109_32
def n109_18 : ICode := .block 1 n109_19
def loop109_0 : ICode := .loop n109_18
def n109_17 : ICode := .block 0 loop109_0
@[simp] def l109_48 : List IOper := [oy 57 (.mv (.t 9)),
  oy 6 (.mv (.t 57)),
  oy 7 (.mv (.c (.int .i64 0)))]
def n109_48 : ICode := .region l109_48
def n109_49 : ICode := .ret
def n109_47 : ICode := .seq n109_48 n109_49
def n109_16 : ICode := .seq n109_17 n109_47
def n109_14 : ICode := .seq n109_15 n109_16
def n109_12 : ICode := .seq n109_13 n109_14
def n109_10 : ICode := .seq n109_11 n109_12
def n109_2 : ICode := .seq n109_3 n109_10
def n109_0 : ICode := .seq n109_1 n109_2
theorem b109 : table.find 109 = some ⟨58, n109_0, [.tmp 6, .tmp 7]⟩ := by kernel_rfl
@[simp] theorem en109_1 : evCode C n109_1 R S = regK (runOps C l109_1 R S) := ev_plain rfl
@[simp] theorem en109_4 : evCode C n109_4 R S = regK (runOps C l109_4 R S) := ev_plain rfl
@[simp] theorem en109_7 : evCode C n109_7 R S = regK (runOps C l109_7 R S) := ev_plain rfl
@[simp] theorem en109_8 : evCode C n109_8 R S = some (.ret, R, S) := (rfl)
@[simp] theorem en109_6 : evCode C n109_6 R S = seqK (evCode C n109_7 R S) fun R S => evCode C n109_8 R S := ev_seq
@[simp] theorem en109_9 : evCode C n109_9 R S = some (.norm, R, S) := (rfl)
@[simp] theorem en109_5 : evCode C n109_5 R S = condK (IV.ev R (.t 24)) (fun _ => evCode C n109_6 R S) fun _ => evCode C n109_9 R S := ev_cond
@[simp] theorem en109_3 : evCode C n109_3 R S = seqK (evCode C n109_4 R S) fun R S => evCode C n109_5 R S := ev_seq
@[simp] theorem en109_11 : evCode C n109_11 R S = regK (runOps C l109_11 R S) := ev_plain rfl
@[simp] theorem en109_13 : evCode C n109_13 R S = regK (runOps C l109_13 R S) := ev_plain rfl
@[simp] theorem en109_15 : evCode C n109_15 R S = some (.norm, R, S) := (rfl)
@[simp] theorem en109_22 : evCode C n109_22 R S = regK (runOps C l109_22 R S) := ev_plain rfl
@[simp] theorem en109_24 : evCode C n109_24 R S = some (.exit 0, R, S) := (rfl)
@[simp] theorem en109_26 : evCode C n109_26 R S = regK (runOps C l109_26 R S) := ev_plain rfl
@[simp] theorem en109_29 : evCode C n109_29 R S = regK (runOps C l109_29 R S) := ev_plain rfl
@[simp] theorem en109_30 : evCode C n109_30 R S = some (.ret, R, S) := (rfl)
@[simp] theorem en109_28 : evCode C n109_28 R S = seqK (evCode C n109_29 R S) fun R S => evCode C n109_30 R S := ev_seq
@[simp] theorem en109_31 : evCode C n109_31 R S = some (.norm, R, S) := (rfl)
@[simp] theorem en109_27 : evCode C n109_27 R S = condK (IV.ev R (.t 28)) (fun _ => evCode C n109_28 R S) fun _ => evCode C n109_31 R S := ev_cond
@[simp] theorem en109_25 : evCode C n109_25 R S = seqK (evCode C n109_26 R S) fun R S => evCode C n109_27 R S := ev_seq
@[simp] theorem en109_23 : evCode C n109_23 R S = condK (IV.ev R (.t 25)) (fun _ => evCode C n109_24 R S) fun _ => evCode C n109_25 R S := ev_cond
@[simp] theorem en109_21 : evCode C n109_21 R S = seqK (evCode C n109_22 R S) fun R S => evCode C n109_23 R S := ev_seq
@[simp] theorem en109_20 : evCode C n109_20 R S = blockK 2 (evCode C n109_21 R S) := ev_block
@[simp] theorem en109_33 : evCode C n109_33 R S = regK (runOps C l109_33 R S) := ev_plain rfl
@[simp] theorem en109_35 : evCode C n109_35 R S = regK (runOps C l109_35 R S) := ev_plain rfl
@[simp] theorem en109_37 : evCode C n109_37 R S = regK (runOps C l109_37 R S) := ev_plain rfl
@[simp] theorem en109_40 : evCode C n109_40 R S = regK (runOps C l109_40 R S) := ev_plain rfl
@[simp] theorem en109_43 : evCode C n109_43 R S = regK (runOps C l109_43 R S) := ev_plain rfl
@[simp] theorem en109_44 : evCode C n109_44 R S = some (.ret, R, S) := (rfl)
@[simp] theorem en109_42 : evCode C n109_42 R S = seqK (evCode C n109_43 R S) fun R S => evCode C n109_44 R S := ev_seq
@[simp] theorem en109_45 : evCode C n109_45 R S = some (.norm, R, S) := (rfl)
@[simp] theorem en109_41 : evCode C n109_41 R S = condK (IV.ev R (.t 55)) (fun _ => evCode C n109_42 R S) fun _ => evCode C n109_45 R S := ev_cond
@[simp] theorem en109_39 : evCode C n109_39 R S = seqK (evCode C n109_40 R S) fun R S => evCode C n109_41 R S := ev_seq
@[simp] theorem en109_46 : evCode C n109_46 R S = regK (runOps C l109_46 R S) := ev_plain rfl
@[simp] theorem en109_38 : evCode C n109_38 R S = seqK (evCode C n109_39 R S) fun R S => evCode C n109_46 R S := ev_seq
@[simp] theorem en109_36 : evCode C n109_36 R S = seqK (evCode C n109_37 R S) fun R S => evCode C n109_38 R S := ev_seq
@[simp] theorem en109_34 : evCode C n109_34 R S = seqK (evCode C n109_35 R S) fun R S => evCode C n109_36 R S := ev_seq
@[simp] theorem en109_32 : evCode C n109_32 R S = seqK (evCode C n109_33 R S) fun R S => evCode C n109_34 R S := ev_seq
@[simp] theorem en109_19 : evCode C n109_19 R S = seqK (evCode C n109_20 R S) fun R S => evCode C n109_32 R S := ev_seq
@[simp] theorem en109_18 : evCode C n109_18 R S = blockK 1 (evCode C n109_19 R S) := ev_block
theorem eloop109_0 : evCode C loop109_0 R S = iter (fun R S => evCode C n109_18 R S) rounds R S := (rfl)
@[simp] theorem en109_17 : evCode C n109_17 R S = blockK 0 (evCode C loop109_0 R S) := ev_block
@[simp] theorem en109_48 : evCode C n109_48 R S = regK (runOps C l109_48 R S) := ev_plain rfl
@[simp] theorem en109_49 : evCode C n109_49 R S = some (.ret, R, S) := (rfl)
@[simp] theorem en109_47 : evCode C n109_47 R S = seqK (evCode C n109_48 R S) fun R S => evCode C n109_49 R S := ev_seq
@[simp] theorem en109_16 : evCode C n109_16 R S = seqK (evCode C n109_17 R S) fun R S => evCode C n109_47 R S := ev_seq
@[simp] theorem en109_14 : evCode C n109_14 R S = seqK (evCode C n109_15 R S) fun R S => evCode C n109_16 R S := ev_seq
@[simp] theorem en109_12 : evCode C n109_12 R S = seqK (evCode C n109_13 R S) fun R S => evCode C n109_14 R S := ev_seq
@[simp] theorem en109_10 : evCode C n109_10 R S = seqK (evCode C n109_11 R S) fun R S => evCode C n109_12 R S := ev_seq
@[simp] theorem en109_2 : evCode C n109_2 R S = seqK (evCode C n109_3 R S) fun R S => evCode C n109_10 R S := ev_seq
@[simp] theorem en109_0 : evCode C n109_0 R S = seqK (evCode C n109_1 R S) fun R S => evCode C n109_2 R S := ev_seq
theorem q109 {n : Nat} {args : List Value} {S : St} : calls table.find (n + 1) 109 args S = endK S [.tmp 6, .tmp 7] (evCode (calls table.find n) n109_0 (args ++ List.replicate (58 - args.length) undef) S.enter) := call_enter b109

/-! wainscot/count.PartOf -/
@[simp] def l110_1 : List IOper := [oy 2 (.mv (.c (.int .i64 0))),
  oy 3 (.mv (.c (.int .i64 0))),
  oy 4 (.mv (.c (.bool false)))]
def n110_1 : ICode := .region l110_1
@[simp] def l110_3 : List IOper := [oy 6 (.mv (.t 0)),
  oy 7 (.call (.c (.func (.func 106) #[] #[])) [(.t 6), (.c (.int .i64 0)), (.c (.int .i64 1)), (.c (.func (.func 113) #[] #[]))] true),
  oy 5 (.mv (.t 7)),
  oy 8 (.extract (.t 5) 0),
  oy 9 (.extract (.t 5) 1),
  oy 10 (.extract (.t 5) 2),
  oy 3 (.mv (.t 8)),
  oy 2 (.mv (.t 9)),
  oy 4 (.mv (.t 10))]
def n110_3 : ICode := .region l110_3
@[simp] def l110_6 : List IOper := [oy 11 (.mv (.t 4)),
  oy 12 (.un .not (.t 11))]
def n110_6 : ICode := .region l110_6
@[simp] def l110_9 : List IOper := [oy 2 (.mv (.c (.int .i64 (-1)))),
  oy 3 (.mv (.c (.int .i64 0))),
  oy 4 (.mv (.c (.bool false)))]
def n110_9 : ICode := .region l110_9
def n110_10 : ICode := .ret
def n110_8 : ICode := .seq n110_9 n110_10
def n110_11 : ICode := .skip
def n110_7 : ICode := .cond (.t 12) n110_8 n110_11
def n110_5 : ICode := .seq n110_6 n110_7
@[simp] def l110_13 : List IOper := [oy 13 (.mv (.t 2)),
  oy 14 (.mv (.t 3)),
  oy 2 (.mv (.t 13)),
  oy 3 (.mv (.t 14)),
  oy 4 (.mv (.c (.bool true)))]
def n110_13 : ICode := .region l110_13
def n110_14 : ICode := .ret
def n110_12 : ICode := .seq n110_13 n110_14
def n110_4 : ICode := .seq n110_5 n110_12
def n110_2 : ICode := .seq n110_3 n110_4
def n110_0 : ICode := .seq n110_1 n110_2
theorem b110 : table.find 110 = some ⟨15, n110_0, [.tmp 2, .tmp 3, .tmp 4]⟩ := by kernel_rfl
@[simp] theorem en110_1 : evCode C n110_1 R S = regK (runOps C l110_1 R S) := ev_plain rfl
@[simp] theorem en110_3 : evCode C n110_3 R S = regK (runOps C l110_3 R S) := ev_plain rfl
@[simp] theorem en110_6 : evCode C n110_6 R S = regK (runOps C l110_6 R S) := ev_plain rfl
@[simp] theorem en110_9 : evCode C n110_9 R S = regK (runOps C l110_9 R S) := ev_plain rfl
@[simp] theorem en110_10 : evCode C n110_10 R S = some (.ret, R, S) := (rfl)
@[simp] theorem en110_8 : evCode C n110_8 R S = seqK (evCode C n110_9 R S) fun R S => evCode C n110_10 R S := ev_seq
@[simp] theorem en110_11 : evCode C n110_11 R S = some (.norm, R, S) := (rfl)
@[simp] theorem en110_7 : evCode C n110_7 R S = condK (IV.ev R (.t 12)) (fun _ => evCode C n110_8 R S) fun _ => evCode C n110_11 R S := ev_cond
@[simp] theorem en110_5 : evCode C n110_5 R S = seqK (evCode C n110_6 R S) fun R S => evCode C n110_7 R S := ev_seq
@[simp] theorem en110_13 : evCode C n110_13 R S = regK (runOps C l110_13 R S) := ev_plain rfl
@[simp] theorem en110_14 : evCode C n110_14 R S = some (.ret, R, S) := (rfl)
@[simp] theorem en110_12 : evCode C n110_12 R S = seqK (evCode C n110_13 R S) fun R S => evCode C n110_14 R S := ev_seq
@[simp] theorem en110_4 : evCode C n110_4 R S = seqK (evCode C n110_5 R S) fun R S => evCode C n110_12 R S := ev_seq
@[simp] theorem en110_2 : evCode C n110_2 R S = seqK (evCode C n110_3 R S) fun R S => evCode C n110_4 R S := ev_seq
@[simp] theorem en110_0 : evCode C n110_0 R S = seqK (evCode C n110_1 R S) fun R S => evCode C n110_2 R S := ev_seq
theorem q110 {n : Nat} {args : List Value} {S : St} : calls table.find (n + 1) 110 args S = endK S [.tmp 2, .tmp 3, .tmp 4] (evCode (calls table.find n) n110_0 (args ++ List.replicate (15 - args.length) undef) S.enter) := call_enter b110

/-! wainscot/chart.Next$1 -/
@[simp] def l111_1 : List IOper := [oy 2 (.mv (.c (.int .i64 0)))]
def n111_1 : ICode := .region l111_1
@[simp] def l111_3 : List IOper := [oy 3 (.load true 6 (.t 0)),
  oy 4 (.call (.c (.func (.func 86) #[] #[])) [(.t 3)] true),
  oy 5 (.load false 1 (.t 1)),
  oy 6 (.bin .mul .int (.c (.int .i64 4)) (.t 5)),
  oy 7 (.bin .add .int (.t 4) (.t 6)),
  oy 8 (.bin .add .int (.t 7) (.c (.int .i64 2))),
  oy 2 (.mv (.t 8))]
def n111_3 : ICode := .region l111_3
def n111_4 : ICode := .ret
def n111_2 : ICode := .seq n111_3 n111_4
def n111_0 : ICode := .seq n111_1 n111_2
theorem b111 : table.find 111 = some ⟨9, n111_0, [.tmp 2]⟩ := by kernel_rfl
@[simp] theorem en111_1 : evCode C n111_1 R S = regK (runOps C l111_1 R S) := ev_plain rfl
@[simp] theorem en111_3 : evCode C n111_3 R S = regK (runOps C l111_3 R S) := ev_plain rfl
@[simp] theorem en111_4 : evCode C n111_4 R S = some (.ret, R, S) := (rfl)
@[simp] theorem en111_2 : evCode C n111_2 R S = seqK (evCode C n111_3 R S) fun R S => evCode C n111_4 R S := ev_seq
@[simp] theorem en111_0 : evCode C n111_0 R S = seqK (evCode C n111_1 R S) fun R S => evCode C n111_2 R S := ev_seq
theorem q111 {n : Nat} {args : List Value} {S : St} : calls table.find (n + 1) 111 args S = endK S [.tmp 2] (evCode (calls table.find n) n111_0 (args ++ List.replicate (9 - args.length) undef) S.enter) := call_enter b111

/-! wainscot/count.PartOf$1 -/
@[simp] def l113_1 : List IOper := [oy 4 (.mv (.c (.bool false)))]
def n113_1 : ICode := .region l113_1
@[simp] def l113_3 : List IOper := [oy 8 (.mv (.t 1)),
  oy 9 (.mv (.t 0)),
  oy 10 (.call (.c (.func (.func 114) #[] #[])) [(.t 8), (.t 9)] true),
  oy 7 (.mv (.t 10)),
  oy 11 (.extract (.t 7) 0),
  oy 12 (.extract (.t 7) 1),
  oy 5 (.mv (.t 11)),
  oy 6 (.mv (.t 12))]
def n113_3 : ICode := .region l113_3
@[simp] def l113_5 : List IOper := [oy 13 (.mv (.t 6)),
  oy 14 (.bin .eql .int (.t 13) (.c (.int .i64 0))),
  oy 4 (.mv (.t 14))]
def n113_5 : ICode := .region l113_5
def n113_6 : ICode := .ret
def n113_4 : ICode := .seq n113_5 n113_6
def n113_2 : ICode := .seq n113_3 n113_4
def n113_0 : ICode := .seq n113_1 n113_2
theorem b113 : table.find 113 = some ⟨15, n113_0, [.tmp 4]⟩ := by kernel_rfl
@[simp] theorem en113_1 : evCode C n113_1 R S = regK (runOps C l113_1 R S) := ev_plain rfl
@[simp] theorem en113_3 : evCode C n113_3 R S = regK (runOps C l113_3 R S) := ev_plain rfl
@[simp] theorem en113_5 : evCode C n113_5 R S = regK (runOps C l113_5 R S) := ev_plain rfl
@[simp] theorem en113_6 : evCode C n113_6 R S = some (.ret, R, S) := (rfl)
@[simp] theorem en113_4 : evCode C n113_4 R S = seqK (evCode C n113_5 R S) fun R S => evCode C n113_6 R S := ev_seq
@[simp] theorem en113_2 : evCode C n113_2 R S = seqK (evCode C n113_3 R S) fun R S => evCode C n113_4 R S := ev_seq
@[simp] theorem en113_0 : evCode C n113_0 R S = seqK (evCode C n113_1 R S) fun R S => evCode C n113_2 R S := ev_seq
theorem q113 {n : Nat} {args : List Value} {S : St} : calls table.find (n + 1) 113 args S = endK S [.tmp 4] (evCode (calls table.find n) n113_0 (args ++ List.replicate (15 - args.length) undef) S.enter) := call_enter b113

/-! wainscot/count.Part -/
@[simp] def l114_1 : List IOper := [oy 4 (.mv (.c (.int .u64 0))),
  oy 5 (.mv (.c (.int .i64 0)))]
def n114_1 : ICode := .region l114_1
@[simp] def l114_5 : List IOper := [oy 7 (.mv (.t 0)),
  oy 8 (.bin .eql .int (.t 7) (.c (.int .i64 (-1)))),
  oy 9 (.mv (.t 8)),
  oz 10 9 true (.mv (.t 1)),
  oz 11 9 true (.bin .eql .int (.t 10) (.c (.int .i64 0))),
  oy 12 (.pick (.t 9) (.t 11) (.c (.bool false))),
  oy 6 (.mv (.t 12))]
def n114_5 : ICode := .region l114_5
@[simp] def l114_8 : List IOper := [oy 4 (.mv (.c (.int .u64 0))),
  oy 5 (.mv (.c (.int .i64 0)))]
def n114_8 : ICode := .region l114_8
def n114_9 : ICode := .ret
def n114_7 : ICode := .seq n114_8 n114_9
@[simp] def l114_11 : List IOper := [oy 14 (.mv (.t 0)),
  oy 15 (.call (.c (.func (.func 81) #[] #[])) [(.t 14)] true),
  oy 16 (.un .not (.t 15)),
  oy 17 (.mv (.t 16)),
  oz 18 17 false (.mv (.t 1)),
  oz 19 17 false (.bin .lss .int (.t 18) (.c (.int .i64 1))),
  oy 20 (.pick (.t 17) (.c (.bool true)) (.t 19)),
  oy 21 (.mv (.t 20)),
  oz 22 21 false (.mv (.t 1)),
  oz 23 21 false (.bin .gtr .int (.t 22) (.c (.int .i64 63))),
  oy 24 (.pick (.t 21) (.c (.bool true)) (.t 23)),
  oy 13 (.mv (.t 24))]
def n114_11 : ICode := .region l114_11
@[simp] def l114_14 : List IOper := [oy 4 (.mv (.c (.int .u64 0))),
  oy 5 (.mv (.c (.int .i64 2)))]
def n114_14 : ICode := .region l114_14
def n114_15 : ICode := .ret
def n114_13 : ICode := .seq n114_14 n114_15
def n114_16 : ICode := .skip
def n114_12 : ICode := .cond (.t 13) n114_13 n114_16
def n114_10 : ICode := .seq n114_11 n114_12
def n114_6 : ICode := .cond (.t 6) n114_7 n114_10
def n114_4 : ICode := .seq n114_5 n114_6
def n114_3 : ICode := .block 0 n114_4
@[simp] def l114_18 : List IOper := [oy 25 (.mv (.t 1)),
  oy 26 (.conv .u64 (.t 25)),
  oy 27 (.bin .shl .int (.t 26) (.c (.int .u64 6))),
  oy 28 (.mv (.t 0)),
  oy 29 (.bin .add .int (.t 28) (.c (.int .i64 1))),
  oy 30 (.conv .u64 (.t 29)),
  oy 31 (.bin .or .int (.t 27) (.t 30)),
  oy 4 (.mv (.t 31)),
  oy 5 (.mv (.c (.int .i64 0)))]
def n114_18 : ICode := .region l114_18
def n114_19 : ICode := .ret
def n114_17 : ICode := .seq n114_18 n114_19
def n114_2 : ICode := .seq n114_3 n114_17
def n114_0 : ICode := .seq n114_1 n114_2
theorem b114 : table.find 114 = some ⟨32, n114_0, [.tmp 4, .tmp 5]⟩ := by kernel_rfl
@[simp] theorem en114_1 : evCode C n114_1 R S = regK (runOps C l114_1 R S) := ev_plain rfl
@[simp] theorem en114_5 : evCode C n114_5 R S = regK (runOps C l114_5 R S) := ev_plain rfl
@[simp] theorem en114_8 : evCode C n114_8 R S = regK (runOps C l114_8 R S) := ev_plain rfl
@[simp] theorem en114_9 : evCode C n114_9 R S = some (.ret, R, S) := (rfl)
@[simp] theorem en114_7 : evCode C n114_7 R S = seqK (evCode C n114_8 R S) fun R S => evCode C n114_9 R S := ev_seq
@[simp] theorem en114_11 : evCode C n114_11 R S = regK (runOps C l114_11 R S) := ev_plain rfl
@[simp] theorem en114_14 : evCode C n114_14 R S = regK (runOps C l114_14 R S) := ev_plain rfl
@[simp] theorem en114_15 : evCode C n114_15 R S = some (.ret, R, S) := (rfl)
@[simp] theorem en114_13 : evCode C n114_13 R S = seqK (evCode C n114_14 R S) fun R S => evCode C n114_15 R S := ev_seq
@[simp] theorem en114_16 : evCode C n114_16 R S = some (.norm, R, S) := (rfl)
@[simp] theorem en114_12 : evCode C n114_12 R S = condK (IV.ev R (.t 13)) (fun _ => evCode C n114_13 R S) fun _ => evCode C n114_16 R S := ev_cond
@[simp] theorem en114_10 : evCode C n114_10 R S = seqK (evCode C n114_11 R S) fun R S => evCode C n114_12 R S := ev_seq
@[simp] theorem en114_6 : evCode C n114_6 R S = condK (IV.ev R (.t 6)) (fun _ => evCode C n114_7 R S) fun _ => evCode C n114_10 R S := ev_cond
@[simp] theorem en114_4 : evCode C n114_4 R S = seqK (evCode C n114_5 R S) fun R S => evCode C n114_6 R S := ev_seq
@[simp] theorem en114_3 : evCode C n114_3 R S = blockK 0 (evCode C n114_4 R S) := ev_block
@[simp] theorem en114_18 : evCode C n114_18 R S = regK (runOps C l114_18 R S) := ev_plain rfl
@[simp] theorem en114_19 : evCode C n114_19 R S = some (.ret, R, S) := (rfl)
@[simp] theorem en114_17 : evCode C n114_17 R S = seqK (evCode C n114_18 R S) fun R S => evCode C n114_19 R S := ev_seq
@[simp] theorem en114_2 : evCode C n114_2 R S = seqK (evCode C n114_3 R S) fun R S => evCode C n114_17 R S := ev_seq
@[simp] theorem en114_0 : evCode C n114_0 R S = seqK (evCode C n114_1 R S) fun R S => evCode C n114_2 R S := ev_seq
theorem q114 {n : Nat} {args : List Value} {S : St} : calls table.find (n + 1) 114 args S = endK S [.tmp 4, .tmp 5] (evCode (calls table.find n) n114_0 (args ++ List.replicate (32 - args.length) undef) S.enter) := call_enter b114

end Go.Proofs.YtepddcemoofmlaaGreat.Fast
