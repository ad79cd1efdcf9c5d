/- The pieces of the code, each with a name and a rule (written by program). -/
import Derived.Test.YtepddcemoofmlaaFastIr
import Derived.Test.YtepddcemoofmlaaAe33
set_option linter.unusedSimpArgs false
set_option linter.unusedVariables false
namespace Go.Proofs.Ytepddcemoofmlaa.Fast
open Go Go.Proofs.Ytepddcemoofmlaa.AE
set_option maxRecDepth 100000
variable {C : CallS} {R : List Value} {S : St}

/-! wainscot/chart.Head -/
@[simp] def l13_1 : List IOper := [oy 2 (.box 26 6 (.t 0)),
  oy 3 (.box 3 1 (.t 1)),
  oy 4 (.mv (.c (.int .i64 0)))]
def n13_1 : ICode := .region l13_1
@[simp] def l13_3 : List IOper := [oy 5 (.load true 6 (.t 2)),
  oy 6 (.load false 1 (.t 3)),
  oy 7 (.addOff 0 (.t 2)),
  oy 8 (.load false 1 (.t 7)),
  oy 9 (.mkFunc 31 [] [(.t 3)]),
  oy 10 (.call (.c (.func (.func 30) #[] #[])) [(.t 5), (.t 6), (.t 8), (.t 9)] true),
  oy 4 (.mv (.t 10))]
def n13_3 : ICode := .region l13_3
def n13_4 : ICode := .ret
def n13_2 : ICode := .seq n13_3 n13_4
def n13_0 : ICode := .seq n13_1 n13_2
theorem b13 : table.find 13 = some ⟨11, n13_0, [.tmp 4]⟩ := by kernel_rfl
@[simp] theorem en13_1 : evCode C n13_1 R S = regK (runOps C l13_1 R S) := ev_plain rfl
@[simp] theorem en13_3 : evCode C n13_3 R S = regK (runOps C l13_3 R S) := ev_plain rfl
@[simp] theorem en13_4 : evCode C n13_4 R S = some (.ret, R, S) := (rfl)
@[simp] theorem en13_2 : evCode C n13_2 R S = seqK (evCode C n13_3 R S) fun R S => evCode C n13_4 R S := ev_seq
@[simp] theorem en13_0 : evCode C n13_0 R S = seqK (evCode C n13_1 R S) fun R S => evCode C n13_2 R S := ev_seq
theorem q13 {n : Nat} {args : List Value} {S : St} : calls table.find (n + 1) 13 args S = endK S [.tmp 4] (evCode (calls table.find n) n13_0 (args ++ List.replicate (11 - args.length) undef) S.enter) := call_enter b13

/-! wainscot/chart.Words -/
@[simp] def l15_1 : List IOper := [oy 1 (.box 26 6 (.t 0)),
  oy 2 (.mv (.c (.int .i64 0)))]
def n15_1 : ICode := .region l15_1
@[simp] def l15_4 : List IOper := [oy 3 (.load true 6 (.t 1)),
  oy 4 (.call (.c (.func (.func 26) #[] #[])) [(.t 3)] true),
  oy 5 (.bin .neq .int (.t 4) (.c (.int .i64 0)))]
def n15_4 : ICode := .region l15_4
@[simp] def l15_7 : List IOper := [oy 2 (.mv (.c (.int .i64 0)))]
def n15_7 : ICode := .region l15_7
def n15_8 : ICode := .ret
def n15_6 : ICode := .seq n15_7 n15_8
def n15_9 : ICode := .skip
def n15_5 : ICode := .cond (.t 5) n15_6 n15_9
def n15_3 : ICode := .seq n15_4 n15_5
@[simp] def l15_11 : List IOper := [oy 6 (.load true 6 (.t 1)),
  oy 7 (.call (.c (.func (.func 32) #[] #[])) [(.t 6)] true),
  oy 8 (.addOff 1 (.t 1)),
  oy 9 (.load false 1 (.t 8)),
  oy 10 (.addOff 2 (.t 1)),
  oy 11 (.load false 1 (.t 10)),
  oy 12 (.bin .mul .int (.t 9) (.t 11)),
  oy 13 (.bin .add .int (.t 7) (.t 12)),
  oy 2 (.mv (.t 13))]
def n15_11 : ICode := .region l15_11
def n15_12 : ICode := .ret
def n15_10 : ICode := .seq n15_11 n15_12
def n15_2 : ICode := .seq n15_3 n15_10
def n15_0 : ICode := .seq n15_1 n15_2
theorem b15 : table.find 15 = some ⟨14, n15_0, [.tmp 2]⟩ := by kernel_rfl
@[simp] theorem en15_1 : evCode C n15_1 R S = regK (runOps C l15_1 R S) := ev_plain rfl
@[simp] theorem en15_4 : evCode C n15_4 R S = regK (runOps C l15_4 R S) := ev_plain rfl
@[simp] theorem en15_7 : evCode C n15_7 R S = regK (runOps C l15_7 R S) := ev_plain rfl
@[simp] theorem en15_8 : evCode C n15_8 R S = some (.ret, R, S) := (rfl)
@[simp] theorem en15_6 : evCode C n15_6 R S = seqK (evCode C n15_7 R S) fun R S => evCode C n15_8 R S := ev_seq
@[simp] theorem en15_9 : evCode C n15_9 R S = some (.norm, R, S) := (rfl)
@[simp] theorem en15_5 : evCode C n15_5 R S = condK (IV.ev R (.t 5)) (fun _ => evCode C n15_6 R S) fun _ => evCode C n15_9 R S := ev_cond
@[simp] theorem en15_3 : evCode C n15_3 R S = seqK (evCode C n15_4 R S) fun R S => evCode C n15_5 R S := ev_seq
@[simp] theorem en15_11 : evCode C n15_11 R S = regK (runOps C l15_11 R S) := ev_plain rfl
@[simp] theorem en15_12 : evCode C n15_12 R S = some (.ret, R, S) := (rfl)
@[simp] theorem en15_10 : evCode C n15_10 R S = seqK (evCode C n15_11 R S) fun R S => evCode C n15_12 R S := ev_seq
@[simp] theorem en15_2 : evCode C n15_2 R S = seqK (evCode C n15_3 R S) fun R S => evCode C n15_10 R S := ev_seq
@[simp] theorem en15_0 : evCode C n15_0 R S = seqK (evCode C n15_1 R S) fun R S => evCode C n15_2 R S := ev_seq
theorem q15 {n : Nat} {args : List Value} {S : St} : calls table.find (n + 1) 15 args S = endK S [.tmp 2] (evCode (calls table.find n) n15_0 (args ++ List.replicate (14 - args.length) undef) S.enter) := call_enter b15

/-! wainscot/chart.Key -/
@[simp] def l17_1 : List IOper := [oy 2 (.box 26 6 (.t 0)),
  oy 4 (.mv (.c (.int .u64 0)))]
def n17_1 : ICode := .region l17_1
@[simp] def l17_3 : List IOper := [oy 5 (.addOff 5 (.t 2)),
  oy 6 (.load false 1 (.t 5)),
  oy 7 (.mv (.t 1)),
  oy 8 (.conv .u64 (.t 7)),
  oy 9 (.bin .mul .int (.t 8) (.c (.int .u64 11400714819323198485))),
  oy 10 (.bin .add .int (.t 6) (.t 9)),
  oy 4 (.mv (.t 10))]
def n17_3 : ICode := .region l17_3
def n17_4 : ICode := .ret
def n17_2 : ICode := .seq n17_3 n17_4
def n17_0 : ICode := .seq n17_1 n17_2
theorem b17 : table.find 17 = some ⟨11, n17_0, [.tmp 4]⟩ := by kernel_rfl
@[simp] theorem en17_1 : evCode C n17_1 R S = regK (runOps C l17_1 R S) := ev_plain rfl
@[simp] theorem en17_3 : evCode C n17_3 R S = regK (runOps C l17_3 R S) := ev_plain rfl
@[simp] theorem en17_4 : evCode C n17_4 R S = some (.ret, R, S) := (rfl)
@[simp] theorem en17_2 : evCode C n17_2 R S = seqK (evCode C n17_3 R S) fun R S => evCode C n17_4 R S := ev_seq
@[simp] theorem en17_0 : evCode C n17_0 R S = seqK (evCode C n17_1 R S) fun R S => evCode C n17_2 R S := ev_seq
theorem q17 {n : Nat} {args : List Value} {S : St} : calls table.find (n + 1) 17 args S = endK S [.tmp 4] (evCode (calls table.find n) n17_0 (args ++ List.replicate (11 - args.length) undef) S.enter) := call_enter b17

/-! wainscot/chart.Link -/
@[simp] def l18_1 : List IOper := [oy 3 (.box 26 6 (.t 0)),
  oy 4 (.box 3 1 (.t 1)),
  oy 5 (.box 3 1 (.t 2)),
  oy 6 (.mv (.c (.int .i64 0)))]
def n18_1 : ICode := .region l18_1
@[simp] def l18_4 : List IOper := [oy 7 (.load false 1 (.t 4)),
  oy 8 (.bin .lss .int (.t 7) (.c (.int .i64 0))),
  oy 9 (.mv (.t 8)),
  oz 10 9 false (.load false 1 (.t 4)),
  oz 11 9 false (.addOff 1 (.t 3)),
  oz 12 9 false (.load false 1 (.t 11)),
  oz 13 9 false (.bin .geq .int (.t 10) (.t 12)),
  oy 14 (.pick (.t 9) (.c (.bool true)) (.t 13))]
def n18_4 : ICode := .region l18_4
@[simp] def l18_7 : List IOper := [oy 6 (.mv (.c (.int .i64 (-1))))]
def n18_7 : ICode := .region l18_7
def n18_8 : ICode := .ret
def n18_6 : ICode := .seq n18_7 n18_8
def n18_9 : ICode := .skip
def n18_5 : ICode := .cond (.t 14) n18_6 n18_9
def n18_3 : ICode := .seq n18_4 n18_5
@[simp] def l18_11 : List IOper := [oy 15 (.load true 6 (.t 3)),
  oy 16 (.load false 1 (.t 5)),
  oy 17 (.addOff 2 (.t 3)),
  oy 18 (.load false 1 (.t 17)),
  oy 19 (.mkFunc 34 [] [(.t 3), (.t 4), (.t 5)]),
  oy 20 (.call (.c (.func (.func 30) #[] #[])) [(.t 15), (.t 16), (.t 18), (.t 19)] true),
  oy 6 (.mv (.t 20))]
def n18_11 : ICode := .region l18_11
def n18_12 : ICode := .ret
def n18_10 : ICode := .seq n18_11 n18_12
def n18_2 : ICode := .seq n18_3 n18_10
def n18_0 : ICode := .seq n18_1 n18_2
theorem b18 : table.find 18 = some ⟨21, n18_0, [.tmp 6]⟩ := by kernel_rfl
@[simp] theorem en18_1 : evCode C n18_1 R S = regK (runOps C l18_1 R S) := ev_plain rfl
@[simp] theorem en18_4 : evCode C n18_4 R S = regK (runOps C l18_4 R S) := ev_plain rfl
@[simp] theorem en18_7 : evCode C n18_7 R S = regK (runOps C l18_7 R S) := ev_plain rfl
@[simp] theorem en18_8 : evCode C n18_8 R S = some (.ret, R, S) := (rfl)
@[simp] theorem en18_6 : evCode C n18_6 R S = seqK (evCode C n18_7 R S) fun R S => evCode C n18_8 R S := ev_seq
@[simp] theorem en18_9 : evCode C n18_9 R S = some (.norm, R, S) := (rfl)
@[simp] theorem en18_5 : evCode C n18_5 R S = condK (IV.ev R (.t 14)) (fun _ => evCode C n18_6 R S) fun _ => evCode C n18_9 R S := ev_cond
@[simp] theorem en18_3 : evCode C n18_3 R S = seqK (evCode C n18_4 R S) fun R S => evCode C n18_5 R S := ev_seq
@[simp] theorem en18_11 : evCode C n18_11 R S = regK (runOps C l18_11 R S) := ev_plain rfl
@[simp] theorem en18_12 : evCode C n18_12 R S = some (.ret, R, S) := (rfl)
@[simp] theorem en18_10 : evCode C n18_10 R S = seqK (evCode C n18_11 R S) fun R S => evCode C n18_12 R S := ev_seq
@[simp] theorem en18_2 : evCode C n18_2 R S = seqK (evCode C n18_3 R S) fun R S => evCode C n18_10 R S := ev_seq
@[simp] theorem en18_0 : evCode C n18_0 R S = seqK (evCode C n18_1 R S) fun R S => evCode C n18_2 R S := ev_seq
theorem q18 {n : Nat} {args : List Value} {S : St} : calls table.find (n + 1) 18 args S = endK S [.tmp 6] (evCode (calls table.find n) n18_0 (args ++ List.replicate (21 - args.length) undef) S.enter) := call_enter b18

/-! wainscot/count.Head -/
@[simp] def l19_1 : List IOper := [oy 4 (.mv (.c (.int .u64 0))),
  oy 5 (.mv (.c (.int .i64 0)))]
def n19_1 : ICode := .region l19_1
@[simp] def l19_5 : List IOper := [oy 7 (.mv (.t 0)),
  oy 8 (.bin .eql .int (.t 7) (.c (.int .i64 (-1)))),
  oy 9 (.mv (.t 8)),
  oz 10 9 true (.mv (.t 1)),
  oz 11 9 true (.bin .eql .int (.t 10) (.c (.int .i64 (-1)))),
  oy 12 (.pick (.t 9) (.t 11) (.c (.bool false))),
  oy 6 (.mv (.t 12))]
def n19_5 : ICode := .region l19_5
@[simp] def l19_8 : List IOper := [oy 4 (.mv (.c (.int .u64 0))),
  oy 5 (.mv (.c (.int .i64 0)))]
def n19_8 : ICode := .region l19_8
def n19_9 : ICode := .ret
def n19_7 : ICode := .seq n19_8 n19_9
@[simp] def l19_11 : List IOper := [oy 14 (.mv (.t 0)),
  oy 15 (.call (.c (.func (.func 35) #[] #[])) [(.t 14)] true),
  oy 16 (.un .not (.t 15)),
  oy 17 (.mv (.t 16)),
  oz 18 17 false (.mv (.t 1)),
  oz 19 17 false (.bin .lss .int (.t 18) (.c (.int .i64 (-1)))),
  oy 20 (.pick (.t 17) (.c (.bool true)) (.t 19)),
  oy 21 (.mv (.t 20)),
  oz 22 21 false (.mv (.t 1)),
  oz 23 21 false (.bin .geq .int (.t 22) (.c (.int .i64 16))),
  oy 24 (.pick (.t 21) (.c (.bool true)) (.t 23)),
  oy 13 (.mv (.t 24))]
def n19_11 : ICode := .region l19_11
@[simp] def l19_14 : List IOper := [oy 4 (.mv (.c (.int .u64 0))),
  oy 5 (.mv (.c (.int .i64 2)))]
def n19_14 : ICode := .region l19_14
def n19_15 : ICode := .ret
def n19_13 : ICode := .seq n19_14 n19_15
def n19_16 : ICode := .skip
def n19_12 : ICode := .cond (.t 13) n19_13 n19_16
def n19_10 : ICode := .seq n19_11 n19_12
def n19_6 : ICode := .cond (.t 6) n19_7 n19_10
def n19_4 : ICode := .seq n19_5 n19_6
def n19_3 : ICode := .block 0 n19_4
@[simp] def l19_18 : List IOper := [oy 25 (.mv (.t 0)),
  oy 26 (.bin .add .int (.t 25) (.c (.int .i64 1))),
  oy 27 (.conv .u64 (.t 26)),
  oy 28 (.bin .shl .int (.t 27) (.c (.int .u64 6))),
  oy 29 (.mv (.t 1)),
  oy 30 (.bin .add .int (.t 29) (.c (.int .i64 1))),
  oy 31 (.conv .u64 (.t 30)),
  oy 32 (.bin .or .int (.t 28) (.t 31)),
  oy 4 (.mv (.t 32)),
  oy 5 (.mv (.c (.int .i64 0)))]
def n19_18 : ICode := .region l19_18
def n19_19 : ICode := .ret
def n19_17 : ICode := .seq n19_18 n19_19
def n19_2 : ICode := .seq n19_3 n19_17
def n19_0 : ICode := .seq n19_1 n19_2
theorem b19 : table.find 19 = some ⟨33, n19_0, [.tmp 4, .tmp 5]⟩ := by kernel_rfl
@[simp] theorem en19_1 : evCode C n19_1 R S = regK (runOps C l19_1 R S) := ev_plain rfl
@[simp] theorem en19_5 : evCode C n19_5 R S = regK (runOps C l19_5 R S) := ev_plain rfl
@[simp] theorem en19_8 : evCode C n19_8 R S = regK (runOps C l19_8 R S) := ev_plain rfl
@[simp] theorem en19_9 : evCode C n19_9 R S = some (.ret, R, S) := (rfl)
@[simp] theorem en19_7 : evCode C n19_7 R S = seqK (evCode C n19_8 R S) fun R S => evCode C n19_9 R S := ev_seq
@[simp] theorem en19_11 : evCode C n19_11 R S = regK (runOps C l19_11 R S) := ev_plain rfl
@[simp] theorem en19_14 : evCode C n19_14 R S = regK (runOps C l19_14 R S) := ev_plain rfl
@[simp] theorem en19_15 : evCode C n19_15 R S = some (.ret, R, S) := (rfl)
@[simp] theorem en19_13 : evCode C n19_13 R S = seqK (evCode C n19_14 R S) fun R S => evCode C n19_15 R S := ev_seq
@[simp] theorem en19_16 : evCode C n19_16 R S = some (.norm, R, S) := (rfl)
@[simp] theorem en19_12 : evCode C n19_12 R S = condK (IV.ev R (.t 13)) (fun _ => evCode C n19_13 R S) fun _ => evCode C n19_16 R S := ev_cond
@[simp] theorem en19_10 : evCode C n19_10 R S = seqK (evCode C n19_11 R S) fun R S => evCode C n19_12 R S := ev_seq
@[simp] theorem en19_6 : evCode C n19_6 R S = condK (IV.ev R (.t 6)) (fun _ => evCode C n19_7 R S) fun _ => evCode C n19_10 R S := ev_cond
@[simp] theorem en19_4 : evCode C n19_4 R S = seqK (evCode C n19_5 R S) fun R S => evCode C n19_6 R S := ev_seq
@[simp] theorem en19_3 : evCode C n19_3 R S = blockK 0 (evCode C n19_4 R S) := ev_block
@[simp] theorem en19_18 : evCode C n19_18 R S = regK (runOps C l19_18 R S) := ev_plain rfl
@[simp] theorem en19_19 : evCode C n19_19 R S = some (.ret, R, S) := (rfl)
@[simp] theorem en19_17 : evCode C n19_17 R S = seqK (evCode C n19_18 R S) fun R S => evCode C n19_19 R S := ev_seq
@[simp] theorem en19_2 : evCode C n19_2 R S = seqK (evCode C n19_3 R S) fun R S => evCode C n19_17 R S := ev_seq
@[simp] theorem en19_0 : evCode C n19_0 R S = seqK (evCode C n19_1 R S) fun R S => evCode C n19_2 R S := ev_seq
theorem q19 {n : Nat} {args : List Value} {S : St} : calls table.find (n + 1) 19 args S = endK S [.tmp 4, .tmp 5] (evCode (calls table.find n) n19_0 (args ++ List.replicate (33 - args.length) undef) S.enter) := call_enter b19

/-! wainscot/chart.First -/
@[simp] def l21_1 : List IOper := [oy 2 (.box 26 6 (.t 0)),
  oy 3 (.box 3 1 (.t 1)),
  oy 4 (.mv (.c (.int .i64 0)))]
def n21_1 : ICode := .region l21_1
@[simp] def l21_3 : List IOper := [oy 5 (.load true 6 (.t 2)),
  oy 6 (.load false 1 (.t 3)),
  oy 7 (.addOff 1 (.t 2)),
  oy 8 (.load false 1 (.t 7)),
  oy 9 (.mkFunc 38 [] [(.t 2), (.t 3)]),
  oy 10 (.call (.c (.func (.func 30) #[] #[])) [(.t 5), (.t 6), (.t 8), (.t 9)] true),
  oy 4 (.mv (.t 10))]
def n21_3 : ICode := .region l21_3
def n21_4 : ICode := .ret
def n21_2 : ICode := .seq n21_3 n21_4
def n21_0 : ICode := .seq n21_1 n21_2
theorem b21 : table.find 21 = some ⟨11, n21_0, [.tmp 4]⟩ := by kernel_rfl
@[simp] theorem en21_1 : evCode C n21_1 R S = regK (runOps C l21_1 R S) := ev_plain rfl
@[simp] theorem en21_3 : evCode C n21_3 R S = regK (runOps C l21_3 R S) := ev_plain rfl
@[simp] theorem en21_4 : evCode C n21_4 R S = some (.ret, R, S) := (rfl)
@[simp] theorem en21_2 : evCode C n21_2 R S = seqK (evCode C n21_3 R S) fun R S => evCode C n21_4 R S := ev_seq
@[simp] theorem en21_0 : evCode C n21_0 R S = seqK (evCode C n21_1 R S) fun R S => evCode C n21_2 R S := ev_seq
theorem q21 {n : Nat} {args : List Value} {S : St} : calls table.find (n + 1) 21 args S = endK S [.tmp 4] (evCode (calls table.find n) n21_0 (args ++ List.replicate (11 - args.length) undef) S.enter) := call_enter b21

/-! wainscot/chart.See -/
@[simp] def l22_1 : List IOper := [oy 3 (.box 26 6 (.t 1)),
  oy 4 (.new 66 [(.slice none 0 0), (.slice none 0 0), (.bool false), (.slice none 0 0)]),
  oy 5 (.mv (.c (.int .i64 0)))]
def n22_1 : ICode := .region l22_1
@[simp] def l22_4 : List IOper := [oy 16 (.load true 6 (.t 3)),
  oy 17 (.call (.c (.func (.func 26) #[] #[])) [(.t 16)] true),
  oy 18 (.bin .neq .int (.t 17) (.c (.int .i64 0))),
  oy 19 (.mv (.t 18)),
  oz 20 19 false (.mv (.t 0)),
  oz 21 19 false (.lenS (.t 20)),
  oz 22 19 false (.load true 6 (.t 3)),
  oz 23 19 false (.call (.c (.func (.func 15) #[] #[])) [(.t 22)] true),
  oz 24 19 false (.bin .neq .int (.t 21) (.t 23)),
  oy 25 (.pick (.t 19) (.c (.bool true)) (.t 24))]
def n22_4 : ICode := .region l22_4
@[simp] def l22_7 : List IOper := [oy 26 (.build [(.slice none 0 0), (.slice none 0 0), (.bool false), (.slice none 0 0)] []),
  ox (.store 4 (.t 4) (.t 26)),
  oy 5 (.mv (.c (.int .i64 2)))]
def n22_7 : ICode := .region l22_7
def n22_8 : ICode := .ret
def n22_6 : ICode := .seq n22_7 n22_8
def n22_9 : ICode := .skip
def n22_5 : ICode := .cond (.t 25) n22_6 n22_9
def n22_3 : ICode := .seq n22_4 n22_5
@[simp] def l22_11 : List IOper := [oy 27 (.mv (.t 0)),
  oy 28 (.load true 6 (.t 3)),
  oy 29 (.build [(.slice none 0 0), (.int .i64 0), (.int .i64 0), (.int .i64 0), (.int .i64 0), (.int .i64 0), (.int .u64 0)] [(0, 1, (.t 27)), (1, 6, (.t 28))]),
  oy 6 (.new 91 [(.slice none 0 0), (.int .i64 0), (.int .i64 0), (.int .i64 0), (.int .i64 0), (.int .i64 0), (.int .u64 0)]),
  ox (.store 7 (.t 6) (.t 29))]
def n22_11 : ICode := .region l22_11
@[simp] def l22_13 : List IOper := [oy 30 (.mv (.t 0)),
  oy 31 (.load true 6 (.t 3)),
  oy 32 (.call (.c (.func (.func 40) #[] #[])) [(.t 31)] true),
  oy 33 (.idxS 1 (.t 30) (.t 32)),
  oy 34 (.load false 1 (.t 33)),
  oy 35 (.bin .neq .int (.t 34) (.c (.int .u64 0))),
  oy 36 (.build [(.slice none 0 0), (.slice none 0 0), (.bool false), (.slice none 0 0)] [(2, 1, (.t 35))]),
  oy 7 (.new 66 [(.slice none 0 0), (.slice none 0 0), (.bool false), (.slice none 0 0)]),
  ox (.store 4 (.t 7) (.t 36))]
def n22_13 : ICode := .region l22_13
@[simp] def l22_16 : List IOper := [oy 37 (.addOff 0 (.t 3)),
  oy 38 (.load false 1 (.t 37)),
  oy 39 (.mv (.c (.int .i64 0)))]
def n22_16 : ICode := .region l22_16
@[simp] def l22_19 : List IOper := [oy 40 (.bin .lss .int (.t 39) (.t 38))]
def n22_19 : ICode := .region l22_19
def n22_22 : ICode := .skip
def n22_23 : ICode := .exit 0
def n22_21 : ICode := .cond (.t 40) n22_22 n22_23
@[simp] def l22_27 : List IOper := [oy 41 (.mv (.t 39)),
  oy 8 (.mv (.t 41))]
def n22_27 : ICode := .region l22_27
@[simp] def l22_29 : List IOper := [oy 43 (.load true 7 (.t 6)),
  oy 44 (.mv (.t 8)),
  oy 45 (.call (.c (.func (.func 41) #[] #[])) [(.t 43), (.t 44)] true),
  oy 42 (.mv (.t 45)),
  oy 46 (.extract (.t 42) 0),
  oy 47 (.extract (.t 42) 1),
  oy 9 (.new 71 [(.int .i64 0), (.slice none 0 0), (.int .u64 0), (.slice none 0 0)]),
  ox (.store 4 (.t 9) (.t 46)),
  oy 10 (.mv (.t 47))]
def n22_29 : ICode := .region l22_29
@[simp] def l22_32 : List IOper := [oy 48 (.mv (.t 10)),
  oy 49 (.un .not (.t 48))]
def n22_32 : ICode := .region l22_32
@[simp] def l22_35 : List IOper := [oy 50 (.build [(.slice none 0 0), (.slice none 0 0), (.bool false), (.slice none 0 0)] []),
  ox (.store 4 (.t 4) (.t 50)),
  oy 5 (.mv (.c (.int .i64 150)))]
def n22_35 : ICode := .region l22_35
def n22_36 : ICode := .ret
def n22_34 : ICode := .seq n22_35 n22_36
def n22_37 : ICode := .skip
def n22_33 : ICode := .cond (.t 49) n22_34 n22_37
def n22_31 : ICode := .seq n22_32 n22_33
@[simp] def l22_38 : List IOper := [oy 51 (.addOff 0 (.t 7)),
  oy 52 (.load false 1 (.t 51)),
  oy 53 (.load true 4 (.t 9)),
  oy 54 (.buildSlice 71 [(.int .i64 0), (.slice none 0 0), (.int .u64 0), (.slice none 0 0)] 1 [(0, 4, (.t 53))]),
  oy 55 (.append 71 4 64 (.t 52) (.t 54)),
  oy 56 (.addOff 0 (.t 7)),
  ox (.store 1 (.t 56) (.t 55))]
def n22_38 : ICode := .region l22_38
def n22_30 : ICode := .seq n22_31 n22_38
def n22_28 : ICode := .seq n22_29 n22_30
def n22_26 : ICode := .seq n22_27 n22_28
def n22_25 : ICode := .block 1 n22_26
@[simp] def l22_39 : List IOper := [oy 57 (.bin .add .int (.t 39) (.c (.int .i64 1))),
  oy 39 (.mv (.t 57))]
def n22_39 : ICode := .region l22_39
def n22_24 : ICode := .seq n22_25 n22_39
def n22_20 : ICode := .seq n22_21 n22_24
def n22_18 : ICode := .seq n22_19 n22_20
def loop22_0 : ICode := .loop n22_18
def n22_17 : ICode := .block 0 loop22_0
def n22_15 : ICode := .seq n22_16 n22_17
@[simp] def l22_41 : List IOper := [oy 59 (.load true 7 (.t 6)),
  oy 60 (.mv (.t 0)),
  oy 61 (.load true 6 (.t 3)),
  oy 62 (.call (.c (.func (.func 43) #[] #[])) [(.t 61)] true),
  oy 63 (.idxS 1 (.t 60) (.t 62)),
  oy 64 (.load false 1 (.t 63)),
  oy 65 (.call (.c (.func (.func 42) #[] #[])) [(.t 59), (.t 64), (.c (.func (.func 44) #[] #[]))] true),
  oy 58 (.mv (.t 65)),
  oy 66 (.extract (.t 58) 0),
  oy 67 (.extract (.t 58) 1),
  oy 11 (.mv (.t 66)),
  oy 12 (.mv (.t 67))]
def n22_41 : ICode := .region l22_41
@[simp] def l22_44 : List IOper := [oy 68 (.mv (.t 12)),
  oy 69 (.un .not (.t 68))]
def n22_44 : ICode := .region l22_44
@[simp] def l22_47 : List IOper := [oy 70 (.build [(.slice none 0 0), (.slice none 0 0), (.bool false), (.slice none 0 0)] []),
  ox (.store 4 (.t 4) (.t 70)),
  oy 5 (.mv (.c (.int .i64 150)))]
def n22_47 : ICode := .region l22_47
def n22_48 : ICode := .ret
def n22_46 : ICode := .seq n22_47 n22_48
def n22_49 : ICode := .skip
def n22_45 : ICode := .cond (.t 69) n22_46 n22_49
def n22_43 : ICode := .seq n22_44 n22_45
@[simp] def l22_51 : List IOper := [oy 71 (.mv (.t 11)),
  oy 72 (.addOff 1 (.t 7)),
  ox (.store 1 (.t 72) (.t 71))]
def n22_51 : ICode := .region l22_51
@[simp] def l22_54 : List IOper := [oy 73 (.addOff 1 (.t 3)),
  oy 74 (.load false 1 (.t 73)),
  oy 75 (.mv (.c (.int .i64 0)))]
def n22_54 : ICode := .region l22_54
@[simp] def l22_57 : List IOper := [oy 76 (.bin .lss .int (.t 75) (.t 74))]
def n22_57 : ICode := .region l22_57
def n22_60 : ICode := .skip
def n22_61 : ICode := .exit 2
def n22_59 : ICode := .cond (.t 76) n22_60 n22_61
@[simp] def l22_65 : List IOper := [oy 77 (.mv (.t 75)),
  oy 13 (.mv (.t 77))]
def n22_65 : ICode := .region l22_65
@[simp] def l22_67 : List IOper := [oy 79 (.load true 7 (.t 6)),
  oy 80 (.mv (.t 13)),
  oy 81 (.call (.c (.func (.func 45) #[] #[])) [(.t 79), (.t 80)] true),
  oy 78 (.mv (.t 81)),
  oy 82 (.extract (.t 78) 0),
  oy 83 (.extract (.t 78) 1),
  oy 14 (.new 98 [(.int .i64 0), (.int .i64 0), (.bool false), (.bool false), (.slice none 0 0)]),
  ox (.store 5 (.t 14) (.t 82)),
  oy 15 (.mv (.t 83))]
def n22_67 : ICode := .region l22_67
@[simp] def l22_70 : List IOper := [oy 84 (.mv (.t 15)),
  oy 85 (.un .not (.t 84))]
def n22_70 : ICode := .region l22_70
@[simp] def l22_73 : List IOper := [oy 86 (.build [(.slice none 0 0), (.slice none 0 0), (.bool false), (.slice none 0 0)] []),
  ox (.store 4 (.t 4) (.t 86)),
  oy 5 (.mv (.c (.int .i64 150)))]
def n22_73 : ICode := .region l22_73
def n22_74 : ICode := .ret
def n22_72 : ICode := .seq n22_73 n22_74
def n22_75 : ICode := .skip
def n22_71 : ICode := .cond (.t 85) n22_72 n22_75
def n22_69 : ICode := .seq n22_70 n22_71
@[simp] def l22_76 : List IOper := [oy 87 (.addOff 3 (.t 7)),
  oy 88 (.load false 1 (.t 87)),
  oy 89 (.load true 5 (.t 14)),
  oy 90 (.buildSlice 98 [(.int .i64 0), (.int .i64 0), (.bool false), (.bool false), (.slice none 0 0)] 1 [(0, 5, (.t 89))]),
  oy 91 (.append 98 5 48 (.t 88) (.t 90)),
  oy 92 (.addOff 3 (.t 7)),
  ox (.store 1 (.t 92) (.t 91))]
def n22_76 : ICode := .region l22_76
def n22_68 : ICode := .seq n22_69 n22_76
def n22_66 : ICode := .seq n22_67 n22_68
def n22_64 : ICode := .seq n22_65 n22_66
def n22_63 : ICode := .block 3 n22_64
@[simp] def l22_77 : List IOper := [oy 93 (.bin .add .int (.t 75) (.c (.int .i64 1))),
  oy 75 (.mv (.t 93))]
def n22_77 : ICode := .region l22_77
def n22_62 : ICode := .seq n22_63 n22_77
def n22_58 : ICode := .seq n22_59 n22_62
def n22_56 : ICode := .seq n22_57 n22_58
def loop22_1 : ICode := .loop n22_56
def n22_55 : ICode := .block 2 loop22_1
def n22_53 : ICode := .seq n22_54 n22_55
@[simp] def l22_79 : List IOper := [oy 94 (.load true 4 (.t 7)),
  ox (.store 4 (.t 4) (.t 94)),
  oy 5 (.mv (.c (.int .i64 0)))]
def n22_79 : ICode := .region l22_79
def n22_80 : ICode := .ret
def n22_78 : ICode := .seq n22_79 n22_80
def n22_52 : ICode := .seq n22_53 n22_78
def n22_50 : ICode := .seq n22_51 n22_52
def n22_42 : ICode := .seq n22_43 n22_50
def n22_40 : ICode := .seq n22_41 n22_42
def n22_14 : ICode := .seq n22_15 n22_40
def n22_12 : ICode := .seq n22_13 n22_14
def n22_10 : ICode := .seq n22_11 n22_12
def n22_2 : ICode := .seq n22_3 n22_10
def n22_0 : ICode := .seq n22_1 n22_2
theorem b22 : table.find 22 = some ⟨95, n22_0, [.cell 4 true 4, .tmp 5]⟩ := by kernel_rfl
@[simp] theorem en22_1 : evCode C n22_1 R S = regK (runOps C l22_1 R S) := ev_plain rfl
@[simp] theorem en22_4 : evCode C n22_4 R S = regK (runOps C l22_4 R S) := ev_plain rfl
@[simp] theorem en22_7 : evCode C n22_7 R S = regK (runOps C l22_7 R S) := ev_plain rfl
@[simp] theorem en22_8 : evCode C n22_8 R S = some (.ret, R, S) := (rfl)
@[simp] theorem en22_6 : evCode C n22_6 R S = seqK (evCode C n22_7 R S) fun R S => evCode C n22_8 R S := ev_seq
@[simp] theorem en22_9 : evCode C n22_9 R S = some (.norm, R, S) := (rfl)
@[simp] theorem en22_5 : evCode C n22_5 R S = condK (IV.ev R (.t 25)) (fun _ => evCode C n22_6 R S) fun _ => evCode C n22_9 R S := ev_cond
@[simp] theorem en22_3 : evCode C n22_3 R S = seqK (evCode C n22_4 R S) fun R S => evCode C n22_5 R S := ev_seq
@[simp] theorem en22_11 : evCode C n22_11 R S = regK (runOps C l22_11 R S) := ev_plain rfl
@[simp] theorem en22_13 : evCode C n22_13 R S = regK (runOps C l22_13 R S) := ev_plain rfl
@[simp] theorem en22_16 : evCode C n22_16 R S = regK (runOps C l22_16 R S) := ev_plain rfl
@[simp] theorem en22_19 : evCode C n22_19 R S = regK (runOps C l22_19 R S) := ev_plain rfl
@[simp] theorem en22_22 : evCode C n22_22 R S = some (.norm, R, S) := (rfl)
@[simp] theorem en22_23 : evCode C n22_23 R S = some (.exit 0, R, S) := (rfl)
@[simp] theorem en22_21 : evCode C n22_21 R S = condK (IV.ev R (.t 40)) (fun _ => evCode C n22_22 R S) fun _ => evCode C n22_23 R S := ev_cond
@[simp] theorem en22_27 : evCode C n22_27 R S = regK (runOps C l22_27 R S) := ev_plain rfl
@[simp] theorem en22_29 : evCode C n22_29 R S = regK (runOps C l22_29 R S) := ev_plain rfl
@[simp] theorem en22_32 : evCode C n22_32 R S = regK (runOps C l22_32 R S) := ev_plain rfl
@[simp] theorem en22_35 : evCode C n22_35 R S = regK (runOps C l22_35 R S) := ev_plain rfl
@[simp] theorem en22_36 : evCode C n22_36 R S = some (.ret, R, S) := (rfl)
@[simp] theorem en22_34 : evCode C n22_34 R S = seqK (evCode C n22_35 R S) fun R S => evCode C n22_36 R S := ev_seq
@[simp] theorem en22_37 : evCode C n22_37 R S = some (.norm, R, S) := (rfl)
@[simp] theorem en22_33 : evCode C n22_33 R S = condK (IV.ev R (.t 49)) (fun _ => evCode C n22_34 R S) fun _ => evCode C n22_37 R S := ev_cond
@[simp] theorem en22_31 : evCode C n22_31 R S = seqK (evCode C n22_32 R S) fun R S => evCode C n22_33 R S := ev_seq
@[simp] theorem en22_38 : evCode C n22_38 R S = regK (runOps C l22_38 R S) := ev_plain rfl
@[simp] theorem en22_30 : evCode C n22_30 R S = seqK (evCode C n22_31 R S) fun R S => evCode C n22_38 R S := ev_seq
@[simp] theorem en22_28 : evCode C n22_28 R S = seqK (evCode C n22_29 R S) fun R S => evCode C n22_30 R S := ev_seq
@[simp] theorem en22_26 : evCode C n22_26 R S = seqK (evCode C n22_27 R S) fun R S => evCode C n22_28 R S := ev_seq
@[simp] theorem en22_25 : evCode C n22_25 R S = blockK 1 (evCode C n22_26 R S) := ev_block
@[simp] theorem en22_39 : evCode C n22_39 R S = regK (runOps C l22_39 R S) := ev_plain rfl
@[simp] theorem en22_24 : evCode C n22_24 R S = seqK (evCode C n22_25 R S) fun R S => evCode C n22_39 R S := ev_seq
@[simp] theorem en22_20 : evCode C n22_20 R S = seqK (evCode C n22_21 R S) fun R S => evCode C n22_24 R S := ev_seq
@[simp] theorem en22_18 : evCode C n22_18 R S = seqK (evCode C n22_19 R S) fun R S => evCode C n22_20 R S := ev_seq
theorem eloop22_0 : evCode C loop22_0 R S = iter (fun R S => evCode C n22_18 R S) rounds R S := (rfl)
@[simp] theorem en22_17 : evCode C n22_17 R S = blockK 0 (evCode C loop22_0 R S) := ev_block
@[simp] theorem en22_15 : evCode C n22_15 R S = seqK (evCode C n22_16 R S) fun R S => evCode C n22_17 R S := ev_seq
@[simp] theorem en22_41 : evCode C n22_41 R S = regK (runOps C l22_41 R S) := ev_plain rfl
@[simp] theorem en22_44 : evCode C n22_44 R S = regK (runOps C l22_44 R S) := ev_plain rfl
@[simp] theorem en22_47 : evCode C n22_47 R S = regK (runOps C l22_47 R S) := ev_plain rfl
@[simp] theorem en22_48 : evCode C n22_48 R S = some (.ret, R, S) := (rfl)
@[simp] theorem en22_46 : evCode C n22_46 R S = seqK (evCode C n22_47 R S) fun R S => evCode C n22_48 R S := ev_seq
@[simp] theorem en22_49 : evCode C n22_49 R S = some (.norm, R, S) := (rfl)
@[simp] theorem en22_45 : evCode C n22_45 R S = condK (IV.ev R (.t 69)) (fun _ => evCode C n22_46 R S) fun _ => evCode C n22_49 R S := ev_cond
@[simp] theorem en22_43 : evCode C n22_43 R S = seqK (evCode C n22_44 R S) fun R S => evCode C n22_45 R S := ev_seq
@[simp] theorem en22_51 : evCode C n22_51 R S = regK (runOps C l22_51 R S) := ev_plain rfl
@[simp] theorem en22_54 : evCode C n22_54 R S = regK (runOps C l22_54 R S) := ev_plain rfl
@[simp] theorem en22_57 : evCode C n22_57 R S = regK (runOps C l22_57 R S) := ev_plain rfl
@[simp] theorem en22_60 : evCode C n22_60 R S = some (.norm, R, S) := (rfl)
@[simp] theorem en22_61 : evCode C n22_61 R S = some (.exit 2, R, S) := (rfl)
@[simp] theorem en22_59 : evCode C n22_59 R S = condK (IV.ev R (.t 76)) (fun _ => evCode C n22_60 R S) fun _ => evCode C n22_61 R S := ev_cond
@[simp] theorem en22_65 : evCode C n22_65 R S = regK (runOps C l22_65 R S) := ev_plain rfl
@[simp] theorem en22_67 : evCode C n22_67 R S = regK (runOps C l22_67 R S) := ev_plain rfl
@[simp] theorem en22_70 : evCode C n22_70 R S = regK (runOps C l22_70 R S) := ev_plain rfl
@[simp] theorem en22_73 : evCode C n22_73 R S = regK (runOps C l22_73 R S) := ev_plain rfl
@[simp] theorem en22_74 : evCode C n22_74 R S = some (.ret, R, S) := (rfl)
@[simp] theorem en22_72 : evCode C n22_72 R S = seqK (evCode C n22_73 R S) fun R S => evCode C n22_74 R S := ev_seq
@[simp] theorem en22_75 : evCode C n22_75 R S = some (.norm, R, S) := (rfl)
@[simp] theorem en22_71 : evCode C n22_71 R S = condK (IV.ev R (.t 85)) (fun _ => evCode C n22_72 R S) fun _ => evCode C n22_75 R S := ev_cond
@[simp] theorem en22_69 : evCode C n22_69 R S = seqK (evCode C n22_70 R S) fun R S => evCode C n22_71 R S := ev_seq
@[simp] theorem en22_76 : evCode C n22_76 R S = regK (runOps C l22_76 R S) := ev_plain rfl
@[simp] theorem en22_68 : evCode C n22_68 R S = seqK (evCode C n22_69 R S) fun R S => evCode C n22_76 R S := ev_seq
@[simp] theorem en22_66 : evCode C n22_66 R S = seqK (evCode C n22_67 R S) fun R S => evCode C n22_68 R S := ev_seq
@[simp] theorem en22_64 : evCode C n22_64 R S = seqK (evCode C n22_65 R S) fun R S => evCode C n22_66 R S := ev_seq
@[simp] theorem en22_63 : evCode C n22_63 R S = blockK 3 (evCode C n22_64 R S) := ev_block
@[simp] theorem en22_77 : evCode C n22_77 R S = regK (runOps C l22_77 R S) := ev_plain rfl
@[simp] theorem en22_62 : evCode C n22_62 R S = seqK (evCode C n22_63 R S) fun R S => evCode C n22_77 R S := ev_seq
@[simp] theorem en22_58 : evCode C n22_58 R S = seqK (evCode C n22_59 R S) fun R S => evCode C n22_62 R S := ev_seq
@[simp] theorem en22_56 : evCode C n22_56 R S = seqK (evCode C n22_57 R S) fun R S => evCode C n22_58 R S := ev_seq
theorem eloop22_1 : evCode C loop22_1 R S = iter (fun R S => evCode C n22_56 R S) rounds R S := (rfl)
@[simp] theorem en22_55 : evCode C n22_55 R S = blockK 2 (evCode C loop22_1 R S) := ev_block
@[simp] theorem en22_53 : evCode C n22_53 R S = seqK (evCode C n22_54 R S) fun R S => evCode C n22_55 R S := ev_seq
@[simp] theorem en22_79 : evCode C n22_79 R S = regK (runOps C l22_79 R S) := ev_plain rfl
@[simp] theorem en22_80 : evCode C n22_80 R S = some (.ret, R, S) := (rfl)
@[simp] theorem en22_78 : evCode C n22_78 R S = seqK (evCode C n22_79 R S) fun R S => evCode C n22_80 R S := ev_seq
@[simp] theorem en22_52 : evCode C n22_52 R S = seqK (evCode C n22_53 R S) fun R S => evCode C n22_78 R S := ev_seq
@[simp] theorem en22_50 : evCode C n22_50 R S = seqK (evCode C n22_51 R S) fun R S => evCode C n22_52 R S := ev_seq
@[simp] theorem en22_42 : evCode C n22_42 R S = seqK (evCode C n22_43 R S) fun R S => evCode C n22_50 R S := ev_seq
@[simp] theorem en22_40 : evCode C n22_40 R S = seqK (evCode C n22_41 R S) fun R S => evCode C n22_42 R S := ev_seq
@[simp] theorem en22_14 : evCode C n22_14 R S = seqK (evCode C n22_15 R S) fun R S => evCode C n22_40 R S := ev_seq
@[simp] theorem en22_12 : evCode C n22_12 R S = seqK (evCode C n22_13 R S) fun R S => evCode C n22_14 R S := ev_seq
@[simp] theorem en22_10 : evCode C n22_10 R S = seqK (evCode C n22_11 R S) fun R S => evCode C n22_12 R S := ev_seq
@[simp] theorem en22_2 : evCode C n22_2 R S = seqK (evCode C n22_3 R S) fun R S => evCode C n22_10 R S := ev_seq
@[simp] theorem en22_0 : evCode C n22_0 R S = seqK (evCode C n22_1 R S) fun R S => evCode C n22_2 R S := ev_seq
theorem q22 {n : Nat} {args : List Value} {S : St} : calls table.find (n + 1) 22 args S = endK S [.cell 4 true 4, .tmp 5] (evCode (calls table.find n) n22_0 (args ++ List.replicate (95 - args.length) undef) S.enter) := call_enter b22

/-! wainscot/wainscotref00.EqInts -/
@[simp] def l24_1 : List IOper := [oy 4 (.mv (.c (.bool false)))]
def n24_1 : ICode := .region l24_1
@[simp] def l24_4 : List IOper := [oy 6 (.mv (.t 0)),
  oy 7 (.lenS (.t 6)),
  oy 8 (.mv (.t 1)),
  oy 9 (.lenS (.t 8)),
  oy 10 (.bin .neq .int (.t 7) (.t 9))]
def n24_4 : ICode := .region l24_4
@[simp] def l24_7 : List IOper := [oy 4 (.mv (.c (.bool false)))]
def n24_7 : ICode := .region l24_7
def n24_8 : ICode := .ret
def n24_6 : ICode := .seq n24_7 n24_8
def n24_9 : ICode := .skip
def n24_5 : ICode := .cond (.t 10) n24_6 n24_9
def n24_3 : ICode := .seq n24_4 n24_5
@[simp] def l24_12 : List IOper := [oy 5 (.mv (.c (.int .i64 0)))]
def n24_12 : ICode := .region l24_12
@[simp] def l24_16 : List IOper := [oy 11 (.mv (.t 5)),
  oy 12 (.mv (.t 0)),
  oy 13 (.lenS (.t 12)),
  oy 14 (.bin .lss .int (.t 11) (.t 13))]
def n24_16 : ICode := .region l24_16
def n24_18 : ICode := .skip
def n24_19 : ICode := .exit 0
def n24_17 : ICode := .cond (.t 14) n24_18 n24_19
def n24_15 : ICode := .seq n24_16 n24_17
@[simp] def l24_23 : List IOper := [oy 17 (.mv (.t 0)),
  oy 18 (.mv (.t 5)),
  oy 19 (.idxS 1 (.t 17) (.t 18)),
  oy 20 (.load false 1 (.t 19)),
  oy 21 (.mv (.t 1)),
  oy 22 (.mv (.t 5)),
  oy 23 (.idxS 1 (.t 21) (.t 22)),
  oy 24 (.load false 1 (.t 23)),
  oy 25 (.bin .neq .int (.t 20) (.t 24))]
def n24_23 : ICode := .region l24_23
@[simp] def l24_26 : List IOper := [oy 4 (.mv (.c (.bool false)))]
def n24_26 : ICode := .region l24_26
def n24_27 : ICode := .ret
def n24_25 : ICode := .seq n24_26 n24_27
def n24_28 : ICode := .skip
def n24_24 : ICode := .cond (.t 25) n24_25 n24_28
def n24_22 : ICode := .seq n24_23 n24_24
def n24_21 : ICode := .block 1 n24_22
@[simp] def l24_29 : List IOper := [oy 15 (.mv (.t 5)),
  oy 16 (.bin .add .int (.t 15) (.c (.int .i64 1))),
  oy 5 (.mv (.t 16))]
def n24_29 : ICode := .region l24_29
def n24_20 : ICode := .seq n24_21 n24_29
def n24_14 : ICode := .seq n24_15 n24_20
def loop24_0 : ICode := .loop n24_14
def n24_13 : ICode := .block 0 loop24_0
def n24_11 : ICode := .seq n24_12 n24_13
@[simp] def l24_31 : List IOper := [oy 4 (.mv (.c (.bool true)))]
def n24_31 : ICode := .region l24_31
def n24_32 : ICode := .ret
def n24_30 : ICode := .seq n24_31 n24_32
def n24_10 : ICode := .seq n24_11 n24_30
def n24_2 : ICode := .seq n24_3 n24_10
def n24_0 : ICode := .seq n24_1 n24_2
theorem b24 : table.find 24 = some ⟨26, n24_0, [.tmp 4]⟩ := by kernel_rfl
@[simp] theorem en24_1 : evCode C n24_1 R S = regK (runOps C l24_1 R S) := ev_plain rfl
@[simp] theorem en24_4 : evCode C n24_4 R S = regK (runOps C l24_4 R S) := ev_plain rfl
@[simp] theorem en24_7 : evCode C n24_7 R S = regK (runOps C l24_7 R S) := ev_plain rfl
@[simp] theorem en24_8 : evCode C n24_8 R S = some (.ret, R, S) := (rfl)
@[simp] theorem en24_6 : evCode C n24_6 R S = seqK (evCode C n24_7 R S) fun R S => evCode C n24_8 R S := ev_seq
@[simp] theorem en24_9 : evCode C n24_9 R S = some (.norm, R, S) := (rfl)
@[simp] theorem en24_5 : evCode C n24_5 R S = condK (IV.ev R (.t 10)) (fun _ => evCode C n24_6 R S) fun _ => evCode C n24_9 R S := ev_cond
@[simp] theorem en24_3 : evCode C n24_3 R S = seqK (evCode C n24_4 R S) fun R S => evCode C n24_5 R S := ev_seq
@[simp] theorem en24_12 : evCode C n24_12 R S = regK (runOps C l24_12 R S) := ev_plain rfl
@[simp] theorem en24_16 : evCode C n24_16 R S = regK (runOps C l24_16 R S) := ev_plain rfl
@[simp] theorem en24_18 : evCode C n24_18 R S = some (.norm, R, S) := (rfl)
@[simp] theorem en24_19 : evCode C n24_19 R S = some (.exit 0, R, S) := (rfl)
@[simp] theorem en24_17 : evCode C n24_17 R S = condK (IV.ev R (.t 14)) (fun _ => evCode C n24_18 R S) fun _ => evCode C n24_19 R S := ev_cond
@[simp] theorem en24_15 : evCode C n24_15 R S = seqK (evCode C n24_16 R S) fun R S => evCode C n24_17 R S := ev_seq
@[simp] theorem en24_23 : evCode C n24_23 R S = regK (runOps C l24_23 R S) := ev_plain rfl
@[simp] theorem en24_26 : evCode C n24_26 R S = regK (runOps C l24_26 R S) := ev_plain rfl
@[simp] theorem en24_27 : evCode C n24_27 R S = some (.ret, R, S) := (rfl)
@[simp] theorem en24_25 : evCode C n24_25 R S = seqK (evCode C n24_26 R S) fun R S => evCode C n24_27 R S := ev_seq
@[simp] theorem en24_28 : evCode C n24_28 R S = some (.norm, R, S) := (rfl)
@[simp] theorem en24_24 : evCode C n24_24 R S = condK (IV.ev R (.t 25)) (fun _ => evCode C n24_25 R S) fun _ => evCode C n24_28 R S := ev_cond
@[simp] theorem en24_22 : evCode C n24_22 R S = seqK (evCode C n24_23 R S) fun R S => evCode C n24_24 R S := ev_seq
@[simp] theorem en24_21 : evCode C n24_21 R S = blockK 1 (evCode C n24_22 R S) := ev_block
@[simp] theorem en24_29 : evCode C n24_29 R S = regK (runOps C l24_29 R S) := ev_plain rfl
@[simp] theorem en24_20 : evCode C n24_20 R S = seqK (evCode C n24_21 R S) fun R S => evCode C n24_29 R S := ev_seq
@[simp] theorem en24_14 : evCode C n24_14 R S = seqK (evCode C n24_15 R S) fun R S => evCode C n24_20 R S := ev_seq
theorem eloop24_0 : evCode C loop24_0 R S = iter (fun R S => evCode C n24_14 R S) rounds R S := (rfl)
@[simp] theorem en24_13 : evCode C n24_13 R S = blockK 0 (evCode C loop24_0 R S) := ev_block
@[simp] theorem en24_11 : evCode C n24_11 R S = seqK (evCode C n24_12 R S) fun R S => evCode C n24_13 R S := ev_seq
@[simp] theorem en24_31 : evCode C n24_31 R S = regK (runOps C l24_31 R S) := ev_plain rfl
@[simp] theorem en24_32 : evCode C n24_32 R S = some (.ret, R, S) := (rfl)
@[simp] theorem en24_30 : evCode C n24_30 R S = seqK (evCode C n24_31 R S) fun R S => evCode C n24_32 R S := ev_seq
@[simp] theorem en24_10 : evCode C n24_10 R S = seqK (evCode C n24_11 R S) fun R S => evCode C n24_30 R S := ev_seq
@[simp] theorem en24_2 : evCode C n24_2 R S = seqK (evCode C n24_3 R S) fun R S => evCode C n24_10 R S := ev_seq
@[simp] theorem en24_0 : evCode C n24_0 R S = seqK (evCode C n24_1 R S) fun R S => evCode C n24_2 R S := ev_seq
theorem q24 {n : Nat} {args : List Value} {S : St} : calls table.find (n + 1) 24 args S = endK S [.tmp 4] (evCode (calls table.find n) n24_0 (args ++ List.replicate (26 - args.length) undef) S.enter) := call_enter b24

/-! wainscot/chart.Check -/
@[simp] def l26_1 : List IOper := [oy 1 (.box 26 6 (.t 0)),
  oy 2 (.mv (.c (.int .i64 0)))]
def n26_1 : ICode := .region l26_1
@[simp] def l26_6 : List IOper := [oy 4 (.addOff 0 (.t 1)),
  oy 5 (.load false 1 (.t 4)),
  oy 6 (.bin .lss .int (.t 5) (.c (.int .i64 1))),
  oy 3 (.mv (.t 6))]
def n26_6 : ICode := .region l26_6
def n26_8 : ICode := .skip
@[simp] def l26_10 : List IOper := [oy 7 (.addOff 0 (.t 1)),
  oy 8 (.load false 1 (.t 7)),
  oy 9 (.bin .gtr .int (.t 8) (.c (.int .i64 8))),
  oy 3 (.mv (.t 9))]
def n26_10 : ICode := .region l26_10
def n26_12 : ICode := .skip
@[simp] def l26_14 : List IOper := [oy 10 (.addOff 1 (.t 1)),
  oy 11 (.load false 1 (.t 10)),
  oy 12 (.bin .lss .int (.t 11) (.c (.int .i64 1))),
  oy 3 (.mv (.t 12))]
def n26_14 : ICode := .region l26_14
def n26_16 : ICode := .skip
@[simp] def l26_18 : List IOper := [oy 13 (.addOff 1 (.t 1)),
  oy 14 (.load false 1 (.t 13)),
  oy 15 (.bin .gtr .int (.t 14) (.c (.int .i64 32))),
  oy 3 (.mv (.t 15))]
def n26_18 : ICode := .region l26_18
def n26_20 : ICode := .skip
@[simp] def l26_22 : List IOper := [oy 16 (.addOff 2 (.t 1)),
  oy 17 (.load false 1 (.t 16)),
  oy 18 (.bin .lss .int (.t 17) (.c (.int .i64 1))),
  oy 3 (.mv (.t 18))]
def n26_22 : ICode := .region l26_22
def n26_24 : ICode := .skip
@[simp] def l26_25 : List IOper := [oy 19 (.addOff 2 (.t 1)),
  oy 20 (.load false 1 (.t 19)),
  oy 21 (.bin .gtr .int (.t 20) (.c (.int .i64 16))),
  oy 3 (.mv (.t 21))]
def n26_25 : ICode := .region l26_25
def n26_23 : ICode := .cond (.t 3) n26_24 n26_25
def n26_21 : ICode := .seq n26_22 n26_23
def n26_19 : ICode := .cond (.t 3) n26_20 n26_21
def n26_17 : ICode := .seq n26_18 n26_19
def n26_15 : ICode := .cond (.t 3) n26_16 n26_17
def n26_13 : ICode := .seq n26_14 n26_15
def n26_11 : ICode := .cond (.t 3) n26_12 n26_13
def n26_9 : ICode := .seq n26_10 n26_11
def n26_7 : ICode := .cond (.t 3) n26_8 n26_9
def n26_5 : ICode := .seq n26_6 n26_7
@[simp] def l26_28 : List IOper := [oy 2 (.mv (.c (.int .i64 2)))]
def n26_28 : ICode := .region l26_28
def n26_29 : ICode := .ret
def n26_27 : ICode := .seq n26_28 n26_29
@[simp] def l26_32 : List IOper := [oy 23 (.addOff 3 (.t 1)),
  oy 24 (.load false 1 (.t 23)),
  oy 25 (.bin .lss .int (.t 24) (.c (.int .i64 0))),
  oy 22 (.mv (.t 25))]
def n26_32 : ICode := .region l26_32
def n26_34 : ICode := .skip
@[simp] def l26_36 : List IOper := [oy 26 (.addOff 3 (.t 1)),
  oy 27 (.load false 1 (.t 26)),
  oy 28 (.bin .gtr .int (.t 27) (.c (.int .i64 32))),
  oy 22 (.mv (.t 28))]
def n26_36 : ICode := .region l26_36
def n26_38 : ICode := .skip
@[simp] def l26_40 : List IOper := [oy 29 (.addOff 4 (.t 1)),
  oy 30 (.load false 1 (.t 29)),
  oy 31 (.bin .lss .int (.t 30) (.c (.int .i64 0))),
  oy 22 (.mv (.t 31))]
def n26_40 : ICode := .region l26_40
def n26_42 : ICode := .skip
@[simp] def l26_43 : List IOper := [oy 32 (.addOff 4 (.t 1)),
  oy 33 (.load false 1 (.t 32)),
  oy 34 (.bin .gtr .int (.t 33) (.c (.int .i64 32))),
  oy 22 (.mv (.t 34))]
def n26_43 : ICode := .region l26_43
def n26_41 : ICode := .cond (.t 22) n26_42 n26_43
def n26_39 : ICode := .seq n26_40 n26_41
def n26_37 : ICode := .cond (.t 22) n26_38 n26_39
def n26_35 : ICode := .seq n26_36 n26_37
def n26_33 : ICode := .cond (.t 22) n26_34 n26_35
def n26_31 : ICode := .seq n26_32 n26_33
@[simp] def l26_46 : List IOper := [oy 2 (.mv (.c (.int .i64 2)))]
def n26_46 : ICode := .region l26_46
def n26_47 : ICode := .ret
def n26_45 : ICode := .seq n26_46 n26_47
def n26_48 : ICode := .skip
def n26_44 : ICode := .cond (.t 22) n26_45 n26_48
def n26_30 : ICode := .seq n26_31 n26_44
def n26_26 : ICode := .cond (.t 3) n26_27 n26_30
def n26_4 : ICode := .seq n26_5 n26_26
def n26_3 : ICode := .block 0 n26_4
@[simp] def l26_50 : List IOper := [oy 2 (.mv (.c (.int .i64 0)))]
def n26_50 : ICode := .region l26_50
def n26_51 : ICode := .ret
def n26_49 : ICode := .seq n26_50 n26_51
def n26_2 : ICode := .seq n26_3 n26_49
def n26_0 : ICode := .seq n26_1 n26_2
theorem b26 : table.find 26 = some ⟨35, n26_0, [.tmp 2]⟩ := by kernel_rfl
@[simp] theorem en26_1 : evCode C n26_1 R S = regK (runOps C l26_1 R S) := ev_plain rfl
@[simp] theorem en26_6 : evCode C n26_6 R S = regK (runOps C l26_6 R S) := ev_plain rfl
@[simp] theorem en26_8 : evCode C n26_8 R S = some (.norm, R, S) := (rfl)
@[simp] theorem en26_10 : evCode C n26_10 R S = regK (runOps C l26_10 R S) := ev_plain rfl
@[simp] theorem en26_12 : evCode C n26_12 R S = some (.norm, R, S) := (rfl)
@[simp] theorem en26_14 : evCode C n26_14 R S = regK (runOps C l26_14 R S) := ev_plain rfl
@[simp] theorem en26_16 : evCode C n26_16 R S = some (.norm, R, S) := (rfl)
@[simp] theorem en26_18 : evCode C n26_18 R S = regK (runOps C l26_18 R S) := ev_plain rfl
@[simp] theorem en26_20 : evCode C n26_20 R S = some (.norm, R, S) := (rfl)
@[simp] theorem en26_22 : evCode C n26_22 R S = regK (runOps C l26_22 R S) := ev_plain rfl
@[simp] theorem en26_24 : evCode C n26_24 R S = some (.norm, R, S) := (rfl)
@[simp] theorem en26_25 : evCode C n26_25 R S = regK (runOps C l26_25 R S) := ev_plain rfl
@[simp] theorem en26_23 : evCode C n26_23 R S = condK (IV.ev R (.t 3)) (fun _ => evCode C n26_24 R S) fun _ => evCode C n26_25 R S := ev_cond
@[simp] theorem en26_21 : evCode C n26_21 R S = seqK (evCode C n26_22 R S) fun R S => evCode C n26_23 R S := ev_seq
@[simp] theorem en26_19 : evCode C n26_19 R S = condK (IV.ev R (.t 3)) (fun _ => evCode C n26_20 R S) fun _ => evCode C n26_21 R S := ev_cond
@[simp] theorem en26_17 : evCode C n26_17 R S = seqK (evCode C n26_18 R S) fun R S => evCode C n26_19 R S := ev_seq
@[simp] theorem en26_15 : evCode C n26_15 R S = condK (IV.ev R (.t 3)) (fun _ => evCode C n26_16 R S) fun _ => evCode C n26_17 R S := ev_cond
@[simp] theorem en26_13 : evCode C n26_13 R S = seqK (evCode C n26_14 R S) fun R S => evCode C n26_15 R S := ev_seq
@[simp] theorem en26_11 : evCode C n26_11 R S = condK (IV.ev R (.t 3)) (fun _ => evCode C n26_12 R S) fun _ => evCode C n26_13 R S := ev_cond
@[simp] theorem en26_9 : evCode C n26_9 R S = seqK (evCode C n26_10 R S) fun R S => evCode C n26_11 R S := ev_seq
@[simp] theorem en26_7 : evCode C n26_7 R S = condK (IV.ev R (.t 3)) (fun _ => evCode C n26_8 R S) fun _ => evCode C n26_9 R S := ev_cond
@[simp] theorem en26_5 : evCode C n26_5 R S = seqK (evCode C n26_6 R S) fun R S => evCode C n26_7 R S := ev_seq
@[simp] theorem en26_28 : evCode C n26_28 R S = regK (runOps C l26_28 R S) := ev_plain rfl
@[simp] theorem en26_29 : evCode C n26_29 R S = some (.ret, R, S) := (rfl)
@[simp] theorem en26_27 : evCode C n26_27 R S = seqK (evCode C n26_28 R S) fun R S => evCode C n26_29 R S := ev_seq
@[simp] theorem en26_32 : evCode C n26_32 R S = regK (runOps C l26_32 R S) := ev_plain rfl
@[simp] theorem en26_34 : evCode C n26_34 R S = some (.norm, R, S) := (rfl)
@[simp] theorem en26_36 : evCode C n26_36 R S = regK (runOps C l26_36 R S) := ev_plain rfl
@[simp] theorem en26_38 : evCode C n26_38 R S = some (.norm, R, S) := (rfl)
@[simp] theorem en26_40 : evCode C n26_40 R S = regK (runOps C l26_40 R S) := ev_plain rfl
@[simp] theorem en26_42 : evCode C n26_42 R S = some (.norm, R, S) := (rfl)
@[simp] theorem en26_43 : evCode C n26_43 R S = regK (runOps C l26_43 R S) := ev_plain rfl
@[simp] theorem en26_41 : evCode C n26_41 R S = condK (IV.ev R (.t 22)) (fun _ => evCode C n26_42 R S) fun _ => evCode C n26_43 R S := ev_cond
@[simp] theorem en26_39 : evCode C n26_39 R S = seqK (evCode C n26_40 R S) fun R S => evCode C n26_41 R S := ev_seq
@[simp] theorem en26_37 : evCode C n26_37 R S = condK (IV.ev R (.t 22)) (fun _ => evCode C n26_38 R S) fun _ => evCode C n26_39 R S := ev_cond
@[simp] theorem en26_35 : evCode C n26_35 R S = seqK (evCode C n26_36 R S) fun R S => evCode C n26_37 R S := ev_seq
@[simp] theorem en26_33 : evCode C n26_33 R S = condK (IV.ev R (.t 22)) (fun _ => evCode C n26_34 R S) fun _ => evCode C n26_35 R S := ev_cond
@[simp] theorem en26_31 : evCode C n26_31 R S = seqK (evCode C n26_32 R S) fun R S => evCode C n26_33 R S := ev_seq
@[simp] theorem en26_46 : evCode C n26_46 R S = regK (runOps C l26_46 R S) := ev_plain rfl
@[simp] theorem en26_47 : evCode C n26_47 R S = some (.ret, R, S) := (rfl)
@[simp] theorem en26_45 : evCode C n26_45 R S = seqK (evCode C n26_46 R S) fun R S => evCode C n26_47 R S := ev_seq
@[simp] theorem en26_48 : evCode C n26_48 R S = some (.norm, R, S) := (rfl)
@[simp] theorem en26_44 : evCode C n26_44 R S = condK (IV.ev R (.t 22)) (fun _ => evCode C n26_45 R S) fun _ => evCode C n26_48 R S := ev_cond
@[simp] theorem en26_30 : evCode C n26_30 R S = seqK (evCode C n26_31 R S) fun R S => evCode C n26_44 R S := ev_seq
@[simp] theorem en26_26 : evCode C n26_26 R S = condK (IV.ev R (.t 3)) (fun _ => evCode C n26_27 R S) fun _ => evCode C n26_30 R S := ev_cond
@[simp] theorem en26_4 : evCode C n26_4 R S = seqK (evCode C n26_5 R S) fun R S => evCode C n26_26 R S := ev_seq
@[simp] theorem en26_3 : evCode C n26_3 R S = blockK 0 (evCode C n26_4 R S) := ev_block
@[simp] theorem en26_50 : evCode C n26_50 R S = regK (runOps C l26_50 R S) := ev_plain rfl
@[simp] theorem en26_51 : evCode C n26_51 R S = some (.ret, R, S) := (rfl)
@[simp] theorem en26_49 : evCode C n26_49 R S = seqK (evCode C n26_50 R S) fun R S => evCode C n26_51 R S := ev_seq
@[simp] theorem en26_2 : evCode C n26_2 R S = seqK (evCode C n26_3 R S) fun R S => evCode C n26_49 R S := ev_seq
@[simp] theorem en26_0 : evCode C n26_0 R S = seqK (evCode C n26_1 R S) fun R S => evCode C n26_2 R S := ev_seq
theorem q26 {n : Nat} {args : List Value} {S : St} : calls table.find (n + 1) 26 args S = endK S [.tmp 2] (evCode (calls table.find n) n26_0 (args ++ List.replicate (35 - args.length) undef) S.enter) := call_enter b26

/-! wainscot/chart.guarded -/
@[simp] def l30_1 : List IOper := [oy 4 (.box 26 6 (.t 0)),
  oy 8 (.mv (.c (.int .i64 0)))]
def n30_1 : ICode := .region l30_1
@[simp] def l30_4 : List IOper := [oy 9 (.load true 6 (.t 4)),
  oy 10 (.call (.c (.func (.func 26) #[] #[])) [(.t 9)] true),
  oy 11 (.bin .neq .int (.t 10) (.c (.int .i64 0))),
  oy 12 (.mv (.t 11)),
  oz 13 12 false (.mv (.t 1)),
  oz 14 12 false (.bin .lss .int (.t 13) (.c (.int .i64 0))),
  oy 15 (.pick (.t 12) (.c (.bool true)) (.t 14)),
  oy 16 (.mv (.t 15)),
  oz 17 16 false (.mv (.t 1)),
  oz 18 16 false (.mv (.t 2)),
  oz 19 16 false (.bin .geq .int (.t 17) (.t 18)),
  oy 20 (.pick (.t 16) (.c (.bool true)) (.t 19))]
def n30_4 : ICode := .region l30_4
@[simp] def l30_7 : List IOper := [oy 8 (.mv (.c (.int .i64 (-1))))]
def n30_7 : ICode := .region l30_7
def n30_8 : ICode := .ret
def n30_6 : ICode := .seq n30_7 n30_8
def n30_9 : ICode := .skip
def n30_5 : ICode := .cond (.t 20) n30_6 n30_9
def n30_3 : ICode := .seq n30_4 n30_5
@[simp] def l30_11 : List IOper := [oy 21 (.mv (.t 3)),
  oy 22 (.call (.t 21) [] false),
  oy 8 (.mv (.t 22))]
def n30_11 : ICode := .region l30_11
def n30_12 : ICode := .ret
def n30_10 : ICode := .seq n30_11 n30_12
def n30_2 : ICode := .seq n30_3 n30_10
def n30_0 : ICode := .seq n30_1 n30_2
theorem b30 : table.find 30 = some ⟨23, n30_0, [.tmp 8]⟩ := by kernel_rfl
@[simp] theorem en30_1 : evCode C n30_1 R S = regK (runOps C l30_1 R S) := ev_plain rfl
@[simp] theorem en30_4 : evCode C n30_4 R S = regK (runOps C l30_4 R S) := ev_plain rfl
@[simp] theorem en30_7 : evCode C n30_7 R S = regK (runOps C l30_7 R S) := ev_plain rfl
@[simp] theorem en30_8 : evCode C n30_8 R S = some (.ret, R, S) := (rfl)
@[simp] theorem en30_6 : evCode C n30_6 R S = seqK (evCode C n30_7 R S) fun R S => evCode C n30_8 R S := ev_seq
@[simp] theorem en30_9 : evCode C n30_9 R S = some (.norm, R, S) := (rfl)
@[simp] theorem en30_5 : evCode C n30_5 R S = condK (IV.ev R (.t 20)) (fun _ => evCode C n30_6 R S) fun _ => evCode C n30_9 R S := ev_cond
@[simp] theorem en30_3 : evCode C n30_3 R S = seqK (evCode C n30_4 R S) fun R S => evCode C n30_5 R S := ev_seq
@[simp] theorem en30_11 : evCode C n30_11 R S = regK (runOps C l30_11 R S) := ev_plain rfl
@[simp] theorem en30_12 : evCode C n30_12 R S = some (.ret, R, S) := (rfl)
@[simp] theorem en30_10 : evCode C n30_10 R S = seqK (evCode C n30_11 R S) fun R S => evCode C n30_12 R S := ev_seq
@[simp] theorem en30_2 : evCode C n30_2 R S = seqK (evCode C n30_3 R S) fun R S => evCode C n30_10 R S := ev_seq
@[simp] theorem en30_0 : evCode C n30_0 R S = seqK (evCode C n30_1 R S) fun R S => evCode C n30_2 R S := ev_seq
theorem q30 {n : Nat} {args : List Value} {S : St} : calls table.find (n + 1) 30 args S = endK S [.tmp 8] (evCode (calls table.find n) n30_0 (args ++ List.replicate (23 - args.length) undef) S.enter) := call_enter b30

/-! wainscot/chart.Head$1 -/
@[simp] def l31_1 : List IOper := [oy 1 (.mv (.c (.int .i64 0)))]
def n31_1 : ICode := .region l31_1
@[simp] def l31_3 : List IOper := [oy 2 (.load false 1 (.t 0)),
  oy 3 (.bin .mul .int (.c (.int .i64 4)) (.t 2)),
  oy 1 (.mv (.t 3))]
def n31_3 : ICode := .region l31_3
def n31_4 : ICode := .ret
def n31_2 : ICode := .seq n31_3 n31_4
def n31_0 : ICode := .seq n31_1 n31_2
theorem b31 : table.find 31 = some ⟨4, n31_0, [.tmp 1]⟩ := by kernel_rfl
@[simp] theorem en31_1 : evCode C n31_1 R S = regK (runOps C l31_1 R S) := ev_plain rfl
@[simp] theorem en31_3 : evCode C n31_3 R S = regK (runOps C l31_3 R S) := ev_plain rfl
@[simp] theorem en31_4 : evCode C n31_4 R S = some (.ret, R, S) := (rfl)
@[simp] theorem en31_2 : evCode C n31_2 R S = seqK (evCode C n31_3 R S) fun R S => evCode C n31_4 R S := ev_seq
@[simp] theorem en31_0 : evCode C n31_0 R S = seqK (evCode C n31_1 R S) fun R S => evCode C n31_2 R S := ev_seq
theorem q31 {n : Nat} {args : List Value} {S : St} : calls table.find (n + 1) 31 args S = endK S [.tmp 1] (evCode (calls table.find n) n31_0 (args ++ List.replicate (4 - args.length) undef) S.enter) := call_enter b31

/-! wainscot/chart.links -/
@[simp] def l32_1 : List IOper := [oy 1 (.box 26 6 (.t 0)),
  oy 2 (.mv (.c (.int .i64 0)))]
def n32_1 : ICode := .region l32_1
@[simp] def l32_3 : List IOper := [oy 3 (.load true 6 (.t 1)),
  oy 4 (.call (.c (.func (.func 39) #[] #[])) [(.t 3)] true),
  oy 5 (.addOff 1 (.t 1)),
  oy 6 (.load false 1 (.t 5)),
  oy 7 (.bin .mul .int (.c (.int .i64 4)) (.t 6)),
  oy 8 (.bin .add .int (.t 4) (.t 7)),
  oy 2 (.mv (.t 8))]
def n32_3 : ICode := .region l32_3
def n32_4 : ICode := .ret
def n32_2 : ICode := .seq n32_3 n32_4
def n32_0 : ICode := .seq n32_1 n32_2
theorem b32 : table.find 32 = some ⟨9, n32_0, [.tmp 2]⟩ := by kernel_rfl
@[simp] theorem en32_1 : evCode C n32_1 R S = regK (runOps C l32_1 R S) := ev_plain rfl
@[simp] theorem en32_3 : evCode C n32_3 R S = regK (runOps C l32_3 R S) := ev_plain rfl
@[simp] theorem en32_4 : evCode C n32_4 R S = some (.ret, R, S) := (rfl)
@[simp] theorem en32_2 : evCode C n32_2 R S = seqK (evCode C n32_3 R S) fun R S => evCode C n32_4 R S := ev_seq
@[simp] theorem en32_0 : evCode C n32_0 R S = seqK (evCode C n32_1 R S) fun R S => evCode C n32_2 R S := ev_seq
theorem q32 {n : Nat} {args : List Value} {S : St} : calls table.find (n + 1) 32 args S = endK S [.tmp 2] (evCode (calls table.find n) n32_0 (args ++ List.replicate (9 - args.length) undef) S.enter) := call_enter b32

/-! wainscot/link.turned -/
@[simp] def l33_1 : List IOper := [oy 4 (.mv (.c (.int .u64 0)))]
def n33_1 : ICode := .region l33_1
@[simp] def l33_3 : List IOper := [oy 5 (.mv (.t 0)),
  oy 6 (.mv (.t 1)),
  oy 7 (.bin .mul .int (.c (.int .i64 5)) (.t 6)),
  oy 8 (.call (.c (.func (.func 54) #[] #[])) [(.t 5), (.t 7)] true),
  oy 9 (.mv (.t 1)),
  oy 10 (.conv .u64 (.t 9)),
  oy 11 (.bin .mul .int (.t 10) (.c (.int .u64 2654435769))),
  oy 12 (.bin .add .int (.t 8) (.t 11)),
  oy 4 (.mv (.t 12))]
def n33_3 : ICode := .region l33_3
def n33_4 : ICode := .ret
def n33_2 : ICode := .seq n33_3 n33_4
def n33_0 : ICode := .seq n33_1 n33_2
theorem b33 : table.find 33 = some ⟨13, n33_0, [.tmp 4]⟩ := by kernel_rfl
@[simp] theorem en33_1 : evCode C n33_1 R S = regK (runOps C l33_1 R S) := ev_plain rfl
@[simp] theorem en33_3 : evCode C n33_3 R S = regK (runOps C l33_3 R S) := ev_plain rfl
@[simp] theorem en33_4 : evCode C n33_4 R S = some (.ret, R, S) := (rfl)
@[simp] theorem en33_2 : evCode C n33_2 R S = seqK (evCode C n33_3 R S) fun R S => evCode C n33_4 R S := ev_seq
@[simp] theorem en33_0 : evCode C n33_0 R S = seqK (evCode C n33_1 R S) fun R S => evCode C n33_2 R S := ev_seq
theorem q33 {n : Nat} {args : List Value} {S : St} : calls table.find (n + 1) 33 args S = endK S [.tmp 4] (evCode (calls table.find n) n33_0 (args ++ List.replicate (13 - args.length) undef) S.enter) := call_enter b33

/-! wainscot/chart.Link$1 -/
@[simp] def l34_1 : List IOper := [oy 3 (.mv (.c (.int .i64 0)))]
def n34_1 : ICode := .region l34_1
@[simp] def l34_3 : List IOper := [oy 4 (.load true 6 (.t 0)),
  oy 5 (.call (.c (.func (.func 32) #[] #[])) [(.t 4)] true),
  oy 6 (.load false 1 (.t 1)),
  oy 7 (.addOff 2 (.t 0)),
  oy 8 (.load false 1 (.t 7)),
  oy 9 (.bin .mul .int (.t 6) (.t 8)),
  oy 10 (.bin .add .int (.t 5) (.t 9)),
  oy 11 (.load false 1 (.t 2)),
  oy 12 (.bin .add .int (.t 10) (.t 11)),
  oy 3 (.mv (.t 12))]
def n34_3 : ICode := .region l34_3
def n34_4 : ICode := .ret
def n34_2 : ICode := .seq n34_3 n34_4
def n34_0 : ICode := .seq n34_1 n34_2
theorem b34 : table.find 34 = some ⟨13, n34_0, [.tmp 3]⟩ := by kernel_rfl
@[simp] theorem en34_1 : evCode C n34_1 R S = regK (runOps C l34_1 R S) := ev_plain rfl
@[simp] theorem en34_3 : evCode C n34_3 R S = regK (runOps C l34_3 R S) := ev_plain rfl
@[simp] theorem en34_4 : evCode C n34_4 R S = some (.ret, R, S) := (rfl)
@[simp] theorem en34_2 : evCode C n34_2 R S = seqK (evCode C n34_3 R S) fun R S => evCode C n34_4 R S := ev_seq
@[simp] theorem en34_0 : evCode C n34_0 R S = seqK (evCode C n34_1 R S) fun R S => evCode C n34_2 R S := ev_seq
theorem q34 {n : Nat} {args : List Value} {S : St} : calls table.find (n + 1) 34 args S = endK S [.tmp 3] (evCode (calls table.find n) n34_0 (args ++ List.replicate (13 - args.length) undef) S.enter) := call_enter b34

/-! wainscot/count.slabMay -/
@[simp] def l35_1 : List IOper := [oy 2 (.mv (.c (.bool false)))]
def n35_1 : ICode := .region l35_1
@[simp] def l35_3 : List IOper := [oy 3 (.mv (.t 0)),
  oy 4 (.bin .leq .int (.c (.int .i64 0)) (.t 3)),
  oy 5 (.mv (.t 4)),
  oz 6 5 true (.mv (.t 0)),
  oz 7 5 true (.bin .lss .int (.t 6) (.c (.int .i64 32))),
  oy 8 (.pick (.t 5) (.t 7) (.c (.bool false))),
  oy 2 (.mv (.t 8))]
def n35_3 : ICode := .region l35_3
def n35_4 : ICode := .ret
def n35_2 : ICode := .seq n35_3 n35_4
def n35_0 : ICode := .seq n35_1 n35_2
theorem b35 : table.find 35 = some ⟨9, n35_0, [.tmp 2]⟩ := by kernel_rfl
@[simp] theorem en35_1 : evCode C n35_1 R S = regK (runOps C l35_1 R S) := ev_plain rfl
@[simp] theorem en35_3 : evCode C n35_3 R S = regK (runOps C l35_3 R S) := ev_plain rfl
@[simp] theorem en35_4 : evCode C n35_4 R S = some (.ret, R, S) := (rfl)
@[simp] theorem en35_2 : evCode C n35_2 R S = seqK (evCode C n35_3 R S) fun R S => evCode C n35_4 R S := ev_seq
@[simp] theorem en35_0 : evCode C n35_0 R S = seqK (evCode C n35_1 R S) fun R S => evCode C n35_2 R S := ev_seq
theorem q35 {n : Nat} {args : List Value} {S : St} : calls table.find (n + 1) 35 args S = endK S [.tmp 2] (evCode (calls table.find n) n35_0 (args ++ List.replicate (9 - args.length) undef) S.enter) := call_enter b35

/-! wainscot/chart.First$1 -/
@[simp] def l38_1 : List IOper := [oy 2 (.mv (.c (.int .i64 0)))]
def n38_1 : ICode := .region l38_1
@[simp] def l38_3 : List IOper := [oy 3 (.load true 6 (.t 0)),
  oy 4 (.call (.c (.func (.func 39) #[] #[])) [(.t 3)] true),
  oy 5 (.load false 1 (.t 1)),
  oy 6 (.bin .mul .int (.c (.int .i64 4)) (.t 5)),
  oy 7 (.bin .add .int (.t 4) (.t 6)),
  oy 2 (.mv (.t 7))]
def n38_3 : ICode := .region l38_3
def n38_4 : ICode := .ret
def n38_2 : ICode := .seq n38_3 n38_4
def n38_0 : ICode := .seq n38_1 n38_2
theorem b38 : table.find 38 = some ⟨8, n38_0, [.tmp 2]⟩ := by kernel_rfl
@[simp] theorem en38_1 : evCode C n38_1 R S = regK (runOps C l38_1 R S) := ev_plain rfl
@[simp] theorem en38_3 : evCode C n38_3 R S = regK (runOps C l38_3 R S) := ev_plain rfl
@[simp] theorem en38_4 : evCode C n38_4 R S = some (.ret, R, S) := (rfl)
@[simp] theorem en38_2 : evCode C n38_2 R S = seqK (evCode C n38_3 R S) fun R S => evCode C n38_4 R S := ev_seq
@[simp] theorem en38_0 : evCode C n38_0 R S = seqK (evCode C n38_1 R S) fun R S => evCode C n38_2 R S := ev_seq
theorem q38 {n : Nat} {args : List Value} {S : St} : calls table.find (n + 1) 38 args S = endK S [.tmp 2] (evCode (calls table.find n) n38_0 (args ++ List.replicate (8 - args.length) undef) S.enter) := call_enter b38

/-! wainscot/chart.slabs -/
@[simp] def l39_1 : List IOper := [oy 1 (.box 26 6 (.t 0)),
  oy 2 (.mv (.c (.int .i64 0)))]
def n39_1 : ICode := .region l39_1
@[simp] def l39_3 : List IOper := [oy 3 (.load true 6 (.t 1)),
  oy 4 (.call (.c (.func (.func 55) #[] #[])) [(.t 3)] true),
  oy 5 (.bin .add .int (.t 4) (.c (.int .i64 4))),
  oy 2 (.mv (.t 5))]
def n39_3 : ICode := .region l39_3
def n39_4 : ICode := .ret
def n39_2 : ICode := .seq n39_3 n39_4
def n39_0 : ICode := .seq n39_1 n39_2
theorem b39 : table.find 39 = some ⟨6, n39_0, [.tmp 2]⟩ := by kernel_rfl
@[simp] theorem en39_1 : evCode C n39_1 R S = regK (runOps C l39_1 R S) := ev_plain rfl
@[simp] theorem en39_3 : evCode C n39_3 R S = regK (runOps C l39_3 R S) := ev_plain rfl
@[simp] theorem en39_4 : evCode C n39_4 R S = some (.ret, R, S) := (rfl)
@[simp] theorem en39_2 : evCode C n39_2 R S = seqK (evCode C n39_3 R S) fun R S => evCode C n39_4 R S := ev_seq
@[simp] theorem en39_0 : evCode C n39_0 R S = seqK (evCode C n39_1 R S) fun R S => evCode C n39_2 R S := ev_seq
theorem q39 {n : Nat} {args : List Value} {S : St} : calls table.find (n + 1) 39 args S = endK S [.tmp 2] (evCode (calls table.find n) n39_0 (args ++ List.replicate (6 - args.length) undef) S.enter) := call_enter b39

/-! wainscot/chart.Lock -/
@[simp] def l40_1 : List IOper := [oy 1 (.box 26 6 (.t 0)),
  oy 2 (.mv (.c (.int .i64 0)))]
def n40_1 : ICode := .region l40_1
@[simp] def l40_3 : List IOper := [oy 3 (.load true 6 (.t 1)),
  oy 4 (.mkFunc 56 [] [(.t 1)]),
  oy 5 (.call (.c (.func (.func 30) #[] #[])) [(.t 3), (.c (.int .i64 0)), (.c (.int .i64 1)), (.t 4)] true),
  oy 2 (.mv (.t 5))]
def n40_3 : ICode := .region l40_3
def n40_4 : ICode := .ret
def n40_2 : ICode := .seq n40_3 n40_4
def n40_0 : ICode := .seq n40_1 n40_2
theorem b40 : table.find 40 = some ⟨6, n40_0, [.tmp 2]⟩ := by kernel_rfl
@[simp] theorem en40_1 : evCode C n40_1 R S = regK (runOps C l40_1 R S) := ev_plain rfl
@[simp] theorem en40_3 : evCode C n40_3 R S = regK (runOps C l40_3 R S) := ev_plain rfl
@[simp] theorem en40_4 : evCode C n40_4 R S = some (.ret, R, S) := (rfl)
@[simp] theorem en40_2 : evCode C n40_2 R S = seqK (evCode C n40_3 R S) fun R S => evCode C n40_4 R S := ev_seq
@[simp] theorem en40_0 : evCode C n40_0 R S = seqK (evCode C n40_1 R S) fun R S => evCode C n40_2 R S := ev_seq
theorem q40 {n : Nat} {args : List Value} {S : St} : calls table.find (n + 1) 40 args S = endK S [.tmp 2] (evCode (calls table.find n) n40_0 (args ++ List.replicate (6 - args.length) undef) S.enter) := call_enter b40

/-! (wainscot/chart.reader).slot -/
@[simp] def l41_1 : List IOper := [oy 2 (.box 91 7 (.t 0)),
  oy 4 (.new 71 [(.int .i64 0), (.slice none 0 0), (.int .u64 0), (.slice none 0 0)]),
  oy 5 (.mv (.c (.bool false)))]
def n41_1 : ICode := .region l41_1
@[simp] def l41_3 : List IOper := [oy 10 (.addOff 1 (.t 2)),
  oy 11 (.load true 6 (.t 10)),
  oy 12 (.mv (.t 1)),
  oy 13 (.call (.c (.func (.func 13) #[] #[])) [(.t 11), (.t 12)] true),
  oy 6 (.mv (.t 13))]
def n41_3 : ICode := .region l41_3
@[simp] def l41_5 : List IOper := [oy 15 (.addOff 0 (.t 2)),
  oy 16 (.load false 1 (.t 15)),
  oy 17 (.mv (.t 6)),
  oy 18 (.idxS 1 (.t 16) (.t 17)),
  oy 19 (.load false 1 (.t 18)),
  oy 20 (.call (.c (.func (.func 57) #[] #[])) [(.t 19)] true),
  oy 14 (.mv (.t 20)),
  oy 21 (.extract (.t 14) 0),
  oy 22 (.extract (.t 14) 1),
  oy 23 (.extract (.t 14) 2),
  oy 7 (.mv (.t 21)),
  oy 8 (.mv (.t 22)),
  oy 9 (.mv (.t 23))]
def n41_5 : ICode := .region l41_5
@[simp] def l41_8 : List IOper := [oy 24 (.mv (.t 9)),
  oy 25 (.un .not (.t 24)),
  oy 26 (.mv (.t 25)),
  oz 27 26 false (.mv (.t 7)),
  oz 28 26 false (.addOff 1 (.t 2)),
  oz 29 26 false (.addOff 1 (.t 28)),
  oz 30 26 false (.load false 1 (.t 29)),
  oz 31 26 false (.bin .geq .int (.t 27) (.t 30)),
  oy 32 (.pick (.t 26) (.c (.bool true)) (.t 31))]
def n41_8 : ICode := .region l41_8
@[simp] def l41_11 : List IOper := [oy 33 (.build [(.int .i64 0), (.slice none 0 0), (.int .u64 0), (.slice none 0 0)] []),
  ox (.store 4 (.t 4) (.t 33)),
  oy 5 (.mv (.c (.bool false)))]
def n41_11 : ICode := .region l41_11
def n41_12 : ICode := .ret
def n41_10 : ICode := .seq n41_11 n41_12
def n41_13 : ICode := .skip
def n41_9 : ICode := .cond (.t 32) n41_10 n41_13
def n41_7 : ICode := .seq n41_8 n41_9
@[simp] def l41_15 : List IOper := [oy 34 (.mv (.t 7)),
  oy 35 (.addOff 0 (.t 2)),
  oy 36 (.load false 1 (.t 35)),
  oy 37 (.mv (.t 6)),
  oy 38 (.bin .add .int (.t 37) (.c (.int .i64 1))),
  oy 39 (.idxS 1 (.t 36) (.t 38)),
  oy 40 (.load false 1 (.t 39)),
  oy 41 (.build [(.int .i64 0), (.slice none 0 0), (.int .u64 0), (.slice none 0 0)] [(0, 1, (.t 34)), (2, 1, (.t 40))]),
  ox (.store 4 (.t 4) (.t 41))]
def n41_15 : ICode := .region l41_15
@[simp] def l41_18 : List IOper := [oy 42 (.mv (.t 7)),
  oy 43 (.bin .neq .int (.t 42) (.c (.int .i64 (-1))))]
def n41_18 : ICode := .region l41_18
@[simp] def l41_21 : List IOper := [oy 45 (.load true 7 (.t 2)),
  oy 46 (.mv (.t 7)),
  oy 47 (.mv (.t 8)),
  oy 48 (.call (.c (.func (.func 58) #[] #[])) [(.t 45), (.t 46), (.t 47)] true),
  oy 44 (.mv (.t 48)),
  oy 49 (.extract (.t 44) 0),
  oy 50 (.extract (.t 44) 1),
  oy 51 (.addOff 1 (.t 4)),
  ox (.store 1 (.t 51) (.t 49)),
  oy 5 (.mv (.t 50))]
def n41_21 : ICode := .region l41_21
@[simp] def l41_23 : List IOper := [oy 52 (.mv (.t 5)),
  oy 53 (.un .not (.t 52))]
def n41_23 : ICode := .region l41_23
@[simp] def l41_26 : List IOper := [oy 54 (.build [(.int .i64 0), (.slice none 0 0), (.int .u64 0), (.slice none 0 0)] []),
  ox (.store 4 (.t 4) (.t 54)),
  oy 5 (.mv (.c (.bool false)))]
def n41_26 : ICode := .region l41_26
def n41_27 : ICode := .ret
def n41_25 : ICode := .seq n41_26 n41_27
def n41_28 : ICode := .skip
def n41_24 : ICode := .cond (.t 53) n41_25 n41_28
def n41_22 : ICode := .seq n41_23 n41_24
def n41_20 : ICode := .seq n41_21 n41_22
def n41_29 : ICode := .skip
def n41_19 : ICode := .cond (.t 43) n41_20 n41_29
def n41_17 : ICode := .seq n41_18 n41_19
@[simp] def l41_32 : List IOper := [oy 56 (.load true 7 (.t 2)),
  oy 57 (.addOff 0 (.t 2)),
  oy 58 (.load false 1 (.t 57)),
  oy 59 (.mv (.t 6)),
  oy 60 (.bin .add .int (.t 59) (.c (.int .i64 2))),
  oy 61 (.idxS 1 (.t 58) (.t 60)),
  oy 62 (.load false 1 (.t 61)),
  oy 63 (.call (.c (.func (.func 42) #[] #[])) [(.t 56), (.t 62), (.c (.func (.func 59) #[] #[]))] true),
  oy 55 (.mv (.t 63)),
  oy 64 (.extract (.t 55) 0),
  oy 65 (.extract (.t 55) 1),
  oy 66 (.addOff 3 (.t 4)),
  ox (.store 1 (.t 66) (.t 64)),
  oy 5 (.mv (.t 65))]
def n41_32 : ICode := .region l41_32
@[simp] def l41_34 : List IOper := [oy 67 (.mv (.t 5)),
  oy 68 (.un .not (.t 67))]
def n41_34 : ICode := .region l41_34
@[simp] def l41_37 : List IOper := [oy 69 (.build [(.int .i64 0), (.slice none 0 0), (.int .u64 0), (.slice none 0 0)] []),
  ox (.store 4 (.t 4) (.t 69)),
  oy 5 (.mv (.c (.bool false)))]
def n41_37 : ICode := .region l41_37
def n41_38 : ICode := .ret
def n41_36 : ICode := .seq n41_37 n41_38
def n41_39 : ICode := .skip
def n41_35 : ICode := .cond (.t 68) n41_36 n41_39
def n41_33 : ICode := .seq n41_34 n41_35
def n41_31 : ICode := .seq n41_32 n41_33
@[simp] def l41_41 : List IOper := [oy 70 (.load true 4 (.t 4)),
  ox (.store 4 (.t 4) (.t 70)),
  oy 5 (.mv (.c (.bool true)))]
def n41_41 : ICode := .region l41_41
def n41_42 : ICode := .ret
def n41_40 : ICode := .seq n41_41 n41_42
def n41_30 : ICode := .seq n41_31 n41_40
def n41_16 : ICode := .seq n41_17 n41_30
def n41_14 : ICode := .seq n41_15 n41_16
def n41_6 : ICode := .seq n41_7 n41_14
def n41_4 : ICode := .seq n41_5 n41_6
def n41_2 : ICode := .seq n41_3 n41_4
def n41_0 : ICode := .seq n41_1 n41_2
theorem b41 : table.find 41 = some ⟨71, n41_0, [.cell 4 true 4, .tmp 5]⟩ := by kernel_rfl
@[simp] theorem en41_1 : evCode C n41_1 R S = regK (runOps C l41_1 R S) := ev_plain rfl
@[simp] theorem en41_3 : evCode C n41_3 R S = regK (runOps C l41_3 R S) := ev_plain rfl
@[simp] theorem en41_5 : evCode C n41_5 R S = regK (runOps C l41_5 R S) := ev_plain rfl
@[simp] theorem en41_8 : evCode C n41_8 R S = regK (runOps C l41_8 R S) := ev_plain rfl
@[simp] theorem en41_11 : evCode C n41_11 R S = regK (runOps C l41_11 R S) := ev_plain rfl
@[simp] theorem en41_12 : evCode C n41_12 R S = some (.ret, R, S) := (rfl)
@[simp] theorem en41_10 : evCode C n41_10 R S = seqK (evCode C n41_11 R S) fun R S => evCode C n41_12 R S := ev_seq
@[simp] theorem en41_13 : evCode C n41_13 R S = some (.norm, R, S) := (rfl)
@[simp] theorem en41_9 : evCode C n41_9 R S = condK (IV.ev R (.t 32)) (fun _ => evCode C n41_10 R S) fun _ => evCode C n41_13 R S := ev_cond
@[simp] theorem en41_7 : evCode C n41_7 R S = seqK (evCode C n41_8 R S) fun R S => evCode C n41_9 R S := ev_seq
@[simp] theorem en41_15 : evCode C n41_15 R S = regK (runOps C l41_15 R S) := ev_plain rfl
@[simp] theorem en41_18 : evCode C n41_18 R S = regK (runOps C l41_18 R S) := ev_plain rfl
@[simp] theorem en41_21 : evCode C n41_21 R S = regK (runOps C l41_21 R S) := ev_plain rfl
@[simp] theorem en41_23 : evCode C n41_23 R S = regK (runOps C l41_23 R S) := ev_plain rfl
@[simp] theorem en41_26 : evCode C n41_26 R S = regK (runOps C l41_26 R S) := ev_plain rfl
@[simp] theorem en41_27 : evCode C n41_27 R S = some (.ret, R, S) := (rfl)
@[simp] theorem en41_25 : evCode C n41_25 R S = seqK (evCode C n41_26 R S) fun R S => evCode C n41_27 R S := ev_seq
@[simp] theorem en41_28 : evCode C n41_28 R S = some (.norm, R, S) := (rfl)
@[simp] theorem en41_24 : evCode C n41_24 R S = condK (IV.ev R (.t 53)) (fun _ => evCode C n41_25 R S) fun _ => evCode C n41_28 R S := ev_cond
@[simp] theorem en41_22 : evCode C n41_22 R S = seqK (evCode C n41_23 R S) fun R S => evCode C n41_24 R S := ev_seq
@[simp] theorem en41_20 : evCode C n41_20 R S = seqK (evCode C n41_21 R S) fun R S => evCode C n41_22 R S := ev_seq
@[simp] theorem en41_29 : evCode C n41_29 R S = some (.norm, R, S) := (rfl)
@[simp] theorem en41_19 : evCode C n41_19 R S = condK (IV.ev R (.t 43)) (fun _ => evCode C n41_20 R S) fun _ => evCode C n41_29 R S := ev_cond
@[simp] theorem en41_17 : evCode C n41_17 R S = seqK (evCode C n41_18 R S) fun R S => evCode C n41_19 R S := ev_seq
@[simp] theorem en41_32 : evCode C n41_32 R S = regK (runOps C l41_32 R S) := ev_plain rfl
@[simp] theorem en41_34 : evCode C n41_34 R S = regK (runOps C l41_34 R S) := ev_plain rfl
@[simp] theorem en41_37 : evCode C n41_37 R S = regK (runOps C l41_37 R S) := ev_plain rfl
@[simp] theorem en41_38 : evCode C n41_38 R S = some (.ret, R, S) := (rfl)
@[simp] theorem en41_36 : evCode C n41_36 R S = seqK (evCode C n41_37 R S) fun R S => evCode C n41_38 R S := ev_seq
@[simp] theorem en41_39 : evCode C n41_39 R S = some (.norm, R, S) := (rfl)
@[simp] theorem en41_35 : evCode C n41_35 R S = condK (IV.ev R (.t 68)) (fun _ => evCode C n41_36 R S) fun _ => evCode C n41_39 R S := ev_cond
@[simp] theorem en41_33 : evCode C n41_33 R S = seqK (evCode C n41_34 R S) fun R S => evCode C n41_35 R S := ev_seq
@[simp] theorem en41_31 : evCode C n41_31 R S = seqK (evCode C n41_32 R S) fun R S => evCode C n41_33 R S := ev_seq
@[simp] theorem en41_41 : evCode C n41_41 R S = regK (runOps C l41_41 R S) := ev_plain rfl
@[simp] theorem en41_42 : evCode C n41_42 R S = some (.ret, R, S) := (rfl)
@[simp] theorem en41_40 : evCode C n41_40 R S = seqK (evCode C n41_41 R S) fun R S => evCode C n41_42 R S := ev_seq
@[simp] theorem en41_30 : evCode C n41_30 R S = seqK (evCode C n41_31 R S) fun R S => evCode C n41_40 R S := ev_seq
@[simp] theorem en41_16 : evCode C n41_16 R S = seqK (evCode C n41_17 R S) fun R S => evCode C n41_30 R S := ev_seq
@[simp] theorem en41_14 : evCode C n41_14 R S = seqK (evCode C n41_15 R S) fun R S => evCode C n41_16 R S := ev_seq
@[simp] theorem en41_6 : evCode C n41_6 R S = seqK (evCode C n41_7 R S) fun R S => evCode C n41_14 R S := ev_seq
@[simp] theorem en41_4 : evCode C n41_4 R S = seqK (evCode C n41_5 R S) fun R S => evCode C n41_6 R S := ev_seq
@[simp] theorem en41_2 : evCode C n41_2 R S = seqK (evCode C n41_3 R S) fun R S => evCode C n41_4 R S := ev_seq
@[simp] theorem en41_0 : evCode C n41_0 R S = seqK (evCode C n41_1 R S) fun R S => evCode C n41_2 R S := ev_seq
theorem q41 {n : Nat} {args : List Value} {S : St} : calls table.find (n + 1) 41 args S = endK S [.cell 4 true 4, .tmp 5] (evCode (calls table.find n) n41_0 (args ++ List.replicate (71 - args.length) undef) S.enter) := call_enter b41

/-! (wainscot/chart.reader).chain -/
@[simp] def l42_1 : List IOper := [oy 3 (.box 91 7 (.t 0)),
  oy 6 (.mv (.c (.slice none 0 0))),
  oy 7 (.mv (.c (.bool false)))]
def n42_1 : ICode := .region l42_1
@[simp] def l42_3 : List IOper := [oy 11 (.mkMap),
  oy 8 (.mv (.t 11))]
def n42_3 : ICode := .region l42_3
@[simp] def l42_7 : List IOper := [oy 13 (.mv (.t 2)),
  oy 14 (.mv (.t 1)),
  oy 15 (.call (.t 13) [(.t 14)] false),
  oy 12 (.mv (.t 15)),
  oy 16 (.extract (.t 12) 0),
  oy 17 (.extract (.t 12) 1),
  oy 9 (.mv (.t 16)),
  oy 10 (.mv (.t 17))]
def n42_7 : ICode := .region l42_7
@[simp] def l42_12 : List IOper := [oy 19 (.mv (.t 10)),
  oy 20 (.un .not (.t 19)),
  oy 18 (.mv (.t 20))]
def n42_12 : ICode := .region l42_12
def n42_14 : ICode := .skip
@[simp] def l42_16 : List IOper := [oy 21 (.mv (.t 9)),
  oy 22 (.addOff 1 (.t 3)),
  oy 23 (.addOff 1 (.t 22)),
  oy 24 (.load false 1 (.t 23)),
  oy 25 (.bin .geq .int (.t 21) (.t 24)),
  oy 18 (.mv (.t 25))]
def n42_16 : ICode := .region l42_16
def n42_18 : ICode := .skip
@[simp] def l42_19 : List IOper := [oy 26 (.mv (.t 8)),
  oy 27 (.mv (.t 9)),
  oy 28 (.lookup (.int .i64 0) false (.t 26) (.t 27)),
  oy 29 (.bin .gtr .int (.t 28) (.c (.int .i64 0))),
  oy 18 (.mv (.t 29))]
def n42_19 : ICode := .region l42_19
def n42_17 : ICode := .cond (.t 18) n42_18 n42_19
def n42_15 : ICode := .seq n42_16 n42_17
def n42_13 : ICode := .cond (.t 18) n42_14 n42_15
def n42_11 : ICode := .seq n42_12 n42_13
@[simp] def l42_22 : List IOper := [oy 6 (.mv (.c (.slice none 0 0))),
  oy 7 (.mv (.c (.bool false)))]
def n42_22 : ICode := .region l42_22
def n42_23 : ICode := .ret
def n42_21 : ICode := .seq n42_22 n42_23
@[simp] def l42_25 : List IOper := [oy 31 (.mv (.t 9)),
  oy 32 (.bin .eql .int (.t 31) (.c (.int .i64 (-1)))),
  oy 30 (.mv (.t 32))]
def n42_25 : ICode := .region l42_25
@[simp] def l42_28 : List IOper := [oy 33 (.mv (.t 6)),
  oy 6 (.mv (.t 33)),
  oy 7 (.mv (.c (.bool true)))]
def n42_28 : ICode := .region l42_28
def n42_29 : ICode := .ret
def n42_27 : ICode := .seq n42_28 n42_29
def n42_30 : ICode := .skip
def n42_26 : ICode := .cond (.t 30) n42_27 n42_30
def n42_24 : ICode := .seq n42_25 n42_26
def n42_20 : ICode := .cond (.t 18) n42_21 n42_24
def n42_10 : ICode := .seq n42_11 n42_20
def n42_9 : ICode := .block 2 n42_10
@[simp] def l42_32 : List IOper := [oy 34 (.mv (.t 8)),
  oy 35 (.mv (.t 9)),
  ox (.mapSet (.t 34) (.t 35) (.c (.int .i64 1)))]
def n42_32 : ICode := .region l42_32
@[simp] def l42_34 : List IOper := [oy 36 (.mv (.t 6)),
  oy 37 (.mv (.t 9)),
  oy 38 (.buildSlice 3 [(.int .i64 0)] 1 [(0, 1, (.t 37))]),
  oy 39 (.append 3 1 8 (.t 36) (.t 38)),
  oy 6 (.mv (.t 39))]
def n42_34 : ICode := .region l42_34
@[simp] def l42_35 : List IOper := [oy 40 (.addOff 0 (.t 3)),
  oy 41 (.load false 1 (.t 40)),
  oy 42 (.addOff 1 (.t 3)),
  oy 43 (.load true 6 (.t 42)),
  oy 44 (.mv (.t 9)),
  oy 45 (.call (.c (.func (.func 60) #[] #[])) [(.t 43), (.t 44)] true),
  oy 46 (.idxS 1 (.t 41) (.t 45)),
  oy 47 (.load false 1 (.t 46)),
  oy 1 (.mv (.t 47))]
def n42_35 : ICode := .region l42_35
def n42_33 : ICode := .seq n42_34 n42_35
def n42_31 : ICode := .seq n42_32 n42_33
def n42_8 : ICode := .seq n42_9 n42_31
def n42_6 : ICode := .seq n42_7 n42_8
def n42_5 : ICode := .block 1 n42_6
def loop42_0 : ICode := .loop n42_5
def n42_4 : ICode := .block 0 loop42_0
def n42_2 : ICode := .seq n42_3 n42_4
def n42_0 : ICode := .seq n42_1 n42_2
theorem b42 : table.find 42 = some ⟨48, n42_0, [.tmp 6, .tmp 7]⟩ := by kernel_rfl
@[simp] theorem en42_1 : evCode C n42_1 R S = regK (runOps C l42_1 R S) := ev_plain rfl
@[simp] theorem en42_3 : evCode C n42_3 R S = regK (runOps C l42_3 R S) := ev_plain rfl
@[simp] theorem en42_7 : evCode C n42_7 R S = regK (runOps C l42_7 R S) := ev_plain rfl
@[simp] theorem en42_12 : evCode C n42_12 R S = regK (runOps C l42_12 R S) := ev_plain rfl
@[simp] theorem en42_14 : evCode C n42_14 R S = some (.norm, R, S) := (rfl)
@[simp] theorem en42_16 : evCode C n42_16 R S = regK (runOps C l42_16 R S) := ev_plain rfl
@[simp] theorem en42_18 : evCode C n42_18 R S = some (.norm, R, S) := (rfl)
@[simp] theorem en42_19 : evCode C n42_19 R S = regK (runOps C l42_19 R S) := ev_plain rfl
@[simp] theorem en42_17 : evCode C n42_17 R S = condK (IV.ev R (.t 18)) (fun _ => evCode C n42_18 R S) fun _ => evCode C n42_19 R S := ev_cond
@[simp] theorem en42_15 : evCode C n42_15 R S = seqK (evCode C n42_16 R S) fun R S => evCode C n42_17 R S := ev_seq
@[simp] theorem en42_13 : evCode C n42_13 R S = condK (IV.ev R (.t 18)) (fun _ => evCode C n42_14 R S) fun _ => evCode C n42_15 R S := ev_cond
@[simp] theorem en42_11 : evCode C n42_11 R S = seqK (evCode C n42_12 R S) fun R S => evCode C n42_13 R S := ev_seq
@[simp] theorem en42_22 : evCode C n42_22 R S = regK (runOps C l42_22 R S) := ev_plain rfl
@[simp] theorem en42_23 : evCode C n42_23 R S = some (.ret, R, S) := (rfl)
@[simp] theorem en42_21 : evCode C n42_21 R S = seqK (evCode C n42_22 R S) fun R S => evCode C n42_23 R S := ev_seq
@[simp] theorem en42_25 : evCode C n42_25 R S = regK (runOps C l42_25 R S) := ev_plain rfl
@[simp] theorem en42_28 : evCode C n42_28 R S = regK (runOps C l42_28 R S) := ev_plain rfl
@[simp] theorem en42_29 : evCode C n42_29 R S = some (.ret, R, S) := (rfl)
@[simp] theorem en42_27 : evCode C n42_27 R S = seqK (evCode C n42_28 R S) fun R S => evCode C n42_29 R S := ev_seq
@[simp] theorem en42_30 : evCode C n42_30 R S = some (.norm, R, S) := (rfl)
@[simp] theorem en42_26 : evCode C n42_26 R S = condK (IV.ev R (.t 30)) (fun _ => evCode C n42_27 R S) fun _ => evCode C n42_30 R S := ev_cond
@[simp] theorem en42_24 : evCode C n42_24 R S = seqK (evCode C n42_25 R S) fun R S => evCode C n42_26 R S := ev_seq
@[simp] theorem en42_20 : evCode C n42_20 R S = condK (IV.ev R (.t 18)) (fun _ => evCode C n42_21 R S) fun _ => evCode C n42_24 R S := ev_cond
@[simp] theorem en42_10 : evCode C n42_10 R S = seqK (evCode C n42_11 R S) fun R S => evCode C n42_20 R S := ev_seq
@[simp] theorem en42_9 : evCode C n42_9 R S = blockK 2 (evCode C n42_10 R S) := ev_block
@[simp] theorem en42_32 : evCode C n42_32 R S = regK (runOps C l42_32 R S) := ev_plain rfl
@[simp] theorem en42_34 : evCode C n42_34 R S = regK (runOps C l42_34 R S) := ev_plain rfl
@[simp] theorem en42_35 : evCode C n42_35 R S = regK (runOps C l42_35 R S) := ev_plain rfl
@[simp] theorem en42_33 : evCode C n42_33 R S = seqK (evCode C n42_34 R S) fun R S => evCode C n42_35 R S := ev_seq
@[simp] theorem en42_31 : evCode C n42_31 R S = seqK (evCode C n42_32 R S) fun R S => evCode C n42_33 R S := ev_seq
@[simp] theorem en42_8 : evCode C n42_8 R S = seqK (evCode C n42_9 R S) fun R S => evCode C n42_31 R S := ev_seq
@[simp] theorem en42_6 : evCode C n42_6 R S = seqK (evCode C n42_7 R S) fun R S => evCode C n42_8 R S := ev_seq
@[simp] theorem en42_5 : evCode C n42_5 R S = blockK 1 (evCode C n42_6 R S) := ev_block
theorem eloop42_0 : evCode C loop42_0 R S = iter (fun R S => evCode C n42_5 R S) rounds R S := (rfl)
@[simp] theorem en42_4 : evCode C n42_4 R S = blockK 0 (evCode C loop42_0 R S) := ev_block
@[simp] theorem en42_2 : evCode C n42_2 R S = seqK (evCode C n42_3 R S) fun R S => evCode C n42_4 R S := ev_seq
@[simp] theorem en42_0 : evCode C n42_0 R S = seqK (evCode C n42_1 R S) fun R S => evCode C n42_2 R S := ev_seq
theorem q42 {n : Nat} {args : List Value} {S : St} : calls table.find (n + 1) 42 args S = endK S [.tmp 6, .tmp 7] (evCode (calls table.find n) n42_0 (args ++ List.replicate (48 - args.length) undef) S.enter) := call_enter b42

/-! wainscot/chart.Shelf -/
@[simp] def l43_1 : List IOper := [oy 1 (.box 26 6 (.t 0)),
  oy 2 (.mv (.c (.int .i64 0)))]
def n43_1 : ICode := .region l43_1
@[simp] def l43_3 : List IOper := [oy 3 (.load true 6 (.t 1)),
  oy 4 (.mkFunc 61 [] [(.t 1)]),
  oy 5 (.call (.c (.func (.func 30) #[] #[])) [(.t 3), (.c (.int .i64 0)), (.c (.int .i64 1)), (.t 4)] true),
  oy 2 (.mv (.t 5))]
def n43_3 : ICode := .region l43_3
def n43_4 : ICode := .ret
def n43_2 : ICode := .seq n43_3 n43_4
def n43_0 : ICode := .seq n43_1 n43_2
theorem b43 : table.find 43 = some ⟨6, n43_0, [.tmp 2]⟩ := by kernel_rfl
@[simp] theorem en43_1 : evCode C n43_1 R S = regK (runOps C l43_1 R S) := ev_plain rfl
@[simp] theorem en43_3 : evCode C n43_3 R S = regK (runOps C l43_3 R S) := ev_plain rfl
@[simp] theorem en43_4 : evCode C n43_4 R S = some (.ret, R, S) := (rfl)
@[simp] theorem en43_2 : evCode C n43_2 R S = seqK (evCode C n43_3 R S) fun R S => evCode C n43_4 R S := ev_seq
@[simp] theorem en43_0 : evCode C n43_0 R S = seqK (evCode C n43_1 R S) fun R S => evCode C n43_2 R S := ev_seq
theorem q43 {n : Nat} {args : List Value} {S : St} : calls table.find (n + 1) 43 args S = endK S [.tmp 2] (evCode (calls table.find n) n43_0 (args ++ List.replicate (6 - args.length) undef) S.enter) := call_enter b43

/-! wainscot/chart.shelfOf -/
@[simp] def l44_1 : List IOper := [oy 2 (.mv (.c (.int .i64 0))),
  oy 3 (.mv (.c (.bool false)))]
def n44_1 : ICode := .region l44_1
@[simp] def l44_3 : List IOper := [oy 4 (.mv (.t 0)),
  oy 5 (.conv .i64 (.t 4)),
  oy 6 (.bin .sub .int (.t 5) (.c (.int .i64 1))),
  oy 7 (.mv (.t 0)),
  oy 8 (.bin .leq .int (.t 7) (.c (.int .u64 32))),
  oy 2 (.mv (.t 6)),
  oy 3 (.mv (.t 8))]
def n44_3 : ICode := .region l44_3
def n44_4 : ICode := .ret
def n44_2 : ICode := .seq n44_3 n44_4
def n44_0 : ICode := .seq n44_1 n44_2
theorem b44 : table.find 44 = some ⟨9, n44_0, [.tmp 2, .tmp 3]⟩ := by kernel_rfl
@[simp] theorem en44_1 : evCode C n44_1 R S = regK (runOps C l44_1 R S) := ev_plain rfl
@[simp] theorem en44_3 : evCode C n44_3 R S = regK (runOps C l44_3 R S) := ev_plain rfl
@[simp] theorem en44_4 : evCode C n44_4 R S = some (.ret, R, S) := (rfl)
@[simp] theorem en44_2 : evCode C n44_2 R S = seqK (evCode C n44_3 R S) fun R S => evCode C n44_4 R S := ev_seq
@[simp] theorem en44_0 : evCode C n44_0 R S = seqK (evCode C n44_1 R S) fun R S => evCode C n44_2 R S := ev_seq
theorem q44 {n : Nat} {args : List Value} {S : St} : calls table.find (n + 1) 44 args S = endK S [.tmp 2, .tmp 3] (evCode (calls table.find n) n44_0 (args ++ List.replicate (9 - args.length) undef) S.enter) := call_enter b44

/-! (wainscot/chart.reader).slab -/
@[simp] def l45_1 : List IOper := [oy 2 (.box 91 7 (.t 0)),
  oy 4 (.new 98 [(.int .i64 0), (.int .i64 0), (.bool false), (.bool false), (.slice none 0 0)]),
  oy 5 (.mv (.c (.bool false)))]
def n45_1 : ICode := .region l45_1
@[simp] def l45_3 : List IOper := [oy 8 (.addOff 1 (.t 2)),
  oy 9 (.load true 6 (.t 8)),
  oy 10 (.mv (.t 1)),
  oy 11 (.call (.c (.func (.func 21) #[] #[])) [(.t 9), (.t 10)] true),
  oy 6 (.mv (.t 11))]
def n45_3 : ICode := .region l45_3
@[simp] def l45_5 : List IOper := [oy 12 (.addOff 0 (.t 2)),
  oy 13 (.load false 1 (.t 12)),
  oy 14 (.mv (.t 6)),
  oy 15 (.idxS 1 (.t 13) (.t 14)),
  oy 16 (.load false 1 (.t 15)),
  oy 7 (.mv (.t 16))]
def n45_5 : ICode := .region l45_5
@[simp] def l45_8 : List IOper := [oy 18 (.addOff 0 (.t 2)),
  oy 19 (.load false 1 (.t 18)),
  oy 20 (.mv (.t 6)),
  oy 21 (.bin .add .int (.t 20) (.c (.int .i64 1))),
  oy 22 (.idxS 1 (.t 19) (.t 21)),
  oy 23 (.load false 1 (.t 22)),
  oy 24 (.call (.c (.func (.func 62) #[] #[])) [(.t 23)] true),
  oy 17 (.mv (.t 24)),
  oy 25 (.extract (.t 17) 0),
  oy 26 (.extract (.t 17) 1),
  oy 27 (.addOff 0 (.t 4)),
  ox (.store 4 (.t 27) (.t 25)),
  oy 5 (.mv (.t 26))]
def n45_8 : ICode := .region l45_8
@[simp] def l45_10 : List IOper := [oy 28 (.mv (.t 5)),
  oy 29 (.un .not (.t 28)),
  oy 30 (.mv (.t 29)),
  oz 31 30 false (.mv (.t 7)),
  oz 32 30 false (.addOff 1 (.t 2)),
  oz 33 30 false (.addOff 2 (.t 32)),
  oz 34 30 false (.load false 1 (.t 33)),
  oz 35 30 false (.conv .u64 (.t 34)),
  oz 36 30 false (.bin .gtr .int (.t 31) (.t 35)),
  oy 37 (.pick (.t 30) (.c (.bool true)) (.t 36))]
def n45_10 : ICode := .region l45_10
@[simp] def l45_13 : List IOper := [oy 38 (.build [(.int .i64 0), (.int .i64 0), (.bool false), (.bool false), (.slice none 0 0)] []),
  ox (.store 5 (.t 4) (.t 38)),
  oy 5 (.mv (.c (.bool false)))]
def n45_13 : ICode := .region l45_13
def n45_14 : ICode := .ret
def n45_12 : ICode := .seq n45_13 n45_14
def n45_15 : ICode := .skip
def n45_11 : ICode := .cond (.t 37) n45_12 n45_15
def n45_9 : ICode := .seq n45_10 n45_11
def n45_7 : ICode := .seq n45_8 n45_9
@[simp] def l45_18 : List IOper := [oy 40 (.load true 7 (.t 2)),
  oy 41 (.mv (.t 1)),
  oy 42 (.mv (.t 7)),
  oy 43 (.conv .i64 (.t 42)),
  oy 44 (.bin .sub .int (.t 43) (.c (.int .i64 1))),
  oy 45 (.call (.c (.func (.func 58) #[] #[])) [(.t 40), (.t 41), (.t 44)] true),
  oy 39 (.mv (.t 45)),
  oy 46 (.extract (.t 39) 0),
  oy 47 (.extract (.t 39) 1),
  oy 48 (.addOff 4 (.t 4)),
  ox (.store 1 (.t 48) (.t 46)),
  oy 5 (.mv (.t 47))]
def n45_18 : ICode := .region l45_18
@[simp] def l45_20 : List IOper := [oy 49 (.mv (.t 5)),
  oy 50 (.un .not (.t 49))]
def n45_20 : ICode := .region l45_20
@[simp] def l45_23 : List IOper := [oy 51 (.build [(.int .i64 0), (.int .i64 0), (.bool false), (.bool false), (.slice none 0 0)] []),
  ox (.store 5 (.t 4) (.t 51)),
  oy 5 (.mv (.c (.bool false)))]
def n45_23 : ICode := .region l45_23
def n45_24 : ICode := .ret
def n45_22 : ICode := .seq n45_23 n45_24
def n45_25 : ICode := .skip
def n45_21 : ICode := .cond (.t 50) n45_22 n45_25
def n45_19 : ICode := .seq n45_20 n45_21
def n45_17 : ICode := .seq n45_18 n45_19
@[simp] def l45_27 : List IOper := [oy 52 (.load true 5 (.t 4)),
  ox (.store 5 (.t 4) (.t 52)),
  oy 5 (.mv (.c (.bool true)))]
def n45_27 : ICode := .region l45_27
def n45_28 : ICode := .ret
def n45_26 : ICode := .seq n45_27 n45_28
def n45_16 : ICode := .seq n45_17 n45_26
def n45_6 : ICode := .seq n45_7 n45_16
def n45_4 : ICode := .seq n45_5 n45_6
def n45_2 : ICode := .seq n45_3 n45_4
def n45_0 : ICode := .seq n45_1 n45_2
theorem b45 : table.find 45 = some ⟨53, n45_0, [.cell 4 true 5, .tmp 5]⟩ := by kernel_rfl
@[simp] theorem en45_1 : evCode C n45_1 R S = regK (runOps C l45_1 R S) := ev_plain rfl
@[simp] theorem en45_3 : evCode C n45_3 R S = regK (runOps C l45_3 R S) := ev_plain rfl
@[simp] theorem en45_5 : evCode C n45_5 R S = regK (runOps C l45_5 R S) := ev_plain rfl
@[simp] theorem en45_8 : evCode C n45_8 R S = regK (runOps C l45_8 R S) := ev_plain rfl
@[simp] theorem en45_10 : evCode C n45_10 R S = regK (runOps C l45_10 R S) := ev_plain rfl
@[simp] theorem en45_13 : evCode C n45_13 R S = regK (runOps C l45_13 R S) := ev_plain rfl
@[simp] theorem en45_14 : evCode C n45_14 R S = some (.ret, R, S) := (rfl)
@[simp] theorem en45_12 : evCode C n45_12 R S = seqK (evCode C n45_13 R S) fun R S => evCode C n45_14 R S := ev_seq
@[simp] theorem en45_15 : evCode C n45_15 R S = some (.norm, R, S) := (rfl)
@[simp] theorem en45_11 : evCode C n45_11 R S = condK (IV.ev R (.t 37)) (fun _ => evCode C n45_12 R S) fun _ => evCode C n45_15 R S := ev_cond
@[simp] theorem en45_9 : evCode C n45_9 R S = seqK (evCode C n45_10 R S) fun R S => evCode C n45_11 R S := ev_seq
@[simp] theorem en45_7 : evCode C n45_7 R S = seqK (evCode C n45_8 R S) fun R S => evCode C n45_9 R S := ev_seq
@[simp] theorem en45_18 : evCode C n45_18 R S = regK (runOps C l45_18 R S) := ev_plain rfl
@[simp] theorem en45_20 : evCode C n45_20 R S = regK (runOps C l45_20 R S) := ev_plain rfl
@[simp] theorem en45_23 : evCode C n45_23 R S = regK (runOps C l45_23 R S) := ev_plain rfl
@[simp] theorem en45_24 : evCode C n45_24 R S = some (.ret, R, S) := (rfl)
@[simp] theorem en45_22 : evCode C n45_22 R S = seqK (evCode C n45_23 R S) fun R S => evCode C n45_24 R S := ev_seq
@[simp] theorem en45_25 : evCode C n45_25 R S = some (.norm, R, S) := (rfl)
@[simp] theorem en45_21 : evCode C n45_21 R S = condK (IV.ev R (.t 50)) (fun _ => evCode C n45_22 R S) fun _ => evCode C n45_25 R S := ev_cond
@[simp] theorem en45_19 : evCode C n45_19 R S = seqK (evCode C n45_20 R S) fun R S => evCode C n45_21 R S := ev_seq
@[simp] theorem en45_17 : evCode C n45_17 R S = seqK (evCode C n45_18 R S) fun R S => evCode C n45_19 R S := ev_seq
@[simp] theorem en45_27 : evCode C n45_27 R S = regK (runOps C l45_27 R S) := ev_plain rfl
@[simp] theorem en45_28 : evCode C n45_28 R S = some (.ret, R, S) := (rfl)
@[simp] theorem en45_26 : evCode C n45_26 R S = seqK (evCode C n45_27 R S) fun R S => evCode C n45_28 R S := ev_seq
@[simp] theorem en45_16 : evCode C n45_16 R S = seqK (evCode C n45_17 R S) fun R S => evCode C n45_26 R S := ev_seq
@[simp] theorem en45_6 : evCode C n45_6 R S = seqK (evCode C n45_7 R S) fun R S => evCode C n45_16 R S := ev_seq
@[simp] theorem en45_4 : evCode C n45_4 R S = seqK (evCode C n45_5 R S) fun R S => evCode C n45_6 R S := ev_seq
@[simp] theorem en45_2 : evCode C n45_2 R S = seqK (evCode C n45_3 R S) fun R S => evCode C n45_4 R S := ev_seq
@[simp] theorem en45_0 : evCode C n45_0 R S = seqK (evCode C n45_1 R S) fun R S => evCode C n45_2 R S := ev_seq
theorem q45 {n : Nat} {args : List Value} {S : St} : calls table.find (n + 1) 45 args S = endK S [.cell 4 true 5, .tmp 5] (evCode (calls table.find n) n45_0 (args ++ List.replicate (53 - args.length) undef) S.enter) := call_enter b45

/-! math/bits.RotateLeft64 -/
@[simp] def l54_1 : List IOper := [oy 4 (.mv (.c (.int .u64 0)))]
def n54_1 : ICode := .region l54_1
@[simp] def l54_3 : List IOper := [oy 6 (.mv (.t 1)),
  oy 7 (.conv .u64 (.t 6)),
  oy 8 (.bin .and .int (.t 7) (.c (.int .u64 63))),
  oy 5 (.mv (.t 8))]
def n54_3 : ICode := .region l54_3
@[simp] def l54_5 : List IOper := [oy 9 (.mv (.t 0)),
  oy 10 (.mv (.t 5)),
  oy 11 (.bin .shl .int (.t 9) (.t 10)),
  oy 12 (.mv (.t 0)),
  oy 13 (.mv (.t 5)),
  oy 14 (.bin .sub .int (.c (.int .u64 64)) (.t 13)),
  oy 15 (.bin .shr .int (.t 12) (.t 14)),
  oy 16 (.bin .or .int (.t 11) (.t 15)),
  oy 4 (.mv (.t 16))]
def n54_5 : ICode := .region l54_5
def n54_6 : ICode := .ret
def n54_4 : ICode := .seq n54_5 n54_6
def n54_2 : ICode := .seq n54_3 n54_4
def n54_0 : ICode := .seq n54_1 n54_2
theorem b54 : table.find 54 = some ⟨17, n54_0, [.tmp 4]⟩ := by kernel_rfl
@[simp] theorem en54_1 : evCode C n54_1 R S = regK (runOps C l54_1 R S) := ev_plain rfl
@[simp] theorem en54_3 : evCode C n54_3 R S = regK (runOps C l54_3 R S) := ev_plain rfl
@[simp] theorem en54_5 : evCode C n54_5 R S = regK (runOps C l54_5 R S) := ev_plain rfl
@[simp] theorem en54_6 : evCode C n54_6 R S = some (.ret, R, S) := (rfl)
@[simp] theorem en54_4 : evCode C n54_4 R S = seqK (evCode C n54_5 R S) fun R S => evCode C n54_6 R S := ev_seq
@[simp] theorem en54_2 : evCode C n54_2 R S = seqK (evCode C n54_3 R S) fun R S => evCode C n54_4 R S := ev_seq
@[simp] theorem en54_0 : evCode C n54_0 R S = seqK (evCode C n54_1 R S) fun R S => evCode C n54_2 R S := ev_seq
theorem q54 {n : Nat} {args : List Value} {S : St} : calls table.find (n + 1) 54 args S = endK S [.tmp 4] (evCode (calls table.find n) n54_0 (args ++ List.replicate (17 - args.length) undef) S.enter) := call_enter b54

/-! wainscot/chart.base -/
@[simp] def l55_1 : List IOper := [oy 1 (.box 26 6 (.t 0)),
  oy 2 (.mv (.c (.int .i64 0)))]
def n55_1 : ICode := .region l55_1
@[simp] def l55_3 : List IOper := [oy 3 (.addOff 0 (.t 1)),
  oy 4 (.load false 1 (.t 3)),
  oy 5 (.bin .mul .int (.c (.int .i64 4)) (.t 4)),
  oy 2 (.mv (.t 5))]
def n55_3 : ICode := .region l55_3
def n55_4 : ICode := .ret
def n55_2 : ICode := .seq n55_3 n55_4
def n55_0 : ICode := .seq n55_1 n55_2
theorem b55 : table.find 55 = some ⟨6, n55_0, [.tmp 2]⟩ := by kernel_rfl
@[simp] theorem en55_1 : evCode C n55_1 R S = regK (runOps C l55_1 R S) := ev_plain rfl
@[simp] theorem en55_3 : evCode C n55_3 R S = regK (runOps C l55_3 R S) := ev_plain rfl
@[simp] theorem en55_4 : evCode C n55_4 R S = some (.ret, R, S) := (rfl)
@[simp] theorem en55_2 : evCode C n55_2 R S = seqK (evCode C n55_3 R S) fun R S => evCode C n55_4 R S := ev_seq
@[simp] theorem en55_0 : evCode C n55_0 R S = seqK (evCode C n55_1 R S) fun R S => evCode C n55_2 R S := ev_seq
theorem q55 {n : Nat} {args : List Value} {S : St} : calls table.find (n + 1) 55 args S = endK S [.tmp 2] (evCode (calls table.find n) n55_0 (args ++ List.replicate (6 - args.length) undef) S.enter) := call_enter b55

/-! wainscot/chart.Lock$1 -/
@[simp] def l56_1 : List IOper := [oy 1 (.mv (.c (.int .i64 0)))]
def n56_1 : ICode := .region l56_1
@[simp] def l56_3 : List IOper := [oy 2 (.load true 6 (.t 0)),
  oy 3 (.call (.c (.func (.func 55) #[] #[])) [(.t 2)] true),
  oy 1 (.mv (.t 3))]
def n56_3 : ICode := .region l56_3
def n56_4 : ICode := .ret
def n56_2 : ICode := .seq n56_3 n56_4
def n56_0 : ICode := .seq n56_1 n56_2
theorem b56 : table.find 56 = some ⟨4, n56_0, [.tmp 1]⟩ := by kernel_rfl
@[simp] theorem en56_1 : evCode C n56_1 R S = regK (runOps C l56_1 R S) := ev_plain rfl
@[simp] theorem en56_3 : evCode C n56_3 R S = regK (runOps C l56_3 R S) := ev_plain rfl
@[simp] theorem en56_4 : evCode C n56_4 R S = some (.ret, R, S) := (rfl)
@[simp] theorem en56_2 : evCode C n56_2 R S = seqK (evCode C n56_3 R S) fun R S => evCode C n56_4 R S := ev_seq
@[simp] theorem en56_0 : evCode C n56_0 R S = seqK (evCode C n56_1 R S) fun R S => evCode C n56_2 R S := ev_seq
theorem q56 {n : Nat} {args : List Value} {S : St} : calls table.find (n + 1) 56 args S = endK S [.tmp 1] (evCode (calls table.find n) n56_0 (args ++ List.replicate (4 - args.length) undef) S.enter) := call_enter b56

/-! wainscot/count.HeadOf -/
@[simp] def l57_1 : List IOper := [oy 2 (.mv (.c (.int .i64 0))),
  oy 3 (.mv (.c (.int .i64 0))),
  oy 4 (.mv (.c (.bool false)))]
def n57_1 : ICode := .region l57_1
@[simp] def l57_3 : List IOper := [oy 6 (.mv (.t 0)),
  oy 7 (.call (.c (.func (.func 72) #[] #[])) [(.t 6), (.c (.int .i64 1)), (.c (.int .i64 1)), (.c (.func (.func 73) #[] #[]))] true),
  oy 5 (.mv (.t 7)),
  oy 8 (.extract (.t 5) 0),
  oy 9 (.extract (.t 5) 1),
  oy 10 (.extract (.t 5) 2),
  oy 2 (.mv (.t 8)),
  oy 3 (.mv (.t 9)),
  oy 4 (.mv (.t 10))]
def n57_3 : ICode := .region l57_3
@[simp] def l57_6 : List IOper := [oy 11 (.mv (.t 4)),
  oy 12 (.un .not (.t 11))]
def n57_6 : ICode := .region l57_6
@[simp] def l57_9 : List IOper := [oy 2 (.mv (.c (.int .i64 (-1)))),
  oy 3 (.mv (.c (.int .i64 (-1)))),
  oy 4 (.mv (.c (.bool false)))]
def n57_9 : ICode := .region l57_9
def n57_10 : ICode := .ret
def n57_8 : ICode := .seq n57_9 n57_10
def n57_11 : ICode := .skip
def n57_7 : ICode := .cond (.t 12) n57_8 n57_11
def n57_5 : ICode := .seq n57_6 n57_7
@[simp] def l57_13 : List IOper := [oy 13 (.mv (.t 2)),
  oy 14 (.mv (.t 3)),
  oy 2 (.mv (.t 13)),
  oy 3 (.mv (.t 14)),
  oy 4 (.mv (.c (.bool true)))]
def n57_13 : ICode := .region l57_13
def n57_14 : ICode := .ret
def n57_12 : ICode := .seq n57_13 n57_14
def n57_4 : ICode := .seq n57_5 n57_12
def n57_2 : ICode := .seq n57_3 n57_4
def n57_0 : ICode := .seq n57_1 n57_2
theorem b57 : table.find 57 = some ⟨15, n57_0, [.tmp 2, .tmp 3, .tmp 4]⟩ := by kernel_rfl
@[simp] theorem en57_1 : evCode C n57_1 R S = regK (runOps C l57_1 R S) := ev_plain rfl
@[simp] theorem en57_3 : evCode C n57_3 R S = regK (runOps C l57_3 R S) := ev_plain rfl
@[simp] theorem en57_6 : evCode C n57_6 R S = regK (runOps C l57_6 R S) := ev_plain rfl
@[simp] theorem en57_9 : evCode C n57_9 R S = regK (runOps C l57_9 R S) := ev_plain rfl
@[simp] theorem en57_10 : evCode C n57_10 R S = some (.ret, R, S) := (rfl)
@[simp] theorem en57_8 : evCode C n57_8 R S = seqK (evCode C n57_9 R S) fun R S => evCode C n57_10 R S := ev_seq
@[simp] theorem en57_11 : evCode C n57_11 R S = some (.norm, R, S) := (rfl)
@[simp] theorem en57_7 : evCode C n57_7 R S = condK (IV.ev R (.t 12)) (fun _ => evCode C n57_8 R S) fun _ => evCode C n57_11 R S := ev_cond
@[simp] theorem en57_5 : evCode C n57_5 R S = seqK (evCode C n57_6 R S) fun R S => evCode C n57_7 R S := ev_seq
@[simp] theorem en57_13 : evCode C n57_13 R S = regK (runOps C l57_13 R S) := ev_plain rfl
@[simp] theorem en57_14 : evCode C n57_14 R S = some (.ret, R, S) := (rfl)
@[simp] theorem en57_12 : evCode C n57_12 R S = seqK (evCode C n57_13 R S) fun R S => evCode C n57_14 R S := ev_seq
@[simp] theorem en57_4 : evCode C n57_4 R S = seqK (evCode C n57_5 R S) fun R S => evCode C n57_12 R S := ev_seq
@[simp] theorem en57_2 : evCode C n57_2 R S = seqK (evCode C n57_3 R S) fun R S => evCode C n57_4 R S := ev_seq
@[simp] theorem en57_0 : evCode C n57_0 R S = seqK (evCode C n57_1 R S) fun R S => evCode C n57_2 R S := ev_seq
theorem q57 {n : Nat} {args : List Value} {S : St} : calls table.find (n + 1) 57 args S = endK S [.tmp 2, .tmp 3, .tmp 4] (evCode (calls table.find n) n57_0 (args ++ List.replicate (15 - args.length) undef) S.enter) := call_enter b57

/-! (wainscot/chart.reader).list -/
@[simp] def l58_1 : List IOper := [oy 3 (.box 91 7 (.t 0)),
  oy 6 (.mv (.c (.slice none 0 0))),
  oy 7 (.mv (.c (.bool false)))]
def n58_1 : ICode := .region l58_1
@[simp] def l58_4 : List IOper := [oy 11 (.mv (.t 2)),
  oy 12 (.addOff 1 (.t 3)),
  oy 13 (.addOff 2 (.t 12)),
  oy 14 (.load false 1 (.t 13)),
  oy 15 (.bin .geq .int (.t 11) (.t 14))]
def n58_4 : ICode := .region l58_4
@[simp] def l58_7 : List IOper := [oy 6 (.mv (.c (.slice none 0 0))),
  oy 7 (.mv (.c (.bool false)))]
def n58_7 : ICode := .region l58_7
def n58_8 : ICode := .ret
def n58_6 : ICode := .seq n58_7 n58_8
def n58_9 : ICode := .skip
def n58_5 : ICode := .cond (.t 15) n58_6 n58_9
def n58_3 : ICode := .seq n58_4 n58_5
@[simp] def l58_11 : List IOper := [oy 16 (.addOff 1 (.t 3)),
  oy 17 (.load true 6 (.t 16)),
  oy 18 (.mv (.t 1)),
  oy 19 (.call (.c (.func (.func 18) #[] #[])) [(.t 17), (.t 18), (.c (.int .i64 0))] true),
  oy 8 (.mv (.t 19))]
def n58_11 : ICode := .region l58_11
@[simp] def l58_13 : List IOper := [oy 21 (.addOff 0 (.t 3)),
  oy 22 (.load false 1 (.t 21)),
  oy 23 (.mv (.t 8)),
  oy 24 (.mv (.t 8)),
  oy 25 (.addOff 1 (.t 3)),
  oy 26 (.addOff 2 (.t 25)),
  oy 27 (.load false 1 (.t 26)),
  oy 28 (.bin .add .int (.t 24) (.t 27)),
  oy 29 (.slice 22 (.t 22) (some (.t 23)) (some (.t 28)) none),
  oy 30 (.addOff 1 (.t 3)),
  oy 31 (.load true 6 (.t 30)),
  oy 32 (.mv (.t 1)),
  oy 33 (.call (.c (.func (.func 17) #[] #[])) [(.t 31), (.t 32)] true),
  oy 34 (.mv (.t 2)),
  oy 35 (.call (.c (.func (.func 74) #[] #[])) [(.t 29), (.t 33), (.t 34)] true),
  oy 20 (.mv (.t 35)),
  oy 36 (.extract (.t 20) 0),
  oy 37 (.extract (.t 20) 1),
  oy 9 (.mv (.t 36)),
  oy 10 (.mv (.t 37))]
def n58_13 : ICode := .region l58_13
@[simp] def l58_15 : List IOper := [oy 38 (.mv (.t 9)),
  oy 39 (.mv (.t 10)),
  oy 40 (.bin .eql .int (.t 39) (.c (.int .i64 0))),
  oy 6 (.mv (.t 38)),
  oy 7 (.mv (.t 40))]
def n58_15 : ICode := .region l58_15
def n58_16 : ICode := .ret
def n58_14 : ICode := .seq n58_15 n58_16
def n58_12 : ICode := .seq n58_13 n58_14
def n58_10 : ICode := .seq n58_11 n58_12
def n58_2 : ICode := .seq n58_3 n58_10
def n58_0 : ICode := .seq n58_1 n58_2
theorem b58 : table.find 58 = some ⟨41, n58_0, [.tmp 6, .tmp 7]⟩ := by kernel_rfl
@[simp] theorem en58_1 : evCode C n58_1 R S = regK (runOps C l58_1 R S) := ev_plain rfl
@[simp] theorem en58_4 : evCode C n58_4 R S = regK (runOps C l58_4 R S) := ev_plain rfl
@[simp] theorem en58_7 : evCode C n58_7 R S = regK (runOps C l58_7 R S) := ev_plain rfl
@[simp] theorem en58_8 : evCode C n58_8 R S = some (.ret, R, S) := (rfl)
@[simp] theorem en58_6 : evCode C n58_6 R S = seqK (evCode C n58_7 R S) fun R S => evCode C n58_8 R S := ev_seq
@[simp] theorem en58_9 : evCode C n58_9 R S = some (.norm, R, S) := (rfl)
@[simp] theorem en58_5 : evCode C n58_5 R S = condK (IV.ev R (.t 15)) (fun _ => evCode C n58_6 R S) fun _ => evCode C n58_9 R S := ev_cond
@[simp] theorem en58_3 : evCode C n58_3 R S = seqK (evCode C n58_4 R S) fun R S => evCode C n58_5 R S := ev_seq
@[simp] theorem en58_11 : evCode C n58_11 R S = regK (runOps C l58_11 R S) := ev_plain rfl
@[simp] theorem en58_13 : evCode C n58_13 R S = regK (runOps C l58_13 R S) := ev_plain rfl
@[simp] theorem en58_15 : evCode C n58_15 R S = regK (runOps C l58_15 R S) := ev_plain rfl
@[simp] theorem en58_16 : evCode C n58_16 R S = some (.ret, R, S) := (rfl)
@[simp] theorem en58_14 : evCode C n58_14 R S = seqK (evCode C n58_15 R S) fun R S => evCode C n58_16 R S := ev_seq
@[simp] theorem en58_12 : evCode C n58_12 R S = seqK (evCode C n58_13 R S) fun R S => evCode C n58_14 R S := ev_seq
@[simp] theorem en58_10 : evCode C n58_10 R S = seqK (evCode C n58_11 R S) fun R S => evCode C n58_12 R S := ev_seq
@[simp] theorem en58_2 : evCode C n58_2 R S = seqK (evCode C n58_3 R S) fun R S => evCode C n58_10 R S := ev_seq
@[simp] theorem en58_0 : evCode C n58_0 R S = seqK (evCode C n58_1 R S) fun R S => evCode C n58_2 R S := ev_seq
theorem q58 {n : Nat} {args : List Value} {S : St} : calls table.find (n + 1) 58 args S = endK S [.tmp 6, .tmp 7] (evCode (calls table.find n) n58_0 (args ++ List.replicate (41 - args.length) undef) S.enter) := call_enter b58

/-! wainscot/chart.partOf -/
@[simp] def l59_1 : List IOper := [oy 2 (.mv (.c (.int .i64 0))),
  oy 3 (.mv (.c (.bool false)))]
def n59_1 : ICode := .region l59_1
@[simp] def l59_3 : List IOper := [oy 8 (.mv (.t 0)),
  oy 9 (.call (.c (.func (.func 75) #[] #[])) [(.t 8)] true),
  oy 7 (.mv (.t 9)),
  oy 10 (.extract (.t 7) 0),
  oy 11 (.extract (.t 7) 1),
  oy 12 (.extract (.t 7) 2),
  oy 4 (.mv (.t 10)),
  oy 5 (.mv (.t 11)),
  oy 6 (.mv (.t 12))]
def n59_3 : ICode := .region l59_3
@[simp] def l59_5 : List IOper := [oy 13 (.mv (.t 4)),
  oy 14 (.mv (.t 6)),
  oy 2 (.mv (.t 13)),
  oy 3 (.mv (.t 14))]
def n59_5 : ICode := .region l59_5
def n59_6 : ICode := .ret
def n59_4 : ICode := .seq n59_5 n59_6
def n59_2 : ICode := .seq n59_3 n59_4
def n59_0 : ICode := .seq n59_1 n59_2
theorem b59 : table.find 59 = some ⟨15, n59_0, [.tmp 2, .tmp 3]⟩ := by kernel_rfl
@[simp] theorem en59_1 : evCode C n59_1 R S = regK (runOps C l59_1 R S) := ev_plain rfl
@[simp] theorem en59_3 : evCode C n59_3 R S = regK (runOps C l59_3 R S) := ev_plain rfl
@[simp] theorem en59_5 : evCode C n59_5 R S = regK (runOps C l59_5 R S) := ev_plain rfl
@[simp] theorem en59_6 : evCode C n59_6 R S = some (.ret, R, S) := (rfl)
@[simp] theorem en59_4 : evCode C n59_4 R S = seqK (evCode C n59_5 R S) fun R S => evCode C n59_6 R S := ev_seq
@[simp] theorem en59_2 : evCode C n59_2 R S = seqK (evCode C n59_3 R S) fun R S => evCode C n59_4 R S := ev_seq
@[simp] theorem en59_0 : evCode C n59_0 R S = seqK (evCode C n59_1 R S) fun R S => evCode C n59_2 R S := ev_seq
theorem q59 {n : Nat} {args : List Value} {S : St} : calls table.find (n + 1) 59 args S = endK S [.tmp 2, .tmp 3] (evCode (calls table.find n) n59_0 (args ++ List.replicate (15 - args.length) undef) S.enter) := call_enter b59

/-! wainscot/chart.Next -/
@[simp] def l60_1 : List IOper := [oy 2 (.box 26 6 (.t 0)),
  oy 3 (.box 3 1 (.t 1)),
  oy 4 (.mv (.c (.int .i64 0)))]
def n60_1 : ICode := .region l60_1
@[simp] def l60_3 : List IOper := [oy 5 (.load true 6 (.t 2)),
  oy 6 (.load false 1 (.t 3)),
  oy 7 (.addOff 1 (.t 2)),
  oy 8 (.load false 1 (.t 7)),
  oy 9 (.mkFunc 76 [] [(.t 2), (.t 3)]),
  oy 10 (.call (.c (.func (.func 30) #[] #[])) [(.t 5), (.t 6), (.t 8), (.t 9)] true),
  oy 4 (.mv (.t 10))]
def n60_3 : ICode := .region l60_3
def n60_4 : ICode := .ret
def n60_2 : ICode := .seq n60_3 n60_4
def n60_0 : ICode := .seq n60_1 n60_2
theorem b60 : table.find 60 = some ⟨11, n60_0, [.tmp 4]⟩ := by kernel_rfl
@[simp] theorem en60_1 : evCode C n60_1 R S = regK (runOps C l60_1 R S) := ev_plain rfl
@[simp] theorem en60_3 : evCode C n60_3 R S = regK (runOps C l60_3 R S) := ev_plain rfl
@[simp] theorem en60_4 : evCode C n60_4 R S = some (.ret, R, S) := (rfl)
@[simp] theorem en60_2 : evCode C n60_2 R S = seqK (evCode C n60_3 R S) fun R S => evCode C n60_4 R S := ev_seq
@[simp] theorem en60_0 : evCode C n60_0 R S = seqK (evCode C n60_1 R S) fun R S => evCode C n60_2 R S := ev_seq
theorem q60 {n : Nat} {args : List Value} {S : St} : calls table.find (n + 1) 60 args S = endK S [.tmp 4] (evCode (calls table.find n) n60_0 (args ++ List.replicate (11 - args.length) undef) S.enter) := call_enter b60

/-! wainscot/chart.Shelf$1 -/
@[simp] def l61_1 : List IOper := [oy 1 (.mv (.c (.int .i64 0)))]
def n61_1 : ICode := .region l61_1
@[simp] def l61_3 : List IOper := [oy 2 (.load true 6 (.t 0)),
  oy 3 (.call (.c (.func (.func 55) #[] #[])) [(.t 2)] true),
  oy 4 (.bin .add .int (.t 3) (.c (.int .i64 1))),
  oy 1 (.mv (.t 4))]
def n61_3 : ICode := .region l61_3
def n61_4 : ICode := .ret
def n61_2 : ICode := .seq n61_3 n61_4
def n61_0 : ICode := .seq n61_1 n61_2
theorem b61 : table.find 61 = some ⟨5, n61_0, [.tmp 1]⟩ := by kernel_rfl
@[simp] theorem en61_1 : evCode C n61_1 R S = regK (runOps C l61_1 R S) := ev_plain rfl
@[simp] theorem en61_3 : evCode C n61_3 R S = regK (runOps C l61_3 R S) := ev_plain rfl
@[simp] theorem en61_4 : evCode C n61_4 R S = some (.ret, R, S) := (rfl)
@[simp] theorem en61_2 : evCode C n61_2 R S = seqK (evCode C n61_3 R S) fun R S => evCode C n61_4 R S := ev_seq
@[simp] theorem en61_0 : evCode C n61_0 R S = seqK (evCode C n61_1 R S) fun R S => evCode C n61_2 R S := ev_seq
theorem q61 {n : Nat} {args : List Value} {S : St} : calls table.find (n + 1) 61 args S = endK S [.tmp 1] (evCode (calls table.find n) n61_0 (args ++ List.replicate (5 - args.length) undef) S.enter) := call_enter b61

/-! wainscot/count.Counts -/
@[simp] def l62_1 : List IOper := [oy 2 (.new 62 [(.int .i64 0), (.int .i64 0), (.bool false), (.bool false)]),
  oy 3 (.mv (.c (.bool false)))]
def n62_1 : ICode := .region l62_1
@[simp] def l62_3 : List IOper := [oy 5 (.mv (.t 0)),
  oy 6 (.bin .and .int (.t 5) (.c (.int .u64 255))),
  oy 7 (.conv .i64 (.t 6)),
  oy 8 (.mv (.t 0)),
  oy 9 (.bin .shr .int (.t 8) (.c (.int .u64 8))),
  oy 10 (.bin .and .int (.t 9) (.c (.int .u64 255))),
  oy 11 (.conv .i64 (.t 10)),
  oy 12 (.mv (.t 0)),
  oy 13 (.bin .and .int (.t 12) (.c (.int .u64 65536))),
  oy 14 (.bin .neq .int (.t 13) (.c (.int .u64 0))),
  oy 15 (.mv (.t 0)),
  oy 16 (.bin .and .int (.t 15) (.c (.int .u64 131072))),
  oy 17 (.bin .neq .int (.t 16) (.c (.int .u64 0))),
  oy 18 (.build [(.int .i64 0), (.int .i64 0), (.bool false), (.bool false)] [(0, 1, (.t 7)), (1, 1, (.t 11)), (2, 1, (.t 14)), (3, 1, (.t 17))]),
  oy 4 (.new 62 [(.int .i64 0), (.int .i64 0), (.bool false), (.bool false)]),
  ox (.store 4 (.t 4) (.t 18))]
def n62_3 : ICode := .region l62_3
@[simp] def l62_6 : List IOper := [oy 19 (.mv (.t 0)),
  oy 20 (.bin .geq .int (.t 19) (.c (.int .u64 262144))),
  oy 21 (.mv (.t 20)),
  oz 22 21 false (.load true 4 (.t 4)),
  oz 23 21 false (.call (.c (.func (.func 36) #[] #[])) [(.t 22)] true),
  oz 24 21 false (.un .not (.t 23)),
  oy 25 (.pick (.t 21) (.c (.bool true)) (.t 24))]
def n62_6 : ICode := .region l62_6
@[simp] def l62_9 : List IOper := [oy 26 (.build [(.int .i64 0), (.int .i64 0), (.bool false), (.bool false)] []),
  ox (.store 4 (.t 2) (.t 26)),
  oy 3 (.mv (.c (.bool false)))]
def n62_9 : ICode := .region l62_9
def n62_10 : ICode := .ret
def n62_8 : ICode := .seq n62_9 n62_10
def n62_11 : ICode := .skip
def n62_7 : ICode := .cond (.t 25) n62_8 n62_11
def n62_5 : ICode := .seq n62_6 n62_7
@[simp] def l62_13 : List IOper := [oy 27 (.load true 4 (.t 4)),
  ox (.store 4 (.t 2) (.t 27)),
  oy 3 (.mv (.c (.bool true)))]
def n62_13 : ICode := .region l62_13
def n62_14 : ICode := .ret
def n62_12 : ICode := .seq n62_13 n62_14
def n62_4 : ICode := .seq n62_5 n62_12
def n62_2 : ICode := .seq n62_3 n62_4
def n62_0 : ICode := .seq n62_1 n62_2
theorem b62 : table.find 62 = some ⟨28, n62_0, [.cell 2 true 4, .tmp 3]⟩ := by kernel_rfl
@[simp] theorem en62_1 : evCode C n62_1 R S = regK (runOps C l62_1 R S) := ev_plain rfl
@[simp] theorem en62_3 : evCode C n62_3 R S = regK (runOps C l62_3 R S) := ev_plain rfl
@[simp] theorem en62_6 : evCode C n62_6 R S = regK (runOps C l62_6 R S) := ev_plain rfl
@[simp] theorem en62_9 : evCode C n62_9 R S = regK (runOps C l62_9 R S) := ev_plain rfl
@[simp] theorem en62_10 : evCode C n62_10 R S = some (.ret, R, S) := (rfl)
@[simp] theorem en62_8 : evCode C n62_8 R S = seqK (evCode C n62_9 R S) fun R S => evCode C n62_10 R S := ev_seq
@[simp] theorem en62_11 : evCode C n62_11 R S = some (.norm, R, S) := (rfl)
@[simp] theorem en62_7 : evCode C n62_7 R S = condK (IV.ev R (.t 25)) (fun _ => evCode C n62_8 R S) fun _ => evCode C n62_11 R S := ev_cond
@[simp] theorem en62_5 : evCode C n62_5 R S = seqK (evCode C n62_6 R S) fun R S => evCode C n62_7 R S := ev_seq
@[simp] theorem en62_13 : evCode C n62_13 R S = regK (runOps C l62_13 R S) := ev_plain rfl
@[simp] theorem en62_14 : evCode C n62_14 R S = some (.ret, R, S) := (rfl)
@[simp] theorem en62_12 : evCode C n62_12 R S = seqK (evCode C n62_13 R S) fun R S => evCode C n62_14 R S := ev_seq
@[simp] theorem en62_4 : evCode C n62_4 R S = seqK (evCode C n62_5 R S) fun R S => evCode C n62_12 R S := ev_seq
@[simp] theorem en62_2 : evCode C n62_2 R S = seqK (evCode C n62_3 R S) fun R S => evCode C n62_4 R S := ev_seq
@[simp] theorem en62_0 : evCode C n62_0 R S = seqK (evCode C n62_1 R S) fun R S => evCode C n62_2 R S := ev_seq
theorem q62 {n : Nat} {args : List Value} {S : St} : calls table.find (n + 1) 62 args S = endK S [.cell 2 true 4, .tmp 3] (evCode (calls table.find n) n62_0 (args ++ List.replicate (28 - args.length) undef) S.enter) := call_enter b62

/-! wainscot/link.Show -/
@[simp] def l67_1 : List IOper := [oy 6 (.mv (.c (.int .i64 0))),
  oy 7 (.mv (.c (.bool false)))]
def n67_1 : ICode := .region l67_1
@[simp] def l67_4 : List IOper := [oy 8 (.mv (.t 2)),
  oy 9 (.call (.c (.func (.func 78) #[] #[])) [(.t 8)] true),
  oy 10 (.un .not (.t 9))]
def n67_4 : ICode := .region l67_4
@[simp] def l67_7 : List IOper := [oy 6 (.mv (.c (.int .i64 0))),
  oy 7 (.mv (.c (.bool false)))]
def n67_7 : ICode := .region l67_7
def n67_8 : ICode := .ret
def n67_6 : ICode := .seq n67_7 n67_8
def n67_9 : ICode := .skip
def n67_5 : ICode := .cond (.t 10) n67_6 n67_9
def n67_3 : ICode := .seq n67_4 n67_5
@[simp] def l67_12 : List IOper := [oy 11 (.mv (.t 0)),
  oy 12 (.mv (.t 1)),
  oy 13 (.mv (.t 2)),
  oy 14 (.call (.c (.func (.func 33) #[] #[])) [(.t 12), (.t 13)] true),
  oy 15 (.bin .xor .int (.t 11) (.t 14)),
  oy 0 (.mv (.t 15))]
def n67_12 : ICode := .region l67_12
@[simp] def l67_14 : List IOper := [oy 16 (.mv (.t 0)),
  oy 17 (.bin .gtr .int (.t 16) (.c (.int .u64 16)))]
def n67_14 : ICode := .region l67_14
@[simp] def l67_17 : List IOper := [oy 6 (.mv (.c (.int .i64 0))),
  oy 7 (.mv (.c (.bool false)))]
def n67_17 : ICode := .region l67_17
def n67_18 : ICode := .ret
def n67_16 : ICode := .seq n67_17 n67_18
def n67_19 : ICode := .skip
def n67_15 : ICode := .cond (.t 17) n67_16 n67_19
def n67_13 : ICode := .seq n67_14 n67_15
def n67_11 : ICode := .seq n67_12 n67_13
@[simp] def l67_21 : List IOper := [oy 18 (.mv (.t 0)),
  oy 19 (.conv .i64 (.t 18)),
  oy 20 (.bin .sub .int (.t 19) (.c (.int .i64 1))),
  oy 6 (.mv (.t 20)),
  oy 7 (.mv (.c (.bool true)))]
def n67_21 : ICode := .region l67_21
def n67_22 : ICode := .ret
def n67_20 : ICode := .seq n67_21 n67_22
def n67_10 : ICode := .seq n67_11 n67_20
def n67_2 : ICode := .seq n67_3 n67_10
def n67_0 : ICode := .seq n67_1 n67_2
theorem b67 : table.find 67 = some ⟨21, n67_0, [.tmp 6, .tmp 7]⟩ := by kernel_rfl
@[simp] theorem en67_1 : evCode C n67_1 R S = regK (runOps C l67_1 R S) := ev_plain rfl
@[simp] theorem en67_4 : evCode C n67_4 R S = regK (runOps C l67_4 R S) := ev_plain rfl
@[simp] theorem en67_7 : evCode C n67_7 R S = regK (runOps C l67_7 R S) := ev_plain rfl
@[simp] theorem en67_8 : evCode C n67_8 R S = some (.ret, R, S) := (rfl)
@[simp] theorem en67_6 : evCode C n67_6 R S = seqK (evCode C n67_7 R S) fun R S => evCode C n67_8 R S := ev_seq
@[simp] theorem en67_9 : evCode C n67_9 R S = some (.norm, R, S) := (rfl)
@[simp] theorem en67_5 : evCode C n67_5 R S = condK (IV.ev R (.t 10)) (fun _ => evCode C n67_6 R S) fun _ => evCode C n67_9 R S := ev_cond
@[simp] theorem en67_3 : evCode C n67_3 R S = seqK (evCode C n67_4 R S) fun R S => evCode C n67_5 R S := ev_seq
@[simp] theorem en67_12 : evCode C n67_12 R S = regK (runOps C l67_12 R S) := ev_plain rfl
@[simp] theorem en67_14 : evCode C n67_14 R S = regK (runOps C l67_14 R S) := ev_plain rfl
@[simp] theorem en67_17 : evCode C n67_17 R S = regK (runOps C l67_17 R S) := ev_plain rfl
@[simp] theorem en67_18 : evCode C n67_18 R S = some (.ret, R, S) := (rfl)
@[simp] theorem en67_16 : evCode C n67_16 R S = seqK (evCode C n67_17 R S) fun R S => evCode C n67_18 R S := ev_seq
@[simp] theorem en67_19 : evCode C n67_19 R S = some (.norm, R, S) := (rfl)
@[simp] theorem en67_15 : evCode C n67_15 R S = condK (IV.ev R (.t 17)) (fun _ => evCode C n67_16 R S) fun _ => evCode C n67_19 R S := ev_cond
@[simp] theorem en67_13 : evCode C n67_13 R S = seqK (evCode C n67_14 R S) fun R S => evCode C n67_15 R S := ev_seq
@[simp] theorem en67_11 : evCode C n67_11 R S = seqK (evCode C n67_12 R S) fun R S => evCode C n67_13 R S := ev_seq
@[simp] theorem en67_21 : evCode C n67_21 R S = regK (runOps C l67_21 R S) := ev_plain rfl
@[simp] theorem en67_22 : evCode C n67_22 R S = some (.ret, R, S) := (rfl)
@[simp] theorem en67_20 : evCode C n67_20 R S = seqK (evCode C n67_21 R S) fun R S => evCode C n67_22 R S := ev_seq
@[simp] theorem en67_10 : evCode C n67_10 R S = seqK (evCode C n67_11 R S) fun R S => evCode C n67_20 R S := ev_seq
@[simp] theorem en67_2 : evCode C n67_2 R S = seqK (evCode C n67_3 R S) fun R S => evCode C n67_10 R S := ev_seq
@[simp] theorem en67_0 : evCode C n67_0 R S = seqK (evCode C n67_1 R S) fun R S => evCode C n67_2 R S := ev_seq
theorem q67 {n : Nat} {args : List Value} {S : St} : calls table.find (n + 1) 67 args S = endK S [.tmp 6, .tmp 7] (evCode (calls table.find n) n67_0 (args ++ List.replicate (21 - args.length) undef) S.enter) := call_enter b67

/-! wainscot/count.told[int] -/
@[simp] def l72_1 : List IOper := [oy 8 (.mv (.c (.int .i64 0))),
  oy 9 (.mv (.c (.int .i64 0))),
  oy 10 (.mv (.c (.bool false)))]
def n72_1 : ICode := .region l72_1
@[simp] def l72_3 : List IOper := [oy 13 (.mv (.t 0)),
  oy 14 (.bin .shr .int (.t 13) (.c (.int .u64 6))),
  oy 15 (.conv .i64 (.t 14)),
  oy 16 (.mv (.t 1)),
  oy 17 (.bin .sub .int (.t 15) (.t 16)),
  oy 18 (.mv (.t 0)),
  oy 19 (.bin .and .int (.t 18) (.c (.int .u64 63))),
  oy 20 (.conv .i64 (.t 19)),
  oy 21 (.mv (.t 2)),
  oy 22 (.bin .sub .int (.t 20) (.t 21)),
  oy 11 (.mv (.t 17)),
  oy 12 (.mv (.t 22))]
def n72_3 : ICode := .region l72_3
@[simp] def l72_6 : List IOper := [oy 23 (.mv (.t 0)),
  oy 24 (.bin .gtr .int (.t 23) (.c (.int .u64 4095))),
  oy 25 (.mv (.t 24)),
  oz 26 25 false (.mv (.t 3)),
  oz 27 25 false (.mv (.t 11)),
  oz 28 25 false (.mv (.t 12)),
  oz 29 25 false (.call (.t 26) [(.t 27), (.t 28)] false),
  oz 30 25 false (.un .not (.t 29)),
  oy 31 (.pick (.t 25) (.c (.bool true)) (.t 30))]
def n72_6 : ICode := .region l72_6
@[simp] def l72_9 : List IOper := [oy 8 (.mv (.c (.int .i64 0))),
  oy 9 (.mv (.c (.int .i64 0))),
  oy 10 (.mv (.c (.bool false)))]
def n72_9 : ICode := .region l72_9
def n72_10 : ICode := .ret
def n72_8 : ICode := .seq n72_9 n72_10
def n72_11 : ICode := .skip
def n72_7 : ICode := .cond (.t 31) n72_8 n72_11
def n72_5 : ICode := .seq n72_6 n72_7
@[simp] def l72_13 : List IOper := [oy 32 (.mv (.t 11)),
  oy 33 (.mv (.t 12)),
  oy 8 (.mv (.t 32)),
  oy 9 (.mv (.t 33)),
  oy 10 (.mv (.c (.bool true)))]
def n72_13 : ICode := .region l72_13
def n72_14 : ICode := .ret
def n72_12 : ICode := .seq n72_13 n72_14
def n72_4 : ICode := .seq n72_5 n72_12
def n72_2 : ICode := .seq n72_3 n72_4
def n72_0 : ICode := .seq n72_1 n72_2
theorem b72 : table.find 72 = some ⟨34, n72_0, [.tmp 8, .tmp 9, .tmp 10]⟩ := by kernel_rfl
@[simp] theorem en72_1 : evCode C n72_1 R S = regK (runOps C l72_1 R S) := ev_plain rfl
@[simp] theorem en72_3 : evCode C n72_3 R S = regK (runOps C l72_3 R S) := ev_plain rfl
@[simp] theorem en72_6 : evCode C n72_6 R S = regK (runOps C l72_6 R S) := ev_plain rfl
@[simp] theorem en72_9 : evCode C n72_9 R S = regK (runOps C l72_9 R S) := ev_plain rfl
@[simp] theorem en72_10 : evCode C n72_10 R S = some (.ret, R, S) := (rfl)
@[simp] theorem en72_8 : evCode C n72_8 R S = seqK (evCode C n72_9 R S) fun R S => evCode C n72_10 R S := ev_seq
@[simp] theorem en72_11 : evCode C n72_11 R S = some (.norm, R, S) := (rfl)
@[simp] theorem en72_7 : evCode C n72_7 R S = condK (IV.ev R (.t 31)) (fun _ => evCode C n72_8 R S) fun _ => evCode C n72_11 R S := ev_cond
@[simp] theorem en72_5 : evCode C n72_5 R S = seqK (evCode C n72_6 R S) fun R S => evCode C n72_7 R S := ev_seq
@[simp] theorem en72_13 : evCode C n72_13 R S = regK (runOps C l72_13 R S) := ev_plain rfl
@[simp] theorem en72_14 : evCode C n72_14 R S = some (.ret, R, S) := (rfl)
@[simp] theorem en72_12 : evCode C n72_12 R S = seqK (evCode C n72_13 R S) fun R S => evCode C n72_14 R S := ev_seq
@[simp] theorem en72_4 : evCode C n72_4 R S = seqK (evCode C n72_5 R S) fun R S => evCode C n72_12 R S := ev_seq
@[simp] theorem en72_2 : evCode C n72_2 R S = seqK (evCode C n72_3 R S) fun R S => evCode C n72_4 R S := ev_seq
@[simp] theorem en72_0 : evCode C n72_0 R S = seqK (evCode C n72_1 R S) fun R S => evCode C n72_2 R S := ev_seq
theorem q72 {n : Nat} {args : List Value} {S : St} : calls table.find (n + 1) 72 args S = endK S [.tmp 8, .tmp 9, .tmp 10] (evCode (calls table.find n) n72_0 (args ++ List.replicate (34 - args.length) undef) S.enter) := call_enter b72

/-! wainscot/count.HeadOf$1 -/
@[simp] def l73_1 : List IOper := [oy 4 (.mv (.c (.bool false)))]
def n73_1 : ICode := .region l73_1
@[simp] def l73_3 : List IOper := [oy 8 (.mv (.t 0)),
  oy 9 (.mv (.t 1)),
  oy 10 (.call (.c (.func (.func 19) #[] #[])) [(.t 8), (.t 9)] true),
  oy 7 (.mv (.t 10)),
  oy 11 (.extract (.t 7) 0),
  oy 12 (.extract (.t 7) 1),
  oy 5 (.mv (.t 11)),
  oy 6 (.mv (.t 12))]
def n73_3 : ICode := .region l73_3
@[simp] def l73_5 : List IOper := [oy 13 (.mv (.t 6)),
  oy 14 (.bin .eql .int (.t 13) (.c (.int .i64 0))),
  oy 4 (.mv (.t 14))]
def n73_5 : ICode := .region l73_5
def n73_6 : ICode := .ret
def n73_4 : ICode := .seq n73_5 n73_6
def n73_2 : ICode := .seq n73_3 n73_4
def n73_0 : ICode := .seq n73_1 n73_2
theorem b73 : table.find 73 = some ⟨15, n73_0, [.tmp 4]⟩ := by kernel_rfl
@[simp] theorem en73_1 : evCode C n73_1 R S = regK (runOps C l73_1 R S) := ev_plain rfl
@[simp] theorem en73_3 : evCode C n73_3 R S = regK (runOps C l73_3 R S) := ev_plain rfl
@[simp] theorem en73_5 : evCode C n73_5 R S = regK (runOps C l73_5 R S) := ev_plain rfl
@[simp] theorem en73_6 : evCode C n73_6 R S = some (.ret, R, S) := (rfl)
@[simp] theorem en73_4 : evCode C n73_4 R S = seqK (evCode C n73_5 R S) fun R S => evCode C n73_6 R S := ev_seq
@[simp] theorem en73_2 : evCode C n73_2 R S = seqK (evCode C n73_3 R S) fun R S => evCode C n73_4 R S := ev_seq
@[simp] theorem en73_0 : evCode C n73_0 R S = seqK (evCode C n73_1 R S) fun R S => evCode C n73_2 R S := ev_seq
theorem q73 {n : Nat} {args : List Value} {S : St} : calls table.find (n + 1) 73 args S = endK S [.tmp 4] (evCode (calls table.find n) n73_0 (args ++ List.replicate (15 - args.length) undef) S.enter) := call_enter b73

/-! wainscot/link.List -/
@[simp] def l74_1 : List IOper := [oy 6 (.mv (.c (.slice none 0 0))),
  oy 7 (.mv (.c (.int .i64 0)))]
def n74_1 : ICode := .region l74_1
@[simp] def l74_4 : List IOper := [oy 12 (.mv (.t 0)),
  oy 13 (.lenS (.t 12)),
  oy 14 (.bin .gtr .int (.t 13) (.c (.int .i64 16))),
  oy 15 (.mv (.t 14)),
  oz 16 15 false (.mv (.t 2)),
  oz 17 15 false (.bin .lss .int (.t 16) (.c (.int .i64 (-1)))),
  oy 18 (.pick (.t 15) (.c (.bool true)) (.t 17)),
  oy 19 (.mv (.t 18)),
  oz 20 19 false (.mv (.t 2)),
  oz 21 19 false (.mv (.t 0)),
  oz 22 19 false (.lenS (.t 21)),
  oz 23 19 false (.bin .geq .int (.t 20) (.t 22)),
  oy 24 (.pick (.t 19) (.c (.bool true)) (.t 23))]
def n74_4 : ICode := .region l74_4
@[simp] def l74_7 : List IOper := [oy 6 (.mv (.c (.slice none 0 0))),
  oy 7 (.mv (.c (.int .i64 2)))]
def n74_7 : ICode := .region l74_7
def n74_8 : ICode := .ret
def n74_6 : ICode := .seq n74_7 n74_8
def n74_9 : ICode := .skip
def n74_5 : ICode := .cond (.t 24) n74_6 n74_9
def n74_3 : ICode := .seq n74_4 n74_5
@[simp] def l74_11 : List IOper := [oy 8 (.new 125 [(.bool false), (.bool false), (.bool false), (.bool false), (.bool false), (.bool false), (.bool false), (.bool false), (.bool false), (.bool false), (.bool false), (.bool false), (.bool false), (.bool false), (.bool false), (.bool false)])]
def n74_11 : ICode := .region l74_11
@[simp] def l74_13 : List IOper := [oy 9 (.mv (.c (.slice none 0 0)))]
def n74_13 : ICode := .region l74_13
def n74_15 : ICode := .skip
@[simp] def l74_22 : List IOper := [oy 26 (.mv (.t 2)),
  oy 27 (.bin .eql .int (.t 26) (.c (.int .i64 (-1)))),
  oy 25 (.mv (.t 27))]
def n74_22 : ICode := .region l74_22
def n74_24 : ICode := .exit 0
@[simp] def l74_26 : List IOper := [oy 29 (.mv (.t 2)),
  oy 30 (.idxA 16 1 (.t 8) (.t 29)),
  oy 31 (.load false 1 (.t 30)),
  oy 28 (.mv (.t 31))]
def n74_26 : ICode := .region l74_26
@[simp] def l74_29 : List IOper := [oy 6 (.mv (.c (.slice none 0 0))),
  oy 7 (.mv (.c (.int .i64 150)))]
def n74_29 : ICode := .region l74_29
def n74_30 : ICode := .ret
def n74_28 : ICode := .seq n74_29 n74_30
def n74_31 : ICode := .skip
def n74_27 : ICode := .cond (.t 28) n74_28 n74_31
def n74_25 : ICode := .seq n74_26 n74_27
def n74_23 : ICode := .cond (.t 25) n74_24 n74_25
def n74_21 : ICode := .seq n74_22 n74_23
def n74_20 : ICode := .block 2 n74_21
@[simp] def l74_33 : List IOper := [oy 32 (.mv (.t 2)),
  oy 33 (.idxA 16 1 (.t 8) (.t 32)),
  ox (.store 1 (.t 33) (.c (.bool true)))]
def n74_33 : ICode := .region l74_33
@[simp] def l74_35 : List IOper := [oy 34 (.mv (.t 9)),
  oy 35 (.mv (.t 2)),
  oy 36 (.buildSlice 3 [(.int .i64 0)] 1 [(0, 1, (.t 35))]),
  oy 37 (.append 3 1 8 (.t 34) (.t 36)),
  oy 9 (.mv (.t 37))]
def n74_35 : ICode := .region l74_35
@[simp] def l74_37 : List IOper := [oy 39 (.mv (.t 0)),
  oy 40 (.mv (.t 2)),
  oy 41 (.idxS 1 (.t 39) (.t 40)),
  oy 42 (.load false 1 (.t 41)),
  oy 43 (.mv (.t 1)),
  oy 44 (.mv (.t 2)),
  oy 45 (.call (.c (.func (.func 67) #[] #[])) [(.t 42), (.t 43), (.t 44)] true),
  oy 38 (.mv (.t 45)),
  oy 46 (.extract (.t 38) 0),
  oy 47 (.extract (.t 38) 1),
  oy 10 (.mv (.t 46)),
  oy 11 (.mv (.t 47))]
def n74_37 : ICode := .region l74_37
@[simp] def l74_40 : List IOper := [oy 48 (.mv (.t 11)),
  oy 49 (.un .not (.t 48)),
  oy 50 (.mv (.t 49)),
  oz 51 50 false (.mv (.t 10)),
  oz 52 50 false (.mv (.t 0)),
  oz 53 50 false (.lenS (.t 52)),
  oz 54 50 false (.bin .geq .int (.t 51) (.t 53)),
  oy 55 (.pick (.t 50) (.c (.bool true)) (.t 54))]
def n74_40 : ICode := .region l74_40
@[simp] def l74_43 : List IOper := [oy 6 (.mv (.c (.slice none 0 0))),
  oy 7 (.mv (.c (.int .i64 150)))]
def n74_43 : ICode := .region l74_43
def n74_44 : ICode := .ret
def n74_42 : ICode := .seq n74_43 n74_44
def n74_45 : ICode := .skip
def n74_41 : ICode := .cond (.t 55) n74_42 n74_45
def n74_39 : ICode := .seq n74_40 n74_41
@[simp] def l74_46 : List IOper := [oy 56 (.mv (.t 10)),
  oy 2 (.mv (.t 56))]
def n74_46 : ICode := .region l74_46
def n74_38 : ICode := .seq n74_39 n74_46
def n74_36 : ICode := .seq n74_37 n74_38
def n74_34 : ICode := .seq n74_35 n74_36
def n74_32 : ICode := .seq n74_33 n74_34
def n74_19 : ICode := .seq n74_20 n74_32
def n74_18 : ICode := .block 1 n74_19
def loop74_0 : ICode := .loop n74_18
def n74_17 : ICode := .block 0 loop74_0
@[simp] def l74_48 : List IOper := [oy 57 (.mv (.t 9)),
  oy 6 (.mv (.t 57)),
  oy 7 (.mv (.c (.int .i64 0)))]
def n74_48 : ICode := .region l74_48
def n74_49 : ICode := .ret
def n74_47 : ICode := .seq n74_48 n74_49
def n74_16 : ICode := .seq n74_17 n74_47
def n74_14 : ICode := .seq n74_15 n74_16
def n74_12 : ICode := .seq n74_13 n74_14
def n74_10 : ICode := .seq n74_11 n74_12
def n74_2 : ICode := .seq n74_3 n74_10
def n74_0 : ICode := .seq n74_1 n74_2
theorem b74 : table.find 74 = some ⟨58, n74_0, [.tmp 6, .tmp 7]⟩ := by kernel_rfl
@[simp] theorem en74_1 : evCode C n74_1 R S = regK (runOps C l74_1 R S) := ev_plain rfl
@[simp] theorem en74_4 : evCode C n74_4 R S = regK (runOps C l74_4 R S) := ev_plain rfl
@[simp] theorem en74_7 : evCode C n74_7 R S = regK (runOps C l74_7 R S) := ev_plain rfl
@[simp] theorem en74_8 : evCode C n74_8 R S = some (.ret, R, S) := (rfl)
@[simp] theorem en74_6 : evCode C n74_6 R S = seqK (evCode C n74_7 R S) fun R S => evCode C n74_8 R S := ev_seq
@[simp] theorem en74_9 : evCode C n74_9 R S = some (.norm, R, S) := (rfl)
@[simp] theorem en74_5 : evCode C n74_5 R S = condK (IV.ev R (.t 24)) (fun _ => evCode C n74_6 R S) fun _ => evCode C n74_9 R S := ev_cond
@[simp] theorem en74_3 : evCode C n74_3 R S = seqK (evCode C n74_4 R S) fun R S => evCode C n74_5 R S := ev_seq
@[simp] theorem en74_11 : evCode C n74_11 R S = regK (runOps C l74_11 R S) := ev_plain rfl
@[simp] theorem en74_13 : evCode C n74_13 R S = regK (runOps C l74_13 R S) := ev_plain rfl
@[simp] theorem en74_15 : evCode C n74_15 R S = some (.norm, R, S) := (rfl)
@[simp] theorem en74_22 : evCode C n74_22 R S = regK (runOps C l74_22 R S) := ev_plain rfl
@[simp] theorem en74_24 : evCode C n74_24 R S = some (.exit 0, R, S) := (rfl)
@[simp] theorem en74_26 : evCode C n74_26 R S = regK (runOps C l74_26 R S) := ev_plain rfl
@[simp] theorem en74_29 : evCode C n74_29 R S = regK (runOps C l74_29 R S) := ev_plain rfl
@[simp] theorem en74_30 : evCode C n74_30 R S = some (.ret, R, S) := (rfl)
@[simp] theorem en74_28 : evCode C n74_28 R S = seqK (evCode C n74_29 R S) fun R S => evCode C n74_30 R S := ev_seq
@[simp] theorem en74_31 : evCode C n74_31 R S = some (.norm, R, S) := (rfl)
@[simp] theorem en74_27 : evCode C n74_27 R S = condK (IV.ev R (.t 28)) (fun _ => evCode C n74_28 R S) fun _ => evCode C n74_31 R S := ev_cond
@[simp] theorem en74_25 : evCode C n74_25 R S = seqK (evCode C n74_26 R S) fun R S => evCode C n74_27 R S := ev_seq
@[simp] theorem en74_23 : evCode C n74_23 R S = condK (IV.ev R (.t 25)) (fun _ => evCode C n74_24 R S) fun _ => evCode C n74_25 R S := ev_cond
@[simp] theorem en74_21 : evCode C n74_21 R S = seqK (evCode C n74_22 R S) fun R S => evCode C n74_23 R S := ev_seq
@[simp] theorem en74_20 : evCode C n74_20 R S = blockK 2 (evCode C n74_21 R S) := ev_block
@[simp] theorem en74_33 : evCode C n74_33 R S = regK (runOps C l74_33 R S) := ev_plain rfl
@[simp] theorem en74_35 : evCode C n74_35 R S = regK (runOps C l74_35 R S) := ev_plain rfl
@[simp] theorem en74_37 : evCode C n74_37 R S = regK (runOps C l74_37 R S) := ev_plain rfl
@[simp] theorem en74_40 : evCode C n74_40 R S = regK (runOps C l74_40 R S) := ev_plain rfl
@[simp] theorem en74_43 : evCode C n74_43 R S = regK (runOps C l74_43 R S) := ev_plain rfl
@[simp] theorem en74_44 : evCode C n74_44 R S = some (.ret, R, S) := (rfl)
@[simp] theorem en74_42 : evCode C n74_42 R S = seqK (evCode C n74_43 R S) fun R S => evCode C n74_44 R S := ev_seq
@[simp] theorem en74_45 : evCode C n74_45 R S = some (.norm, R, S) := (rfl)
@[simp] theorem en74_41 : evCode C n74_41 R S = condK (IV.ev R (.t 55)) (fun _ => evCode C n74_42 R S) fun _ => evCode C n74_45 R S := ev_cond
@[simp] theorem en74_39 : evCode C n74_39 R S = seqK (evCode C n74_40 R S) fun R S => evCode C n74_41 R S := ev_seq
@[simp] theorem en74_46 : evCode C n74_46 R S = regK (runOps C l74_46 R S) := ev_plain rfl
@[simp] theorem en74_38 : evCode C n74_38 R S = seqK (evCode C n74_39 R S) fun R S => evCode C n74_46 R S := ev_seq
@[simp] theorem en74_36 : evCode C n74_36 R S = seqK (evCode C n74_37 R S) fun R S => evCode C n74_38 R S := ev_seq
@[simp] theorem en74_34 : evCode C n74_34 R S = seqK (evCode C n74_35 R S) fun R S => evCode C n74_36 R S := ev_seq
@[simp] theorem en74_32 : evCode C n74_32 R S = seqK (evCode C n74_33 R S) fun R S => evCode C n74_34 R S := ev_seq
@[simp] theorem en74_19 : evCode C n74_19 R S = seqK (evCode C n74_20 R S) fun R S => evCode C n74_32 R S := ev_seq
@[simp] theorem en74_18 : evCode C n74_18 R S = blockK 1 (evCode C n74_19 R S) := ev_block
theorem eloop74_0 : evCode C loop74_0 R S = iter (fun R S => evCode C n74_18 R S) rounds R S := (rfl)
@[simp] theorem en74_17 : evCode C n74_17 R S = blockK 0 (evCode C loop74_0 R S) := ev_block
@[simp] theorem en74_48 : evCode C n74_48 R S = regK (runOps C l74_48 R S) := ev_plain rfl
@[simp] theorem en74_49 : evCode C n74_49 R S = some (.ret, R, S) := (rfl)
@[simp] theorem en74_47 : evCode C n74_47 R S = seqK (evCode C n74_48 R S) fun R S => evCode C n74_49 R S := ev_seq
@[simp] theorem en74_16 : evCode C n74_16 R S = seqK (evCode C n74_17 R S) fun R S => evCode C n74_47 R S := ev_seq
@[simp] theorem en74_14 : evCode C n74_14 R S = seqK (evCode C n74_15 R S) fun R S => evCode C n74_16 R S := ev_seq
@[simp] theorem en74_12 : evCode C n74_12 R S = seqK (evCode C n74_13 R S) fun R S => evCode C n74_14 R S := ev_seq
@[simp] theorem en74_10 : evCode C n74_10 R S = seqK (evCode C n74_11 R S) fun R S => evCode C n74_12 R S := ev_seq
@[simp] theorem en74_2 : evCode C n74_2 R S = seqK (evCode C n74_3 R S) fun R S => evCode C n74_10 R S := ev_seq
@[simp] theorem en74_0 : evCode C n74_0 R S = seqK (evCode C n74_1 R S) fun R S => evCode C n74_2 R S := ev_seq
theorem q74 {n : Nat} {args : List Value} {S : St} : calls table.find (n + 1) 74 args S = endK S [.tmp 6, .tmp 7] (evCode (calls table.find n) n74_0 (args ++ List.replicate (58 - args.length) undef) S.enter) := call_enter b74

/-! wainscot/count.PartOf -/
@[simp] def l75_1 : List IOper := [oy 2 (.mv (.c (.int .i64 0))),
  oy 3 (.mv (.c (.int .i64 0))),
  oy 4 (.mv (.c (.bool false)))]
def n75_1 : ICode := .region l75_1
@[simp] def l75_3 : List IOper := [oy 6 (.mv (.t 0)),
  oy 7 (.call (.c (.func (.func 72) #[] #[])) [(.t 6), (.c (.int .i64 0)), (.c (.int .i64 1)), (.c (.func (.func 80) #[] #[]))] true),
  oy 5 (.mv (.t 7)),
  oy 8 (.extract (.t 5) 0),
  oy 9 (.extract (.t 5) 1),
  oy 10 (.extract (.t 5) 2),
  oy 3 (.mv (.t 8)),
  oy 2 (.mv (.t 9)),
  oy 4 (.mv (.t 10))]
def n75_3 : ICode := .region l75_3
@[simp] def l75_6 : List IOper := [oy 11 (.mv (.t 4)),
  oy 12 (.un .not (.t 11))]
def n75_6 : ICode := .region l75_6
@[simp] def l75_9 : List IOper := [oy 2 (.mv (.c (.int .i64 (-1)))),
  oy 3 (.mv (.c (.int .i64 0))),
  oy 4 (.mv (.c (.bool false)))]
def n75_9 : ICode := .region l75_9
def n75_10 : ICode := .ret
def n75_8 : ICode := .seq n75_9 n75_10
def n75_11 : ICode := .skip
def n75_7 : ICode := .cond (.t 12) n75_8 n75_11
def n75_5 : ICode := .seq n75_6 n75_7
@[simp] def l75_13 : List IOper := [oy 13 (.mv (.t 2)),
  oy 14 (.mv (.t 3)),
  oy 2 (.mv (.t 13)),
  oy 3 (.mv (.t 14)),
  oy 4 (.mv (.c (.bool true)))]
def n75_13 : ICode := .region l75_13
def n75_14 : ICode := .ret
def n75_12 : ICode := .seq n75_13 n75_14
def n75_4 : ICode := .seq n75_5 n75_12
def n75_2 : ICode := .seq n75_3 n75_4
def n75_0 : ICode := .seq n75_1 n75_2
theorem b75 : table.find 75 = some ⟨15, n75_0, [.tmp 2, .tmp 3, .tmp 4]⟩ := by kernel_rfl
@[simp] theorem en75_1 : evCode C n75_1 R S = regK (runOps C l75_1 R S) := ev_plain rfl
@[simp] theorem en75_3 : evCode C n75_3 R S = regK (runOps C l75_3 R S) := ev_plain rfl
@[simp] theorem en75_6 : evCode C n75_6 R S = regK (runOps C l75_6 R S) := ev_plain rfl
@[simp] theorem en75_9 : evCode C n75_9 R S = regK (runOps C l75_9 R S) := ev_plain rfl
@[simp] theorem en75_10 : evCode C n75_10 R S = some (.ret, R, S) := (rfl)
@[simp] theorem en75_8 : evCode C n75_8 R S = seqK (evCode C n75_9 R S) fun R S => evCode C n75_10 R S := ev_seq
@[simp] theorem en75_11 : evCode C n75_11 R S = some (.norm, R, S) := (rfl)
@[simp] theorem en75_7 : evCode C n75_7 R S = condK (IV.ev R (.t 12)) (fun _ => evCode C n75_8 R S) fun _ => evCode C n75_11 R S := ev_cond
@[simp] theorem en75_5 : evCode C n75_5 R S = seqK (evCode C n75_6 R S) fun R S => evCode C n75_7 R S := ev_seq
@[simp] theorem en75_13 : evCode C n75_13 R S = regK (runOps C l75_13 R S) := ev_plain rfl
@[simp] theorem en75_14 : evCode C n75_14 R S = some (.ret, R, S) := (rfl)
@[simp] theorem en75_12 : evCode C n75_12 R S = seqK (evCode C n75_13 R S) fun R S => evCode C n75_14 R S := ev_seq
@[simp] theorem en75_4 : evCode C n75_4 R S = seqK (evCode C n75_5 R S) fun R S => evCode C n75_12 R S := ev_seq
@[simp] theorem en75_2 : evCode C n75_2 R S = seqK (evCode C n75_3 R S) fun R S => evCode C n75_4 R S := ev_seq
@[simp] theorem en75_0 : evCode C n75_0 R S = seqK (evCode C n75_1 R S) fun R S => evCode C n75_2 R S := ev_seq
theorem q75 {n : Nat} {args : List Value} {S : St} : calls table.find (n + 1) 75 args S = endK S [.tmp 2, .tmp 3, .tmp 4] (evCode (calls table.find n) n75_0 (args ++ List.replicate (15 - args.length) undef) S.enter) := call_enter b75

/-! wainscot/chart.Next$1 -/
@[simp] def l76_1 : List IOper := [oy 2 (.mv (.c (.int .i64 0)))]
def n76_1 : ICode := .region l76_1
@[simp] def l76_3 : List IOper := [oy 3 (.load true 6 (.t 0)),
  oy 4 (.call (.c (.func (.func 39) #[] #[])) [(.t 3)] true),
  oy 5 (.load false 1 (.t 1)),
  oy 6 (.bin .mul .int (.c (.int .i64 4)) (.t 5)),
  oy 7 (.bin .add .int (.t 4) (.t 6)),
  oy 8 (.bin .add .int (.t 7) (.c (.int .i64 2))),
  oy 2 (.mv (.t 8))]
def n76_3 : ICode := .region l76_3
def n76_4 : ICode := .ret
def n76_2 : ICode := .seq n76_3 n76_4
def n76_0 : ICode := .seq n76_1 n76_2
theorem b76 : table.find 76 = some ⟨9, n76_0, [.tmp 2]⟩ := by kernel_rfl
@[simp] theorem en76_1 : evCode C n76_1 R S = regK (runOps C l76_1 R S) := ev_plain rfl
@[simp] theorem en76_3 : evCode C n76_3 R S = regK (runOps C l76_3 R S) := ev_plain rfl
@[simp] theorem en76_4 : evCode C n76_4 R S = some (.ret, R, S) := (rfl)
@[simp] theorem en76_2 : evCode C n76_2 R S = seqK (evCode C n76_3 R S) fun R S => evCode C n76_4 R S := ev_seq
@[simp] theorem en76_0 : evCode C n76_0 R S = seqK (evCode C n76_1 R S) fun R S => evCode C n76_2 R S := ev_seq
theorem q76 {n : Nat} {args : List Value} {S : St} : calls table.find (n + 1) 76 args S = endK S [.tmp 2] (evCode (calls table.find n) n76_0 (args ++ List.replicate (9 - args.length) undef) S.enter) := call_enter b76

/-! wainscot/link.object -/
@[simp] def l78_1 : List IOper := [oy 2 (.mv (.c (.bool false)))]
def n78_1 : ICode := .region l78_1
@[simp] def l78_3 : List IOper := [oy 3 (.mv (.t 0)),
  oy 4 (.bin .leq .int (.c (.int .i64 0)) (.t 3)),
  oy 5 (.mv (.t 4)),
  oz 6 5 true (.mv (.t 0)),
  oz 7 5 true (.bin .lss .int (.t 6) (.c (.int .i64 16))),
  oy 8 (.pick (.t 5) (.t 7) (.c (.bool false))),
  oy 2 (.mv (.t 8))]
def n78_3 : ICode := .region l78_3
def n78_4 : ICode := .ret
def n78_2 : ICode := .seq n78_3 n78_4
def n78_0 : ICode := .seq n78_1 n78_2
theorem b78 : table.find 78 = some ⟨9, n78_0, [.tmp 2]⟩ := by kernel_rfl
@[simp] theorem en78_1 : evCode C n78_1 R S = regK (runOps C l78_1 R S) := ev_plain rfl
@[simp] theorem en78_3 : evCode C n78_3 R S = regK (runOps C l78_3 R S) := ev_plain rfl
@[simp] theorem en78_4 : evCode C n78_4 R S = some (.ret, R, S) := (rfl)
@[simp] theorem en78_2 : evCode C n78_2 R S = seqK (evCode C n78_3 R S) fun R S => evCode C n78_4 R S := ev_seq
@[simp] theorem en78_0 : evCode C n78_0 R S = seqK (evCode C n78_1 R S) fun R S => evCode C n78_2 R S := ev_seq
theorem q78 {n : Nat} {args : List Value} {S : St} : calls table.find (n + 1) 78 args S = endK S [.tmp 2] (evCode (calls table.find n) n78_0 (args ++ List.replicate (9 - args.length) undef) S.enter) := call_enter b78

/-! wainscot/count.PartOf$1 -/
@[simp] def l80_1 : List IOper := [oy 4 (.mv (.c (.bool false)))]
def n80_1 : ICode := .region l80_1
@[simp] def l80_3 : List IOper := [oy 8 (.mv (.t 1)),
  oy 9 (.mv (.t 0)),
  oy 10 (.call (.c (.func (.func 81) #[] #[])) [(.t 8), (.t 9)] true),
  oy 7 (.mv (.t 10)),
  oy 11 (.extract (.t 7) 0),
  oy 12 (.extract (.t 7) 1),
  oy 5 (.mv (.t 11)),
  oy 6 (.mv (.t 12))]
def n80_3 : ICode := .region l80_3
@[simp] def l80_5 : List IOper := [oy 13 (.mv (.t 6)),
  oy 14 (.bin .eql .int (.t 13) (.c (.int .i64 0))),
  oy 4 (.mv (.t 14))]
def n80_5 : ICode := .region l80_5
def n80_6 : ICode := .ret
def n80_4 : ICode := .seq n80_5 n80_6
def n80_2 : ICode := .seq n80_3 n80_4
def n80_0 : ICode := .seq n80_1 n80_2
theorem b80 : table.find 80 = some ⟨15, n80_0, [.tmp 4]⟩ := by kernel_rfl
@[simp] theorem en80_1 : evCode C n80_1 R S = regK (runOps C l80_1 R S) := ev_plain rfl
@[simp] theorem en80_3 : evCode C n80_3 R S = regK (runOps C l80_3 R S) := ev_plain rfl
@[simp] theorem en80_5 : evCode C n80_5 R S = regK (runOps C l80_5 R S) := ev_plain rfl
@[simp] theorem en80_6 : evCode C n80_6 R S = some (.ret, R, S) := (rfl)
@[simp] theorem en80_4 : evCode C n80_4 R S = seqK (evCode C n80_5 R S) fun R S => evCode C n80_6 R S := ev_seq
@[simp] theorem en80_2 : evCode C n80_2 R S = seqK (evCode C n80_3 R S) fun R S => evCode C n80_4 R S := ev_seq
@[simp] theorem en80_0 : evCode C n80_0 R S = seqK (evCode C n80_1 R S) fun R S => evCode C n80_2 R S := ev_seq
theorem q80 {n : Nat} {args : List Value} {S : St} : calls table.find (n + 1) 80 args S = endK S [.tmp 4] (evCode (calls table.find n) n80_0 (args ++ List.replicate (15 - args.length) undef) S.enter) := call_enter b80

/-! wainscot/count.Part -/
@[simp] def l81_1 : List IOper := [oy 4 (.mv (.c (.int .u64 0))),
  oy 5 (.mv (.c (.int .i64 0)))]
def n81_1 : ICode := .region l81_1
@[simp] def l81_5 : List IOper := [oy 7 (.mv (.t 0)),
  oy 8 (.bin .eql .int (.t 7) (.c (.int .i64 (-1)))),
  oy 9 (.mv (.t 8)),
  oz 10 9 true (.mv (.t 1)),
  oz 11 9 true (.bin .eql .int (.t 10) (.c (.int .i64 0))),
  oy 12 (.pick (.t 9) (.t 11) (.c (.bool false))),
  oy 6 (.mv (.t 12))]
def n81_5 : ICode := .region l81_5
@[simp] def l81_8 : List IOper := [oy 4 (.mv (.c (.int .u64 0))),
  oy 5 (.mv (.c (.int .i64 0)))]
def n81_8 : ICode := .region l81_8
def n81_9 : ICode := .ret
def n81_7 : ICode := .seq n81_8 n81_9
@[simp] def l81_11 : List IOper := [oy 14 (.mv (.t 0)),
  oy 15 (.call (.c (.func (.func 35) #[] #[])) [(.t 14)] true),
  oy 16 (.un .not (.t 15)),
  oy 17 (.mv (.t 16)),
  oz 18 17 false (.mv (.t 1)),
  oz 19 17 false (.bin .lss .int (.t 18) (.c (.int .i64 1))),
  oy 20 (.pick (.t 17) (.c (.bool true)) (.t 19)),
  oy 21 (.mv (.t 20)),
  oz 22 21 false (.mv (.t 1)),
  oz 23 21 false (.bin .gtr .int (.t 22) (.c (.int .i64 63))),
  oy 24 (.pick (.t 21) (.c (.bool true)) (.t 23)),
  oy 13 (.mv (.t 24))]
def n81_11 : ICode := .region l81_11
@[simp] def l81_14 : List IOper := [oy 4 (.mv (.c (.int .u64 0))),
  oy 5 (.mv (.c (.int .i64 2)))]
def n81_14 : ICode := .region l81_14
def n81_15 : ICode := .ret
def n81_13 : ICode := .seq n81_14 n81_15
def n81_16 : ICode := .skip
def n81_12 : ICode := .cond (.t 13) n81_13 n81_16
def n81_10 : ICode := .seq n81_11 n81_12
def n81_6 : ICode := .cond (.t 6) n81_7 n81_10
def n81_4 : ICode := .seq n81_5 n81_6
def n81_3 : ICode := .block 0 n81_4
@[simp] def l81_18 : List IOper := [oy 25 (.mv (.t 1)),
  oy 26 (.conv .u64 (.t 25)),
  oy 27 (.bin .shl .int (.t 26) (.c (.int .u64 6))),
  oy 28 (.mv (.t 0)),
  oy 29 (.bin .add .int (.t 28) (.c (.int .i64 1))),
  oy 30 (.conv .u64 (.t 29)),
  oy 31 (.bin .or .int (.t 27) (.t 30)),
  oy 4 (.mv (.t 31)),
  oy 5 (.mv (.c (.int .i64 0)))]
def n81_18 : ICode := .region l81_18
def n81_19 : ICode := .ret
def n81_17 : ICode := .seq n81_18 n81_19
def n81_2 : ICode := .seq n81_3 n81_17
def n81_0 : ICode := .seq n81_1 n81_2
theorem b81 : table.find 81 = some ⟨32, n81_0, [.tmp 4, .tmp 5]⟩ := by kernel_rfl
@[simp] theorem en81_1 : evCode C n81_1 R S = regK (runOps C l81_1 R S) := ev_plain rfl
@[simp] theorem en81_5 : evCode C n81_5 R S = regK (runOps C l81_5 R S) := ev_plain rfl
@[simp] theorem en81_8 : evCode C n81_8 R S = regK (runOps C l81_8 R S) := ev_plain rfl
@[simp] theorem en81_9 : evCode C n81_9 R S = some (.ret, R, S) := (rfl)
@[simp] theorem en81_7 : evCode C n81_7 R S = seqK (evCode C n81_8 R S) fun R S => evCode C n81_9 R S := ev_seq
@[simp] theorem en81_11 : evCode C n81_11 R S = regK (runOps C l81_11 R S) := ev_plain rfl
@[simp] theorem en81_14 : evCode C n81_14 R S = regK (runOps C l81_14 R S) := ev_plain rfl
@[simp] theorem en81_15 : evCode C n81_15 R S = some (.ret, R, S) := (rfl)
@[simp] theorem en81_13 : evCode C n81_13 R S = seqK (evCode C n81_14 R S) fun R S => evCode C n81_15 R S := ev_seq
@[simp] theorem en81_16 : evCode C n81_16 R S = some (.norm, R, S) := (rfl)
@[simp] theorem en81_12 : evCode C n81_12 R S = condK (IV.ev R (.t 13)) (fun _ => evCode C n81_13 R S) fun _ => evCode C n81_16 R S := ev_cond
@[simp] theorem en81_10 : evCode C n81_10 R S = seqK (evCode C n81_11 R S) fun R S => evCode C n81_12 R S := ev_seq
@[simp] theorem en81_6 : evCode C n81_6 R S = condK (IV.ev R (.t 6)) (fun _ => evCode C n81_7 R S) fun _ => evCode C n81_10 R S := ev_cond
@[simp] theorem en81_4 : evCode C n81_4 R S = seqK (evCode C n81_5 R S) fun R S => evCode C n81_6 R S := ev_seq
@[simp] theorem en81_3 : evCode C n81_3 R S = blockK 0 (evCode C n81_4 R S) := ev_block
@[simp] theorem en81_18 : evCode C n81_18 R S = regK (runOps C l81_18 R S) := ev_plain rfl
@[simp] theorem en81_19 : evCode C n81_19 R S = some (.ret, R, S) := (rfl)
@[simp] theorem en81_17 : evCode C n81_17 R S = seqK (evCode C n81_18 R S) fun R S => evCode C n81_19 R S := ev_seq
@[simp] theorem en81_2 : evCode C n81_2 R S = seqK (evCode C n81_3 R S) fun R S => evCode C n81_17 R S := ev_seq
@[simp] theorem en81_0 : evCode C n81_0 R S = seqK (evCode C n81_1 R S) fun R S => evCode C n81_2 R S := ev_seq
theorem q81 {n : Nat} {args : List Value} {S : St} : calls table.find (n + 1) 81 args S = endK S [.tmp 4, .tmp 5] (evCode (calls table.find n) n81_0 (args ++ List.replicate (32 - args.length) undef) S.enter) := call_enter b81

/-! wainscot/count.may -/
@[simp] def l36_1 : List IOper := [oy 1 (.box 62 4 (.t 0)),
  oy 2 (.mv (.c (.bool false)))]
def n36_1 : ICode := .region l36_1
@[simp] def l36_3 : List IOper := [oy 3 (.addOff 3 (.t 1)),
  oy 4 (.load false 1 (.t 3)),
  oy 5 (.mv (.t 4)),
  oz 6 5 true (.addOff 1 (.t 1)),
  oz 7 5 true (.load false 1 (.t 6)),
  oz 8 5 true (.bin .leq .int (.c (.int .i64 1)) (.t 7)),
  oy 9 (.pick (.t 5) (.t 8) (.c (.bool false))),
  oy 10 (.mv (.t 9)),
  oz 11 10 true (.addOff 1 (.t 1)),
  oz 12 10 true (.load false 1 (.t 11)),
  oz 13 10 true (.bin .leq .int (.t 12) (.c (.int .i64 16))),
  oy 14 (.pick (.t 10) (.t 13) (.c (.bool false))),
  oy 15 (.mv (.t 14)),
  oz 16 15 true (.addOff 0 (.t 1)),
  oz 17 15 true (.load false 1 (.t 16)),
  oz 18 15 true (.bin .leq .int (.c (.int .i64 0)) (.t 17)),
  oy 19 (.pick (.t 15) (.t 18) (.c (.bool false))),
  oy 20 (.mv (.t 19)),
  oz 21 20 true (.addOff 0 (.t 1)),
  oz 22 20 true (.load false 1 (.t 21)),
  oz 23 20 true (.addOff 1 (.t 1)),
  oz 24 20 true (.load false 1 (.t 23)),
  oz 25 20 true (.bin .leq .int (.t 22) (.t 24)),
  oy 26 (.pick (.t 20) (.t 25) (.c (.bool false))),
  oy 27 (.mv (.t 26)),
  oz 28 27 false (.load true 4 (.t 1)),
  oz 29 27 false (.build [(.int .i64 0), (.int .i64 0), (.bool false), (.bool false)] []),
  oz 30 27 false (.bin .eql (.plain [(some .i64), (some .i64), none, none]) (.t 28) (.t 29)),
  oy 31 (.pick (.t 27) (.c (.bool true)) (.t 30)),
  oy 2 (.mv (.t 31))]
def n36_3 : ICode := .region l36_3
def n36_4 : ICode := .ret
def n36_2 : ICode := .seq n36_3 n36_4
def n36_0 : ICode := .seq n36_1 n36_2
theorem b36 : table.find 36 = some ⟨32, n36_0, [.tmp 2]⟩ := by kernel_rfl
@[simp] theorem en36_1 : evCode C n36_1 R S = regK (runOps C l36_1 R S) := ev_plain rfl
@[simp] theorem en36_3 : evCode C n36_3 R S = regK (runOps C l36_3 R S) := ev_plain rfl
@[simp] theorem en36_4 : evCode C n36_4 R S = some (.ret, R, S) := (rfl)
@[simp] theorem en36_2 : evCode C n36_2 R S = seqK (evCode C n36_3 R S) fun R S => evCode C n36_4 R S := ev_seq
@[simp] theorem en36_0 : evCode C n36_0 R S = seqK (evCode C n36_1 R S) fun R S => evCode C n36_2 R S := ev_seq
theorem q36 {n : Nat} {args : List Value} {S : St} : calls table.find (n + 1) 36 args S = endK S [.tmp 2] (evCode (calls table.find n) n36_0 (args ++ List.replicate (32 - args.length) undef) S.enter) := call_enter b36

/-! wainscot/count.flag -/
@[simp] def l37_1 : List IOper := [oy 4 (.mv (.c (.int .u64 0)))]
def n37_1 : ICode := .region l37_1
@[simp] def l37_4 : List IOper := [oy 5 (.mv (.t 0))]
def n37_4 : ICode := .region l37_4
@[simp] def l37_7 : List IOper := [oy 6 (.mv (.t 1)),
  oy 4 (.mv (.t 6))]
def n37_7 : ICode := .region l37_7
def n37_8 : ICode := .ret
def n37_6 : ICode := .seq n37_7 n37_8
def n37_9 : ICode := .skip
def n37_5 : ICode := .cond (.t 5) n37_6 n37_9
def n37_3 : ICode := .seq n37_4 n37_5
@[simp] def l37_11 : List IOper := [oy 4 (.mv (.c (.int .u64 0)))]
def n37_11 : ICode := .region l37_11
def n37_12 : ICode := .ret
def n37_10 : ICode := .seq n37_11 n37_12
def n37_2 : ICode := .seq n37_3 n37_10
def n37_0 : ICode := .seq n37_1 n37_2
theorem b37 : table.find 37 = some ⟨7, n37_0, [.tmp 4]⟩ := by kernel_rfl
@[simp] theorem en37_1 : evCode C n37_1 R S = regK (runOps C l37_1 R S) := ev_plain rfl
@[simp] theorem en37_4 : evCode C n37_4 R S = regK (runOps C l37_4 R S) := ev_plain rfl
@[simp] theorem en37_7 : evCode C n37_7 R S = regK (runOps C l37_7 R S) := ev_plain rfl
@[simp] theorem en37_8 : evCode C n37_8 R S = some (.ret, R, S) := (rfl)
@[simp] theorem en37_6 : evCode C n37_6 R S = seqK (evCode C n37_7 R S) fun R S => evCode C n37_8 R S := ev_seq
@[simp] theorem en37_9 : evCode C n37_9 R S = some (.norm, R, S) := (rfl)
@[simp] theorem en37_5 : evCode C n37_5 R S = condK (IV.ev R (.t 5)) (fun _ => evCode C n37_6 R S) fun _ => evCode C n37_9 R S := ev_cond
@[simp] theorem en37_3 : evCode C n37_3 R S = seqK (evCode C n37_4 R S) fun R S => evCode C n37_5 R S := ev_seq
@[simp] theorem en37_11 : evCode C n37_11 R S = regK (runOps C l37_11 R S) := ev_plain rfl
@[simp] theorem en37_12 : evCode C n37_12 R S = some (.ret, R, S) := (rfl)
@[simp] theorem en37_10 : evCode C n37_10 R S = seqK (evCode C n37_11 R S) fun R S => evCode C n37_12 R S := ev_seq
@[simp] theorem en37_2 : evCode C n37_2 R S = seqK (evCode C n37_3 R S) fun R S => evCode C n37_10 R S := ev_seq
@[simp] theorem en37_0 : evCode C n37_0 R S = seqK (evCode C n37_1 R S) fun R S => evCode C n37_2 R S := ev_seq
theorem q37 {n : Nat} {args : List Value} {S : St} : calls table.find (n + 1) 37 args S = endK S [.tmp 4] (evCode (calls table.find n) n37_0 (args ++ List.replicate (7 - args.length) undef) S.enter) := call_enter b37

end Go.Proofs.Ytepddcemoofmlaa.Fast
