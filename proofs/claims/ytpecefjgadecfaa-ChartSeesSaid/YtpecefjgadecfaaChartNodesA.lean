/- The pieces of the code, each with a name and a rule (written by program). -/
import Derived.Test.YtpecefjgadecfaaChartIr
import Derived.Test.YtpecefjgadecfaaAe33
namespace Go.Proofs.Ytpecefjgadecfaa.Chart
open Go Go.Proofs.Ytpecefjgadecfaa.AE
set_option maxRecDepth 100000
variable {C : CallS} {R : List Value} {S : St}

/-! wainscot/wainscotlaw21.ChartPlaces -/
@[simp] def l3_1 : List IOper := [oy 3 (.box 24 6 (.t 0)),
  oy 6 (.mv (.c (.bool false)))]
def n3_1 : ICode := .region l3_1
@[simp] def l3_3 : List IOper := [oy 9 (.load true 6 (.t 3)),
  oy 10 (.call (.c (.func (.func 8) #[] #[])) [(.t 9)] true),
  oy 11 (.load true 6 (.t 3)),
  oy 12 (.call (.c (.func (.func 9) #[] #[])) [(.t 11)] true),
  oy 13 (.load true 6 (.t 3)),
  oy 14 (.mv (.t 1)),
  oy 15 (.call (.c (.func (.func 10) #[] #[])) [(.t 13), (.t 14)] true),
  oy 16 (.load true 6 (.t 3)),
  oy 17 (.mv (.t 1)),
  oy 18 (.call (.c (.func (.func 11) #[] #[])) [(.t 16), (.t 17)] true),
  oy 19 (.load true 6 (.t 3)),
  oy 20 (.call (.c (.func (.func 12) #[] #[])) [(.t 19)] true),
  oy 21 (.load true 6 (.t 3)),
  oy 22 (.call (.c (.func (.func 13) #[] #[])) [(.t 21)] true),
  oy 23 (.load true 6 (.t 3)),
  oy 24 (.call (.c (.func (.func 14) #[] #[])) [(.t 23)] true),
  oy 25 (.load true 6 (.t 3)),
  oy 26 (.mv (.t 1)),
  oy 27 (.call (.c (.func (.func 15) #[] #[])) [(.t 25), (.t 26)] true),
  oy 28 (.load true 6 (.t 3)),
  oy 29 (.mv (.t 1)),
  oy 30 (.call (.c (.func (.func 16) #[] #[])) [(.t 28), (.t 29)] true),
  oy 31 (.load true 6 (.t 3)),
  oy 32 (.mv (.t 1)),
  oy 33 (.mv (.t 2)),
  oy 34 (.call (.c (.func (.func 17) #[] #[])) [(.t 31), (.t 32), (.t 33)] true),
  oy 35 (.buildSlice 3 [(.int .i64 0), (.int .i64 0), (.int .i64 0), (.int .i64 0), (.int .i64 0), (.int .i64 0), (.int .i64 0), (.int .i64 0), (.int .i64 0), (.int .i64 0)] 10 [(0, 1, (.t 10)), (1, 1, (.t 12)), (2, 1, (.t 15)), (3, 1, (.t 18)), (4, 1, (.t 20)), (5, 1, (.t 22)), (6, 1, (.t 24)), (7, 1, (.t 27)), (8, 1, (.t 30)), (9, 1, (.t 34))]),
  oy 7 (.mv (.t 35))]
def n3_3 : ICode := .region l3_3
@[simp] def l3_5 : List IOper := [oy 36 (.load true 6 (.t 3)),
  oy 37 (.call (.c (.func (.func 18) #[] #[])) [(.t 36)] true),
  oy 38 (.load true 6 (.t 3)),
  oy 39 (.call (.c (.func (.func 19) #[] #[])) [(.t 38)] true),
  oy 40 (.load true 6 (.t 3)),
  oy 41 (.mv (.t 1)),
  oy 42 (.call (.c (.func (.func 20) #[] #[])) [(.t 40), (.t 41)] true),
  oy 43 (.load true 6 (.t 3)),
  oy 44 (.mv (.t 1)),
  oy 45 (.call (.c (.func (.func 21) #[] #[])) [(.t 43), (.t 44)] true),
  oy 46 (.load true 6 (.t 3)),
  oy 47 (.call (.c (.func (.func 22) #[] #[])) [(.t 46)] true),
  oy 48 (.load true 6 (.t 3)),
  oy 49 (.call (.c (.func (.func 23) #[] #[])) [(.t 48)] true),
  oy 50 (.load true 6 (.t 3)),
  oy 51 (.call (.c (.func (.func 24) #[] #[])) [(.t 50)] true),
  oy 52 (.load true 6 (.t 3)),
  oy 53 (.mv (.t 1)),
  oy 54 (.call (.c (.func (.func 25) #[] #[])) [(.t 52), (.t 53)] true),
  oy 55 (.load true 6 (.t 3)),
  oy 56 (.mv (.t 1)),
  oy 57 (.call (.c (.func (.func 26) #[] #[])) [(.t 55), (.t 56)] true),
  oy 58 (.load true 6 (.t 3)),
  oy 59 (.mv (.t 1)),
  oy 60 (.mv (.t 2)),
  oy 61 (.call (.c (.func (.func 27) #[] #[])) [(.t 58), (.t 59), (.t 60)] true),
  oy 62 (.buildSlice 3 [(.int .i64 0), (.int .i64 0), (.int .i64 0), (.int .i64 0), (.int .i64 0), (.int .i64 0), (.int .i64 0), (.int .i64 0), (.int .i64 0), (.int .i64 0)] 10 [(0, 1, (.t 37)), (1, 1, (.t 39)), (2, 1, (.t 42)), (3, 1, (.t 45)), (4, 1, (.t 47)), (5, 1, (.t 49)), (6, 1, (.t 51)), (7, 1, (.t 54)), (8, 1, (.t 57)), (9, 1, (.t 61))]),
  oy 8 (.mv (.t 62))]
def n3_5 : ICode := .region l3_5
@[simp] def l3_7 : List IOper := [oy 63 (.mv (.t 7)),
  oy 64 (.mv (.t 8)),
  oy 65 (.call (.c (.func (.func 28) #[] #[])) [(.t 63), (.t 64)] true),
  oy 66 (.mv (.t 65)),
  oz 67 66 true (.load true 6 (.t 3)),
  oz 68 66 true (.mv (.t 1)),
  oz 69 66 true (.call (.c (.func (.func 29) #[] #[])) [(.t 67), (.t 68)] true),
  oz 70 66 true (.load true 6 (.t 3)),
  oz 71 66 true (.mv (.t 1)),
  oz 72 66 true (.call (.c (.func (.func 30) #[] #[])) [(.t 70), (.t 71)] true),
  oz 73 66 true (.bin .eql .int (.t 69) (.t 72)),
  oy 74 (.pick (.t 66) (.t 73) (.c (.bool false))),
  oy 75 (.mv (.t 74)),
  oz 76 75 true (.call (.c (.func (.func 31) #[] #[])) [] false),
  oy 77 (.pick (.t 75) (.t 76) (.c (.bool false))),
  oy 6 (.mv (.t 77))]
def n3_7 : ICode := .region l3_7
def n3_8 : ICode := .ret
def n3_6 : ICode := .seq n3_7 n3_8
def n3_4 : ICode := .seq n3_5 n3_6
def n3_2 : ICode := .seq n3_3 n3_4
def n3_0 : ICode := .seq n3_1 n3_2
theorem b3 : table.find 3 = some ⟨78, n3_0, [.tmp 6]⟩ := by kernel_rfl
@[simp] theorem en3_1 : evCode C n3_1 R S = regK (runOps C l3_1 R S) := ev_plain rfl
@[simp] theorem en3_3 : evCode C n3_3 R S = regK (runOps C l3_3 R S) := ev_plain rfl
@[simp] theorem en3_5 : evCode C n3_5 R S = regK (runOps C l3_5 R S) := ev_plain rfl
@[simp] theorem en3_7 : evCode C n3_7 R S = regK (runOps C l3_7 R S) := ev_plain rfl
@[simp] theorem en3_8 : evCode C n3_8 R S = some (.ret, R, S) := (rfl)
@[simp] theorem en3_6 : evCode C n3_6 R S = seqK (evCode C n3_7 R S) fun R S => evCode C n3_8 R S := ev_seq
@[simp] theorem en3_4 : evCode C n3_4 R S = seqK (evCode C n3_5 R S) fun R S => evCode C n3_6 R S := ev_seq
@[simp] theorem en3_2 : evCode C n3_2 R S = seqK (evCode C n3_3 R S) fun R S => evCode C n3_4 R S := ev_seq
@[simp] theorem en3_0 : evCode C n3_0 R S = seqK (evCode C n3_1 R S) fun R S => evCode C n3_2 R S := ev_seq
theorem q3 {n : Nat} {args : List Value} {S : St} : calls table.find (n + 1) 3 args S = endK S [.tmp 6] (evCode (calls table.find n) n3_0 (args ++ List.replicate (78 - args.length) undef) S.enter) := call_enter b3

/-! wainscot/wainscotlaw21.ChartSees -/
@[simp] def l4_1 : List IOper := [oy 3 (.box 24 6 (.t 1)),
  oy 4 (.mv (.c (.bool false)))]
def n4_1 : ICode := .region l4_1
@[simp] def l4_4 : List IOper := [oy 12 (.mv (.t 0)),
  oy 13 (.lenS (.t 12)),
  oy 14 (.bin .rem .int (.t 13) (.c (.int .i64 7))),
  oy 15 (.bin .neq .int (.t 14) (.c (.int .i64 3)))]
def n4_4 : ICode := .region l4_4
@[simp] def l4_6 : List IOper := [oy 16 (.mv (.t 0)),
  oy 17 (.load true 6 (.t 3)),
  oy 18 (.call (.c (.func (.func 32) #[] #[])) [(.t 16), (.t 17)] false),
  oy 0 (.mv (.t 18))]
def n4_6 : ICode := .region l4_6
def n4_7 : ICode := .skip
def n4_5 : ICode := .cond (.t 15) n4_6 n4_7
def n4_3 : ICode := .seq n4_4 n4_5
@[simp] def l4_9 : List IOper := [oy 5 (.mv (.c (.slice none 0 0)))]
def n4_9 : ICode := .region l4_9
@[simp] def l4_11 : List IOper := [oy 19 (.mv (.t 5)),
  oy 20 (.mv (.t 0)),
  oy 21 (.append 22 1 8 (.t 19) (.t 20)),
  oy 5 (.mv (.t 21))]
def n4_11 : ICode := .region l4_11
@[simp] def l4_13 : List IOper := [oy 23 (.mv (.t 5)),
  oy 24 (.load true 6 (.t 3)),
  oy 25 (.call (.c (.func (.func 33) #[] #[])) [(.t 23), (.t 24)] true),
  oy 22 (.mv (.t 25)),
  oy 26 (.extract (.t 22) 0),
  oy 27 (.extract (.t 22) 1),
  oy 6 (.new 40 [(.slice none 0 0), (.slice none 0 0), (.bool false), (.slice none 0 0)]),
  ox (.store 4 (.t 6) (.t 26)),
  oy 7 (.mv (.t 27))]
def n4_13 : ICode := .region l4_13
@[simp] def l4_15 : List IOper := [oy 29 (.mv (.t 0)),
  oy 30 (.load true 6 (.t 3)),
  oy 31 (.call (.c (.func (.func 34) #[] #[])) [(.t 29), (.t 30)] true),
  oy 28 (.mv (.t 31)),
  oy 32 (.extract (.t 28) 0),
  oy 33 (.extract (.t 28) 1),
  oy 8 (.new 40 [(.slice none 0 0), (.slice none 0 0), (.bool false), (.slice none 0 0)]),
  ox (.store 4 (.t 8) (.t 32)),
  oy 9 (.mv (.t 33))]
def n4_15 : ICode := .region l4_15
@[simp] def l4_17 : List IOper := [oy 34 (.load true 4 (.t 6)),
  oy 35 (.load true 4 (.t 8)),
  oy 36 (.call (.c (.func (.func 35) #[] #[])) [(.t 34), (.t 35)] true),
  oy 37 (.mv (.t 36)),
  oz 38 37 true (.mv (.t 7)),
  oz 39 37 true (.mv (.t 9)),
  oz 40 37 true (.bin .eql .int (.t 38) (.t 39)),
  oy 41 (.pick (.t 37) (.t 40) (.c (.bool false))),
  oy 10 (.mv (.t 41))]
def n4_17 : ICode := .region l4_17
@[simp] def l4_20 : List IOper := [oy 11 (.mv (.c (.int .i64 0)))]
def n4_20 : ICode := .region l4_20
@[simp] def l4_24 : List IOper := [oy 42 (.mv (.t 11)),
  oy 43 (.addOff 1 (.t 6)),
  oy 44 (.load false 1 (.t 43)),
  oy 45 (.lenS (.t 44)),
  oy 46 (.bin .lss .int (.t 42) (.t 45))]
def n4_24 : ICode := .region l4_24
def n4_26 : ICode := .skip
def n4_27 : ICode := .exit 0
def n4_25 : ICode := .cond (.t 46) n4_26 n4_27
def n4_23 : ICode := .seq n4_24 n4_25
@[simp] def l4_30 : List IOper := [oy 49 (.addOff 1 (.t 6)),
  oy 50 (.load false 1 (.t 49)),
  oy 51 (.mv (.t 11)),
  oy 52 (.idxS 1 (.t 50) (.t 51)),
  ox (.store 1 (.t 52) (.c (.int .i64 (-9))))]
def n4_30 : ICode := .region l4_30
def n4_29 : ICode := .block 1 n4_30
@[simp] def l4_31 : List IOper := [oy 47 (.mv (.t 11)),
  oy 48 (.bin .add .int (.t 47) (.c (.int .i64 1))),
  oy 11 (.mv (.t 48))]
def n4_31 : ICode := .region l4_31
def n4_28 : ICode := .seq n4_29 n4_31
def n4_22 : ICode := .seq n4_23 n4_28
def loop4_0 : ICode := .loop n4_22
def n4_21 : ICode := .block 0 loop4_0
def n4_19 : ICode := .seq n4_20 n4_21
@[simp] def l4_33 : List IOper := [oy 53 (.mv (.t 10)),
  oy 54 (.mv (.t 53)),
  oz 55 54 true (.mv (.t 5)),
  oz 56 54 true (.mv (.t 0)),
  oz 57 54 true (.call (.c (.func (.func 36) #[] #[])) [(.t 55), (.t 56)] true),
  oy 58 (.pick (.t 54) (.t 57) (.c (.bool false))),
  oy 59 (.mv (.t 58)),
  oz 60 59 true (.call (.c (.func (.func 31) #[] #[])) [] false),
  oy 61 (.pick (.t 59) (.t 60) (.c (.bool false))),
  oy 4 (.mv (.t 61))]
def n4_33 : ICode := .region l4_33
def n4_34 : ICode := .ret
def n4_32 : ICode := .seq n4_33 n4_34
def n4_18 : ICode := .seq n4_19 n4_32
def n4_16 : ICode := .seq n4_17 n4_18
def n4_14 : ICode := .seq n4_15 n4_16
def n4_12 : ICode := .seq n4_13 n4_14
def n4_10 : ICode := .seq n4_11 n4_12
def n4_8 : ICode := .seq n4_9 n4_10
def n4_2 : ICode := .seq n4_3 n4_8
def n4_0 : ICode := .seq n4_1 n4_2
theorem b4 : table.find 4 = some ⟨62, n4_0, [.tmp 4]⟩ := by kernel_rfl
@[simp] theorem en4_1 : evCode C n4_1 R S = regK (runOps C l4_1 R S) := ev_plain rfl
@[simp] theorem en4_4 : evCode C n4_4 R S = regK (runOps C l4_4 R S) := ev_plain rfl
@[simp] theorem en4_6 : evCode C n4_6 R S = regK (runOps C l4_6 R S) := ev_plain rfl
@[simp] theorem en4_7 : evCode C n4_7 R S = some (.norm, R, S) := (rfl)
@[simp] theorem en4_5 : evCode C n4_5 R S = condK (IV.ev R (.t 15)) (fun _ => evCode C n4_6 R S) fun _ => evCode C n4_7 R S := ev_cond
@[simp] theorem en4_3 : evCode C n4_3 R S = seqK (evCode C n4_4 R S) fun R S => evCode C n4_5 R S := ev_seq
@[simp] theorem en4_9 : evCode C n4_9 R S = regK (runOps C l4_9 R S) := ev_plain rfl
@[simp] theorem en4_11 : evCode C n4_11 R S = regK (runOps C l4_11 R S) := ev_plain rfl
@[simp] theorem en4_13 : evCode C n4_13 R S = regK (runOps C l4_13 R S) := ev_plain rfl
@[simp] theorem en4_15 : evCode C n4_15 R S = regK (runOps C l4_15 R S) := ev_plain rfl
@[simp] theorem en4_17 : evCode C n4_17 R S = regK (runOps C l4_17 R S) := ev_plain rfl
@[simp] theorem en4_20 : evCode C n4_20 R S = regK (runOps C l4_20 R S) := ev_plain rfl
@[simp] theorem en4_24 : evCode C n4_24 R S = regK (runOps C l4_24 R S) := ev_plain rfl
@[simp] theorem en4_26 : evCode C n4_26 R S = some (.norm, R, S) := (rfl)
@[simp] theorem en4_27 : evCode C n4_27 R S = some (.exit 0, R, S) := (rfl)
@[simp] theorem en4_25 : evCode C n4_25 R S = condK (IV.ev R (.t 46)) (fun _ => evCode C n4_26 R S) fun _ => evCode C n4_27 R S := ev_cond
@[simp] theorem en4_23 : evCode C n4_23 R S = seqK (evCode C n4_24 R S) fun R S => evCode C n4_25 R S := ev_seq
@[simp] theorem en4_30 : evCode C n4_30 R S = regK (runOps C l4_30 R S) := ev_plain rfl
@[simp] theorem en4_29 : evCode C n4_29 R S = blockK 1 (evCode C n4_30 R S) := ev_block
@[simp] theorem en4_31 : evCode C n4_31 R S = regK (runOps C l4_31 R S) := ev_plain rfl
@[simp] theorem en4_28 : evCode C n4_28 R S = seqK (evCode C n4_29 R S) fun R S => evCode C n4_31 R S := ev_seq
@[simp] theorem en4_22 : evCode C n4_22 R S = seqK (evCode C n4_23 R S) fun R S => evCode C n4_28 R S := ev_seq
theorem eloop4_0 : evCode C loop4_0 R S = iter (fun R S => evCode C n4_22 R S) rounds R S := (rfl)
@[simp] theorem en4_21 : evCode C n4_21 R S = blockK 0 (evCode C loop4_0 R S) := ev_block
@[simp] theorem en4_19 : evCode C n4_19 R S = seqK (evCode C n4_20 R S) fun R S => evCode C n4_21 R S := ev_seq
@[simp] theorem en4_33 : evCode C n4_33 R S = regK (runOps C l4_33 R S) := ev_plain rfl
@[simp] theorem en4_34 : evCode C n4_34 R S = some (.ret, R, S) := (rfl)
@[simp] theorem en4_32 : evCode C n4_32 R S = seqK (evCode C n4_33 R S) fun R S => evCode C n4_34 R S := ev_seq
@[simp] theorem en4_18 : evCode C n4_18 R S = seqK (evCode C n4_19 R S) fun R S => evCode C n4_32 R S := ev_seq
@[simp] theorem en4_16 : evCode C n4_16 R S = seqK (evCode C n4_17 R S) fun R S => evCode C n4_18 R S := ev_seq
@[simp] theorem en4_14 : evCode C n4_14 R S = seqK (evCode C n4_15 R S) fun R S => evCode C n4_16 R S := ev_seq
@[simp] theorem en4_12 : evCode C n4_12 R S = seqK (evCode C n4_13 R S) fun R S => evCode C n4_14 R S := ev_seq
@[simp] theorem en4_10 : evCode C n4_10 R S = seqK (evCode C n4_11 R S) fun R S => evCode C n4_12 R S := ev_seq
@[simp] theorem en4_8 : evCode C n4_8 R S = seqK (evCode C n4_9 R S) fun R S => evCode C n4_10 R S := ev_seq
@[simp] theorem en4_2 : evCode C n4_2 R S = seqK (evCode C n4_3 R S) fun R S => evCode C n4_8 R S := ev_seq
@[simp] theorem en4_0 : evCode C n4_0 R S = seqK (evCode C n4_1 R S) fun R S => evCode C n4_2 R S := ev_seq
theorem q4 {n : Nat} {args : List Value} {S : St} : calls table.find (n + 1) 4 args S = endK S [.tmp 4] (evCode (calls table.find n) n4_0 (args ++ List.replicate (62 - args.length) undef) S.enter) := call_enter b4

/-! wainscot/wainscotlaw21.ChartApart -/
@[simp] def l5_1 : List IOper := [oy 1 (.box 24 6 (.t 0)),
  oy 2 (.mv (.c (.bool false)))]
def n5_1 : ICode := .region l5_1
@[simp] def l5_3 : List IOper := [oy 7 (.load true 6 (.t 1)),
  oy 8 (.call (.c (.func (.func 37) #[] #[])) [(.t 7)] true),
  ox (.store 6 (.t 1) (.t 8))]
def n5_3 : ICode := .region l5_3
@[simp] def l5_5 : List IOper := [oy 9 (.load true 6 (.t 1)),
  oy 10 (.call (.c (.func (.func 9) #[] #[])) [(.t 9)] true),
  oy 3 (.mv (.t 10))]
def n5_5 : ICode := .region l5_5
@[simp] def l5_8 : List IOper := [oy 11 (.load true 6 (.t 1)),
  oy 12 (.call (.c (.func (.func 8) #[] #[])) [(.t 11)] true),
  oy 13 (.bin .neq .int (.t 12) (.c (.int .i64 0))),
  oy 14 (.mv (.t 13)),
  oz 15 14 false (.mv (.t 3)),
  oz 16 14 false (.bin .lss .int (.t 15) (.c (.int .i64 1))),
  oy 17 (.pick (.t 14) (.c (.bool true)) (.t 16)),
  oy 18 (.mv (.t 17)),
  oz 19 18 false (.mv (.t 3)),
  oz 20 18 false (.bin .gtr .int (.t 19) (.c (.int .i64 4096))),
  oy 21 (.pick (.t 18) (.c (.bool true)) (.t 20))]
def n5_8 : ICode := .region l5_8
@[simp] def l5_11 : List IOper := [oy 2 (.mv (.c (.bool false)))]
def n5_11 : ICode := .region l5_11
def n5_12 : ICode := .ret
def n5_10 : ICode := .seq n5_11 n5_12
def n5_13 : ICode := .skip
def n5_9 : ICode := .cond (.t 21) n5_10 n5_13
def n5_7 : ICode := .seq n5_8 n5_9
@[simp] def l5_15 : List IOper := [oy 22 (.mv (.t 3)),
  oy 23 (.mkSlice 4 (.bool false) 1 (.t 22) (.t 22)),
  oy 4 (.mv (.t 23))]
def n5_15 : ICode := .region l5_15
@[simp] def l5_17 : List IOper := [oy 24 (.load true 6 (.t 1)),
  oy 25 (.call (.c (.func (.func 38) #[] #[])) [(.t 24)] false),
  oy 5 (.mv (.t 25))]
def n5_17 : ICode := .region l5_17
@[simp] def l5_20 : List IOper := [oy 6 (.mv (.c (.int .i64 0)))]
def n5_20 : ICode := .region l5_20
@[simp] def l5_24 : List IOper := [oy 26 (.mv (.t 6)),
  oy 27 (.mv (.t 5)),
  oy 28 (.lenS (.t 27)),
  oy 29 (.bin .lss .int (.t 26) (.t 28))]
def n5_24 : ICode := .region l5_24
def n5_26 : ICode := .skip
def n5_27 : ICode := .exit 0
def n5_25 : ICode := .cond (.t 29) n5_26 n5_27
def n5_23 : ICode := .seq n5_24 n5_25
@[simp] def l5_32 : List IOper := [oy 32 (.mv (.t 5)),
  oy 33 (.mv (.t 6)),
  oy 34 (.idxS 1 (.t 32) (.t 33)),
  oy 35 (.load false 1 (.t 34)),
  oy 36 (.bin .lss .int (.t 35) (.c (.int .i64 0))),
  oy 37 (.mv (.t 36)),
  oz 38 37 false (.mv (.t 5)),
  oz 39 37 false (.mv (.t 6)),
  oz 40 37 false (.idxS 1 (.t 38) (.t 39)),
  oz 41 37 false (.load false 1 (.t 40)),
  oz 42 37 false (.mv (.t 3)),
  oz 43 37 false (.bin .geq .int (.t 41) (.t 42)),
  oy 44 (.pick (.t 37) (.c (.bool true)) (.t 43)),
  oy 45 (.mv (.t 44)),
  oz 46 45 false (.mv (.t 4)),
  oz 47 45 false (.mv (.t 5)),
  oz 48 45 false (.mv (.t 6)),
  oz 49 45 false (.idxS 1 (.t 47) (.t 48)),
  oz 50 45 false (.load false 1 (.t 49)),
  oz 51 45 false (.idxS 1 (.t 46) (.t 50)),
  oz 52 45 false (.load false 1 (.t 51)),
  oy 53 (.pick (.t 45) (.c (.bool true)) (.t 52))]
def n5_32 : ICode := .region l5_32
@[simp] def l5_35 : List IOper := [oy 2 (.mv (.c (.bool false)))]
def n5_35 : ICode := .region l5_35
def n5_36 : ICode := .ret
def n5_34 : ICode := .seq n5_35 n5_36
def n5_37 : ICode := .skip
def n5_33 : ICode := .cond (.t 53) n5_34 n5_37
def n5_31 : ICode := .seq n5_32 n5_33
@[simp] def l5_38 : List IOper := [oy 54 (.mv (.t 4)),
  oy 55 (.mv (.t 5)),
  oy 56 (.mv (.t 6)),
  oy 57 (.idxS 1 (.t 55) (.t 56)),
  oy 58 (.load false 1 (.t 57)),
  oy 59 (.idxS 1 (.t 54) (.t 58)),
  ox (.store 1 (.t 59) (.c (.bool true)))]
def n5_38 : ICode := .region l5_38
def n5_30 : ICode := .seq n5_31 n5_38
def n5_29 : ICode := .block 1 n5_30
@[simp] def l5_39 : List IOper := [oy 30 (.mv (.t 6)),
  oy 31 (.bin .add .int (.t 30) (.c (.int .i64 1))),
  oy 6 (.mv (.t 31))]
def n5_39 : ICode := .region l5_39
def n5_28 : ICode := .seq n5_29 n5_39
def n5_22 : ICode := .seq n5_23 n5_28
def loop5_0 : ICode := .loop n5_22
def n5_21 : ICode := .block 0 loop5_0
def n5_19 : ICode := .seq n5_20 n5_21
@[simp] def l5_41 : List IOper := [oy 60 (.call (.c (.func (.func 31) #[] #[])) [] false),
  oy 2 (.mv (.t 60))]
def n5_41 : ICode := .region l5_41
def n5_42 : ICode := .ret
def n5_40 : ICode := .seq n5_41 n5_42
def n5_18 : ICode := .seq n5_19 n5_40
def n5_16 : ICode := .seq n5_17 n5_18
def n5_14 : ICode := .seq n5_15 n5_16
def n5_6 : ICode := .seq n5_7 n5_14
def n5_4 : ICode := .seq n5_5 n5_6
def n5_2 : ICode := .seq n5_3 n5_4
def n5_0 : ICode := .seq n5_1 n5_2
theorem b5 : table.find 5 = some ⟨61, n5_0, [.tmp 2]⟩ := by kernel_rfl
@[simp] theorem en5_1 : evCode C n5_1 R S = regK (runOps C l5_1 R S) := ev_plain rfl
@[simp] theorem en5_3 : evCode C n5_3 R S = regK (runOps C l5_3 R S) := ev_plain rfl
@[simp] theorem en5_5 : evCode C n5_5 R S = regK (runOps C l5_5 R S) := ev_plain rfl
@[simp] theorem en5_8 : evCode C n5_8 R S = regK (runOps C l5_8 R S) := ev_plain rfl
@[simp] theorem en5_11 : evCode C n5_11 R S = regK (runOps C l5_11 R S) := ev_plain rfl
@[simp] theorem en5_12 : evCode C n5_12 R S = some (.ret, R, S) := (rfl)
@[simp] theorem en5_10 : evCode C n5_10 R S = seqK (evCode C n5_11 R S) fun R S => evCode C n5_12 R S := ev_seq
@[simp] theorem en5_13 : evCode C n5_13 R S = some (.norm, R, S) := (rfl)
@[simp] theorem en5_9 : evCode C n5_9 R S = condK (IV.ev R (.t 21)) (fun _ => evCode C n5_10 R S) fun _ => evCode C n5_13 R S := ev_cond
@[simp] theorem en5_7 : evCode C n5_7 R S = seqK (evCode C n5_8 R S) fun R S => evCode C n5_9 R S := ev_seq
@[simp] theorem en5_15 : evCode C n5_15 R S = regK (runOps C l5_15 R S) := ev_plain rfl
@[simp] theorem en5_17 : evCode C n5_17 R S = regK (runOps C l5_17 R S) := ev_plain rfl
@[simp] theorem en5_20 : evCode C n5_20 R S = regK (runOps C l5_20 R S) := ev_plain rfl
@[simp] theorem en5_24 : evCode C n5_24 R S = regK (runOps C l5_24 R S) := ev_plain rfl
@[simp] theorem en5_26 : evCode C n5_26 R S = some (.norm, R, S) := (rfl)
@[simp] theorem en5_27 : evCode C n5_27 R S = some (.exit 0, R, S) := (rfl)
@[simp] theorem en5_25 : evCode C n5_25 R S = condK (IV.ev R (.t 29)) (fun _ => evCode C n5_26 R S) fun _ => evCode C n5_27 R S := ev_cond
@[simp] theorem en5_23 : evCode C n5_23 R S = seqK (evCode C n5_24 R S) fun R S => evCode C n5_25 R S := ev_seq
@[simp] theorem en5_32 : evCode C n5_32 R S = regK (runOps C l5_32 R S) := ev_plain rfl
@[simp] theorem en5_35 : evCode C n5_35 R S = regK (runOps C l5_35 R S) := ev_plain rfl
@[simp] theorem en5_36 : evCode C n5_36 R S = some (.ret, R, S) := (rfl)
@[simp] theorem en5_34 : evCode C n5_34 R S = seqK (evCode C n5_35 R S) fun R S => evCode C n5_36 R S := ev_seq
@[simp] theorem en5_37 : evCode C n5_37 R S = some (.norm, R, S) := (rfl)
@[simp] theorem en5_33 : evCode C n5_33 R S = condK (IV.ev R (.t 53)) (fun _ => evCode C n5_34 R S) fun _ => evCode C n5_37 R S := ev_cond
@[simp] theorem en5_31 : evCode C n5_31 R S = seqK (evCode C n5_32 R S) fun R S => evCode C n5_33 R S := ev_seq
@[simp] theorem en5_38 : evCode C n5_38 R S = regK (runOps C l5_38 R S) := ev_plain rfl
@[simp] theorem en5_30 : evCode C n5_30 R S = seqK (evCode C n5_31 R S) fun R S => evCode C n5_38 R S := ev_seq
@[simp] theorem en5_29 : evCode C n5_29 R S = blockK 1 (evCode C n5_30 R S) := ev_block
@[simp] theorem en5_39 : evCode C n5_39 R S = regK (runOps C l5_39 R S) := ev_plain rfl
@[simp] theorem en5_28 : evCode C n5_28 R S = seqK (evCode C n5_29 R S) fun R S => evCode C n5_39 R S := ev_seq
@[simp] theorem en5_22 : evCode C n5_22 R S = seqK (evCode C n5_23 R S) fun R S => evCode C n5_28 R S := ev_seq
theorem eloop5_0 : evCode C loop5_0 R S = iter (fun R S => evCode C n5_22 R S) rounds R S := (rfl)
@[simp] theorem en5_21 : evCode C n5_21 R S = blockK 0 (evCode C loop5_0 R S) := ev_block
@[simp] theorem en5_19 : evCode C n5_19 R S = seqK (evCode C n5_20 R S) fun R S => evCode C n5_21 R S := ev_seq
@[simp] theorem en5_41 : evCode C n5_41 R S = regK (runOps C l5_41 R S) := ev_plain rfl
@[simp] theorem en5_42 : evCode C n5_42 R S = some (.ret, R, S) := (rfl)
@[simp] theorem en5_40 : evCode C n5_40 R S = seqK (evCode C n5_41 R S) fun R S => evCode C n5_42 R S := ev_seq
@[simp] theorem en5_18 : evCode C n5_18 R S = seqK (evCode C n5_19 R S) fun R S => evCode C n5_40 R S := ev_seq
@[simp] theorem en5_16 : evCode C n5_16 R S = seqK (evCode C n5_17 R S) fun R S => evCode C n5_18 R S := ev_seq
@[simp] theorem en5_14 : evCode C n5_14 R S = seqK (evCode C n5_15 R S) fun R S => evCode C n5_16 R S := ev_seq
@[simp] theorem en5_6 : evCode C n5_6 R S = seqK (evCode C n5_7 R S) fun R S => evCode C n5_14 R S := ev_seq
@[simp] theorem en5_4 : evCode C n5_4 R S = seqK (evCode C n5_5 R S) fun R S => evCode C n5_6 R S := ev_seq
@[simp] theorem en5_2 : evCode C n5_2 R S = seqK (evCode C n5_3 R S) fun R S => evCode C n5_4 R S := ev_seq
@[simp] theorem en5_0 : evCode C n5_0 R S = seqK (evCode C n5_1 R S) fun R S => evCode C n5_2 R S := ev_seq
theorem q5 {n : Nat} {args : List Value} {S : St} : calls table.find (n + 1) 5 args S = endK S [.tmp 2] (evCode (calls table.find n) n5_0 (args ++ List.replicate (61 - args.length) undef) S.enter) := call_enter b5

/-! wainscot/wainscotlaw21.ChartBlind -/
@[simp] def l6_1 : List IOper := [oy 4 (.box 24 6 (.t 1)),
  oy 6 (.mv (.c (.bool false)))]
def n6_1 : ICode := .region l6_1
@[simp] def l6_3 : List IOper := [oy 18 (.load true 6 (.t 4)),
  oy 19 (.call (.c (.func (.func 37) #[] #[])) [(.t 18)] true),
  ox (.store 6 (.t 4) (.t 19))]
def n6_3 : ICode := .region l6_3
@[simp] def l6_5 : List IOper := [oy 20 (.load true 6 (.t 4)),
  oy 21 (.call (.c (.func (.func 9) #[] #[])) [(.t 20)] true),
  oy 7 (.mv (.t 21))]
def n6_5 : ICode := .region l6_5
@[simp] def l6_8 : List IOper := [oy 22 (.mv (.t 7)),
  oy 23 (.bin .lss .int (.t 22) (.c (.int .i64 1))),
  oy 24 (.mv (.t 23)),
  oz 25 24 false (.mv (.t 7)),
  oz 26 24 false (.bin .gtr .int (.t 25) (.c (.int .i64 4096))),
  oy 27 (.pick (.t 24) (.c (.bool true)) (.t 26))]
def n6_8 : ICode := .region l6_8
@[simp] def l6_11 : List IOper := [oy 6 (.mv (.c (.bool false)))]
def n6_11 : ICode := .region l6_11
def n6_12 : ICode := .ret
def n6_10 : ICode := .seq n6_11 n6_12
def n6_13 : ICode := .skip
def n6_9 : ICode := .cond (.t 27) n6_10 n6_13
def n6_7 : ICode := .seq n6_8 n6_9
@[simp] def l6_15 : List IOper := [oy 28 (.mv (.t 7)),
  oy 29 (.mkSlice 22 (.int .u64 0) 8 (.t 28) (.t 28)),
  oy 8 (.mv (.t 29))]
def n6_15 : ICode := .region l6_15
@[simp] def l6_18 : List IOper := [oy 9 (.mv (.c (.int .i64 0)))]
def n6_18 : ICode := .region l6_18
@[simp] def l6_22 : List IOper := [oy 30 (.mv (.t 9)),
  oy 31 (.mv (.t 7)),
  oy 32 (.bin .lss .int (.t 30) (.t 31)),
  oy 33 (.mv (.t 32)),
  oz 34 33 true (.mv (.t 9)),
  oz 35 33 true (.mv (.t 0)),
  oz 36 33 true (.lenS (.t 35)),
  oz 37 33 true (.bin .lss .int (.t 34) (.t 36)),
  oy 38 (.pick (.t 33) (.t 37) (.c (.bool false)))]
def n6_22 : ICode := .region l6_22
def n6_24 : ICode := .skip
def n6_25 : ICode := .exit 0
def n6_23 : ICode := .cond (.t 38) n6_24 n6_25
def n6_21 : ICode := .seq n6_22 n6_23
@[simp] def l6_28 : List IOper := [oy 41 (.mv (.t 8)),
  oy 42 (.mv (.t 9)),
  oy 43 (.mv (.t 0)),
  oy 44 (.mv (.t 9)),
  oy 45 (.idxS 1 (.t 43) (.t 44)),
  oy 46 (.load false 1 (.t 45)),
  oy 47 (.idxS 1 (.t 41) (.t 42)),
  ox (.store 1 (.t 47) (.t 46))]
def n6_28 : ICode := .region l6_28
def n6_27 : ICode := .block 1 n6_28
@[simp] def l6_29 : List IOper := [oy 39 (.mv (.t 9)),
  oy 40 (.bin .add .int (.t 39) (.c (.int .i64 1))),
  oy 9 (.mv (.t 40))]
def n6_29 : ICode := .region l6_29
def n6_26 : ICode := .seq n6_27 n6_29
def n6_20 : ICode := .seq n6_21 n6_26
def loop6_0 : ICode := .loop n6_20
def n6_19 : ICode := .block 0 loop6_0
def n6_17 : ICode := .seq n6_18 n6_19
@[simp] def l6_31 : List IOper := [oy 49 (.mv (.t 8)),
  oy 50 (.load true 6 (.t 4)),
  oy 51 (.call (.c (.func (.func 33) #[] #[])) [(.t 49), (.t 50)] true),
  oy 48 (.mv (.t 51)),
  oy 52 (.extract (.t 48) 0),
  oy 53 (.extract (.t 48) 1),
  oy 10 (.new 40 [(.slice none 0 0), (.slice none 0 0), (.bool false), (.slice none 0 0)]),
  ox (.store 4 (.t 10) (.t 52)),
  oy 11 (.mv (.t 53))]
def n6_31 : ICode := .region l6_31
@[simp] def l6_33 : List IOper := [oy 54 (.mv (.t 7)),
  oy 55 (.mkSlice 4 (.bool false) 1 (.t 54) (.t 54)),
  oy 12 (.mv (.t 55))]
def n6_33 : ICode := .region l6_33
@[simp] def l6_35 : List IOper := [oy 56 (.load true 6 (.t 4)),
  oy 57 (.call (.c (.func (.func 38) #[] #[])) [(.t 56)] false),
  oy 13 (.mv (.t 57))]
def n6_35 : ICode := .region l6_35
@[simp] def l6_38 : List IOper := [oy 14 (.mv (.c (.int .i64 0)))]
def n6_38 : ICode := .region l6_38
@[simp] def l6_42 : List IOper := [oy 58 (.mv (.t 14)),
  oy 59 (.mv (.t 13)),
  oy 60 (.lenS (.t 59)),
  oy 61 (.bin .lss .int (.t 58) (.t 60))]
def n6_42 : ICode := .region l6_42
def n6_44 : ICode := .skip
def n6_45 : ICode := .exit 2
def n6_43 : ICode := .cond (.t 61) n6_44 n6_45
def n6_41 : ICode := .seq n6_42 n6_43
@[simp] def l6_49 : List IOper := [oy 64 (.mv (.t 13)),
  oy 65 (.mv (.t 14)),
  oy 66 (.idxS 1 (.t 64) (.t 65)),
  oy 67 (.load false 1 (.t 66)),
  oy 68 (.bin .geq .int (.t 67) (.c (.int .i64 0))),
  oy 69 (.mv (.t 68)),
  oz 70 69 true (.mv (.t 13)),
  oz 71 69 true (.mv (.t 14)),
  oz 72 69 true (.idxS 1 (.t 70) (.t 71)),
  oz 73 69 true (.load false 1 (.t 72)),
  oz 74 69 true (.mv (.t 7)),
  oz 75 69 true (.bin .lss .int (.t 73) (.t 74)),
  oy 76 (.pick (.t 69) (.t 75) (.c (.bool false)))]
def n6_49 : ICode := .region l6_49
@[simp] def l6_51 : List IOper := [oy 77 (.mv (.t 12)),
  oy 78 (.mv (.t 13)),
  oy 79 (.mv (.t 14)),
  oy 80 (.idxS 1 (.t 78) (.t 79)),
  oy 81 (.load false 1 (.t 80)),
  oy 82 (.idxS 1 (.t 77) (.t 81)),
  ox (.store 1 (.t 82) (.c (.bool true)))]
def n6_51 : ICode := .region l6_51
def n6_52 : ICode := .skip
def n6_50 : ICode := .cond (.t 76) n6_51 n6_52
def n6_48 : ICode := .seq n6_49 n6_50
def n6_47 : ICode := .block 3 n6_48
@[simp] def l6_53 : List IOper := [oy 62 (.mv (.t 14)),
  oy 63 (.bin .add .int (.t 62) (.c (.int .i64 1))),
  oy 14 (.mv (.t 63))]
def n6_53 : ICode := .region l6_53
def n6_46 : ICode := .seq n6_47 n6_53
def n6_40 : ICode := .seq n6_41 n6_46
def loop6_1 : ICode := .loop n6_40
def n6_39 : ICode := .block 2 loop6_1
def n6_37 : ICode := .seq n6_38 n6_39
@[simp] def l6_56 : List IOper := [oy 15 (.mv (.c (.int .i64 0)))]
def n6_56 : ICode := .region l6_56
@[simp] def l6_60 : List IOper := [oy 83 (.mv (.t 15)),
  oy 84 (.mv (.t 7)),
  oy 85 (.bin .lss .int (.t 83) (.t 84))]
def n6_60 : ICode := .region l6_60
def n6_62 : ICode := .skip
def n6_63 : ICode := .exit 4
def n6_61 : ICode := .cond (.t 85) n6_62 n6_63
def n6_59 : ICode := .seq n6_60 n6_61
@[simp] def l6_67 : List IOper := [oy 88 (.mv (.t 12)),
  oy 89 (.mv (.t 15)),
  oy 90 (.idxS 1 (.t 88) (.t 89)),
  oy 91 (.load false 1 (.t 90)),
  oy 92 (.un .not (.t 91))]
def n6_67 : ICode := .region l6_67
@[simp] def l6_69 : List IOper := [oy 93 (.mv (.t 8)),
  oy 94 (.mv (.t 15)),
  oy 95 (.mv (.t 2)),
  oy 96 (.idxS 1 (.t 93) (.t 94)),
  ox (.store 1 (.t 96) (.t 95))]
def n6_69 : ICode := .region l6_69
def n6_70 : ICode := .skip
def n6_68 : ICode := .cond (.t 92) n6_69 n6_70
def n6_66 : ICode := .seq n6_67 n6_68
def n6_65 : ICode := .block 5 n6_66
@[simp] def l6_71 : List IOper := [oy 86 (.mv (.t 15)),
  oy 87 (.bin .add .int (.t 86) (.c (.int .i64 1))),
  oy 15 (.mv (.t 87))]
def n6_71 : ICode := .region l6_71
def n6_64 : ICode := .seq n6_65 n6_71
def n6_58 : ICode := .seq n6_59 n6_64
def loop6_2 : ICode := .loop n6_58
def n6_57 : ICode := .block 4 loop6_2
def n6_55 : ICode := .seq n6_56 n6_57
@[simp] def l6_73 : List IOper := [oy 98 (.mv (.t 8)),
  oy 99 (.load true 6 (.t 4)),
  oy 100 (.call (.c (.func (.func 33) #[] #[])) [(.t 98), (.t 99)] true),
  oy 97 (.mv (.t 100)),
  oy 101 (.extract (.t 97) 0),
  oy 102 (.extract (.t 97) 1),
  oy 16 (.new 40 [(.slice none 0 0), (.slice none 0 0), (.bool false), (.slice none 0 0)]),
  ox (.store 4 (.t 16) (.t 101)),
  oy 17 (.mv (.t 102))]
def n6_73 : ICode := .region l6_73
@[simp] def l6_75 : List IOper := [oy 103 (.mv (.t 11)),
  oy 104 (.mv (.t 17)),
  oy 105 (.bin .eql .int (.t 103) (.t 104)),
  oy 106 (.mv (.t 105)),
  oz 107 106 true (.load true 4 (.t 10)),
  oz 108 106 true (.load true 4 (.t 16)),
  oz 109 106 true (.call (.c (.func (.func 35) #[] #[])) [(.t 107), (.t 108)] true),
  oy 110 (.pick (.t 106) (.t 109) (.c (.bool false))),
  oy 111 (.mv (.t 110)),
  oz 112 111 true (.call (.c (.func (.func 31) #[] #[])) [] false),
  oy 113 (.pick (.t 111) (.t 112) (.c (.bool false))),
  oy 6 (.mv (.t 113))]
def n6_75 : ICode := .region l6_75
def n6_76 : ICode := .ret
def n6_74 : ICode := .seq n6_75 n6_76
def n6_72 : ICode := .seq n6_73 n6_74
def n6_54 : ICode := .seq n6_55 n6_72
def n6_36 : ICode := .seq n6_37 n6_54
def n6_34 : ICode := .seq n6_35 n6_36
def n6_32 : ICode := .seq n6_33 n6_34
def n6_30 : ICode := .seq n6_31 n6_32
def n6_16 : ICode := .seq n6_17 n6_30
def n6_14 : ICode := .seq n6_15 n6_16
def n6_6 : ICode := .seq n6_7 n6_14
def n6_4 : ICode := .seq n6_5 n6_6
def n6_2 : ICode := .seq n6_3 n6_4
def n6_0 : ICode := .seq n6_1 n6_2
theorem b6 : table.find 6 = some ⟨114, n6_0, [.tmp 6]⟩ := by kernel_rfl
@[simp] theorem en6_1 : evCode C n6_1 R S = regK (runOps C l6_1 R S) := ev_plain rfl
@[simp] theorem en6_3 : evCode C n6_3 R S = regK (runOps C l6_3 R S) := ev_plain rfl
@[simp] theorem en6_5 : evCode C n6_5 R S = regK (runOps C l6_5 R S) := ev_plain rfl
@[simp] theorem en6_8 : evCode C n6_8 R S = regK (runOps C l6_8 R S) := ev_plain rfl
@[simp] theorem en6_11 : evCode C n6_11 R S = regK (runOps C l6_11 R S) := ev_plain rfl
@[simp] theorem en6_12 : evCode C n6_12 R S = some (.ret, R, S) := (rfl)
@[simp] theorem en6_10 : evCode C n6_10 R S = seqK (evCode C n6_11 R S) fun R S => evCode C n6_12 R S := ev_seq
@[simp] theorem en6_13 : evCode C n6_13 R S = some (.norm, R, S) := (rfl)
@[simp] theorem en6_9 : evCode C n6_9 R S = condK (IV.ev R (.t 27)) (fun _ => evCode C n6_10 R S) fun _ => evCode C n6_13 R S := ev_cond
@[simp] theorem en6_7 : evCode C n6_7 R S = seqK (evCode C n6_8 R S) fun R S => evCode C n6_9 R S := ev_seq
@[simp] theorem en6_15 : evCode C n6_15 R S = regK (runOps C l6_15 R S) := ev_plain rfl
@[simp] theorem en6_18 : evCode C n6_18 R S = regK (runOps C l6_18 R S) := ev_plain rfl
@[simp] theorem en6_22 : evCode C n6_22 R S = regK (runOps C l6_22 R S) := ev_plain rfl
@[simp] theorem en6_24 : evCode C n6_24 R S = some (.norm, R, S) := (rfl)
@[simp] theorem en6_25 : evCode C n6_25 R S = some (.exit 0, R, S) := (rfl)
@[simp] theorem en6_23 : evCode C n6_23 R S = condK (IV.ev R (.t 38)) (fun _ => evCode C n6_24 R S) fun _ => evCode C n6_25 R S := ev_cond
@[simp] theorem en6_21 : evCode C n6_21 R S = seqK (evCode C n6_22 R S) fun R S => evCode C n6_23 R S := ev_seq
@[simp] theorem en6_28 : evCode C n6_28 R S = regK (runOps C l6_28 R S) := ev_plain rfl
@[simp] theorem en6_27 : evCode C n6_27 R S = blockK 1 (evCode C n6_28 R S) := ev_block
@[simp] theorem en6_29 : evCode C n6_29 R S = regK (runOps C l6_29 R S) := ev_plain rfl
@[simp] theorem en6_26 : evCode C n6_26 R S = seqK (evCode C n6_27 R S) fun R S => evCode C n6_29 R S := ev_seq
@[simp] theorem en6_20 : evCode C n6_20 R S = seqK (evCode C n6_21 R S) fun R S => evCode C n6_26 R S := ev_seq
theorem eloop6_0 : evCode C loop6_0 R S = iter (fun R S => evCode C n6_20 R S) rounds R S := (rfl)
@[simp] theorem en6_19 : evCode C n6_19 R S = blockK 0 (evCode C loop6_0 R S) := ev_block
@[simp] theorem en6_17 : evCode C n6_17 R S = seqK (evCode C n6_18 R S) fun R S => evCode C n6_19 R S := ev_seq
@[simp] theorem en6_31 : evCode C n6_31 R S = regK (runOps C l6_31 R S) := ev_plain rfl
@[simp] theorem en6_33 : evCode C n6_33 R S = regK (runOps C l6_33 R S) := ev_plain rfl
@[simp] theorem en6_35 : evCode C n6_35 R S = regK (runOps C l6_35 R S) := ev_plain rfl
@[simp] theorem en6_38 : evCode C n6_38 R S = regK (runOps C l6_38 R S) := ev_plain rfl
@[simp] theorem en6_42 : evCode C n6_42 R S = regK (runOps C l6_42 R S) := ev_plain rfl
@[simp] theorem en6_44 : evCode C n6_44 R S = some (.norm, R, S) := (rfl)
@[simp] theorem en6_45 : evCode C n6_45 R S = some (.exit 2, R, S) := (rfl)
@[simp] theorem en6_43 : evCode C n6_43 R S = condK (IV.ev R (.t 61)) (fun _ => evCode C n6_44 R S) fun _ => evCode C n6_45 R S := ev_cond
@[simp] theorem en6_41 : evCode C n6_41 R S = seqK (evCode C n6_42 R S) fun R S => evCode C n6_43 R S := ev_seq
@[simp] theorem en6_49 : evCode C n6_49 R S = regK (runOps C l6_49 R S) := ev_plain rfl
@[simp] theorem en6_51 : evCode C n6_51 R S = regK (runOps C l6_51 R S) := ev_plain rfl
@[simp] theorem en6_52 : evCode C n6_52 R S = some (.norm, R, S) := (rfl)
@[simp] theorem en6_50 : evCode C n6_50 R S = condK (IV.ev R (.t 76)) (fun _ => evCode C n6_51 R S) fun _ => evCode C n6_52 R S := ev_cond
@[simp] theorem en6_48 : evCode C n6_48 R S = seqK (evCode C n6_49 R S) fun R S => evCode C n6_50 R S := ev_seq
@[simp] theorem en6_47 : evCode C n6_47 R S = blockK 3 (evCode C n6_48 R S) := ev_block
@[simp] theorem en6_53 : evCode C n6_53 R S = regK (runOps C l6_53 R S) := ev_plain rfl
@[simp] theorem en6_46 : evCode C n6_46 R S = seqK (evCode C n6_47 R S) fun R S => evCode C n6_53 R S := ev_seq
@[simp] theorem en6_40 : evCode C n6_40 R S = seqK (evCode C n6_41 R S) fun R S => evCode C n6_46 R S := ev_seq
theorem eloop6_1 : evCode C loop6_1 R S = iter (fun R S => evCode C n6_40 R S) rounds R S := (rfl)
@[simp] theorem en6_39 : evCode C n6_39 R S = blockK 2 (evCode C loop6_1 R S) := ev_block
@[simp] theorem en6_37 : evCode C n6_37 R S = seqK (evCode C n6_38 R S) fun R S => evCode C n6_39 R S := ev_seq
@[simp] theorem en6_56 : evCode C n6_56 R S = regK (runOps C l6_56 R S) := ev_plain rfl
@[simp] theorem en6_60 : evCode C n6_60 R S = regK (runOps C l6_60 R S) := ev_plain rfl
@[simp] theorem en6_62 : evCode C n6_62 R S = some (.norm, R, S) := (rfl)
@[simp] theorem en6_63 : evCode C n6_63 R S = some (.exit 4, R, S) := (rfl)
@[simp] theorem en6_61 : evCode C n6_61 R S = condK (IV.ev R (.t 85)) (fun _ => evCode C n6_62 R S) fun _ => evCode C n6_63 R S := ev_cond
@[simp] theorem en6_59 : evCode C n6_59 R S = seqK (evCode C n6_60 R S) fun R S => evCode C n6_61 R S := ev_seq
@[simp] theorem en6_67 : evCode C n6_67 R S = regK (runOps C l6_67 R S) := ev_plain rfl
@[simp] theorem en6_69 : evCode C n6_69 R S = regK (runOps C l6_69 R S) := ev_plain rfl
@[simp] theorem en6_70 : evCode C n6_70 R S = some (.norm, R, S) := (rfl)
@[simp] theorem en6_68 : evCode C n6_68 R S = condK (IV.ev R (.t 92)) (fun _ => evCode C n6_69 R S) fun _ => evCode C n6_70 R S := ev_cond
@[simp] theorem en6_66 : evCode C n6_66 R S = seqK (evCode C n6_67 R S) fun R S => evCode C n6_68 R S := ev_seq
@[simp] theorem en6_65 : evCode C n6_65 R S = blockK 5 (evCode C n6_66 R S) := ev_block
@[simp] theorem en6_71 : evCode C n6_71 R S = regK (runOps C l6_71 R S) := ev_plain rfl
@[simp] theorem en6_64 : evCode C n6_64 R S = seqK (evCode C n6_65 R S) fun R S => evCode C n6_71 R S := ev_seq
@[simp] theorem en6_58 : evCode C n6_58 R S = seqK (evCode C n6_59 R S) fun R S => evCode C n6_64 R S := ev_seq
theorem eloop6_2 : evCode C loop6_2 R S = iter (fun R S => evCode C n6_58 R S) rounds R S := (rfl)
@[simp] theorem en6_57 : evCode C n6_57 R S = blockK 4 (evCode C loop6_2 R S) := ev_block
@[simp] theorem en6_55 : evCode C n6_55 R S = seqK (evCode C n6_56 R S) fun R S => evCode C n6_57 R S := ev_seq
@[simp] theorem en6_73 : evCode C n6_73 R S = regK (runOps C l6_73 R S) := ev_plain rfl
@[simp] theorem en6_75 : evCode C n6_75 R S = regK (runOps C l6_75 R S) := ev_plain rfl
@[simp] theorem en6_76 : evCode C n6_76 R S = some (.ret, R, S) := (rfl)
@[simp] theorem en6_74 : evCode C n6_74 R S = seqK (evCode C n6_75 R S) fun R S => evCode C n6_76 R S := ev_seq
@[simp] theorem en6_72 : evCode C n6_72 R S = seqK (evCode C n6_73 R S) fun R S => evCode C n6_74 R S := ev_seq
@[simp] theorem en6_54 : evCode C n6_54 R S = seqK (evCode C n6_55 R S) fun R S => evCode C n6_72 R S := ev_seq
@[simp] theorem en6_36 : evCode C n6_36 R S = seqK (evCode C n6_37 R S) fun R S => evCode C n6_54 R S := ev_seq
@[simp] theorem en6_34 : evCode C n6_34 R S = seqK (evCode C n6_35 R S) fun R S => evCode C n6_36 R S := ev_seq
@[simp] theorem en6_32 : evCode C n6_32 R S = seqK (evCode C n6_33 R S) fun R S => evCode C n6_34 R S := ev_seq
@[simp] theorem en6_30 : evCode C n6_30 R S = seqK (evCode C n6_31 R S) fun R S => evCode C n6_32 R S := ev_seq
@[simp] theorem en6_16 : evCode C n6_16 R S = seqK (evCode C n6_17 R S) fun R S => evCode C n6_30 R S := ev_seq
@[simp] theorem en6_14 : evCode C n6_14 R S = seqK (evCode C n6_15 R S) fun R S => evCode C n6_16 R S := ev_seq
@[simp] theorem en6_6 : evCode C n6_6 R S = seqK (evCode C n6_7 R S) fun R S => evCode C n6_14 R S := ev_seq
@[simp] theorem en6_4 : evCode C n6_4 R S = seqK (evCode C n6_5 R S) fun R S => evCode C n6_6 R S := ev_seq
@[simp] theorem en6_2 : evCode C n6_2 R S = seqK (evCode C n6_3 R S) fun R S => evCode C n6_4 R S := ev_seq
@[simp] theorem en6_0 : evCode C n6_0 R S = seqK (evCode C n6_1 R S) fun R S => evCode C n6_2 R S := ev_seq
theorem q6 {n : Nat} {args : List Value} {S : St} : calls table.find (n + 1) 6 args S = endK S [.tmp 6] (evCode (calls table.find n) n6_0 (args ++ List.replicate (114 - args.length) undef) S.enter) := call_enter b6

/-! wainscot/chart.Check -/
@[simp] def l8_1 : List IOper := [oy 1 (.box 24 6 (.t 0)),
  oy 2 (.mv (.c (.int .i64 0)))]
def n8_1 : ICode := .region l8_1
@[simp] def l8_6 : List IOper := [oy 4 (.addOff 0 (.t 1)),
  oy 5 (.load false 1 (.t 4)),
  oy 6 (.bin .lss .int (.t 5) (.c (.int .i64 1))),
  oy 3 (.mv (.t 6))]
def n8_6 : ICode := .region l8_6
def n8_8 : ICode := .skip
@[simp] def l8_10 : List IOper := [oy 7 (.addOff 0 (.t 1)),
  oy 8 (.load false 1 (.t 7)),
  oy 9 (.bin .gtr .int (.t 8) (.c (.int .i64 8))),
  oy 3 (.mv (.t 9))]
def n8_10 : ICode := .region l8_10
def n8_12 : ICode := .skip
@[simp] def l8_14 : List IOper := [oy 10 (.addOff 1 (.t 1)),
  oy 11 (.load false 1 (.t 10)),
  oy 12 (.bin .lss .int (.t 11) (.c (.int .i64 1))),
  oy 3 (.mv (.t 12))]
def n8_14 : ICode := .region l8_14
def n8_16 : ICode := .skip
@[simp] def l8_18 : List IOper := [oy 13 (.addOff 1 (.t 1)),
  oy 14 (.load false 1 (.t 13)),
  oy 15 (.bin .gtr .int (.t 14) (.c (.int .i64 32))),
  oy 3 (.mv (.t 15))]
def n8_18 : ICode := .region l8_18
def n8_20 : ICode := .skip
@[simp] def l8_22 : List IOper := [oy 16 (.addOff 2 (.t 1)),
  oy 17 (.load false 1 (.t 16)),
  oy 18 (.bin .lss .int (.t 17) (.c (.int .i64 1))),
  oy 3 (.mv (.t 18))]
def n8_22 : ICode := .region l8_22
def n8_24 : ICode := .skip
@[simp] def l8_25 : List IOper := [oy 19 (.addOff 2 (.t 1)),
  oy 20 (.load false 1 (.t 19)),
  oy 21 (.bin .gtr .int (.t 20) (.c (.int .i64 16))),
  oy 3 (.mv (.t 21))]
def n8_25 : ICode := .region l8_25
def n8_23 : ICode := .cond (.t 3) n8_24 n8_25
def n8_21 : ICode := .seq n8_22 n8_23
def n8_19 : ICode := .cond (.t 3) n8_20 n8_21
def n8_17 : ICode := .seq n8_18 n8_19
def n8_15 : ICode := .cond (.t 3) n8_16 n8_17
def n8_13 : ICode := .seq n8_14 n8_15
def n8_11 : ICode := .cond (.t 3) n8_12 n8_13
def n8_9 : ICode := .seq n8_10 n8_11
def n8_7 : ICode := .cond (.t 3) n8_8 n8_9
def n8_5 : ICode := .seq n8_6 n8_7
@[simp] def l8_28 : List IOper := [oy 2 (.mv (.c (.int .i64 2)))]
def n8_28 : ICode := .region l8_28
def n8_29 : ICode := .ret
def n8_27 : ICode := .seq n8_28 n8_29
@[simp] def l8_32 : List IOper := [oy 23 (.addOff 3 (.t 1)),
  oy 24 (.load false 1 (.t 23)),
  oy 25 (.bin .lss .int (.t 24) (.c (.int .i64 0))),
  oy 22 (.mv (.t 25))]
def n8_32 : ICode := .region l8_32
def n8_34 : ICode := .skip
@[simp] def l8_36 : List IOper := [oy 26 (.addOff 3 (.t 1)),
  oy 27 (.load false 1 (.t 26)),
  oy 28 (.bin .gtr .int (.t 27) (.c (.int .i64 32))),
  oy 22 (.mv (.t 28))]
def n8_36 : ICode := .region l8_36
def n8_38 : ICode := .skip
@[simp] def l8_40 : List IOper := [oy 29 (.addOff 4 (.t 1)),
  oy 30 (.load false 1 (.t 29)),
  oy 31 (.bin .lss .int (.t 30) (.c (.int .i64 0))),
  oy 22 (.mv (.t 31))]
def n8_40 : ICode := .region l8_40
def n8_42 : ICode := .skip
@[simp] def l8_43 : List IOper := [oy 32 (.addOff 4 (.t 1)),
  oy 33 (.load false 1 (.t 32)),
  oy 34 (.bin .gtr .int (.t 33) (.c (.int .i64 32))),
  oy 22 (.mv (.t 34))]
def n8_43 : ICode := .region l8_43
def n8_41 : ICode := .cond (.t 22) n8_42 n8_43
def n8_39 : ICode := .seq n8_40 n8_41
def n8_37 : ICode := .cond (.t 22) n8_38 n8_39
def n8_35 : ICode := .seq n8_36 n8_37
def n8_33 : ICode := .cond (.t 22) n8_34 n8_35
def n8_31 : ICode := .seq n8_32 n8_33
@[simp] def l8_46 : List IOper := [oy 2 (.mv (.c (.int .i64 2)))]
def n8_46 : ICode := .region l8_46
def n8_47 : ICode := .ret
def n8_45 : ICode := .seq n8_46 n8_47
def n8_48 : ICode := .skip
def n8_44 : ICode := .cond (.t 22) n8_45 n8_48
def n8_30 : ICode := .seq n8_31 n8_44
def n8_26 : ICode := .cond (.t 3) n8_27 n8_30
def n8_4 : ICode := .seq n8_5 n8_26
def n8_3 : ICode := .block 0 n8_4
@[simp] def l8_50 : List IOper := [oy 2 (.mv (.c (.int .i64 0)))]
def n8_50 : ICode := .region l8_50
def n8_51 : ICode := .ret
def n8_49 : ICode := .seq n8_50 n8_51
def n8_2 : ICode := .seq n8_3 n8_49
def n8_0 : ICode := .seq n8_1 n8_2
theorem b8 : table.find 8 = some ⟨35, n8_0, [.tmp 2]⟩ := by kernel_rfl
@[simp] theorem en8_1 : evCode C n8_1 R S = regK (runOps C l8_1 R S) := ev_plain rfl
@[simp] theorem en8_6 : evCode C n8_6 R S = regK (runOps C l8_6 R S) := ev_plain rfl
@[simp] theorem en8_8 : evCode C n8_8 R S = some (.norm, R, S) := (rfl)
@[simp] theorem en8_10 : evCode C n8_10 R S = regK (runOps C l8_10 R S) := ev_plain rfl
@[simp] theorem en8_12 : evCode C n8_12 R S = some (.norm, R, S) := (rfl)
@[simp] theorem en8_14 : evCode C n8_14 R S = regK (runOps C l8_14 R S) := ev_plain rfl
@[simp] theorem en8_16 : evCode C n8_16 R S = some (.norm, R, S) := (rfl)
@[simp] theorem en8_18 : evCode C n8_18 R S = regK (runOps C l8_18 R S) := ev_plain rfl
@[simp] theorem en8_20 : evCode C n8_20 R S = some (.norm, R, S) := (rfl)
@[simp] theorem en8_22 : evCode C n8_22 R S = regK (runOps C l8_22 R S) := ev_plain rfl
@[simp] theorem en8_24 : evCode C n8_24 R S = some (.norm, R, S) := (rfl)
@[simp] theorem en8_25 : evCode C n8_25 R S = regK (runOps C l8_25 R S) := ev_plain rfl
@[simp] theorem en8_23 : evCode C n8_23 R S = condK (IV.ev R (.t 3)) (fun _ => evCode C n8_24 R S) fun _ => evCode C n8_25 R S := ev_cond
@[simp] theorem en8_21 : evCode C n8_21 R S = seqK (evCode C n8_22 R S) fun R S => evCode C n8_23 R S := ev_seq
@[simp] theorem en8_19 : evCode C n8_19 R S = condK (IV.ev R (.t 3)) (fun _ => evCode C n8_20 R S) fun _ => evCode C n8_21 R S := ev_cond
@[simp] theorem en8_17 : evCode C n8_17 R S = seqK (evCode C n8_18 R S) fun R S => evCode C n8_19 R S := ev_seq
@[simp] theorem en8_15 : evCode C n8_15 R S = condK (IV.ev R (.t 3)) (fun _ => evCode C n8_16 R S) fun _ => evCode C n8_17 R S := ev_cond
@[simp] theorem en8_13 : evCode C n8_13 R S = seqK (evCode C n8_14 R S) fun R S => evCode C n8_15 R S := ev_seq
@[simp] theorem en8_11 : evCode C n8_11 R S = condK (IV.ev R (.t 3)) (fun _ => evCode C n8_12 R S) fun _ => evCode C n8_13 R S := ev_cond
@[simp] theorem en8_9 : evCode C n8_9 R S = seqK (evCode C n8_10 R S) fun R S => evCode C n8_11 R S := ev_seq
@[simp] theorem en8_7 : evCode C n8_7 R S = condK (IV.ev R (.t 3)) (fun _ => evCode C n8_8 R S) fun _ => evCode C n8_9 R S := ev_cond
@[simp] theorem en8_5 : evCode C n8_5 R S = seqK (evCode C n8_6 R S) fun R S => evCode C n8_7 R S := ev_seq
@[simp] theorem en8_28 : evCode C n8_28 R S = regK (runOps C l8_28 R S) := ev_plain rfl
@[simp] theorem en8_29 : evCode C n8_29 R S = some (.ret, R, S) := (rfl)
@[simp] theorem en8_27 : evCode C n8_27 R S = seqK (evCode C n8_28 R S) fun R S => evCode C n8_29 R S := ev_seq
@[simp] theorem en8_32 : evCode C n8_32 R S = regK (runOps C l8_32 R S) := ev_plain rfl
@[simp] theorem en8_34 : evCode C n8_34 R S = some (.norm, R, S) := (rfl)
@[simp] theorem en8_36 : evCode C n8_36 R S = regK (runOps C l8_36 R S) := ev_plain rfl
@[simp] theorem en8_38 : evCode C n8_38 R S = some (.norm, R, S) := (rfl)
@[simp] theorem en8_40 : evCode C n8_40 R S = regK (runOps C l8_40 R S) := ev_plain rfl
@[simp] theorem en8_42 : evCode C n8_42 R S = some (.norm, R, S) := (rfl)
@[simp] theorem en8_43 : evCode C n8_43 R S = regK (runOps C l8_43 R S) := ev_plain rfl
@[simp] theorem en8_41 : evCode C n8_41 R S = condK (IV.ev R (.t 22)) (fun _ => evCode C n8_42 R S) fun _ => evCode C n8_43 R S := ev_cond
@[simp] theorem en8_39 : evCode C n8_39 R S = seqK (evCode C n8_40 R S) fun R S => evCode C n8_41 R S := ev_seq
@[simp] theorem en8_37 : evCode C n8_37 R S = condK (IV.ev R (.t 22)) (fun _ => evCode C n8_38 R S) fun _ => evCode C n8_39 R S := ev_cond
@[simp] theorem en8_35 : evCode C n8_35 R S = seqK (evCode C n8_36 R S) fun R S => evCode C n8_37 R S := ev_seq
@[simp] theorem en8_33 : evCode C n8_33 R S = condK (IV.ev R (.t 22)) (fun _ => evCode C n8_34 R S) fun _ => evCode C n8_35 R S := ev_cond
@[simp] theorem en8_31 : evCode C n8_31 R S = seqK (evCode C n8_32 R S) fun R S => evCode C n8_33 R S := ev_seq
@[simp] theorem en8_46 : evCode C n8_46 R S = regK (runOps C l8_46 R S) := ev_plain rfl
@[simp] theorem en8_47 : evCode C n8_47 R S = some (.ret, R, S) := (rfl)
@[simp] theorem en8_45 : evCode C n8_45 R S = seqK (evCode C n8_46 R S) fun R S => evCode C n8_47 R S := ev_seq
@[simp] theorem en8_48 : evCode C n8_48 R S = some (.norm, R, S) := (rfl)
@[simp] theorem en8_44 : evCode C n8_44 R S = condK (IV.ev R (.t 22)) (fun _ => evCode C n8_45 R S) fun _ => evCode C n8_48 R S := ev_cond
@[simp] theorem en8_30 : evCode C n8_30 R S = seqK (evCode C n8_31 R S) fun R S => evCode C n8_44 R S := ev_seq
@[simp] theorem en8_26 : evCode C n8_26 R S = condK (IV.ev R (.t 3)) (fun _ => evCode C n8_27 R S) fun _ => evCode C n8_30 R S := ev_cond
@[simp] theorem en8_4 : evCode C n8_4 R S = seqK (evCode C n8_5 R S) fun R S => evCode C n8_26 R S := ev_seq
@[simp] theorem en8_3 : evCode C n8_3 R S = blockK 0 (evCode C n8_4 R S) := ev_block
@[simp] theorem en8_50 : evCode C n8_50 R S = regK (runOps C l8_50 R S) := ev_plain rfl
@[simp] theorem en8_51 : evCode C n8_51 R S = some (.ret, R, S) := (rfl)
@[simp] theorem en8_49 : evCode C n8_49 R S = seqK (evCode C n8_50 R S) fun R S => evCode C n8_51 R S := ev_seq
@[simp] theorem en8_2 : evCode C n8_2 R S = seqK (evCode C n8_3 R S) fun R S => evCode C n8_49 R S := ev_seq
@[simp] theorem en8_0 : evCode C n8_0 R S = seqK (evCode C n8_1 R S) fun R S => evCode C n8_2 R S := ev_seq
theorem q8 {n : Nat} {args : List Value} {S : St} : calls table.find (n + 1) 8 args S = endK S [.tmp 2] (evCode (calls table.find n) n8_0 (args ++ List.replicate (35 - args.length) undef) S.enter) := call_enter b8

/-! wainscot/chart.Words -/
@[simp] def l9_1 : List IOper := [oy 1 (.box 24 6 (.t 0)),
  oy 2 (.mv (.c (.int .i64 0)))]
def n9_1 : ICode := .region l9_1
@[simp] def l9_4 : List IOper := [oy 3 (.load true 6 (.t 1)),
  oy 4 (.call (.c (.func (.func 8) #[] #[])) [(.t 3)] true),
  oy 5 (.bin .neq .int (.t 4) (.c (.int .i64 0)))]
def n9_4 : ICode := .region l9_4
@[simp] def l9_7 : List IOper := [oy 2 (.mv (.c (.int .i64 0)))]
def n9_7 : ICode := .region l9_7
def n9_8 : ICode := .ret
def n9_6 : ICode := .seq n9_7 n9_8
def n9_9 : ICode := .skip
def n9_5 : ICode := .cond (.t 5) n9_6 n9_9
def n9_3 : ICode := .seq n9_4 n9_5
@[simp] def l9_11 : List IOper := [oy 6 (.load true 6 (.t 1)),
  oy 7 (.call (.c (.func (.func 40) #[] #[])) [(.t 6)] true),
  oy 8 (.addOff 1 (.t 1)),
  oy 9 (.load false 1 (.t 8)),
  oy 10 (.addOff 2 (.t 1)),
  oy 11 (.load false 1 (.t 10)),
  oy 12 (.bin .mul .int (.t 9) (.t 11)),
  oy 13 (.bin .add .int (.t 7) (.t 12)),
  oy 2 (.mv (.t 13))]
def n9_11 : ICode := .region l9_11
def n9_12 : ICode := .ret
def n9_10 : ICode := .seq n9_11 n9_12
def n9_2 : ICode := .seq n9_3 n9_10
def n9_0 : ICode := .seq n9_1 n9_2
theorem b9 : table.find 9 = some ⟨14, n9_0, [.tmp 2]⟩ := by kernel_rfl
@[simp] theorem en9_1 : evCode C n9_1 R S = regK (runOps C l9_1 R S) := ev_plain rfl
@[simp] theorem en9_4 : evCode C n9_4 R S = regK (runOps C l9_4 R S) := ev_plain rfl
@[simp] theorem en9_7 : evCode C n9_7 R S = regK (runOps C l9_7 R S) := ev_plain rfl
@[simp] theorem en9_8 : evCode C n9_8 R S = some (.ret, R, S) := (rfl)
@[simp] theorem en9_6 : evCode C n9_6 R S = seqK (evCode C n9_7 R S) fun R S => evCode C n9_8 R S := ev_seq
@[simp] theorem en9_9 : evCode C n9_9 R S = some (.norm, R, S) := (rfl)
@[simp] theorem en9_5 : evCode C n9_5 R S = condK (IV.ev R (.t 5)) (fun _ => evCode C n9_6 R S) fun _ => evCode C n9_9 R S := ev_cond
@[simp] theorem en9_3 : evCode C n9_3 R S = seqK (evCode C n9_4 R S) fun R S => evCode C n9_5 R S := ev_seq
@[simp] theorem en9_11 : evCode C n9_11 R S = regK (runOps C l9_11 R S) := ev_plain rfl
@[simp] theorem en9_12 : evCode C n9_12 R S = some (.ret, R, S) := (rfl)
@[simp] theorem en9_10 : evCode C n9_10 R S = seqK (evCode C n9_11 R S) fun R S => evCode C n9_12 R S := ev_seq
@[simp] theorem en9_2 : evCode C n9_2 R S = seqK (evCode C n9_3 R S) fun R S => evCode C n9_10 R S := ev_seq
@[simp] theorem en9_0 : evCode C n9_0 R S = seqK (evCode C n9_1 R S) fun R S => evCode C n9_2 R S := ev_seq
theorem q9 {n : Nat} {args : List Value} {S : St} : calls table.find (n + 1) 9 args S = endK S [.tmp 2] (evCode (calls table.find n) n9_0 (args ++ List.replicate (14 - args.length) undef) S.enter) := call_enter b9

/-! wainscot/chart.Head -/
@[simp] def l10_1 : List IOper := [oy 2 (.box 24 6 (.t 0)),
  oy 3 (.box 3 1 (.t 1)),
  oy 4 (.mv (.c (.int .i64 0)))]
def n10_1 : ICode := .region l10_1
@[simp] def l10_3 : List IOper := [oy 5 (.load true 6 (.t 2)),
  oy 6 (.load false 1 (.t 3)),
  oy 7 (.addOff 0 (.t 2)),
  oy 8 (.load false 1 (.t 7)),
  oy 9 (.mkFunc 42 [] [(.t 3)]),
  oy 10 (.call (.c (.func (.func 41) #[] #[])) [(.t 5), (.t 6), (.t 8), (.t 9)] true),
  oy 4 (.mv (.t 10))]
def n10_3 : ICode := .region l10_3
def n10_4 : ICode := .ret
def n10_2 : ICode := .seq n10_3 n10_4
def n10_0 : ICode := .seq n10_1 n10_2
theorem b10 : table.find 10 = some ⟨11, n10_0, [.tmp 4]⟩ := by kernel_rfl
@[simp] theorem en10_1 : evCode C n10_1 R S = regK (runOps C l10_1 R S) := ev_plain rfl
@[simp] theorem en10_3 : evCode C n10_3 R S = regK (runOps C l10_3 R S) := ev_plain rfl
@[simp] theorem en10_4 : evCode C n10_4 R S = some (.ret, R, S) := (rfl)
@[simp] theorem en10_2 : evCode C n10_2 R S = seqK (evCode C n10_3 R S) fun R S => evCode C n10_4 R S := ev_seq
@[simp] theorem en10_0 : evCode C n10_0 R S = seqK (evCode C n10_1 R S) fun R S => evCode C n10_2 R S := ev_seq
theorem q10 {n : Nat} {args : List Value} {S : St} : calls table.find (n + 1) 10 args S = endK S [.tmp 4] (evCode (calls table.find n) n10_0 (args ++ List.replicate (11 - args.length) undef) S.enter) := call_enter b10

/-! wainscot/chart.Part -/
@[simp] def l11_1 : List IOper := [oy 2 (.box 24 6 (.t 0)),
  oy 3 (.box 3 1 (.t 1)),
  oy 4 (.mv (.c (.int .i64 0)))]
def n11_1 : ICode := .region l11_1
@[simp] def l11_3 : List IOper := [oy 5 (.load true 6 (.t 2)),
  oy 6 (.load false 1 (.t 3)),
  oy 7 (.addOff 0 (.t 2)),
  oy 8 (.load false 1 (.t 7)),
  oy 9 (.mkFunc 43 [] [(.t 3)]),
  oy 10 (.call (.c (.func (.func 41) #[] #[])) [(.t 5), (.t 6), (.t 8), (.t 9)] true),
  oy 4 (.mv (.t 10))]
def n11_3 : ICode := .region l11_3
def n11_4 : ICode := .ret
def n11_2 : ICode := .seq n11_3 n11_4
def n11_0 : ICode := .seq n11_1 n11_2
theorem b11 : table.find 11 = some ⟨11, n11_0, [.tmp 4]⟩ := by kernel_rfl
@[simp] theorem en11_1 : evCode C n11_1 R S = regK (runOps C l11_1 R S) := ev_plain rfl
@[simp] theorem en11_3 : evCode C n11_3 R S = regK (runOps C l11_3 R S) := ev_plain rfl
@[simp] theorem en11_4 : evCode C n11_4 R S = some (.ret, R, S) := (rfl)
@[simp] theorem en11_2 : evCode C n11_2 R S = seqK (evCode C n11_3 R S) fun R S => evCode C n11_4 R S := ev_seq
@[simp] theorem en11_0 : evCode C n11_0 R S = seqK (evCode C n11_1 R S) fun R S => evCode C n11_2 R S := ev_seq
theorem q11 {n : Nat} {args : List Value} {S : St} : calls table.find (n + 1) 11 args S = endK S [.tmp 4] (evCode (calls table.find n) n11_0 (args ++ List.replicate (11 - args.length) undef) S.enter) := call_enter b11

/-! wainscot/chart.Lock -/
@[simp] def l12_1 : List IOper := [oy 1 (.box 24 6 (.t 0)),
  oy 2 (.mv (.c (.int .i64 0)))]
def n12_1 : ICode := .region l12_1
@[simp] def l12_3 : List IOper := [oy 3 (.load true 6 (.t 1)),
  oy 4 (.mkFunc 44 [] [(.t 1)]),
  oy 5 (.call (.c (.func (.func 41) #[] #[])) [(.t 3), (.c (.int .i64 0)), (.c (.int .i64 1)), (.t 4)] true),
  oy 2 (.mv (.t 5))]
def n12_3 : ICode := .region l12_3
def n12_4 : ICode := .ret
def n12_2 : ICode := .seq n12_3 n12_4
def n12_0 : ICode := .seq n12_1 n12_2
theorem b12 : table.find 12 = some ⟨6, n12_0, [.tmp 2]⟩ := by kernel_rfl
@[simp] theorem en12_1 : evCode C n12_1 R S = regK (runOps C l12_1 R S) := ev_plain rfl
@[simp] theorem en12_3 : evCode C n12_3 R S = regK (runOps C l12_3 R S) := ev_plain rfl
@[simp] theorem en12_4 : evCode C n12_4 R S = some (.ret, R, S) := (rfl)
@[simp] theorem en12_2 : evCode C n12_2 R S = seqK (evCode C n12_3 R S) fun R S => evCode C n12_4 R S := ev_seq
@[simp] theorem en12_0 : evCode C n12_0 R S = seqK (evCode C n12_1 R S) fun R S => evCode C n12_2 R S := ev_seq
theorem q12 {n : Nat} {args : List Value} {S : St} : calls table.find (n + 1) 12 args S = endK S [.tmp 2] (evCode (calls table.find n) n12_0 (args ++ List.replicate (6 - args.length) undef) S.enter) := call_enter b12

/-! wainscot/chart.Shelf -/
@[simp] def l13_1 : List IOper := [oy 1 (.box 24 6 (.t 0)),
  oy 2 (.mv (.c (.int .i64 0)))]
def n13_1 : ICode := .region l13_1
@[simp] def l13_3 : List IOper := [oy 3 (.load true 6 (.t 1)),
  oy 4 (.mkFunc 46 [] [(.t 1)]),
  oy 5 (.call (.c (.func (.func 41) #[] #[])) [(.t 3), (.c (.int .i64 0)), (.c (.int .i64 1)), (.t 4)] true),
  oy 2 (.mv (.t 5))]
def n13_3 : ICode := .region l13_3
def n13_4 : ICode := .ret
def n13_2 : ICode := .seq n13_3 n13_4
def n13_0 : ICode := .seq n13_1 n13_2
theorem b13 : table.find 13 = some ⟨6, n13_0, [.tmp 2]⟩ := by kernel_rfl
@[simp] theorem en13_1 : evCode C n13_1 R S = regK (runOps C l13_1 R S) := ev_plain rfl
@[simp] theorem en13_3 : evCode C n13_3 R S = regK (runOps C l13_3 R S) := ev_plain rfl
@[simp] theorem en13_4 : evCode C n13_4 R S = some (.ret, R, S) := (rfl)
@[simp] theorem en13_2 : evCode C n13_2 R S = seqK (evCode C n13_3 R S) fun R S => evCode C n13_4 R S := ev_seq
@[simp] theorem en13_0 : evCode C n13_0 R S = seqK (evCode C n13_1 R S) fun R S => evCode C n13_2 R S := ev_seq
theorem q13 {n : Nat} {args : List Value} {S : St} : calls table.find (n + 1) 13 args S = endK S [.tmp 2] (evCode (calls table.find n) n13_0 (args ++ List.replicate (6 - args.length) undef) S.enter) := call_enter b13

/-! wainscot/chart.Held -/
@[simp] def l14_1 : List IOper := [oy 1 (.box 24 6 (.t 0)),
  oy 2 (.mv (.c (.int .i64 0)))]
def n14_1 : ICode := .region l14_1
@[simp] def l14_3 : List IOper := [oy 3 (.load true 6 (.t 1)),
  oy 4 (.mkFunc 47 [] [(.t 1)]),
  oy 5 (.call (.c (.func (.func 41) #[] #[])) [(.t 3), (.c (.int .i64 0)), (.c (.int .i64 1)), (.t 4)] true),
  oy 2 (.mv (.t 5))]
def n14_3 : ICode := .region l14_3
def n14_4 : ICode := .ret
def n14_2 : ICode := .seq n14_3 n14_4
def n14_0 : ICode := .seq n14_1 n14_2
theorem b14 : table.find 14 = some ⟨6, n14_0, [.tmp 2]⟩ := by kernel_rfl
@[simp] theorem en14_1 : evCode C n14_1 R S = regK (runOps C l14_1 R S) := ev_plain rfl
@[simp] theorem en14_3 : evCode C n14_3 R S = regK (runOps C l14_3 R S) := ev_plain rfl
@[simp] theorem en14_4 : evCode C n14_4 R S = some (.ret, R, S) := (rfl)
@[simp] theorem en14_2 : evCode C n14_2 R S = seqK (evCode C n14_3 R S) fun R S => evCode C n14_4 R S := ev_seq
@[simp] theorem en14_0 : evCode C n14_0 R S = seqK (evCode C n14_1 R S) fun R S => evCode C n14_2 R S := ev_seq
theorem q14 {n : Nat} {args : List Value} {S : St} : calls table.find (n + 1) 14 args S = endK S [.tmp 2] (evCode (calls table.find n) n14_0 (args ++ List.replicate (6 - args.length) undef) S.enter) := call_enter b14

/-! wainscot/chart.First -/
@[simp] def l15_1 : List IOper := [oy 2 (.box 24 6 (.t 0)),
  oy 3 (.box 3 1 (.t 1)),
  oy 4 (.mv (.c (.int .i64 0)))]
def n15_1 : ICode := .region l15_1
@[simp] def l15_3 : List IOper := [oy 5 (.load true 6 (.t 2)),
  oy 6 (.load false 1 (.t 3)),
  oy 7 (.addOff 1 (.t 2)),
  oy 8 (.load false 1 (.t 7)),
  oy 9 (.mkFunc 48 [] [(.t 2), (.t 3)]),
  oy 10 (.call (.c (.func (.func 41) #[] #[])) [(.t 5), (.t 6), (.t 8), (.t 9)] true),
  oy 4 (.mv (.t 10))]
def n15_3 : ICode := .region l15_3
def n15_4 : ICode := .ret
def n15_2 : ICode := .seq n15_3 n15_4
def n15_0 : ICode := .seq n15_1 n15_2
theorem b15 : table.find 15 = some ⟨11, n15_0, [.tmp 4]⟩ := by kernel_rfl
@[simp] theorem en15_1 : evCode C n15_1 R S = regK (runOps C l15_1 R S) := ev_plain rfl
@[simp] theorem en15_3 : evCode C n15_3 R S = regK (runOps C l15_3 R S) := ev_plain rfl
@[simp] theorem en15_4 : evCode C n15_4 R S = some (.ret, R, S) := (rfl)
@[simp] theorem en15_2 : evCode C n15_2 R S = seqK (evCode C n15_3 R S) fun R S => evCode C n15_4 R S := ev_seq
@[simp] theorem en15_0 : evCode C n15_0 R S = seqK (evCode C n15_1 R S) fun R S => evCode C n15_2 R S := ev_seq
theorem q15 {n : Nat} {args : List Value} {S : St} : calls table.find (n + 1) 15 args S = endK S [.tmp 4] (evCode (calls table.find n) n15_0 (args ++ List.replicate (11 - args.length) undef) S.enter) := call_enter b15

/-! wainscot/chart.Next -/
@[simp] def l16_1 : List IOper := [oy 2 (.box 24 6 (.t 0)),
  oy 3 (.box 3 1 (.t 1)),
  oy 4 (.mv (.c (.int .i64 0)))]
def n16_1 : ICode := .region l16_1
@[simp] def l16_3 : List IOper := [oy 5 (.load true 6 (.t 2)),
  oy 6 (.load false 1 (.t 3)),
  oy 7 (.addOff 1 (.t 2)),
  oy 8 (.load false 1 (.t 7)),
  oy 9 (.mkFunc 50 [] [(.t 2), (.t 3)]),
  oy 10 (.call (.c (.func (.func 41) #[] #[])) [(.t 5), (.t 6), (.t 8), (.t 9)] true),
  oy 4 (.mv (.t 10))]
def n16_3 : ICode := .region l16_3
def n16_4 : ICode := .ret
def n16_2 : ICode := .seq n16_3 n16_4
def n16_0 : ICode := .seq n16_1 n16_2
theorem b16 : table.find 16 = some ⟨11, n16_0, [.tmp 4]⟩ := by kernel_rfl
@[simp] theorem en16_1 : evCode C n16_1 R S = regK (runOps C l16_1 R S) := ev_plain rfl
@[simp] theorem en16_3 : evCode C n16_3 R S = regK (runOps C l16_3 R S) := ev_plain rfl
@[simp] theorem en16_4 : evCode C n16_4 R S = some (.ret, R, S) := (rfl)
@[simp] theorem en16_2 : evCode C n16_2 R S = seqK (evCode C n16_3 R S) fun R S => evCode C n16_4 R S := ev_seq
@[simp] theorem en16_0 : evCode C n16_0 R S = seqK (evCode C n16_1 R S) fun R S => evCode C n16_2 R S := ev_seq
theorem q16 {n : Nat} {args : List Value} {S : St} : calls table.find (n + 1) 16 args S = endK S [.tmp 4] (evCode (calls table.find n) n16_0 (args ++ List.replicate (11 - args.length) undef) S.enter) := call_enter b16

/-! wainscot/chart.Link -/
@[simp] def l17_1 : List IOper := [oy 3 (.box 24 6 (.t 0)),
  oy 4 (.box 3 1 (.t 1)),
  oy 5 (.box 3 1 (.t 2)),
  oy 6 (.mv (.c (.int .i64 0)))]
def n17_1 : ICode := .region l17_1
@[simp] def l17_4 : List IOper := [oy 7 (.load false 1 (.t 4)),
  oy 8 (.bin .lss .int (.t 7) (.c (.int .i64 0))),
  oy 9 (.mv (.t 8)),
  oz 10 9 false (.load false 1 (.t 4)),
  oz 11 9 false (.addOff 1 (.t 3)),
  oz 12 9 false (.load false 1 (.t 11)),
  oz 13 9 false (.bin .geq .int (.t 10) (.t 12)),
  oy 14 (.pick (.t 9) (.c (.bool true)) (.t 13))]
def n17_4 : ICode := .region l17_4
@[simp] def l17_7 : List IOper := [oy 6 (.mv (.c (.int .i64 (-1))))]
def n17_7 : ICode := .region l17_7
def n17_8 : ICode := .ret
def n17_6 : ICode := .seq n17_7 n17_8
def n17_9 : ICode := .skip
def n17_5 : ICode := .cond (.t 14) n17_6 n17_9
def n17_3 : ICode := .seq n17_4 n17_5
@[simp] def l17_11 : List IOper := [oy 15 (.load true 6 (.t 3)),
  oy 16 (.load false 1 (.t 5)),
  oy 17 (.addOff 2 (.t 3)),
  oy 18 (.load false 1 (.t 17)),
  oy 19 (.mkFunc 51 [] [(.t 3), (.t 4), (.t 5)]),
  oy 20 (.call (.c (.func (.func 41) #[] #[])) [(.t 15), (.t 16), (.t 18), (.t 19)] true),
  oy 6 (.mv (.t 20))]
def n17_11 : ICode := .region l17_11
def n17_12 : ICode := .ret
def n17_10 : ICode := .seq n17_11 n17_12
def n17_2 : ICode := .seq n17_3 n17_10
def n17_0 : ICode := .seq n17_1 n17_2
theorem b17 : table.find 17 = some ⟨21, n17_0, [.tmp 6]⟩ := by kernel_rfl
@[simp] theorem en17_1 : evCode C n17_1 R S = regK (runOps C l17_1 R S) := ev_plain rfl
@[simp] theorem en17_4 : evCode C n17_4 R S = regK (runOps C l17_4 R S) := ev_plain rfl
@[simp] theorem en17_7 : evCode C n17_7 R S = regK (runOps C l17_7 R S) := ev_plain rfl
@[simp] theorem en17_8 : evCode C n17_8 R S = some (.ret, R, S) := (rfl)
@[simp] theorem en17_6 : evCode C n17_6 R S = seqK (evCode C n17_7 R S) fun R S => evCode C n17_8 R S := ev_seq
@[simp] theorem en17_9 : evCode C n17_9 R S = some (.norm, R, S) := (rfl)
@[simp] theorem en17_5 : evCode C n17_5 R S = condK (IV.ev R (.t 14)) (fun _ => evCode C n17_6 R S) fun _ => evCode C n17_9 R S := ev_cond
@[simp] theorem en17_3 : evCode C n17_3 R S = seqK (evCode C n17_4 R S) fun R S => evCode C n17_5 R S := ev_seq
@[simp] theorem en17_11 : evCode C n17_11 R S = regK (runOps C l17_11 R S) := ev_plain rfl
@[simp] theorem en17_12 : evCode C n17_12 R S = some (.ret, R, S) := (rfl)
@[simp] theorem en17_10 : evCode C n17_10 R S = seqK (evCode C n17_11 R S) fun R S => evCode C n17_12 R S := ev_seq
@[simp] theorem en17_2 : evCode C n17_2 R S = seqK (evCode C n17_3 R S) fun R S => evCode C n17_10 R S := ev_seq
@[simp] theorem en17_0 : evCode C n17_0 R S = seqK (evCode C n17_1 R S) fun R S => evCode C n17_2 R S := ev_seq
theorem q17 {n : Nat} {args : List Value} {S : St} : calls table.find (n + 1) 17 args S = endK S [.tmp 6] (evCode (calls table.find n) n17_0 (args ++ List.replicate (21 - args.length) undef) S.enter) := call_enter b17

/-! wainscot/wainscotref00.EqInts -/
@[simp] def l28_1 : List IOper := [oy 4 (.mv (.c (.bool false)))]
def n28_1 : ICode := .region l28_1
@[simp] def l28_4 : List IOper := [oy 6 (.mv (.t 0)),
  oy 7 (.lenS (.t 6)),
  oy 8 (.mv (.t 1)),
  oy 9 (.lenS (.t 8)),
  oy 10 (.bin .neq .int (.t 7) (.t 9))]
def n28_4 : ICode := .region l28_4
@[simp] def l28_7 : List IOper := [oy 4 (.mv (.c (.bool false)))]
def n28_7 : ICode := .region l28_7
def n28_8 : ICode := .ret
def n28_6 : ICode := .seq n28_7 n28_8
def n28_9 : ICode := .skip
def n28_5 : ICode := .cond (.t 10) n28_6 n28_9
def n28_3 : ICode := .seq n28_4 n28_5
@[simp] def l28_12 : List IOper := [oy 5 (.mv (.c (.int .i64 0)))]
def n28_12 : ICode := .region l28_12
@[simp] def l28_16 : List IOper := [oy 11 (.mv (.t 5)),
  oy 12 (.mv (.t 0)),
  oy 13 (.lenS (.t 12)),
  oy 14 (.bin .lss .int (.t 11) (.t 13))]
def n28_16 : ICode := .region l28_16
def n28_18 : ICode := .skip
def n28_19 : ICode := .exit 0
def n28_17 : ICode := .cond (.t 14) n28_18 n28_19
def n28_15 : ICode := .seq n28_16 n28_17
@[simp] def l28_23 : List IOper := [oy 17 (.mv (.t 0)),
  oy 18 (.mv (.t 5)),
  oy 19 (.idxS 1 (.t 17) (.t 18)),
  oy 20 (.load false 1 (.t 19)),
  oy 21 (.mv (.t 1)),
  oy 22 (.mv (.t 5)),
  oy 23 (.idxS 1 (.t 21) (.t 22)),
  oy 24 (.load false 1 (.t 23)),
  oy 25 (.bin .neq .int (.t 20) (.t 24))]
def n28_23 : ICode := .region l28_23
@[simp] def l28_26 : List IOper := [oy 4 (.mv (.c (.bool false)))]
def n28_26 : ICode := .region l28_26
def n28_27 : ICode := .ret
def n28_25 : ICode := .seq n28_26 n28_27
def n28_28 : ICode := .skip
def n28_24 : ICode := .cond (.t 25) n28_25 n28_28
def n28_22 : ICode := .seq n28_23 n28_24
def n28_21 : ICode := .block 1 n28_22
@[simp] def l28_29 : List IOper := [oy 15 (.mv (.t 5)),
  oy 16 (.bin .add .int (.t 15) (.c (.int .i64 1))),
  oy 5 (.mv (.t 16))]
def n28_29 : ICode := .region l28_29
def n28_20 : ICode := .seq n28_21 n28_29
def n28_14 : ICode := .seq n28_15 n28_20
def loop28_0 : ICode := .loop n28_14
def n28_13 : ICode := .block 0 loop28_0
def n28_11 : ICode := .seq n28_12 n28_13
@[simp] def l28_31 : List IOper := [oy 4 (.mv (.c (.bool true)))]
def n28_31 : ICode := .region l28_31
def n28_32 : ICode := .ret
def n28_30 : ICode := .seq n28_31 n28_32
def n28_10 : ICode := .seq n28_11 n28_30
def n28_2 : ICode := .seq n28_3 n28_10
def n28_0 : ICode := .seq n28_1 n28_2
theorem b28 : table.find 28 = some ⟨26, n28_0, [.tmp 4]⟩ := by kernel_rfl
@[simp] theorem en28_1 : evCode C n28_1 R S = regK (runOps C l28_1 R S) := ev_plain rfl
@[simp] theorem en28_4 : evCode C n28_4 R S = regK (runOps C l28_4 R S) := ev_plain rfl
@[simp] theorem en28_7 : evCode C n28_7 R S = regK (runOps C l28_7 R S) := ev_plain rfl
@[simp] theorem en28_8 : evCode C n28_8 R S = some (.ret, R, S) := (rfl)
@[simp] theorem en28_6 : evCode C n28_6 R S = seqK (evCode C n28_7 R S) fun R S => evCode C n28_8 R S := ev_seq
@[simp] theorem en28_9 : evCode C n28_9 R S = some (.norm, R, S) := (rfl)
@[simp] theorem en28_5 : evCode C n28_5 R S = condK (IV.ev R (.t 10)) (fun _ => evCode C n28_6 R S) fun _ => evCode C n28_9 R S := ev_cond
@[simp] theorem en28_3 : evCode C n28_3 R S = seqK (evCode C n28_4 R S) fun R S => evCode C n28_5 R S := ev_seq
@[simp] theorem en28_12 : evCode C n28_12 R S = regK (runOps C l28_12 R S) := ev_plain rfl
@[simp] theorem en28_16 : evCode C n28_16 R S = regK (runOps C l28_16 R S) := ev_plain rfl
@[simp] theorem en28_18 : evCode C n28_18 R S = some (.norm, R, S) := (rfl)
@[simp] theorem en28_19 : evCode C n28_19 R S = some (.exit 0, R, S) := (rfl)
@[simp] theorem en28_17 : evCode C n28_17 R S = condK (IV.ev R (.t 14)) (fun _ => evCode C n28_18 R S) fun _ => evCode C n28_19 R S := ev_cond
@[simp] theorem en28_15 : evCode C n28_15 R S = seqK (evCode C n28_16 R S) fun R S => evCode C n28_17 R S := ev_seq
@[simp] theorem en28_23 : evCode C n28_23 R S = regK (runOps C l28_23 R S) := ev_plain rfl
@[simp] theorem en28_26 : evCode C n28_26 R S = regK (runOps C l28_26 R S) := ev_plain rfl
@[simp] theorem en28_27 : evCode C n28_27 R S = some (.ret, R, S) := (rfl)
@[simp] theorem en28_25 : evCode C n28_25 R S = seqK (evCode C n28_26 R S) fun R S => evCode C n28_27 R S := ev_seq
@[simp] theorem en28_28 : evCode C n28_28 R S = some (.norm, R, S) := (rfl)
@[simp] theorem en28_24 : evCode C n28_24 R S = condK (IV.ev R (.t 25)) (fun _ => evCode C n28_25 R S) fun _ => evCode C n28_28 R S := ev_cond
@[simp] theorem en28_22 : evCode C n28_22 R S = seqK (evCode C n28_23 R S) fun R S => evCode C n28_24 R S := ev_seq
@[simp] theorem en28_21 : evCode C n28_21 R S = blockK 1 (evCode C n28_22 R S) := ev_block
@[simp] theorem en28_29 : evCode C n28_29 R S = regK (runOps C l28_29 R S) := ev_plain rfl
@[simp] theorem en28_20 : evCode C n28_20 R S = seqK (evCode C n28_21 R S) fun R S => evCode C n28_29 R S := ev_seq
@[simp] theorem en28_14 : evCode C n28_14 R S = seqK (evCode C n28_15 R S) fun R S => evCode C n28_20 R S := ev_seq
theorem eloop28_0 : evCode C loop28_0 R S = iter (fun R S => evCode C n28_14 R S) rounds R S := (rfl)
@[simp] theorem en28_13 : evCode C n28_13 R S = blockK 0 (evCode C loop28_0 R S) := ev_block
@[simp] theorem en28_11 : evCode C n28_11 R S = seqK (evCode C n28_12 R S) fun R S => evCode C n28_13 R S := ev_seq
@[simp] theorem en28_31 : evCode C n28_31 R S = regK (runOps C l28_31 R S) := ev_plain rfl
@[simp] theorem en28_32 : evCode C n28_32 R S = some (.ret, R, S) := (rfl)
@[simp] theorem en28_30 : evCode C n28_30 R S = seqK (evCode C n28_31 R S) fun R S => evCode C n28_32 R S := ev_seq
@[simp] theorem en28_10 : evCode C n28_10 R S = seqK (evCode C n28_11 R S) fun R S => evCode C n28_30 R S := ev_seq
@[simp] theorem en28_2 : evCode C n28_2 R S = seqK (evCode C n28_3 R S) fun R S => evCode C n28_10 R S := ev_seq
@[simp] theorem en28_0 : evCode C n28_0 R S = seqK (evCode C n28_1 R S) fun R S => evCode C n28_2 R S := ev_seq
theorem q28 {n : Nat} {args : List Value} {S : St} : calls table.find (n + 1) 28 args S = endK S [.tmp 4] (evCode (calls table.find n) n28_0 (args ++ List.replicate (26 - args.length) undef) S.enter) := call_enter b28

/-! wainscot/chart.Key -/
@[simp] def l29_1 : List IOper := [oy 2 (.box 24 6 (.t 0)),
  oy 4 (.mv (.c (.int .u64 0)))]
def n29_1 : ICode := .region l29_1
@[simp] def l29_3 : List IOper := [oy 5 (.addOff 5 (.t 2)),
  oy 6 (.load false 1 (.t 5)),
  oy 7 (.mv (.t 1)),
  oy 8 (.conv .u64 (.t 7)),
  oy 9 (.bin .mul .int (.t 8) (.c (.int .u64 11400714819323198485))),
  oy 10 (.bin .add .int (.t 6) (.t 9)),
  oy 4 (.mv (.t 10))]
def n29_3 : ICode := .region l29_3
def n29_4 : ICode := .ret
def n29_2 : ICode := .seq n29_3 n29_4
def n29_0 : ICode := .seq n29_1 n29_2
theorem b29 : table.find 29 = some ⟨11, n29_0, [.tmp 4]⟩ := by kernel_rfl
@[simp] theorem en29_1 : evCode C n29_1 R S = regK (runOps C l29_1 R S) := ev_plain rfl
@[simp] theorem en29_3 : evCode C n29_3 R S = regK (runOps C l29_3 R S) := ev_plain rfl
@[simp] theorem en29_4 : evCode C n29_4 R S = some (.ret, R, S) := (rfl)
@[simp] theorem en29_2 : evCode C n29_2 R S = seqK (evCode C n29_3 R S) fun R S => evCode C n29_4 R S := ev_seq
@[simp] theorem en29_0 : evCode C n29_0 R S = seqK (evCode C n29_1 R S) fun R S => evCode C n29_2 R S := ev_seq
theorem q29 {n : Nat} {args : List Value} {S : St} : calls table.find (n + 1) 29 args S = endK S [.tmp 4] (evCode (calls table.find n) n29_0 (args ++ List.replicate (11 - args.length) undef) S.enter) := call_enter b29

/-! wainscot/wainscotlaw21.works -/
@[simp] def l31_1 : List IOper := [oy 0 (.mv (.c (.bool false)))]
def n31_1 : ICode := .region l31_1
@[simp] def l31_3 : List IOper := [oy 4 (.call (.c (.func (.func 39) #[] #[])) [] true),
  oy 1 (.new 24 [(.int .i64 0), (.int .i64 0), (.int .i64 0), (.int .i64 0), (.int .i64 0), (.int .u64 0)]),
  ox (.store 6 (.t 1) (.t 4))]
def n31_3 : ICode := .region l31_3
@[simp] def l31_5 : List IOper := [oy 6 (.mkSlice 22 (.int .u64 0) 8 (.c (.int .i64 36)) (.c (.int .i64 36))),
  oy 7 (.load true 6 (.t 1)),
  oy 8 (.call (.c (.func (.func 33) #[] #[])) [(.t 6), (.t 7)] true),
  oy 5 (.mv (.t 8)),
  oy 9 (.extract (.t 5) 0),
  oy 10 (.extract (.t 5) 1),
  oy 2 (.new 40 [(.slice none 0 0), (.slice none 0 0), (.bool false), (.slice none 0 0)]),
  ox (.store 4 (.t 2) (.t 9)),
  oy 3 (.mv (.t 10))]
def n31_5 : ICode := .region l31_5
@[simp] def l31_7 : List IOper := [oy 11 (.load true 6 (.t 1)),
  oy 12 (.call (.c (.func (.func 9) #[] #[])) [(.t 11)] true),
  oy 13 (.bin .eql .int (.t 12) (.c (.int .i64 36))),
  oy 14 (.mv (.t 13)),
  oz 15 14 true (.load true 6 (.t 1)),
  oz 16 14 true (.call (.c (.func (.func 10) #[] #[])) [(.t 15), (.c (.int .i64 1))] true),
  oz 17 14 true (.bin .eql .int (.t 16) (.c (.int .i64 4))),
  oy 18 (.pick (.t 14) (.t 17) (.c (.bool false))),
  oy 19 (.mv (.t 18)),
  oz 20 19 true (.load true 6 (.t 1)),
  oz 21 19 true (.call (.c (.func (.func 11) #[] #[])) [(.t 20), (.c (.int .i64 1))] true),
  oz 22 19 true (.bin .eql .int (.t 21) (.c (.int .i64 6))),
  oy 23 (.pick (.t 19) (.t 22) (.c (.bool false))),
  oy 24 (.mv (.t 23)),
  oz 25 24 true (.load true 6 (.t 1)),
  oz 26 24 true (.call (.c (.func (.func 12) #[] #[])) [(.t 25)] true),
  oz 27 24 true (.bin .eql .int (.t 26) (.c (.int .i64 8))),
  oy 28 (.pick (.t 24) (.t 27) (.c (.bool false))),
  oy 29 (.mv (.t 28)),
  oz 30 29 true (.load true 6 (.t 1)),
  oz 31 29 true (.call (.c (.func (.func 14) #[] #[])) [(.t 30)] true),
  oz 32 29 true (.bin .eql .int (.t 31) (.c (.int .i64 10))),
  oy 33 (.pick (.t 29) (.t 32) (.c (.bool false))),
  oy 34 (.mv (.t 33)),
  oz 35 34 true (.load true 6 (.t 1)),
  oz 36 34 true (.call (.c (.func (.func 15) #[] #[])) [(.t 35), (.c (.int .i64 0))] true),
  oz 37 34 true (.bin .eql .int (.t 36) (.c (.int .i64 12))),
  oy 38 (.pick (.t 34) (.t 37) (.c (.bool false))),
  oy 39 (.mv (.t 38)),
  oz 40 39 true (.load true 6 (.t 1)),
  oz 41 39 true (.call (.c (.func (.func 16) #[] #[])) [(.t 40), (.c (.int .i64 2))] true),
  oz 42 39 true (.bin .eql .int (.t 41) (.c (.int .i64 22))),
  oy 43 (.pick (.t 39) (.t 42) (.c (.bool false))),
  oy 44 (.mv (.t 43)),
  oz 45 44 true (.load true 6 (.t 1)),
  oz 46 44 true (.call (.c (.func (.func 17) #[] #[])) [(.t 45), (.c (.int .i64 2)), (.c (.int .i64 3))] true),
  oz 47 44 true (.bin .eql .int (.t 46) (.c (.int .i64 35))),
  oy 48 (.pick (.t 44) (.t 47) (.c (.bool false))),
  oy 49 (.mv (.t 48)),
  oz 50 49 true (.load true 6 (.t 1)),
  oz 51 49 true (.call (.c (.func (.func 17) #[] #[])) [(.t 50), (.c (.int .i64 2)), (.c (.int .i64 4))] true),
  oz 52 49 true (.bin .eql .int (.t 51) (.c (.int .i64 (-1)))),
  oy 53 (.pick (.t 49) (.t 52) (.c (.bool false))),
  oy 54 (.mv (.t 53)),
  oz 55 54 true (.mv (.t 3)),
  oz 56 54 true (.bin .eql .int (.t 55) (.c (.int .i64 0))),
  oy 57 (.pick (.t 54) (.t 56) (.c (.bool false))),
  oy 58 (.mv (.t 57)),
  oz 59 58 true (.addOff 0 (.t 2)),
  oz 60 58 true (.load false 1 (.t 59)),
  oz 61 58 true (.lenS (.t 60)),
  oz 62 58 true (.bin .eql .int (.t 61) (.c (.int .i64 2))),
  oy 63 (.pick (.t 58) (.t 62) (.c (.bool false))),
  oy 64 (.mv (.t 63)),
  oz 65 64 true (.addOff 0 (.t 2)),
  oz 66 64 true (.load false 1 (.t 65)),
  oz 67 64 true (.idxS 4 (.t 66) (.c (.int .i64 0))),
  oz 68 64 true (.addOff 0 (.t 67)),
  oz 69 64 true (.load false 1 (.t 68)),
  oz 70 64 true (.bin .eql .int (.t 69) (.c (.int .i64 (-1)))),
  oy 71 (.pick (.t 64) (.t 70) (.c (.bool false))),
  oy 72 (.mv (.t 71)),
  oz 73 72 true (.addOff 3 (.t 2)),
  oz 74 72 true (.load false 1 (.t 73)),
  oz 75 72 true (.lenS (.t 74)),
  oz 76 72 true (.bin .eql .int (.t 75) (.c (.int .i64 3))),
  oy 77 (.pick (.t 72) (.t 76) (.c (.bool false))),
  oy 78 (.mv (.t 77)),
  oz 79 78 true (.addOff 3 (.t 2)),
  oz 80 78 true (.load false 1 (.t 79)),
  oz 81 78 true (.idxS 5 (.t 80) (.c (.int .i64 0))),
  oz 82 78 true (.addOff 0 (.t 81)),
  oz 83 78 true (.addOff 3 (.t 82)),
  oz 84 78 true (.load false 1 (.t 83)),
  oz 85 78 true (.un .not (.t 84)),
  oy 86 (.pick (.t 78) (.t 85) (.c (.bool false))),
  oy 0 (.mv (.t 86))]
def n31_7 : ICode := .region l31_7
def n31_8 : ICode := .ret
def n31_6 : ICode := .seq n31_7 n31_8
def n31_4 : ICode := .seq n31_5 n31_6
def n31_2 : ICode := .seq n31_3 n31_4
def n31_0 : ICode := .seq n31_1 n31_2
theorem b31 : table.find 31 = some ⟨87, n31_0, [.tmp 0]⟩ := by kernel_rfl
@[simp] theorem en31_1 : evCode C n31_1 R S = regK (runOps C l31_1 R S) := ev_plain rfl
@[simp] theorem en31_3 : evCode C n31_3 R S = regK (runOps C l31_3 R S) := ev_plain rfl
@[simp] theorem en31_5 : evCode C n31_5 R S = regK (runOps C l31_5 R S) := ev_plain rfl
@[simp] theorem en31_7 : evCode C n31_7 R S = regK (runOps C l31_7 R S) := ev_plain rfl
@[simp] theorem en31_8 : evCode C n31_8 R S = some (.ret, R, S) := (rfl)
@[simp] theorem en31_6 : evCode C n31_6 R S = seqK (evCode C n31_7 R S) fun R S => evCode C n31_8 R S := ev_seq
@[simp] theorem en31_4 : evCode C n31_4 R S = seqK (evCode C n31_5 R S) fun R S => evCode C n31_6 R S := ev_seq
@[simp] theorem en31_2 : evCode C n31_2 R S = seqK (evCode C n31_3 R S) fun R S => evCode C n31_4 R S := ev_seq
@[simp] theorem en31_0 : evCode C n31_0 R S = seqK (evCode C n31_1 R S) fun R S => evCode C n31_2 R S := ev_seq
theorem q31 {n : Nat} {args : List Value} {S : St} : calls table.find (n + 1) 31 args S = endK S [.tmp 0] (evCode (calls table.find n) n31_0 (args ++ List.replicate (87 - args.length) undef) S.enter) := call_enter b31

/-! wainscot/wainscotlaw21.fitted -/
@[simp] def l32_1 : List IOper := [oy 3 (.box 24 6 (.t 1)),
  oy 4 (.mv (.c (.slice none 0 0)))]
def n32_1 : ICode := .region l32_1
@[simp] def l32_3 : List IOper := [oy 7 (.load true 6 (.t 3)),
  oy 8 (.call (.c (.func (.func 19) #[] #[])) [(.t 7)] true),
  oy 9 (.mkSlice 22 (.int .u64 0) 8 (.t 8) (.t 8)),
  oy 5 (.mv (.t 9))]
def n32_3 : ICode := .region l32_3
@[simp] def l32_6 : List IOper := [oy 6 (.mv (.c (.int .i64 0)))]
def n32_6 : ICode := .region l32_6
@[simp] def l32_10 : List IOper := [oy 10 (.mv (.t 6)),
  oy 11 (.mv (.t 5)),
  oy 12 (.lenS (.t 11)),
  oy 13 (.bin .lss .int (.t 10) (.t 12)),
  oy 14 (.mv (.t 13)),
  oz 15 14 true (.mv (.t 6)),
  oz 16 14 true (.mv (.t 0)),
  oz 17 14 true (.lenS (.t 16)),
  oz 18 14 true (.bin .lss .int (.t 15) (.t 17)),
  oy 19 (.pick (.t 14) (.t 18) (.c (.bool false)))]
def n32_10 : ICode := .region l32_10
def n32_12 : ICode := .skip
def n32_13 : ICode := .exit 0
def n32_11 : ICode := .cond (.t 19) n32_12 n32_13
def n32_9 : ICode := .seq n32_10 n32_11
@[simp] def l32_16 : List IOper := [oy 22 (.mv (.t 5)),
  oy 23 (.mv (.t 6)),
  oy 24 (.mv (.t 0)),
  oy 25 (.mv (.t 6)),
  oy 26 (.idxS 1 (.t 24) (.t 25)),
  oy 27 (.load false 1 (.t 26)),
  oy 28 (.idxS 1 (.t 22) (.t 23)),
  ox (.store 1 (.t 28) (.t 27))]
def n32_16 : ICode := .region l32_16
def n32_15 : ICode := .block 1 n32_16
@[simp] def l32_17 : List IOper := [oy 20 (.mv (.t 6)),
  oy 21 (.bin .add .int (.t 20) (.c (.int .i64 1))),
  oy 6 (.mv (.t 21))]
def n32_17 : ICode := .region l32_17
def n32_14 : ICode := .seq n32_15 n32_17
def n32_8 : ICode := .seq n32_9 n32_14
def loop32_0 : ICode := .loop n32_8
def n32_7 : ICode := .block 0 loop32_0
def n32_5 : ICode := .seq n32_6 n32_7
@[simp] def l32_19 : List IOper := [oy 29 (.mv (.t 5)),
  oy 4 (.mv (.t 29))]
def n32_19 : ICode := .region l32_19
def n32_20 : ICode := .ret
def n32_18 : ICode := .seq n32_19 n32_20
def n32_4 : ICode := .seq n32_5 n32_18
def n32_2 : ICode := .seq n32_3 n32_4
def n32_0 : ICode := .seq n32_1 n32_2
theorem b32 : table.find 32 = some ⟨30, n32_0, [.tmp 4]⟩ := by kernel_rfl
@[simp] theorem en32_1 : evCode C n32_1 R S = regK (runOps C l32_1 R S) := ev_plain rfl
@[simp] theorem en32_3 : evCode C n32_3 R S = regK (runOps C l32_3 R S) := ev_plain rfl
@[simp] theorem en32_6 : evCode C n32_6 R S = regK (runOps C l32_6 R S) := ev_plain rfl
@[simp] theorem en32_10 : evCode C n32_10 R S = regK (runOps C l32_10 R S) := ev_plain rfl
@[simp] theorem en32_12 : evCode C n32_12 R S = some (.norm, R, S) := (rfl)
@[simp] theorem en32_13 : evCode C n32_13 R S = some (.exit 0, R, S) := (rfl)
@[simp] theorem en32_11 : evCode C n32_11 R S = condK (IV.ev R (.t 19)) (fun _ => evCode C n32_12 R S) fun _ => evCode C n32_13 R S := ev_cond
@[simp] theorem en32_9 : evCode C n32_9 R S = seqK (evCode C n32_10 R S) fun R S => evCode C n32_11 R S := ev_seq
@[simp] theorem en32_16 : evCode C n32_16 R S = regK (runOps C l32_16 R S) := ev_plain rfl
@[simp] theorem en32_15 : evCode C n32_15 R S = blockK 1 (evCode C n32_16 R S) := ev_block
@[simp] theorem en32_17 : evCode C n32_17 R S = regK (runOps C l32_17 R S) := ev_plain rfl
@[simp] theorem en32_14 : evCode C n32_14 R S = seqK (evCode C n32_15 R S) fun R S => evCode C n32_17 R S := ev_seq
@[simp] theorem en32_8 : evCode C n32_8 R S = seqK (evCode C n32_9 R S) fun R S => evCode C n32_14 R S := ev_seq
theorem eloop32_0 : evCode C loop32_0 R S = iter (fun R S => evCode C n32_8 R S) rounds R S := (rfl)
@[simp] theorem en32_7 : evCode C n32_7 R S = blockK 0 (evCode C loop32_0 R S) := ev_block
@[simp] theorem en32_5 : evCode C n32_5 R S = seqK (evCode C n32_6 R S) fun R S => evCode C n32_7 R S := ev_seq
@[simp] theorem en32_19 : evCode C n32_19 R S = regK (runOps C l32_19 R S) := ev_plain rfl
@[simp] theorem en32_20 : evCode C n32_20 R S = some (.ret, R, S) := (rfl)
@[simp] theorem en32_18 : evCode C n32_18 R S = seqK (evCode C n32_19 R S) fun R S => evCode C n32_20 R S := ev_seq
@[simp] theorem en32_4 : evCode C n32_4 R S = seqK (evCode C n32_5 R S) fun R S => evCode C n32_18 R S := ev_seq
@[simp] theorem en32_2 : evCode C n32_2 R S = seqK (evCode C n32_3 R S) fun R S => evCode C n32_4 R S := ev_seq
@[simp] theorem en32_0 : evCode C n32_0 R S = seqK (evCode C n32_1 R S) fun R S => evCode C n32_2 R S := ev_seq
theorem q32 {n : Nat} {args : List Value} {S : St} : calls table.find (n + 1) 32 args S = endK S [.tmp 4] (evCode (calls table.find n) n32_0 (args ++ List.replicate (30 - args.length) undef) S.enter) := call_enter b32

/-! wainscot/chart.See -/
@[simp] def l33_1 : List IOper := [oy 3 (.box 24 6 (.t 1)),
  oy 4 (.new 40 [(.slice none 0 0), (.slice none 0 0), (.bool false), (.slice none 0 0)]),
  oy 5 (.mv (.c (.int .i64 0)))]
def n33_1 : ICode := .region l33_1
@[simp] def l33_4 : List IOper := [oy 16 (.load true 6 (.t 3)),
  oy 17 (.call (.c (.func (.func 8) #[] #[])) [(.t 16)] true),
  oy 18 (.bin .neq .int (.t 17) (.c (.int .i64 0))),
  oy 19 (.mv (.t 18)),
  oz 20 19 false (.mv (.t 0)),
  oz 21 19 false (.lenS (.t 20)),
  oz 22 19 false (.load true 6 (.t 3)),
  oz 23 19 false (.call (.c (.func (.func 9) #[] #[])) [(.t 22)] true),
  oz 24 19 false (.bin .neq .int (.t 21) (.t 23)),
  oy 25 (.pick (.t 19) (.c (.bool true)) (.t 24))]
def n33_4 : ICode := .region l33_4
@[simp] def l33_7 : List IOper := [oy 26 (.build [(.slice none 0 0), (.slice none 0 0), (.bool false), (.slice none 0 0)] []),
  ox (.store 4 (.t 4) (.t 26)),
  oy 5 (.mv (.c (.int .i64 2)))]
def n33_7 : ICode := .region l33_7
def n33_8 : ICode := .ret
def n33_6 : ICode := .seq n33_7 n33_8
def n33_9 : ICode := .skip
def n33_5 : ICode := .cond (.t 25) n33_6 n33_9
def n33_3 : ICode := .seq n33_4 n33_5
@[simp] def l33_11 : List IOper := [oy 27 (.mv (.t 0)),
  oy 28 (.load true 6 (.t 3)),
  oy 29 (.build [(.slice none 0 0), (.int .i64 0), (.int .i64 0), (.int .i64 0), (.int .i64 0), (.int .i64 0), (.int .u64 0)] [(0, 1, (.t 27)), (1, 6, (.t 28))]),
  oy 6 (.new 64 [(.slice none 0 0), (.int .i64 0), (.int .i64 0), (.int .i64 0), (.int .i64 0), (.int .i64 0), (.int .u64 0)]),
  ox (.store 7 (.t 6) (.t 29))]
def n33_11 : ICode := .region l33_11
@[simp] def l33_13 : List IOper := [oy 30 (.mv (.t 0)),
  oy 31 (.load true 6 (.t 3)),
  oy 32 (.call (.c (.func (.func 12) #[] #[])) [(.t 31)] true),
  oy 33 (.idxS 1 (.t 30) (.t 32)),
  oy 34 (.load false 1 (.t 33)),
  oy 35 (.bin .neq .int (.t 34) (.c (.int .u64 0))),
  oy 36 (.build [(.slice none 0 0), (.slice none 0 0), (.bool false), (.slice none 0 0)] [(2, 1, (.t 35))]),
  oy 7 (.new 40 [(.slice none 0 0), (.slice none 0 0), (.bool false), (.slice none 0 0)]),
  ox (.store 4 (.t 7) (.t 36))]
def n33_13 : ICode := .region l33_13
@[simp] def l33_16 : List IOper := [oy 37 (.addOff 0 (.t 3)),
  oy 38 (.load false 1 (.t 37)),
  oy 39 (.mv (.c (.int .i64 0)))]
def n33_16 : ICode := .region l33_16
@[simp] def l33_19 : List IOper := [oy 40 (.bin .lss .int (.t 39) (.t 38))]
def n33_19 : ICode := .region l33_19
def n33_22 : ICode := .skip
def n33_23 : ICode := .exit 0
def n33_21 : ICode := .cond (.t 40) n33_22 n33_23
@[simp] def l33_27 : List IOper := [oy 41 (.mv (.t 39)),
  oy 8 (.mv (.t 41))]
def n33_27 : ICode := .region l33_27
@[simp] def l33_29 : List IOper := [oy 43 (.load true 7 (.t 6)),
  oy 44 (.mv (.t 8)),
  oy 45 (.call (.c (.func (.func 54) #[] #[])) [(.t 43), (.t 44)] true),
  oy 42 (.mv (.t 45)),
  oy 46 (.extract (.t 42) 0),
  oy 47 (.extract (.t 42) 1),
  oy 9 (.new 58 [(.int .i64 0), (.slice none 0 0), (.int .u64 0), (.slice none 0 0)]),
  ox (.store 4 (.t 9) (.t 46)),
  oy 10 (.mv (.t 47))]
def n33_29 : ICode := .region l33_29
@[simp] def l33_32 : List IOper := [oy 48 (.mv (.t 10)),
  oy 49 (.un .not (.t 48))]
def n33_32 : ICode := .region l33_32
@[simp] def l33_35 : List IOper := [oy 50 (.build [(.slice none 0 0), (.slice none 0 0), (.bool false), (.slice none 0 0)] []),
  ox (.store 4 (.t 4) (.t 50)),
  oy 5 (.mv (.c (.int .i64 150)))]
def n33_35 : ICode := .region l33_35
def n33_36 : ICode := .ret
def n33_34 : ICode := .seq n33_35 n33_36
def n33_37 : ICode := .skip
def n33_33 : ICode := .cond (.t 49) n33_34 n33_37
def n33_31 : ICode := .seq n33_32 n33_33
@[simp] def l33_38 : List IOper := [oy 51 (.addOff 0 (.t 7)),
  oy 52 (.load false 1 (.t 51)),
  oy 53 (.load true 4 (.t 9)),
  oy 54 (.buildSlice 58 [(.int .i64 0), (.slice none 0 0), (.int .u64 0), (.slice none 0 0)] 1 [(0, 4, (.t 53))]),
  oy 55 (.append 58 4 64 (.t 52) (.t 54)),
  oy 56 (.addOff 0 (.t 7)),
  ox (.store 1 (.t 56) (.t 55))]
def n33_38 : ICode := .region l33_38
def n33_30 : ICode := .seq n33_31 n33_38
def n33_28 : ICode := .seq n33_29 n33_30
def n33_26 : ICode := .seq n33_27 n33_28
def n33_25 : ICode := .block 1 n33_26
@[simp] def l33_39 : List IOper := [oy 57 (.bin .add .int (.t 39) (.c (.int .i64 1))),
  oy 39 (.mv (.t 57))]
def n33_39 : ICode := .region l33_39
def n33_24 : ICode := .seq n33_25 n33_39
def n33_20 : ICode := .seq n33_21 n33_24
def n33_18 : ICode := .seq n33_19 n33_20
def loop33_0 : ICode := .loop n33_18
def n33_17 : ICode := .block 0 loop33_0
def n33_15 : ICode := .seq n33_16 n33_17
@[simp] def l33_41 : List IOper := [oy 59 (.load true 7 (.t 6)),
  oy 60 (.mv (.t 0)),
  oy 61 (.load true 6 (.t 3)),
  oy 62 (.call (.c (.func (.func 13) #[] #[])) [(.t 61)] true),
  oy 63 (.idxS 1 (.t 60) (.t 62)),
  oy 64 (.load false 1 (.t 63)),
  oy 65 (.call (.c (.func (.func 55) #[] #[])) [(.t 59), (.t 64), (.c (.func (.func 56) #[] #[]))] true),
  oy 58 (.mv (.t 65)),
  oy 66 (.extract (.t 58) 0),
  oy 67 (.extract (.t 58) 1),
  oy 11 (.mv (.t 66)),
  oy 12 (.mv (.t 67))]
def n33_41 : ICode := .region l33_41
@[simp] def l33_44 : List IOper := [oy 68 (.mv (.t 12)),
  oy 69 (.un .not (.t 68))]
def n33_44 : ICode := .region l33_44
@[simp] def l33_47 : List IOper := [oy 70 (.build [(.slice none 0 0), (.slice none 0 0), (.bool false), (.slice none 0 0)] []),
  ox (.store 4 (.t 4) (.t 70)),
  oy 5 (.mv (.c (.int .i64 150)))]
def n33_47 : ICode := .region l33_47
def n33_48 : ICode := .ret
def n33_46 : ICode := .seq n33_47 n33_48
def n33_49 : ICode := .skip
def n33_45 : ICode := .cond (.t 69) n33_46 n33_49
def n33_43 : ICode := .seq n33_44 n33_45
@[simp] def l33_51 : List IOper := [oy 71 (.mv (.t 11)),
  oy 72 (.addOff 1 (.t 7)),
  ox (.store 1 (.t 72) (.t 71))]
def n33_51 : ICode := .region l33_51
@[simp] def l33_54 : List IOper := [oy 73 (.addOff 1 (.t 3)),
  oy 74 (.load false 1 (.t 73)),
  oy 75 (.mv (.c (.int .i64 0)))]
def n33_54 : ICode := .region l33_54
@[simp] def l33_57 : List IOper := [oy 76 (.bin .lss .int (.t 75) (.t 74))]
def n33_57 : ICode := .region l33_57
def n33_60 : ICode := .skip
def n33_61 : ICode := .exit 2
def n33_59 : ICode := .cond (.t 76) n33_60 n33_61
@[simp] def l33_65 : List IOper := [oy 77 (.mv (.t 75)),
  oy 13 (.mv (.t 77))]
def n33_65 : ICode := .region l33_65
@[simp] def l33_67 : List IOper := [oy 79 (.load true 7 (.t 6)),
  oy 80 (.mv (.t 13)),
  oy 81 (.call (.c (.func (.func 57) #[] #[])) [(.t 79), (.t 80)] true),
  oy 78 (.mv (.t 81)),
  oy 82 (.extract (.t 78) 0),
  oy 83 (.extract (.t 78) 1),
  oy 14 (.new 62 [(.int .i64 0), (.int .i64 0), (.bool false), (.bool false), (.slice none 0 0)]),
  ox (.store 5 (.t 14) (.t 82)),
  oy 15 (.mv (.t 83))]
def n33_67 : ICode := .region l33_67
@[simp] def l33_70 : List IOper := [oy 84 (.mv (.t 15)),
  oy 85 (.un .not (.t 84))]
def n33_70 : ICode := .region l33_70
@[simp] def l33_73 : List IOper := [oy 86 (.build [(.slice none 0 0), (.slice none 0 0), (.bool false), (.slice none 0 0)] []),
  ox (.store 4 (.t 4) (.t 86)),
  oy 5 (.mv (.c (.int .i64 150)))]
def n33_73 : ICode := .region l33_73
def n33_74 : ICode := .ret
def n33_72 : ICode := .seq n33_73 n33_74
def n33_75 : ICode := .skip
def n33_71 : ICode := .cond (.t 85) n33_72 n33_75
def n33_69 : ICode := .seq n33_70 n33_71
@[simp] def l33_76 : List IOper := [oy 87 (.addOff 3 (.t 7)),
  oy 88 (.load false 1 (.t 87)),
  oy 89 (.load true 5 (.t 14)),
  oy 90 (.buildSlice 62 [(.int .i64 0), (.int .i64 0), (.bool false), (.bool false), (.slice none 0 0)] 1 [(0, 5, (.t 89))]),
  oy 91 (.append 62 5 48 (.t 88) (.t 90)),
  oy 92 (.addOff 3 (.t 7)),
  ox (.store 1 (.t 92) (.t 91))]
def n33_76 : ICode := .region l33_76
def n33_68 : ICode := .seq n33_69 n33_76
def n33_66 : ICode := .seq n33_67 n33_68
def n33_64 : ICode := .seq n33_65 n33_66
def n33_63 : ICode := .block 3 n33_64
@[simp] def l33_77 : List IOper := [oy 93 (.bin .add .int (.t 75) (.c (.int .i64 1))),
  oy 75 (.mv (.t 93))]
def n33_77 : ICode := .region l33_77
def n33_62 : ICode := .seq n33_63 n33_77
def n33_58 : ICode := .seq n33_59 n33_62
def n33_56 : ICode := .seq n33_57 n33_58
def loop33_1 : ICode := .loop n33_56
def n33_55 : ICode := .block 2 loop33_1
def n33_53 : ICode := .seq n33_54 n33_55
@[simp] def l33_79 : List IOper := [oy 94 (.load true 4 (.t 7)),
  ox (.store 4 (.t 4) (.t 94)),
  oy 5 (.mv (.c (.int .i64 0)))]
def n33_79 : ICode := .region l33_79
def n33_80 : ICode := .ret
def n33_78 : ICode := .seq n33_79 n33_80
def n33_52 : ICode := .seq n33_53 n33_78
def n33_50 : ICode := .seq n33_51 n33_52
def n33_42 : ICode := .seq n33_43 n33_50
def n33_40 : ICode := .seq n33_41 n33_42
def n33_14 : ICode := .seq n33_15 n33_40
def n33_12 : ICode := .seq n33_13 n33_14
def n33_10 : ICode := .seq n33_11 n33_12
def n33_2 : ICode := .seq n33_3 n33_10
def n33_0 : ICode := .seq n33_1 n33_2
theorem b33 : table.find 33 = some ⟨95, n33_0, [.cell 4 true 4, .tmp 5]⟩ := by kernel_rfl
@[simp] theorem en33_1 : evCode C n33_1 R S = regK (runOps C l33_1 R S) := ev_plain rfl
@[simp] theorem en33_4 : evCode C n33_4 R S = regK (runOps C l33_4 R S) := ev_plain rfl
@[simp] theorem en33_7 : evCode C n33_7 R S = regK (runOps C l33_7 R S) := ev_plain rfl
@[simp] theorem en33_8 : evCode C n33_8 R S = some (.ret, R, S) := (rfl)
@[simp] theorem en33_6 : evCode C n33_6 R S = seqK (evCode C n33_7 R S) fun R S => evCode C n33_8 R S := ev_seq
@[simp] theorem en33_9 : evCode C n33_9 R S = some (.norm, R, S) := (rfl)
@[simp] theorem en33_5 : evCode C n33_5 R S = condK (IV.ev R (.t 25)) (fun _ => evCode C n33_6 R S) fun _ => evCode C n33_9 R S := ev_cond
@[simp] theorem en33_3 : evCode C n33_3 R S = seqK (evCode C n33_4 R S) fun R S => evCode C n33_5 R S := ev_seq
@[simp] theorem en33_11 : evCode C n33_11 R S = regK (runOps C l33_11 R S) := ev_plain rfl
@[simp] theorem en33_13 : evCode C n33_13 R S = regK (runOps C l33_13 R S) := ev_plain rfl
@[simp] theorem en33_16 : evCode C n33_16 R S = regK (runOps C l33_16 R S) := ev_plain rfl
@[simp] theorem en33_19 : evCode C n33_19 R S = regK (runOps C l33_19 R S) := ev_plain rfl
@[simp] theorem en33_22 : evCode C n33_22 R S = some (.norm, R, S) := (rfl)
@[simp] theorem en33_23 : evCode C n33_23 R S = some (.exit 0, R, S) := (rfl)
@[simp] theorem en33_21 : evCode C n33_21 R S = condK (IV.ev R (.t 40)) (fun _ => evCode C n33_22 R S) fun _ => evCode C n33_23 R S := ev_cond
@[simp] theorem en33_27 : evCode C n33_27 R S = regK (runOps C l33_27 R S) := ev_plain rfl
@[simp] theorem en33_29 : evCode C n33_29 R S = regK (runOps C l33_29 R S) := ev_plain rfl
@[simp] theorem en33_32 : evCode C n33_32 R S = regK (runOps C l33_32 R S) := ev_plain rfl
@[simp] theorem en33_35 : evCode C n33_35 R S = regK (runOps C l33_35 R S) := ev_plain rfl
@[simp] theorem en33_36 : evCode C n33_36 R S = some (.ret, R, S) := (rfl)
@[simp] theorem en33_34 : evCode C n33_34 R S = seqK (evCode C n33_35 R S) fun R S => evCode C n33_36 R S := ev_seq
@[simp] theorem en33_37 : evCode C n33_37 R S = some (.norm, R, S) := (rfl)
@[simp] theorem en33_33 : evCode C n33_33 R S = condK (IV.ev R (.t 49)) (fun _ => evCode C n33_34 R S) fun _ => evCode C n33_37 R S := ev_cond
@[simp] theorem en33_31 : evCode C n33_31 R S = seqK (evCode C n33_32 R S) fun R S => evCode C n33_33 R S := ev_seq
@[simp] theorem en33_38 : evCode C n33_38 R S = regK (runOps C l33_38 R S) := ev_plain rfl
@[simp] theorem en33_30 : evCode C n33_30 R S = seqK (evCode C n33_31 R S) fun R S => evCode C n33_38 R S := ev_seq
@[simp] theorem en33_28 : evCode C n33_28 R S = seqK (evCode C n33_29 R S) fun R S => evCode C n33_30 R S := ev_seq
@[simp] theorem en33_26 : evCode C n33_26 R S = seqK (evCode C n33_27 R S) fun R S => evCode C n33_28 R S := ev_seq
@[simp] theorem en33_25 : evCode C n33_25 R S = blockK 1 (evCode C n33_26 R S) := ev_block
@[simp] theorem en33_39 : evCode C n33_39 R S = regK (runOps C l33_39 R S) := ev_plain rfl
@[simp] theorem en33_24 : evCode C n33_24 R S = seqK (evCode C n33_25 R S) fun R S => evCode C n33_39 R S := ev_seq
@[simp] theorem en33_20 : evCode C n33_20 R S = seqK (evCode C n33_21 R S) fun R S => evCode C n33_24 R S := ev_seq
@[simp] theorem en33_18 : evCode C n33_18 R S = seqK (evCode C n33_19 R S) fun R S => evCode C n33_20 R S := ev_seq
theorem eloop33_0 : evCode C loop33_0 R S = iter (fun R S => evCode C n33_18 R S) rounds R S := (rfl)
@[simp] theorem en33_17 : evCode C n33_17 R S = blockK 0 (evCode C loop33_0 R S) := ev_block
@[simp] theorem en33_15 : evCode C n33_15 R S = seqK (evCode C n33_16 R S) fun R S => evCode C n33_17 R S := ev_seq
@[simp] theorem en33_41 : evCode C n33_41 R S = regK (runOps C l33_41 R S) := ev_plain rfl
@[simp] theorem en33_44 : evCode C n33_44 R S = regK (runOps C l33_44 R S) := ev_plain rfl
@[simp] theorem en33_47 : evCode C n33_47 R S = regK (runOps C l33_47 R S) := ev_plain rfl
@[simp] theorem en33_48 : evCode C n33_48 R S = some (.ret, R, S) := (rfl)
@[simp] theorem en33_46 : evCode C n33_46 R S = seqK (evCode C n33_47 R S) fun R S => evCode C n33_48 R S := ev_seq
@[simp] theorem en33_49 : evCode C n33_49 R S = some (.norm, R, S) := (rfl)
@[simp] theorem en33_45 : evCode C n33_45 R S = condK (IV.ev R (.t 69)) (fun _ => evCode C n33_46 R S) fun _ => evCode C n33_49 R S := ev_cond
@[simp] theorem en33_43 : evCode C n33_43 R S = seqK (evCode C n33_44 R S) fun R S => evCode C n33_45 R S := ev_seq
@[simp] theorem en33_51 : evCode C n33_51 R S = regK (runOps C l33_51 R S) := ev_plain rfl
@[simp] theorem en33_54 : evCode C n33_54 R S = regK (runOps C l33_54 R S) := ev_plain rfl
@[simp] theorem en33_57 : evCode C n33_57 R S = regK (runOps C l33_57 R S) := ev_plain rfl
@[simp] theorem en33_60 : evCode C n33_60 R S = some (.norm, R, S) := (rfl)
@[simp] theorem en33_61 : evCode C n33_61 R S = some (.exit 2, R, S) := (rfl)
@[simp] theorem en33_59 : evCode C n33_59 R S = condK (IV.ev R (.t 76)) (fun _ => evCode C n33_60 R S) fun _ => evCode C n33_61 R S := ev_cond
@[simp] theorem en33_65 : evCode C n33_65 R S = regK (runOps C l33_65 R S) := ev_plain rfl
@[simp] theorem en33_67 : evCode C n33_67 R S = regK (runOps C l33_67 R S) := ev_plain rfl
@[simp] theorem en33_70 : evCode C n33_70 R S = regK (runOps C l33_70 R S) := ev_plain rfl
@[simp] theorem en33_73 : evCode C n33_73 R S = regK (runOps C l33_73 R S) := ev_plain rfl
@[simp] theorem en33_74 : evCode C n33_74 R S = some (.ret, R, S) := (rfl)
@[simp] theorem en33_72 : evCode C n33_72 R S = seqK (evCode C n33_73 R S) fun R S => evCode C n33_74 R S := ev_seq
@[simp] theorem en33_75 : evCode C n33_75 R S = some (.norm, R, S) := (rfl)
@[simp] theorem en33_71 : evCode C n33_71 R S = condK (IV.ev R (.t 85)) (fun _ => evCode C n33_72 R S) fun _ => evCode C n33_75 R S := ev_cond
@[simp] theorem en33_69 : evCode C n33_69 R S = seqK (evCode C n33_70 R S) fun R S => evCode C n33_71 R S := ev_seq
@[simp] theorem en33_76 : evCode C n33_76 R S = regK (runOps C l33_76 R S) := ev_plain rfl
@[simp] theorem en33_68 : evCode C n33_68 R S = seqK (evCode C n33_69 R S) fun R S => evCode C n33_76 R S := ev_seq
@[simp] theorem en33_66 : evCode C n33_66 R S = seqK (evCode C n33_67 R S) fun R S => evCode C n33_68 R S := ev_seq
@[simp] theorem en33_64 : evCode C n33_64 R S = seqK (evCode C n33_65 R S) fun R S => evCode C n33_66 R S := ev_seq
@[simp] theorem en33_63 : evCode C n33_63 R S = blockK 3 (evCode C n33_64 R S) := ev_block
@[simp] theorem en33_77 : evCode C n33_77 R S = regK (runOps C l33_77 R S) := ev_plain rfl
@[simp] theorem en33_62 : evCode C n33_62 R S = seqK (evCode C n33_63 R S) fun R S => evCode C n33_77 R S := ev_seq
@[simp] theorem en33_58 : evCode C n33_58 R S = seqK (evCode C n33_59 R S) fun R S => evCode C n33_62 R S := ev_seq
@[simp] theorem en33_56 : evCode C n33_56 R S = seqK (evCode C n33_57 R S) fun R S => evCode C n33_58 R S := ev_seq
theorem eloop33_1 : evCode C loop33_1 R S = iter (fun R S => evCode C n33_56 R S) rounds R S := (rfl)
@[simp] theorem en33_55 : evCode C n33_55 R S = blockK 2 (evCode C loop33_1 R S) := ev_block
@[simp] theorem en33_53 : evCode C n33_53 R S = seqK (evCode C n33_54 R S) fun R S => evCode C n33_55 R S := ev_seq
@[simp] theorem en33_79 : evCode C n33_79 R S = regK (runOps C l33_79 R S) := ev_plain rfl
@[simp] theorem en33_80 : evCode C n33_80 R S = some (.ret, R, S) := (rfl)
@[simp] theorem en33_78 : evCode C n33_78 R S = seqK (evCode C n33_79 R S) fun R S => evCode C n33_80 R S := ev_seq
@[simp] theorem en33_52 : evCode C n33_52 R S = seqK (evCode C n33_53 R S) fun R S => evCode C n33_78 R S := ev_seq
@[simp] theorem en33_50 : evCode C n33_50 R S = seqK (evCode C n33_51 R S) fun R S => evCode C n33_52 R S := ev_seq
@[simp] theorem en33_42 : evCode C n33_42 R S = seqK (evCode C n33_43 R S) fun R S => evCode C n33_50 R S := ev_seq
@[simp] theorem en33_40 : evCode C n33_40 R S = seqK (evCode C n33_41 R S) fun R S => evCode C n33_42 R S := ev_seq
@[simp] theorem en33_14 : evCode C n33_14 R S = seqK (evCode C n33_15 R S) fun R S => evCode C n33_40 R S := ev_seq
@[simp] theorem en33_12 : evCode C n33_12 R S = seqK (evCode C n33_13 R S) fun R S => evCode C n33_14 R S := ev_seq
@[simp] theorem en33_10 : evCode C n33_10 R S = seqK (evCode C n33_11 R S) fun R S => evCode C n33_12 R S := ev_seq
@[simp] theorem en33_2 : evCode C n33_2 R S = seqK (evCode C n33_3 R S) fun R S => evCode C n33_10 R S := ev_seq
@[simp] theorem en33_0 : evCode C n33_0 R S = seqK (evCode C n33_1 R S) fun R S => evCode C n33_2 R S := ev_seq
theorem q33 {n : Nat} {args : List Value} {S : St} : calls table.find (n + 1) 33 args S = endK S [.cell 4 true 4, .tmp 5] (evCode (calls table.find n) n33_0 (args ++ List.replicate (95 - args.length) undef) S.enter) := call_enter b33

/-! wainscot/wainscotref00.EqWords -/
@[simp] def l36_1 : List IOper := [oy 4 (.mv (.c (.bool false)))]
def n36_1 : ICode := .region l36_1
@[simp] def l36_4 : List IOper := [oy 6 (.mv (.t 0)),
  oy 7 (.lenS (.t 6)),
  oy 8 (.mv (.t 1)),
  oy 9 (.lenS (.t 8)),
  oy 10 (.bin .neq .int (.t 7) (.t 9))]
def n36_4 : ICode := .region l36_4
@[simp] def l36_7 : List IOper := [oy 4 (.mv (.c (.bool false)))]
def n36_7 : ICode := .region l36_7
def n36_8 : ICode := .ret
def n36_6 : ICode := .seq n36_7 n36_8
def n36_9 : ICode := .skip
def n36_5 : ICode := .cond (.t 10) n36_6 n36_9
def n36_3 : ICode := .seq n36_4 n36_5
@[simp] def l36_12 : List IOper := [oy 5 (.mv (.c (.int .i64 0)))]
def n36_12 : ICode := .region l36_12
@[simp] def l36_16 : List IOper := [oy 11 (.mv (.t 5)),
  oy 12 (.mv (.t 0)),
  oy 13 (.lenS (.t 12)),
  oy 14 (.bin .lss .int (.t 11) (.t 13))]
def n36_16 : ICode := .region l36_16
def n36_18 : ICode := .skip
def n36_19 : ICode := .exit 0
def n36_17 : ICode := .cond (.t 14) n36_18 n36_19
def n36_15 : ICode := .seq n36_16 n36_17
@[simp] def l36_23 : List IOper := [oy 17 (.mv (.t 0)),
  oy 18 (.mv (.t 5)),
  oy 19 (.idxS 1 (.t 17) (.t 18)),
  oy 20 (.load false 1 (.t 19)),
  oy 21 (.mv (.t 1)),
  oy 22 (.mv (.t 5)),
  oy 23 (.idxS 1 (.t 21) (.t 22)),
  oy 24 (.load false 1 (.t 23)),
  oy 25 (.bin .neq .int (.t 20) (.t 24))]
def n36_23 : ICode := .region l36_23
@[simp] def l36_26 : List IOper := [oy 4 (.mv (.c (.bool false)))]
def n36_26 : ICode := .region l36_26
def n36_27 : ICode := .ret
def n36_25 : ICode := .seq n36_26 n36_27
def n36_28 : ICode := .skip
def n36_24 : ICode := .cond (.t 25) n36_25 n36_28
def n36_22 : ICode := .seq n36_23 n36_24
def n36_21 : ICode := .block 1 n36_22
@[simp] def l36_29 : List IOper := [oy 15 (.mv (.t 5)),
  oy 16 (.bin .add .int (.t 15) (.c (.int .i64 1))),
  oy 5 (.mv (.t 16))]
def n36_29 : ICode := .region l36_29
def n36_20 : ICode := .seq n36_21 n36_29
def n36_14 : ICode := .seq n36_15 n36_20
def loop36_0 : ICode := .loop n36_14
def n36_13 : ICode := .block 0 loop36_0
def n36_11 : ICode := .seq n36_12 n36_13
@[simp] def l36_31 : List IOper := [oy 4 (.mv (.c (.bool true)))]
def n36_31 : ICode := .region l36_31
def n36_32 : ICode := .ret
def n36_30 : ICode := .seq n36_31 n36_32
def n36_10 : ICode := .seq n36_11 n36_30
def n36_2 : ICode := .seq n36_3 n36_10
def n36_0 : ICode := .seq n36_1 n36_2
theorem b36 : table.find 36 = some ⟨26, n36_0, [.tmp 4]⟩ := by kernel_rfl
@[simp] theorem en36_1 : evCode C n36_1 R S = regK (runOps C l36_1 R S) := ev_plain rfl
@[simp] theorem en36_4 : evCode C n36_4 R S = regK (runOps C l36_4 R S) := ev_plain rfl
@[simp] theorem en36_7 : evCode C n36_7 R S = regK (runOps C l36_7 R S) := ev_plain rfl
@[simp] theorem en36_8 : evCode C n36_8 R S = some (.ret, R, S) := (rfl)
@[simp] theorem en36_6 : evCode C n36_6 R S = seqK (evCode C n36_7 R S) fun R S => evCode C n36_8 R S := ev_seq
@[simp] theorem en36_9 : evCode C n36_9 R S = some (.norm, R, S) := (rfl)
@[simp] theorem en36_5 : evCode C n36_5 R S = condK (IV.ev R (.t 10)) (fun _ => evCode C n36_6 R S) fun _ => evCode C n36_9 R S := ev_cond
@[simp] theorem en36_3 : evCode C n36_3 R S = seqK (evCode C n36_4 R S) fun R S => evCode C n36_5 R S := ev_seq
@[simp] theorem en36_12 : evCode C n36_12 R S = regK (runOps C l36_12 R S) := ev_plain rfl
@[simp] theorem en36_16 : evCode C n36_16 R S = regK (runOps C l36_16 R S) := ev_plain rfl
@[simp] theorem en36_18 : evCode C n36_18 R S = some (.norm, R, S) := (rfl)
@[simp] theorem en36_19 : evCode C n36_19 R S = some (.exit 0, R, S) := (rfl)
@[simp] theorem en36_17 : evCode C n36_17 R S = condK (IV.ev R (.t 14)) (fun _ => evCode C n36_18 R S) fun _ => evCode C n36_19 R S := ev_cond
@[simp] theorem en36_15 : evCode C n36_15 R S = seqK (evCode C n36_16 R S) fun R S => evCode C n36_17 R S := ev_seq
@[simp] theorem en36_23 : evCode C n36_23 R S = regK (runOps C l36_23 R S) := ev_plain rfl
@[simp] theorem en36_26 : evCode C n36_26 R S = regK (runOps C l36_26 R S) := ev_plain rfl
@[simp] theorem en36_27 : evCode C n36_27 R S = some (.ret, R, S) := (rfl)
@[simp] theorem en36_25 : evCode C n36_25 R S = seqK (evCode C n36_26 R S) fun R S => evCode C n36_27 R S := ev_seq
@[simp] theorem en36_28 : evCode C n36_28 R S = some (.norm, R, S) := (rfl)
@[simp] theorem en36_24 : evCode C n36_24 R S = condK (IV.ev R (.t 25)) (fun _ => evCode C n36_25 R S) fun _ => evCode C n36_28 R S := ev_cond
@[simp] theorem en36_22 : evCode C n36_22 R S = seqK (evCode C n36_23 R S) fun R S => evCode C n36_24 R S := ev_seq
@[simp] theorem en36_21 : evCode C n36_21 R S = blockK 1 (evCode C n36_22 R S) := ev_block
@[simp] theorem en36_29 : evCode C n36_29 R S = regK (runOps C l36_29 R S) := ev_plain rfl
@[simp] theorem en36_20 : evCode C n36_20 R S = seqK (evCode C n36_21 R S) fun R S => evCode C n36_29 R S := ev_seq
@[simp] theorem en36_14 : evCode C n36_14 R S = seqK (evCode C n36_15 R S) fun R S => evCode C n36_20 R S := ev_seq
theorem eloop36_0 : evCode C loop36_0 R S = iter (fun R S => evCode C n36_14 R S) rounds R S := (rfl)
@[simp] theorem en36_13 : evCode C n36_13 R S = blockK 0 (evCode C loop36_0 R S) := ev_block
@[simp] theorem en36_11 : evCode C n36_11 R S = seqK (evCode C n36_12 R S) fun R S => evCode C n36_13 R S := ev_seq
@[simp] theorem en36_31 : evCode C n36_31 R S = regK (runOps C l36_31 R S) := ev_plain rfl
@[simp] theorem en36_32 : evCode C n36_32 R S = some (.ret, R, S) := (rfl)
@[simp] theorem en36_30 : evCode C n36_30 R S = seqK (evCode C n36_31 R S) fun R S => evCode C n36_32 R S := ev_seq
@[simp] theorem en36_10 : evCode C n36_10 R S = seqK (evCode C n36_11 R S) fun R S => evCode C n36_30 R S := ev_seq
@[simp] theorem en36_2 : evCode C n36_2 R S = seqK (evCode C n36_3 R S) fun R S => evCode C n36_10 R S := ev_seq
@[simp] theorem en36_0 : evCode C n36_0 R S = seqK (evCode C n36_1 R S) fun R S => evCode C n36_2 R S := ev_seq
theorem q36 {n : Nat} {args : List Value} {S : St} : calls table.find (n + 1) 36 args S = endK S [.tmp 4] (evCode (calls table.find n) n36_0 (args ++ List.replicate (26 - args.length) undef) S.enter) := call_enter b36

/-! wainscot/wainscotlaw21.made -/
@[simp] def l37_1 : List IOper := [oy 1 (.box 24 6 (.t 0)),
  oy 2 (.new 24 [(.int .i64 0), (.int .i64 0), (.int .i64 0), (.int .i64 0), (.int .i64 0), (.int .u64 0)])]
def n37_1 : ICode := .region l37_1
@[simp] def l37_3 : List IOper := [oy 3 (.addOff 0 (.t 1)),
  oy 4 (.load false 1 (.t 3)),
  oy 5 (.call (.c (.func (.func 61) #[] #[])) [(.t 4), (.c (.int .i64 8))] true),
  oy 6 (.bin .add .int (.c (.int .i64 1)) (.t 5)),
  oy 7 (.addOff 0 (.t 1)),
  ox (.store 1 (.t 7) (.t 6))]
def n37_3 : ICode := .region l37_3
@[simp] def l37_5 : List IOper := [oy 8 (.addOff 1 (.t 1)),
  oy 9 (.load false 1 (.t 8)),
  oy 10 (.call (.c (.func (.func 61) #[] #[])) [(.t 9), (.c (.int .i64 32))] true),
  oy 11 (.bin .add .int (.c (.int .i64 1)) (.t 10)),
  oy 12 (.addOff 1 (.t 1)),
  ox (.store 1 (.t 12) (.t 11))]
def n37_5 : ICode := .region l37_5
@[simp] def l37_7 : List IOper := [oy 13 (.addOff 2 (.t 1)),
  oy 14 (.load false 1 (.t 13)),
  oy 15 (.call (.c (.func (.func 61) #[] #[])) [(.t 14), (.c (.int .i64 16))] true),
  oy 16 (.bin .add .int (.c (.int .i64 1)) (.t 15)),
  oy 17 (.addOff 2 (.t 1)),
  ox (.store 1 (.t 17) (.t 16))]
def n37_7 : ICode := .region l37_7
@[simp] def l37_9 : List IOper := [oy 18 (.addOff 3 (.t 1)),
  oy 19 (.load false 1 (.t 18)),
  oy 20 (.call (.c (.func (.func 61) #[] #[])) [(.t 19), (.c (.int .i64 33))] true),
  oy 21 (.addOff 3 (.t 1)),
  ox (.store 1 (.t 21) (.t 20))]
def n37_9 : ICode := .region l37_9
@[simp] def l37_11 : List IOper := [oy 22 (.addOff 4 (.t 1)),
  oy 23 (.load false 1 (.t 22)),
  oy 24 (.call (.c (.func (.func 61) #[] #[])) [(.t 23), (.c (.int .i64 33))] true),
  oy 25 (.addOff 4 (.t 1)),
  ox (.store 1 (.t 25) (.t 24))]
def n37_11 : ICode := .region l37_11
@[simp] def l37_13 : List IOper := [oy 26 (.load true 6 (.t 1)),
  ox (.store 6 (.t 2) (.t 26))]
def n37_13 : ICode := .region l37_13
def n37_14 : ICode := .ret
def n37_12 : ICode := .seq n37_13 n37_14
def n37_10 : ICode := .seq n37_11 n37_12
def n37_8 : ICode := .seq n37_9 n37_10
def n37_6 : ICode := .seq n37_7 n37_8
def n37_4 : ICode := .seq n37_5 n37_6
def n37_2 : ICode := .seq n37_3 n37_4
def n37_0 : ICode := .seq n37_1 n37_2
theorem b37 : table.find 37 = some ⟨27, n37_0, [.cell 2 true 6]⟩ := by kernel_rfl
@[simp] theorem en37_1 : evCode C n37_1 R S = regK (runOps C l37_1 R S) := ev_plain rfl
@[simp] theorem en37_3 : evCode C n37_3 R S = regK (runOps C l37_3 R S) := ev_plain rfl
@[simp] theorem en37_5 : evCode C n37_5 R S = regK (runOps C l37_5 R S) := ev_plain rfl
@[simp] theorem en37_7 : evCode C n37_7 R S = regK (runOps C l37_7 R S) := ev_plain rfl
@[simp] theorem en37_9 : evCode C n37_9 R S = regK (runOps C l37_9 R S) := ev_plain rfl
@[simp] theorem en37_11 : evCode C n37_11 R S = regK (runOps C l37_11 R S) := ev_plain rfl
@[simp] theorem en37_13 : evCode C n37_13 R S = regK (runOps C l37_13 R S) := ev_plain rfl
@[simp] theorem en37_14 : evCode C n37_14 R S = some (.ret, R, S) := (rfl)
@[simp] theorem en37_12 : evCode C n37_12 R S = seqK (evCode C n37_13 R S) fun R S => evCode C n37_14 R S := ev_seq
@[simp] theorem en37_10 : evCode C n37_10 R S = seqK (evCode C n37_11 R S) fun R S => evCode C n37_12 R S := ev_seq
@[simp] theorem en37_8 : evCode C n37_8 R S = seqK (evCode C n37_9 R S) fun R S => evCode C n37_10 R S := ev_seq
@[simp] theorem en37_6 : evCode C n37_6 R S = seqK (evCode C n37_7 R S) fun R S => evCode C n37_8 R S := ev_seq
@[simp] theorem en37_4 : evCode C n37_4 R S = seqK (evCode C n37_5 R S) fun R S => evCode C n37_6 R S := ev_seq
@[simp] theorem en37_2 : evCode C n37_2 R S = seqK (evCode C n37_3 R S) fun R S => evCode C n37_4 R S := ev_seq
@[simp] theorem en37_0 : evCode C n37_0 R S = seqK (evCode C n37_1 R S) fun R S => evCode C n37_2 R S := ev_seq
theorem q37 {n : Nat} {args : List Value} {S : St} : calls table.find (n + 1) 37 args S = endK S [.cell 2 true 6] (evCode (calls table.find n) n37_0 (args ++ List.replicate (27 - args.length) undef) S.enter) := call_enter b37

/-! wainscot/wainscotlaw21.places -/
@[simp] def l38_1 : List IOper := [oy 1 (.box 24 6 (.t 0)),
  oy 2 (.mv (.c (.slice none 0 0)))]
def n38_1 : ICode := .region l38_1
@[simp] def l38_3 : List IOper := [oy 7 (.load true 6 (.t 1)),
  oy 8 (.call (.c (.func (.func 12) #[] #[])) [(.t 7)] true),
  oy 9 (.load true 6 (.t 1)),
  oy 10 (.call (.c (.func (.func 13) #[] #[])) [(.t 9)] true),
  oy 11 (.load true 6 (.t 1)),
  oy 12 (.call (.c (.func (.func 14) #[] #[])) [(.t 11)] true),
  oy 13 (.buildSlice 3 [(.int .i64 0), (.int .i64 0), (.int .i64 0)] 3 [(0, 1, (.t 8)), (1, 1, (.t 10)), (2, 1, (.t 12))]),
  oy 3 (.mv (.t 13))]
def n38_3 : ICode := .region l38_3
@[simp] def l38_6 : List IOper := [oy 4 (.mv (.c (.int .i64 0)))]
def n38_6 : ICode := .region l38_6
@[simp] def l38_10 : List IOper := [oy 14 (.mv (.t 4)),
  oy 15 (.addOff 0 (.t 1)),
  oy 16 (.load false 1 (.t 15)),
  oy 17 (.bin .lss .int (.t 14) (.t 16))]
def n38_10 : ICode := .region l38_10
def n38_12 : ICode := .skip
def n38_13 : ICode := .exit 0
def n38_11 : ICode := .cond (.t 17) n38_12 n38_13
def n38_9 : ICode := .seq n38_10 n38_11
@[simp] def l38_16 : List IOper := [oy 20 (.mv (.t 3)),
  oy 21 (.load true 6 (.t 1)),
  oy 22 (.mv (.t 4)),
  oy 23 (.call (.c (.func (.func 10) #[] #[])) [(.t 21), (.t 22)] true),
  oy 24 (.load true 6 (.t 1)),
  oy 25 (.mv (.t 4)),
  oy 26 (.call (.c (.func (.func 10) #[] #[])) [(.t 24), (.t 25)] true),
  oy 27 (.bin .add .int (.t 26) (.c (.int .i64 1))),
  oy 28 (.load true 6 (.t 1)),
  oy 29 (.mv (.t 4)),
  oy 30 (.call (.c (.func (.func 11) #[] #[])) [(.t 28), (.t 29)] true),
  oy 31 (.load true 6 (.t 1)),
  oy 32 (.mv (.t 4)),
  oy 33 (.call (.c (.func (.func 11) #[] #[])) [(.t 31), (.t 32)] true),
  oy 34 (.bin .add .int (.t 33) (.c (.int .i64 1))),
  oy 35 (.buildSlice 3 [(.int .i64 0), (.int .i64 0), (.int .i64 0), (.int .i64 0)] 4 [(0, 1, (.t 23)), (1, 1, (.t 27)), (2, 1, (.t 30)), (3, 1, (.t 34))]),
  oy 36 (.append 3 1 8 (.t 20) (.t 35)),
  oy 3 (.mv (.t 36))]
def n38_16 : ICode := .region l38_16
def n38_15 : ICode := .block 1 n38_16
@[simp] def l38_17 : List IOper := [oy 18 (.mv (.t 4)),
  oy 19 (.bin .add .int (.t 18) (.c (.int .i64 1))),
  oy 4 (.mv (.t 19))]
def n38_17 : ICode := .region l38_17
def n38_14 : ICode := .seq n38_15 n38_17
def n38_8 : ICode := .seq n38_9 n38_14
def loop38_0 : ICode := .loop n38_8
def n38_7 : ICode := .block 0 loop38_0
def n38_5 : ICode := .seq n38_6 n38_7
@[simp] def l38_20 : List IOper := [oy 5 (.mv (.c (.int .i64 0)))]
def n38_20 : ICode := .region l38_20
@[simp] def l38_24 : List IOper := [oy 37 (.mv (.t 5)),
  oy 38 (.addOff 1 (.t 1)),
  oy 39 (.load false 1 (.t 38)),
  oy 40 (.bin .lss .int (.t 37) (.t 39))]
def n38_24 : ICode := .region l38_24
def n38_26 : ICode := .skip
def n38_27 : ICode := .exit 2
def n38_25 : ICode := .cond (.t 40) n38_26 n38_27
def n38_23 : ICode := .seq n38_24 n38_25
@[simp] def l38_31 : List IOper := [oy 43 (.mv (.t 3)),
  oy 44 (.load true 6 (.t 1)),
  oy 45 (.mv (.t 5)),
  oy 46 (.call (.c (.func (.func 15) #[] #[])) [(.t 44), (.t 45)] true),
  oy 47 (.load true 6 (.t 1)),
  oy 48 (.mv (.t 5)),
  oy 49 (.call (.c (.func (.func 15) #[] #[])) [(.t 47), (.t 48)] true),
  oy 50 (.bin .add .int (.t 49) (.c (.int .i64 1))),
  oy 51 (.load true 6 (.t 1)),
  oy 52 (.mv (.t 5)),
  oy 53 (.call (.c (.func (.func 16) #[] #[])) [(.t 51), (.t 52)] true),
  oy 54 (.buildSlice 3 [(.int .i64 0), (.int .i64 0), (.int .i64 0)] 3 [(0, 1, (.t 46)), (1, 1, (.t 50)), (2, 1, (.t 53))]),
  oy 55 (.append 3 1 8 (.t 43) (.t 54)),
  oy 3 (.mv (.t 55))]
def n38_31 : ICode := .region l38_31
@[simp] def l38_33 : List IOper := [oy 6 (.mv (.c (.int .i64 0)))]
def n38_33 : ICode := .region l38_33
@[simp] def l38_37 : List IOper := [oy 56 (.mv (.t 6)),
  oy 57 (.addOff 2 (.t 1)),
  oy 58 (.load false 1 (.t 57)),
  oy 59 (.bin .lss .int (.t 56) (.t 58))]
def n38_37 : ICode := .region l38_37
def n38_39 : ICode := .skip
def n38_40 : ICode := .exit 4
def n38_38 : ICode := .cond (.t 59) n38_39 n38_40
def n38_36 : ICode := .seq n38_37 n38_38
@[simp] def l38_43 : List IOper := [oy 62 (.mv (.t 3)),
  oy 63 (.load true 6 (.t 1)),
  oy 64 (.mv (.t 5)),
  oy 65 (.mv (.t 6)),
  oy 66 (.call (.c (.func (.func 17) #[] #[])) [(.t 63), (.t 64), (.t 65)] true),
  oy 67 (.buildSlice 3 [(.int .i64 0)] 1 [(0, 1, (.t 66))]),
  oy 68 (.append 3 1 8 (.t 62) (.t 67)),
  oy 3 (.mv (.t 68))]
def n38_43 : ICode := .region l38_43
def n38_42 : ICode := .block 5 n38_43
@[simp] def l38_44 : List IOper := [oy 60 (.mv (.t 6)),
  oy 61 (.bin .add .int (.t 60) (.c (.int .i64 1))),
  oy 6 (.mv (.t 61))]
def n38_44 : ICode := .region l38_44
def n38_41 : ICode := .seq n38_42 n38_44
def n38_35 : ICode := .seq n38_36 n38_41
def loop38_2 : ICode := .loop n38_35
def n38_34 : ICode := .block 4 loop38_2
def n38_32 : ICode := .seq n38_33 n38_34
def n38_30 : ICode := .seq n38_31 n38_32
def n38_29 : ICode := .block 3 n38_30
@[simp] def l38_45 : List IOper := [oy 41 (.mv (.t 5)),
  oy 42 (.bin .add .int (.t 41) (.c (.int .i64 1))),
  oy 5 (.mv (.t 42))]
def n38_45 : ICode := .region l38_45
def n38_28 : ICode := .seq n38_29 n38_45
def n38_22 : ICode := .seq n38_23 n38_28
def loop38_1 : ICode := .loop n38_22
def n38_21 : ICode := .block 2 loop38_1
def n38_19 : ICode := .seq n38_20 n38_21
@[simp] def l38_47 : List IOper := [oy 69 (.mv (.t 3)),
  oy 2 (.mv (.t 69))]
def n38_47 : ICode := .region l38_47
def n38_48 : ICode := .ret
def n38_46 : ICode := .seq n38_47 n38_48
def n38_18 : ICode := .seq n38_19 n38_46
def n38_4 : ICode := .seq n38_5 n38_18
def n38_2 : ICode := .seq n38_3 n38_4
def n38_0 : ICode := .seq n38_1 n38_2
theorem b38 : table.find 38 = some ⟨70, n38_0, [.tmp 2]⟩ := by kernel_rfl
@[simp] theorem en38_1 : evCode C n38_1 R S = regK (runOps C l38_1 R S) := ev_plain rfl
@[simp] theorem en38_3 : evCode C n38_3 R S = regK (runOps C l38_3 R S) := ev_plain rfl
@[simp] theorem en38_6 : evCode C n38_6 R S = regK (runOps C l38_6 R S) := ev_plain rfl
@[simp] theorem en38_10 : evCode C n38_10 R S = regK (runOps C l38_10 R S) := ev_plain rfl
@[simp] theorem en38_12 : evCode C n38_12 R S = some (.norm, R, S) := (rfl)
@[simp] theorem en38_13 : evCode C n38_13 R S = some (.exit 0, R, S) := (rfl)
@[simp] theorem en38_11 : evCode C n38_11 R S = condK (IV.ev R (.t 17)) (fun _ => evCode C n38_12 R S) fun _ => evCode C n38_13 R S := ev_cond
@[simp] theorem en38_9 : evCode C n38_9 R S = seqK (evCode C n38_10 R S) fun R S => evCode C n38_11 R S := ev_seq
@[simp] theorem en38_16 : evCode C n38_16 R S = regK (runOps C l38_16 R S) := ev_plain rfl
@[simp] theorem en38_15 : evCode C n38_15 R S = blockK 1 (evCode C n38_16 R S) := ev_block
@[simp] theorem en38_17 : evCode C n38_17 R S = regK (runOps C l38_17 R S) := ev_plain rfl
@[simp] theorem en38_14 : evCode C n38_14 R S = seqK (evCode C n38_15 R S) fun R S => evCode C n38_17 R S := ev_seq
@[simp] theorem en38_8 : evCode C n38_8 R S = seqK (evCode C n38_9 R S) fun R S => evCode C n38_14 R S := ev_seq
theorem eloop38_0 : evCode C loop38_0 R S = iter (fun R S => evCode C n38_8 R S) rounds R S := (rfl)
@[simp] theorem en38_7 : evCode C n38_7 R S = blockK 0 (evCode C loop38_0 R S) := ev_block
@[simp] theorem en38_5 : evCode C n38_5 R S = seqK (evCode C n38_6 R S) fun R S => evCode C n38_7 R S := ev_seq
@[simp] theorem en38_20 : evCode C n38_20 R S = regK (runOps C l38_20 R S) := ev_plain rfl
@[simp] theorem en38_24 : evCode C n38_24 R S = regK (runOps C l38_24 R S) := ev_plain rfl
@[simp] theorem en38_26 : evCode C n38_26 R S = some (.norm, R, S) := (rfl)
@[simp] theorem en38_27 : evCode C n38_27 R S = some (.exit 2, R, S) := (rfl)
@[simp] theorem en38_25 : evCode C n38_25 R S = condK (IV.ev R (.t 40)) (fun _ => evCode C n38_26 R S) fun _ => evCode C n38_27 R S := ev_cond
@[simp] theorem en38_23 : evCode C n38_23 R S = seqK (evCode C n38_24 R S) fun R S => evCode C n38_25 R S := ev_seq
@[simp] theorem en38_31 : evCode C n38_31 R S = regK (runOps C l38_31 R S) := ev_plain rfl
@[simp] theorem en38_33 : evCode C n38_33 R S = regK (runOps C l38_33 R S) := ev_plain rfl
@[simp] theorem en38_37 : evCode C n38_37 R S = regK (runOps C l38_37 R S) := ev_plain rfl
@[simp] theorem en38_39 : evCode C n38_39 R S = some (.norm, R, S) := (rfl)
@[simp] theorem en38_40 : evCode C n38_40 R S = some (.exit 4, R, S) := (rfl)
@[simp] theorem en38_38 : evCode C n38_38 R S = condK (IV.ev R (.t 59)) (fun _ => evCode C n38_39 R S) fun _ => evCode C n38_40 R S := ev_cond
@[simp] theorem en38_36 : evCode C n38_36 R S = seqK (evCode C n38_37 R S) fun R S => evCode C n38_38 R S := ev_seq
@[simp] theorem en38_43 : evCode C n38_43 R S = regK (runOps C l38_43 R S) := ev_plain rfl
@[simp] theorem en38_42 : evCode C n38_42 R S = blockK 5 (evCode C n38_43 R S) := ev_block
@[simp] theorem en38_44 : evCode C n38_44 R S = regK (runOps C l38_44 R S) := ev_plain rfl
@[simp] theorem en38_41 : evCode C n38_41 R S = seqK (evCode C n38_42 R S) fun R S => evCode C n38_44 R S := ev_seq
@[simp] theorem en38_35 : evCode C n38_35 R S = seqK (evCode C n38_36 R S) fun R S => evCode C n38_41 R S := ev_seq
theorem eloop38_2 : evCode C loop38_2 R S = iter (fun R S => evCode C n38_35 R S) rounds R S := (rfl)
@[simp] theorem en38_34 : evCode C n38_34 R S = blockK 4 (evCode C loop38_2 R S) := ev_block
@[simp] theorem en38_32 : evCode C n38_32 R S = seqK (evCode C n38_33 R S) fun R S => evCode C n38_34 R S := ev_seq
@[simp] theorem en38_30 : evCode C n38_30 R S = seqK (evCode C n38_31 R S) fun R S => evCode C n38_32 R S := ev_seq
@[simp] theorem en38_29 : evCode C n38_29 R S = blockK 3 (evCode C n38_30 R S) := ev_block
@[simp] theorem en38_45 : evCode C n38_45 R S = regK (runOps C l38_45 R S) := ev_plain rfl
@[simp] theorem en38_28 : evCode C n38_28 R S = seqK (evCode C n38_29 R S) fun R S => evCode C n38_45 R S := ev_seq
@[simp] theorem en38_22 : evCode C n38_22 R S = seqK (evCode C n38_23 R S) fun R S => evCode C n38_28 R S := ev_seq
theorem eloop38_1 : evCode C loop38_1 R S = iter (fun R S => evCode C n38_22 R S) rounds R S := (rfl)
@[simp] theorem en38_21 : evCode C n38_21 R S = blockK 2 (evCode C loop38_1 R S) := ev_block
@[simp] theorem en38_19 : evCode C n38_19 R S = seqK (evCode C n38_20 R S) fun R S => evCode C n38_21 R S := ev_seq
@[simp] theorem en38_47 : evCode C n38_47 R S = regK (runOps C l38_47 R S) := ev_plain rfl
@[simp] theorem en38_48 : evCode C n38_48 R S = some (.ret, R, S) := (rfl)
@[simp] theorem en38_46 : evCode C n38_46 R S = seqK (evCode C n38_47 R S) fun R S => evCode C n38_48 R S := ev_seq
@[simp] theorem en38_18 : evCode C n38_18 R S = seqK (evCode C n38_19 R S) fun R S => evCode C n38_46 R S := ev_seq
@[simp] theorem en38_4 : evCode C n38_4 R S = seqK (evCode C n38_5 R S) fun R S => evCode C n38_18 R S := ev_seq
@[simp] theorem en38_2 : evCode C n38_2 R S = seqK (evCode C n38_3 R S) fun R S => evCode C n38_4 R S := ev_seq
@[simp] theorem en38_0 : evCode C n38_0 R S = seqK (evCode C n38_1 R S) fun R S => evCode C n38_2 R S := ev_seq
theorem q38 {n : Nat} {args : List Value} {S : St} : calls table.find (n + 1) 38 args S = endK S [.tmp 2] (evCode (calls table.find n) n38_0 (args ++ List.replicate (70 - args.length) undef) S.enter) := call_enter b38

/-! wainscot/wainscotlaw21.small -/
@[simp] def l39_1 : List IOper := [oy 0 (.new 24 [(.int .i64 0), (.int .i64 0), (.int .i64 0), (.int .i64 0), (.int .i64 0), (.int .u64 0)])]
def n39_1 : ICode := .region l39_1
@[simp] def l39_3 : List IOper := [oy 1 (.build [(.int .i64 0), (.int .i64 0), (.int .i64 0), (.int .i64 0), (.int .i64 0), (.int .u64 0)] [(0, 1, (.c (.int .i64 2))), (1, 1, (.c (.int .i64 3))), (2, 1, (.c (.int .i64 4)))]),
  ox (.store 6 (.t 0) (.t 1))]
def n39_3 : ICode := .region l39_3
def n39_4 : ICode := .ret
def n39_2 : ICode := .seq n39_3 n39_4
def n39_0 : ICode := .seq n39_1 n39_2
theorem b39 : table.find 39 = some ⟨2, n39_0, [.cell 0 true 6]⟩ := by kernel_rfl
@[simp] theorem en39_1 : evCode C n39_1 R S = regK (runOps C l39_1 R S) := ev_plain rfl
@[simp] theorem en39_3 : evCode C n39_3 R S = regK (runOps C l39_3 R S) := ev_plain rfl
@[simp] theorem en39_4 : evCode C n39_4 R S = some (.ret, R, S) := (rfl)
@[simp] theorem en39_2 : evCode C n39_2 R S = seqK (evCode C n39_3 R S) fun R S => evCode C n39_4 R S := ev_seq
@[simp] theorem en39_0 : evCode C n39_0 R S = seqK (evCode C n39_1 R S) fun R S => evCode C n39_2 R S := ev_seq
theorem q39 {n : Nat} {args : List Value} {S : St} : calls table.find (n + 1) 39 args S = endK S [.cell 0 true 6] (evCode (calls table.find n) n39_0 (args ++ List.replicate (2 - args.length) undef) S.enter) := call_enter b39

/-! wainscot/chart.links -/
@[simp] def l40_1 : List IOper := [oy 1 (.box 24 6 (.t 0)),
  oy 2 (.mv (.c (.int .i64 0)))]
def n40_1 : ICode := .region l40_1
@[simp] def l40_3 : List IOper := [oy 3 (.load true 6 (.t 1)),
  oy 4 (.call (.c (.func (.func 49) #[] #[])) [(.t 3)] true),
  oy 5 (.addOff 1 (.t 1)),
  oy 6 (.load false 1 (.t 5)),
  oy 7 (.bin .mul .int (.c (.int .i64 4)) (.t 6)),
  oy 8 (.bin .add .int (.t 4) (.t 7)),
  oy 2 (.mv (.t 8))]
def n40_3 : ICode := .region l40_3
def n40_4 : ICode := .ret
def n40_2 : ICode := .seq n40_3 n40_4
def n40_0 : ICode := .seq n40_1 n40_2
theorem b40 : table.find 40 = some ⟨9, n40_0, [.tmp 2]⟩ := by kernel_rfl
@[simp] theorem en40_1 : evCode C n40_1 R S = regK (runOps C l40_1 R S) := ev_plain rfl
@[simp] theorem en40_3 : evCode C n40_3 R S = regK (runOps C l40_3 R S) := ev_plain rfl
@[simp] theorem en40_4 : evCode C n40_4 R S = some (.ret, R, S) := (rfl)
@[simp] theorem en40_2 : evCode C n40_2 R S = seqK (evCode C n40_3 R S) fun R S => evCode C n40_4 R S := ev_seq
@[simp] theorem en40_0 : evCode C n40_0 R S = seqK (evCode C n40_1 R S) fun R S => evCode C n40_2 R S := ev_seq
theorem q40 {n : Nat} {args : List Value} {S : St} : calls table.find (n + 1) 40 args S = endK S [.tmp 2] (evCode (calls table.find n) n40_0 (args ++ List.replicate (9 - args.length) undef) S.enter) := call_enter b40

/-! wainscot/chart.guarded -/
@[simp] def l41_1 : List IOper := [oy 4 (.box 24 6 (.t 0)),
  oy 8 (.mv (.c (.int .i64 0)))]
def n41_1 : ICode := .region l41_1
@[simp] def l41_4 : List IOper := [oy 9 (.load true 6 (.t 4)),
  oy 10 (.call (.c (.func (.func 8) #[] #[])) [(.t 9)] true),
  oy 11 (.bin .neq .int (.t 10) (.c (.int .i64 0))),
  oy 12 (.mv (.t 11)),
  oz 13 12 false (.mv (.t 1)),
  oz 14 12 false (.bin .lss .int (.t 13) (.c (.int .i64 0))),
  oy 15 (.pick (.t 12) (.c (.bool true)) (.t 14)),
  oy 16 (.mv (.t 15)),
  oz 17 16 false (.mv (.t 1)),
  oz 18 16 false (.mv (.t 2)),
  oz 19 16 false (.bin .geq .int (.t 17) (.t 18)),
  oy 20 (.pick (.t 16) (.c (.bool true)) (.t 19))]
def n41_4 : ICode := .region l41_4
@[simp] def l41_7 : List IOper := [oy 8 (.mv (.c (.int .i64 (-1))))]
def n41_7 : ICode := .region l41_7
def n41_8 : ICode := .ret
def n41_6 : ICode := .seq n41_7 n41_8
def n41_9 : ICode := .skip
def n41_5 : ICode := .cond (.t 20) n41_6 n41_9
def n41_3 : ICode := .seq n41_4 n41_5
@[simp] def l41_11 : List IOper := [oy 21 (.mv (.t 3)),
  oy 22 (.call (.t 21) [] false),
  oy 8 (.mv (.t 22))]
def n41_11 : ICode := .region l41_11
def n41_12 : ICode := .ret
def n41_10 : ICode := .seq n41_11 n41_12
def n41_2 : ICode := .seq n41_3 n41_10
def n41_0 : ICode := .seq n41_1 n41_2
theorem b41 : table.find 41 = some ⟨23, n41_0, [.tmp 8]⟩ := by kernel_rfl
@[simp] theorem en41_1 : evCode C n41_1 R S = regK (runOps C l41_1 R S) := ev_plain rfl
@[simp] theorem en41_4 : evCode C n41_4 R S = regK (runOps C l41_4 R S) := ev_plain rfl
@[simp] theorem en41_7 : evCode C n41_7 R S = regK (runOps C l41_7 R S) := ev_plain rfl
@[simp] theorem en41_8 : evCode C n41_8 R S = some (.ret, R, S) := (rfl)
@[simp] theorem en41_6 : evCode C n41_6 R S = seqK (evCode C n41_7 R S) fun R S => evCode C n41_8 R S := ev_seq
@[simp] theorem en41_9 : evCode C n41_9 R S = some (.norm, R, S) := (rfl)
@[simp] theorem en41_5 : evCode C n41_5 R S = condK (IV.ev R (.t 20)) (fun _ => evCode C n41_6 R S) fun _ => evCode C n41_9 R S := ev_cond
@[simp] theorem en41_3 : evCode C n41_3 R S = seqK (evCode C n41_4 R S) fun R S => evCode C n41_5 R S := ev_seq
@[simp] theorem en41_11 : evCode C n41_11 R S = regK (runOps C l41_11 R S) := ev_plain rfl
@[simp] theorem en41_12 : evCode C n41_12 R S = some (.ret, R, S) := (rfl)
@[simp] theorem en41_10 : evCode C n41_10 R S = seqK (evCode C n41_11 R S) fun R S => evCode C n41_12 R S := ev_seq
@[simp] theorem en41_2 : evCode C n41_2 R S = seqK (evCode C n41_3 R S) fun R S => evCode C n41_10 R S := ev_seq
@[simp] theorem en41_0 : evCode C n41_0 R S = seqK (evCode C n41_1 R S) fun R S => evCode C n41_2 R S := ev_seq
theorem q41 {n : Nat} {args : List Value} {S : St} : calls table.find (n + 1) 41 args S = endK S [.tmp 8] (evCode (calls table.find n) n41_0 (args ++ List.replicate (23 - args.length) undef) S.enter) := call_enter b41

/-! wainscot/chart.Head$1 -/
@[simp] def l42_1 : List IOper := [oy 1 (.mv (.c (.int .i64 0)))]
def n42_1 : ICode := .region l42_1
@[simp] def l42_3 : List IOper := [oy 2 (.load false 1 (.t 0)),
  oy 3 (.bin .mul .int (.c (.int .i64 4)) (.t 2)),
  oy 1 (.mv (.t 3))]
def n42_3 : ICode := .region l42_3
def n42_4 : ICode := .ret
def n42_2 : ICode := .seq n42_3 n42_4
def n42_0 : ICode := .seq n42_1 n42_2
theorem b42 : table.find 42 = some ⟨4, n42_0, [.tmp 1]⟩ := by kernel_rfl
@[simp] theorem en42_1 : evCode C n42_1 R S = regK (runOps C l42_1 R S) := ev_plain rfl
@[simp] theorem en42_3 : evCode C n42_3 R S = regK (runOps C l42_3 R S) := ev_plain rfl
@[simp] theorem en42_4 : evCode C n42_4 R S = some (.ret, R, S) := (rfl)
@[simp] theorem en42_2 : evCode C n42_2 R S = seqK (evCode C n42_3 R S) fun R S => evCode C n42_4 R S := ev_seq
@[simp] theorem en42_0 : evCode C n42_0 R S = seqK (evCode C n42_1 R S) fun R S => evCode C n42_2 R S := ev_seq
theorem q42 {n : Nat} {args : List Value} {S : St} : calls table.find (n + 1) 42 args S = endK S [.tmp 1] (evCode (calls table.find n) n42_0 (args ++ List.replicate (4 - args.length) undef) S.enter) := call_enter b42

/-! wainscot/chart.Part$1 -/
@[simp] def l43_1 : List IOper := [oy 1 (.mv (.c (.int .i64 0)))]
def n43_1 : ICode := .region l43_1
@[simp] def l43_3 : List IOper := [oy 2 (.load false 1 (.t 0)),
  oy 3 (.bin .mul .int (.c (.int .i64 4)) (.t 2)),
  oy 4 (.bin .add .int (.t 3) (.c (.int .i64 2))),
  oy 1 (.mv (.t 4))]
def n43_3 : ICode := .region l43_3
def n43_4 : ICode := .ret
def n43_2 : ICode := .seq n43_3 n43_4
def n43_0 : ICode := .seq n43_1 n43_2
theorem b43 : table.find 43 = some ⟨5, n43_0, [.tmp 1]⟩ := by kernel_rfl
@[simp] theorem en43_1 : evCode C n43_1 R S = regK (runOps C l43_1 R S) := ev_plain rfl
@[simp] theorem en43_3 : evCode C n43_3 R S = regK (runOps C l43_3 R S) := ev_plain rfl
@[simp] theorem en43_4 : evCode C n43_4 R S = some (.ret, R, S) := (rfl)
@[simp] theorem en43_2 : evCode C n43_2 R S = seqK (evCode C n43_3 R S) fun R S => evCode C n43_4 R S := ev_seq
@[simp] theorem en43_0 : evCode C n43_0 R S = seqK (evCode C n43_1 R S) fun R S => evCode C n43_2 R S := ev_seq
theorem q43 {n : Nat} {args : List Value} {S : St} : calls table.find (n + 1) 43 args S = endK S [.tmp 1] (evCode (calls table.find n) n43_0 (args ++ List.replicate (5 - args.length) undef) S.enter) := call_enter b43

/-! wainscot/chart.Lock$1 -/
@[simp] def l44_1 : List IOper := [oy 1 (.mv (.c (.int .i64 0)))]
def n44_1 : ICode := .region l44_1
@[simp] def l44_3 : List IOper := [oy 2 (.load true 6 (.t 0)),
  oy 3 (.call (.c (.func (.func 45) #[] #[])) [(.t 2)] true),
  oy 1 (.mv (.t 3))]
def n44_3 : ICode := .region l44_3
def n44_4 : ICode := .ret
def n44_2 : ICode := .seq n44_3 n44_4
def n44_0 : ICode := .seq n44_1 n44_2
theorem b44 : table.find 44 = some ⟨4, n44_0, [.tmp 1]⟩ := by kernel_rfl
@[simp] theorem en44_1 : evCode C n44_1 R S = regK (runOps C l44_1 R S) := ev_plain rfl
@[simp] theorem en44_3 : evCode C n44_3 R S = regK (runOps C l44_3 R S) := ev_plain rfl
@[simp] theorem en44_4 : evCode C n44_4 R S = some (.ret, R, S) := (rfl)
@[simp] theorem en44_2 : evCode C n44_2 R S = seqK (evCode C n44_3 R S) fun R S => evCode C n44_4 R S := ev_seq
@[simp] theorem en44_0 : evCode C n44_0 R S = seqK (evCode C n44_1 R S) fun R S => evCode C n44_2 R S := ev_seq
theorem q44 {n : Nat} {args : List Value} {S : St} : calls table.find (n + 1) 44 args S = endK S [.tmp 1] (evCode (calls table.find n) n44_0 (args ++ List.replicate (4 - args.length) undef) S.enter) := call_enter b44

/-! wainscot/chart.base -/
@[simp] def l45_1 : List IOper := [oy 1 (.box 24 6 (.t 0)),
  oy 2 (.mv (.c (.int .i64 0)))]
def n45_1 : ICode := .region l45_1
@[simp] def l45_3 : List IOper := [oy 3 (.addOff 0 (.t 1)),
  oy 4 (.load false 1 (.t 3)),
  oy 5 (.bin .mul .int (.c (.int .i64 4)) (.t 4)),
  oy 2 (.mv (.t 5))]
def n45_3 : ICode := .region l45_3
def n45_4 : ICode := .ret
def n45_2 : ICode := .seq n45_3 n45_4
def n45_0 : ICode := .seq n45_1 n45_2
theorem b45 : table.find 45 = some ⟨6, n45_0, [.tmp 2]⟩ := by kernel_rfl
@[simp] theorem en45_1 : evCode C n45_1 R S = regK (runOps C l45_1 R S) := ev_plain rfl
@[simp] theorem en45_3 : evCode C n45_3 R S = regK (runOps C l45_3 R S) := ev_plain rfl
@[simp] theorem en45_4 : evCode C n45_4 R S = some (.ret, R, S) := (rfl)
@[simp] theorem en45_2 : evCode C n45_2 R S = seqK (evCode C n45_3 R S) fun R S => evCode C n45_4 R S := ev_seq
@[simp] theorem en45_0 : evCode C n45_0 R S = seqK (evCode C n45_1 R S) fun R S => evCode C n45_2 R S := ev_seq
theorem q45 {n : Nat} {args : List Value} {S : St} : calls table.find (n + 1) 45 args S = endK S [.tmp 2] (evCode (calls table.find n) n45_0 (args ++ List.replicate (6 - args.length) undef) S.enter) := call_enter b45

/-! wainscot/chart.Shelf$1 -/
@[simp] def l46_1 : List IOper := [oy 1 (.mv (.c (.int .i64 0)))]
def n46_1 : ICode := .region l46_1
@[simp] def l46_3 : List IOper := [oy 2 (.load true 6 (.t 0)),
  oy 3 (.call (.c (.func (.func 45) #[] #[])) [(.t 2)] true),
  oy 4 (.bin .add .int (.t 3) (.c (.int .i64 1))),
  oy 1 (.mv (.t 4))]
def n46_3 : ICode := .region l46_3
def n46_4 : ICode := .ret
def n46_2 : ICode := .seq n46_3 n46_4
def n46_0 : ICode := .seq n46_1 n46_2
theorem b46 : table.find 46 = some ⟨5, n46_0, [.tmp 1]⟩ := by kernel_rfl
@[simp] theorem en46_1 : evCode C n46_1 R S = regK (runOps C l46_1 R S) := ev_plain rfl
@[simp] theorem en46_3 : evCode C n46_3 R S = regK (runOps C l46_3 R S) := ev_plain rfl
@[simp] theorem en46_4 : evCode C n46_4 R S = some (.ret, R, S) := (rfl)
@[simp] theorem en46_2 : evCode C n46_2 R S = seqK (evCode C n46_3 R S) fun R S => evCode C n46_4 R S := ev_seq
@[simp] theorem en46_0 : evCode C n46_0 R S = seqK (evCode C n46_1 R S) fun R S => evCode C n46_2 R S := ev_seq
theorem q46 {n : Nat} {args : List Value} {S : St} : calls table.find (n + 1) 46 args S = endK S [.tmp 1] (evCode (calls table.find n) n46_0 (args ++ List.replicate (5 - args.length) undef) S.enter) := call_enter b46

/-! wainscot/chart.Held$1 -/
@[simp] def l47_1 : List IOper := [oy 1 (.mv (.c (.int .i64 0)))]
def n47_1 : ICode := .region l47_1
@[simp] def l47_3 : List IOper := [oy 2 (.load true 6 (.t 0)),
  oy 3 (.call (.c (.func (.func 45) #[] #[])) [(.t 2)] true),
  oy 4 (.bin .add .int (.t 3) (.c (.int .i64 2))),
  oy 1 (.mv (.t 4))]
def n47_3 : ICode := .region l47_3
def n47_4 : ICode := .ret
def n47_2 : ICode := .seq n47_3 n47_4
def n47_0 : ICode := .seq n47_1 n47_2
theorem b47 : table.find 47 = some ⟨5, n47_0, [.tmp 1]⟩ := by kernel_rfl
@[simp] theorem en47_1 : evCode C n47_1 R S = regK (runOps C l47_1 R S) := ev_plain rfl
@[simp] theorem en47_3 : evCode C n47_3 R S = regK (runOps C l47_3 R S) := ev_plain rfl
@[simp] theorem en47_4 : evCode C n47_4 R S = some (.ret, R, S) := (rfl)
@[simp] theorem en47_2 : evCode C n47_2 R S = seqK (evCode C n47_3 R S) fun R S => evCode C n47_4 R S := ev_seq
@[simp] theorem en47_0 : evCode C n47_0 R S = seqK (evCode C n47_1 R S) fun R S => evCode C n47_2 R S := ev_seq
theorem q47 {n : Nat} {args : List Value} {S : St} : calls table.find (n + 1) 47 args S = endK S [.tmp 1] (evCode (calls table.find n) n47_0 (args ++ List.replicate (5 - args.length) undef) S.enter) := call_enter b47

/-! wainscot/chart.First$1 -/
@[simp] def l48_1 : List IOper := [oy 2 (.mv (.c (.int .i64 0)))]
def n48_1 : ICode := .region l48_1
@[simp] def l48_3 : List IOper := [oy 3 (.load true 6 (.t 0)),
  oy 4 (.call (.c (.func (.func 49) #[] #[])) [(.t 3)] true),
  oy 5 (.load false 1 (.t 1)),
  oy 6 (.bin .mul .int (.c (.int .i64 4)) (.t 5)),
  oy 7 (.bin .add .int (.t 4) (.t 6)),
  oy 2 (.mv (.t 7))]
def n48_3 : ICode := .region l48_3
def n48_4 : ICode := .ret
def n48_2 : ICode := .seq n48_3 n48_4
def n48_0 : ICode := .seq n48_1 n48_2
theorem b48 : table.find 48 = some ⟨8, n48_0, [.tmp 2]⟩ := by kernel_rfl
@[simp] theorem en48_1 : evCode C n48_1 R S = regK (runOps C l48_1 R S) := ev_plain rfl
@[simp] theorem en48_3 : evCode C n48_3 R S = regK (runOps C l48_3 R S) := ev_plain rfl
@[simp] theorem en48_4 : evCode C n48_4 R S = some (.ret, R, S) := (rfl)
@[simp] theorem en48_2 : evCode C n48_2 R S = seqK (evCode C n48_3 R S) fun R S => evCode C n48_4 R S := ev_seq
@[simp] theorem en48_0 : evCode C n48_0 R S = seqK (evCode C n48_1 R S) fun R S => evCode C n48_2 R S := ev_seq
theorem q48 {n : Nat} {args : List Value} {S : St} : calls table.find (n + 1) 48 args S = endK S [.tmp 2] (evCode (calls table.find n) n48_0 (args ++ List.replicate (8 - args.length) undef) S.enter) := call_enter b48

/-! wainscot/chart.slabs -/
@[simp] def l49_1 : List IOper := [oy 1 (.box 24 6 (.t 0)),
  oy 2 (.mv (.c (.int .i64 0)))]
def n49_1 : ICode := .region l49_1
@[simp] def l49_3 : List IOper := [oy 3 (.load true 6 (.t 1)),
  oy 4 (.call (.c (.func (.func 45) #[] #[])) [(.t 3)] true),
  oy 5 (.bin .add .int (.t 4) (.c (.int .i64 4))),
  oy 2 (.mv (.t 5))]
def n49_3 : ICode := .region l49_3
def n49_4 : ICode := .ret
def n49_2 : ICode := .seq n49_3 n49_4
def n49_0 : ICode := .seq n49_1 n49_2
theorem b49 : table.find 49 = some ⟨6, n49_0, [.tmp 2]⟩ := by kernel_rfl
@[simp] theorem en49_1 : evCode C n49_1 R S = regK (runOps C l49_1 R S) := ev_plain rfl
@[simp] theorem en49_3 : evCode C n49_3 R S = regK (runOps C l49_3 R S) := ev_plain rfl
@[simp] theorem en49_4 : evCode C n49_4 R S = some (.ret, R, S) := (rfl)
@[simp] theorem en49_2 : evCode C n49_2 R S = seqK (evCode C n49_3 R S) fun R S => evCode C n49_4 R S := ev_seq
@[simp] theorem en49_0 : evCode C n49_0 R S = seqK (evCode C n49_1 R S) fun R S => evCode C n49_2 R S := ev_seq
theorem q49 {n : Nat} {args : List Value} {S : St} : calls table.find (n + 1) 49 args S = endK S [.tmp 2] (evCode (calls table.find n) n49_0 (args ++ List.replicate (6 - args.length) undef) S.enter) := call_enter b49

/-! wainscot/chart.Next$1 -/
@[simp] def l50_1 : List IOper := [oy 2 (.mv (.c (.int .i64 0)))]
def n50_1 : ICode := .region l50_1
@[simp] def l50_3 : List IOper := [oy 3 (.load true 6 (.t 0)),
  oy 4 (.call (.c (.func (.func 49) #[] #[])) [(.t 3)] true),
  oy 5 (.load false 1 (.t 1)),
  oy 6 (.bin .mul .int (.c (.int .i64 4)) (.t 5)),
  oy 7 (.bin .add .int (.t 4) (.t 6)),
  oy 8 (.bin .add .int (.t 7) (.c (.int .i64 2))),
  oy 2 (.mv (.t 8))]
def n50_3 : ICode := .region l50_3
def n50_4 : ICode := .ret
def n50_2 : ICode := .seq n50_3 n50_4
def n50_0 : ICode := .seq n50_1 n50_2
theorem b50 : table.find 50 = some ⟨9, n50_0, [.tmp 2]⟩ := by kernel_rfl
@[simp] theorem en50_1 : evCode C n50_1 R S = regK (runOps C l50_1 R S) := ev_plain rfl
@[simp] theorem en50_3 : evCode C n50_3 R S = regK (runOps C l50_3 R S) := ev_plain rfl
@[simp] theorem en50_4 : evCode C n50_4 R S = some (.ret, R, S) := (rfl)
@[simp] theorem en50_2 : evCode C n50_2 R S = seqK (evCode C n50_3 R S) fun R S => evCode C n50_4 R S := ev_seq
@[simp] theorem en50_0 : evCode C n50_0 R S = seqK (evCode C n50_1 R S) fun R S => evCode C n50_2 R S := ev_seq
theorem q50 {n : Nat} {args : List Value} {S : St} : calls table.find (n + 1) 50 args S = endK S [.tmp 2] (evCode (calls table.find n) n50_0 (args ++ List.replicate (9 - args.length) undef) S.enter) := call_enter b50

/-! wainscot/chart.Link$1 -/
@[simp] def l51_1 : List IOper := [oy 3 (.mv (.c (.int .i64 0)))]
def n51_1 : ICode := .region l51_1
@[simp] def l51_3 : List IOper := [oy 4 (.load true 6 (.t 0)),
  oy 5 (.call (.c (.func (.func 40) #[] #[])) [(.t 4)] true),
  oy 6 (.load false 1 (.t 1)),
  oy 7 (.addOff 2 (.t 0)),
  oy 8 (.load false 1 (.t 7)),
  oy 9 (.bin .mul .int (.t 6) (.t 8)),
  oy 10 (.bin .add .int (.t 5) (.t 9)),
  oy 11 (.load false 1 (.t 2)),
  oy 12 (.bin .add .int (.t 10) (.t 11)),
  oy 3 (.mv (.t 12))]
def n51_3 : ICode := .region l51_3
def n51_4 : ICode := .ret
def n51_2 : ICode := .seq n51_3 n51_4
def n51_0 : ICode := .seq n51_1 n51_2
theorem b51 : table.find 51 = some ⟨13, n51_0, [.tmp 3]⟩ := by kernel_rfl
@[simp] theorem en51_1 : evCode C n51_1 R S = regK (runOps C l51_1 R S) := ev_plain rfl
@[simp] theorem en51_3 : evCode C n51_3 R S = regK (runOps C l51_3 R S) := ev_plain rfl
@[simp] theorem en51_4 : evCode C n51_4 R S = some (.ret, R, S) := (rfl)
@[simp] theorem en51_2 : evCode C n51_2 R S = seqK (evCode C n51_3 R S) fun R S => evCode C n51_4 R S := ev_seq
@[simp] theorem en51_0 : evCode C n51_0 R S = seqK (evCode C n51_1 R S) fun R S => evCode C n51_2 R S := ev_seq
theorem q51 {n : Nat} {args : List Value} {S : St} : calls table.find (n + 1) 51 args S = endK S [.tmp 3] (evCode (calls table.find n) n51_0 (args ++ List.replicate (13 - args.length) undef) S.enter) := call_enter b51

/-! (wainscot/chart.reader).slot -/
@[simp] def l54_1 : List IOper := [oy 2 (.box 64 7 (.t 0)),
  oy 4 (.new 58 [(.int .i64 0), (.slice none 0 0), (.int .u64 0), (.slice none 0 0)]),
  oy 5 (.mv (.c (.bool false)))]
def n54_1 : ICode := .region l54_1
@[simp] def l54_3 : List IOper := [oy 10 (.addOff 1 (.t 2)),
  oy 11 (.load true 6 (.t 10)),
  oy 12 (.mv (.t 1)),
  oy 13 (.call (.c (.func (.func 10) #[] #[])) [(.t 11), (.t 12)] true),
  oy 6 (.mv (.t 13))]
def n54_3 : ICode := .region l54_3
@[simp] def l54_5 : List IOper := [oy 15 (.addOff 0 (.t 2)),
  oy 16 (.load false 1 (.t 15)),
  oy 17 (.mv (.t 6)),
  oy 18 (.idxS 1 (.t 16) (.t 17)),
  oy 19 (.load false 1 (.t 18)),
  oy 20 (.call (.c (.func (.func 62) #[] #[])) [(.t 19)] true),
  oy 14 (.mv (.t 20)),
  oy 21 (.extract (.t 14) 0),
  oy 22 (.extract (.t 14) 1),
  oy 23 (.extract (.t 14) 2),
  oy 7 (.mv (.t 21)),
  oy 8 (.mv (.t 22)),
  oy 9 (.mv (.t 23))]
def n54_5 : ICode := .region l54_5
@[simp] def l54_8 : List IOper := [oy 24 (.mv (.t 9)),
  oy 25 (.un .not (.t 24)),
  oy 26 (.mv (.t 25)),
  oz 27 26 false (.mv (.t 7)),
  oz 28 26 false (.addOff 1 (.t 2)),
  oz 29 26 false (.addOff 1 (.t 28)),
  oz 30 26 false (.load false 1 (.t 29)),
  oz 31 26 false (.bin .geq .int (.t 27) (.t 30)),
  oy 32 (.pick (.t 26) (.c (.bool true)) (.t 31))]
def n54_8 : ICode := .region l54_8
@[simp] def l54_11 : List IOper := [oy 33 (.build [(.int .i64 0), (.slice none 0 0), (.int .u64 0), (.slice none 0 0)] []),
  ox (.store 4 (.t 4) (.t 33)),
  oy 5 (.mv (.c (.bool false)))]
def n54_11 : ICode := .region l54_11
def n54_12 : ICode := .ret
def n54_10 : ICode := .seq n54_11 n54_12
def n54_13 : ICode := .skip
def n54_9 : ICode := .cond (.t 32) n54_10 n54_13
def n54_7 : ICode := .seq n54_8 n54_9
@[simp] def l54_15 : List IOper := [oy 34 (.mv (.t 7)),
  oy 35 (.addOff 0 (.t 2)),
  oy 36 (.load false 1 (.t 35)),
  oy 37 (.mv (.t 6)),
  oy 38 (.bin .add .int (.t 37) (.c (.int .i64 1))),
  oy 39 (.idxS 1 (.t 36) (.t 38)),
  oy 40 (.load false 1 (.t 39)),
  oy 41 (.build [(.int .i64 0), (.slice none 0 0), (.int .u64 0), (.slice none 0 0)] [(0, 1, (.t 34)), (2, 1, (.t 40))]),
  ox (.store 4 (.t 4) (.t 41))]
def n54_15 : ICode := .region l54_15
@[simp] def l54_18 : List IOper := [oy 42 (.mv (.t 7)),
  oy 43 (.bin .neq .int (.t 42) (.c (.int .i64 (-1))))]
def n54_18 : ICode := .region l54_18
@[simp] def l54_21 : List IOper := [oy 45 (.load true 7 (.t 2)),
  oy 46 (.mv (.t 7)),
  oy 47 (.mv (.t 8)),
  oy 48 (.call (.c (.func (.func 63) #[] #[])) [(.t 45), (.t 46), (.t 47)] true),
  oy 44 (.mv (.t 48)),
  oy 49 (.extract (.t 44) 0),
  oy 50 (.extract (.t 44) 1),
  oy 51 (.addOff 1 (.t 4)),
  ox (.store 1 (.t 51) (.t 49)),
  oy 5 (.mv (.t 50))]
def n54_21 : ICode := .region l54_21
@[simp] def l54_23 : List IOper := [oy 52 (.mv (.t 5)),
  oy 53 (.un .not (.t 52))]
def n54_23 : ICode := .region l54_23
@[simp] def l54_26 : List IOper := [oy 54 (.build [(.int .i64 0), (.slice none 0 0), (.int .u64 0), (.slice none 0 0)] []),
  ox (.store 4 (.t 4) (.t 54)),
  oy 5 (.mv (.c (.bool false)))]
def n54_26 : ICode := .region l54_26
def n54_27 : ICode := .ret
def n54_25 : ICode := .seq n54_26 n54_27
def n54_28 : ICode := .skip
def n54_24 : ICode := .cond (.t 53) n54_25 n54_28
def n54_22 : ICode := .seq n54_23 n54_24
def n54_20 : ICode := .seq n54_21 n54_22
def n54_29 : ICode := .skip
def n54_19 : ICode := .cond (.t 43) n54_20 n54_29
def n54_17 : ICode := .seq n54_18 n54_19
@[simp] def l54_32 : List IOper := [oy 56 (.load true 7 (.t 2)),
  oy 57 (.addOff 0 (.t 2)),
  oy 58 (.load false 1 (.t 57)),
  oy 59 (.mv (.t 6)),
  oy 60 (.bin .add .int (.t 59) (.c (.int .i64 2))),
  oy 61 (.idxS 1 (.t 58) (.t 60)),
  oy 62 (.load false 1 (.t 61)),
  oy 63 (.call (.c (.func (.func 55) #[] #[])) [(.t 56), (.t 62), (.c (.func (.func 64) #[] #[]))] true),
  oy 55 (.mv (.t 63)),
  oy 64 (.extract (.t 55) 0),
  oy 65 (.extract (.t 55) 1),
  oy 66 (.addOff 3 (.t 4)),
  ox (.store 1 (.t 66) (.t 64)),
  oy 5 (.mv (.t 65))]
def n54_32 : ICode := .region l54_32
@[simp] def l54_34 : List IOper := [oy 67 (.mv (.t 5)),
  oy 68 (.un .not (.t 67))]
def n54_34 : ICode := .region l54_34
@[simp] def l54_37 : List IOper := [oy 69 (.build [(.int .i64 0), (.slice none 0 0), (.int .u64 0), (.slice none 0 0)] []),
  ox (.store 4 (.t 4) (.t 69)),
  oy 5 (.mv (.c (.bool false)))]
def n54_37 : ICode := .region l54_37
def n54_38 : ICode := .ret
def n54_36 : ICode := .seq n54_37 n54_38
def n54_39 : ICode := .skip
def n54_35 : ICode := .cond (.t 68) n54_36 n54_39
def n54_33 : ICode := .seq n54_34 n54_35
def n54_31 : ICode := .seq n54_32 n54_33
@[simp] def l54_41 : List IOper := [oy 70 (.load true 4 (.t 4)),
  ox (.store 4 (.t 4) (.t 70)),
  oy 5 (.mv (.c (.bool true)))]
def n54_41 : ICode := .region l54_41
def n54_42 : ICode := .ret
def n54_40 : ICode := .seq n54_41 n54_42
def n54_30 : ICode := .seq n54_31 n54_40
def n54_16 : ICode := .seq n54_17 n54_30
def n54_14 : ICode := .seq n54_15 n54_16
def n54_6 : ICode := .seq n54_7 n54_14
def n54_4 : ICode := .seq n54_5 n54_6
def n54_2 : ICode := .seq n54_3 n54_4
def n54_0 : ICode := .seq n54_1 n54_2
theorem b54 : table.find 54 = some ⟨71, n54_0, [.cell 4 true 4, .tmp 5]⟩ := by kernel_rfl
@[simp] theorem en54_1 : evCode C n54_1 R S = regK (runOps C l54_1 R S) := ev_plain rfl
@[simp] theorem en54_3 : evCode C n54_3 R S = regK (runOps C l54_3 R S) := ev_plain rfl
@[simp] theorem en54_5 : evCode C n54_5 R S = regK (runOps C l54_5 R S) := ev_plain rfl
@[simp] theorem en54_8 : evCode C n54_8 R S = regK (runOps C l54_8 R S) := ev_plain rfl
@[simp] theorem en54_11 : evCode C n54_11 R S = regK (runOps C l54_11 R S) := ev_plain rfl
@[simp] theorem en54_12 : evCode C n54_12 R S = some (.ret, R, S) := (rfl)
@[simp] theorem en54_10 : evCode C n54_10 R S = seqK (evCode C n54_11 R S) fun R S => evCode C n54_12 R S := ev_seq
@[simp] theorem en54_13 : evCode C n54_13 R S = some (.norm, R, S) := (rfl)
@[simp] theorem en54_9 : evCode C n54_9 R S = condK (IV.ev R (.t 32)) (fun _ => evCode C n54_10 R S) fun _ => evCode C n54_13 R S := ev_cond
@[simp] theorem en54_7 : evCode C n54_7 R S = seqK (evCode C n54_8 R S) fun R S => evCode C n54_9 R S := ev_seq
@[simp] theorem en54_15 : evCode C n54_15 R S = regK (runOps C l54_15 R S) := ev_plain rfl
@[simp] theorem en54_18 : evCode C n54_18 R S = regK (runOps C l54_18 R S) := ev_plain rfl
@[simp] theorem en54_21 : evCode C n54_21 R S = regK (runOps C l54_21 R S) := ev_plain rfl
@[simp] theorem en54_23 : evCode C n54_23 R S = regK (runOps C l54_23 R S) := ev_plain rfl
@[simp] theorem en54_26 : evCode C n54_26 R S = regK (runOps C l54_26 R S) := ev_plain rfl
@[simp] theorem en54_27 : evCode C n54_27 R S = some (.ret, R, S) := (rfl)
@[simp] theorem en54_25 : evCode C n54_25 R S = seqK (evCode C n54_26 R S) fun R S => evCode C n54_27 R S := ev_seq
@[simp] theorem en54_28 : evCode C n54_28 R S = some (.norm, R, S) := (rfl)
@[simp] theorem en54_24 : evCode C n54_24 R S = condK (IV.ev R (.t 53)) (fun _ => evCode C n54_25 R S) fun _ => evCode C n54_28 R S := ev_cond
@[simp] theorem en54_22 : evCode C n54_22 R S = seqK (evCode C n54_23 R S) fun R S => evCode C n54_24 R S := ev_seq
@[simp] theorem en54_20 : evCode C n54_20 R S = seqK (evCode C n54_21 R S) fun R S => evCode C n54_22 R S := ev_seq
@[simp] theorem en54_29 : evCode C n54_29 R S = some (.norm, R, S) := (rfl)
@[simp] theorem en54_19 : evCode C n54_19 R S = condK (IV.ev R (.t 43)) (fun _ => evCode C n54_20 R S) fun _ => evCode C n54_29 R S := ev_cond
@[simp] theorem en54_17 : evCode C n54_17 R S = seqK (evCode C n54_18 R S) fun R S => evCode C n54_19 R S := ev_seq
@[simp] theorem en54_32 : evCode C n54_32 R S = regK (runOps C l54_32 R S) := ev_plain rfl
@[simp] theorem en54_34 : evCode C n54_34 R S = regK (runOps C l54_34 R S) := ev_plain rfl
@[simp] theorem en54_37 : evCode C n54_37 R S = regK (runOps C l54_37 R S) := ev_plain rfl
@[simp] theorem en54_38 : evCode C n54_38 R S = some (.ret, R, S) := (rfl)
@[simp] theorem en54_36 : evCode C n54_36 R S = seqK (evCode C n54_37 R S) fun R S => evCode C n54_38 R S := ev_seq
@[simp] theorem en54_39 : evCode C n54_39 R S = some (.norm, R, S) := (rfl)
@[simp] theorem en54_35 : evCode C n54_35 R S = condK (IV.ev R (.t 68)) (fun _ => evCode C n54_36 R S) fun _ => evCode C n54_39 R S := ev_cond
@[simp] theorem en54_33 : evCode C n54_33 R S = seqK (evCode C n54_34 R S) fun R S => evCode C n54_35 R S := ev_seq
@[simp] theorem en54_31 : evCode C n54_31 R S = seqK (evCode C n54_32 R S) fun R S => evCode C n54_33 R S := ev_seq
@[simp] theorem en54_41 : evCode C n54_41 R S = regK (runOps C l54_41 R S) := ev_plain rfl
@[simp] theorem en54_42 : evCode C n54_42 R S = some (.ret, R, S) := (rfl)
@[simp] theorem en54_40 : evCode C n54_40 R S = seqK (evCode C n54_41 R S) fun R S => evCode C n54_42 R S := ev_seq
@[simp] theorem en54_30 : evCode C n54_30 R S = seqK (evCode C n54_31 R S) fun R S => evCode C n54_40 R S := ev_seq
@[simp] theorem en54_16 : evCode C n54_16 R S = seqK (evCode C n54_17 R S) fun R S => evCode C n54_30 R S := ev_seq
@[simp] theorem en54_14 : evCode C n54_14 R S = seqK (evCode C n54_15 R S) fun R S => evCode C n54_16 R S := ev_seq
@[simp] theorem en54_6 : evCode C n54_6 R S = seqK (evCode C n54_7 R S) fun R S => evCode C n54_14 R S := ev_seq
@[simp] theorem en54_4 : evCode C n54_4 R S = seqK (evCode C n54_5 R S) fun R S => evCode C n54_6 R S := ev_seq
@[simp] theorem en54_2 : evCode C n54_2 R S = seqK (evCode C n54_3 R S) fun R S => evCode C n54_4 R S := ev_seq
@[simp] theorem en54_0 : evCode C n54_0 R S = seqK (evCode C n54_1 R S) fun R S => evCode C n54_2 R S := ev_seq
theorem q54 {n : Nat} {args : List Value} {S : St} : calls table.find (n + 1) 54 args S = endK S [.cell 4 true 4, .tmp 5] (evCode (calls table.find n) n54_0 (args ++ List.replicate (71 - args.length) undef) S.enter) := call_enter b54

/-! (wainscot/chart.reader).chain -/
@[simp] def l55_1 : List IOper := [oy 3 (.box 64 7 (.t 0)),
  oy 6 (.mv (.c (.slice none 0 0))),
  oy 7 (.mv (.c (.bool false)))]
def n55_1 : ICode := .region l55_1
@[simp] def l55_3 : List IOper := [oy 11 (.mkMap),
  oy 8 (.mv (.t 11))]
def n55_3 : ICode := .region l55_3
@[simp] def l55_7 : List IOper := [oy 13 (.mv (.t 2)),
  oy 14 (.mv (.t 1)),
  oy 15 (.call (.t 13) [(.t 14)] false),
  oy 12 (.mv (.t 15)),
  oy 16 (.extract (.t 12) 0),
  oy 17 (.extract (.t 12) 1),
  oy 9 (.mv (.t 16)),
  oy 10 (.mv (.t 17))]
def n55_7 : ICode := .region l55_7
@[simp] def l55_12 : List IOper := [oy 19 (.mv (.t 10)),
  oy 20 (.un .not (.t 19)),
  oy 18 (.mv (.t 20))]
def n55_12 : ICode := .region l55_12
def n55_14 : ICode := .skip
@[simp] def l55_16 : List IOper := [oy 21 (.mv (.t 9)),
  oy 22 (.addOff 1 (.t 3)),
  oy 23 (.addOff 1 (.t 22)),
  oy 24 (.load false 1 (.t 23)),
  oy 25 (.bin .geq .int (.t 21) (.t 24)),
  oy 18 (.mv (.t 25))]
def n55_16 : ICode := .region l55_16
def n55_18 : ICode := .skip
@[simp] def l55_19 : List IOper := [oy 26 (.mv (.t 8)),
  oy 27 (.mv (.t 9)),
  oy 28 (.lookup (.int .i64 0) false (.t 26) (.t 27)),
  oy 29 (.bin .gtr .int (.t 28) (.c (.int .i64 0))),
  oy 18 (.mv (.t 29))]
def n55_19 : ICode := .region l55_19
def n55_17 : ICode := .cond (.t 18) n55_18 n55_19
def n55_15 : ICode := .seq n55_16 n55_17
def n55_13 : ICode := .cond (.t 18) n55_14 n55_15
def n55_11 : ICode := .seq n55_12 n55_13
@[simp] def l55_22 : List IOper := [oy 6 (.mv (.c (.slice none 0 0))),
  oy 7 (.mv (.c (.bool false)))]
def n55_22 : ICode := .region l55_22
def n55_23 : ICode := .ret
def n55_21 : ICode := .seq n55_22 n55_23
@[simp] def l55_25 : List IOper := [oy 31 (.mv (.t 9)),
  oy 32 (.bin .eql .int (.t 31) (.c (.int .i64 (-1)))),
  oy 30 (.mv (.t 32))]
def n55_25 : ICode := .region l55_25
@[simp] def l55_28 : List IOper := [oy 33 (.mv (.t 6)),
  oy 6 (.mv (.t 33)),
  oy 7 (.mv (.c (.bool true)))]
def n55_28 : ICode := .region l55_28
def n55_29 : ICode := .ret
def n55_27 : ICode := .seq n55_28 n55_29
def n55_30 : ICode := .skip
def n55_26 : ICode := .cond (.t 30) n55_27 n55_30
def n55_24 : ICode := .seq n55_25 n55_26
def n55_20 : ICode := .cond (.t 18) n55_21 n55_24
def n55_10 : ICode := .seq n55_11 n55_20
def n55_9 : ICode := .block 2 n55_10
@[simp] def l55_32 : List IOper := [oy 34 (.mv (.t 8)),
  oy 35 (.mv (.t 9)),
  ox (.mapSet (.t 34) (.t 35) (.c (.int .i64 1)))]
def n55_32 : ICode := .region l55_32
@[simp] def l55_34 : List IOper := [oy 36 (.mv (.t 6)),
  oy 37 (.mv (.t 9)),
  oy 38 (.buildSlice 3 [(.int .i64 0)] 1 [(0, 1, (.t 37))]),
  oy 39 (.append 3 1 8 (.t 36) (.t 38)),
  oy 6 (.mv (.t 39))]
def n55_34 : ICode := .region l55_34
@[simp] def l55_35 : List IOper := [oy 40 (.addOff 0 (.t 3)),
  oy 41 (.load false 1 (.t 40)),
  oy 42 (.addOff 1 (.t 3)),
  oy 43 (.load true 6 (.t 42)),
  oy 44 (.mv (.t 9)),
  oy 45 (.call (.c (.func (.func 16) #[] #[])) [(.t 43), (.t 44)] true),
  oy 46 (.idxS 1 (.t 41) (.t 45)),
  oy 47 (.load false 1 (.t 46)),
  oy 1 (.mv (.t 47))]
def n55_35 : ICode := .region l55_35
def n55_33 : ICode := .seq n55_34 n55_35
def n55_31 : ICode := .seq n55_32 n55_33
def n55_8 : ICode := .seq n55_9 n55_31
def n55_6 : ICode := .seq n55_7 n55_8
def n55_5 : ICode := .block 1 n55_6
def loop55_0 : ICode := .loop n55_5
def n55_4 : ICode := .block 0 loop55_0
def n55_2 : ICode := .seq n55_3 n55_4
def n55_0 : ICode := .seq n55_1 n55_2
theorem b55 : table.find 55 = some ⟨48, n55_0, [.tmp 6, .tmp 7]⟩ := by kernel_rfl
@[simp] theorem en55_1 : evCode C n55_1 R S = regK (runOps C l55_1 R S) := ev_plain rfl
@[simp] theorem en55_3 : evCode C n55_3 R S = regK (runOps C l55_3 R S) := ev_plain rfl
@[simp] theorem en55_7 : evCode C n55_7 R S = regK (runOps C l55_7 R S) := ev_plain rfl
@[simp] theorem en55_12 : evCode C n55_12 R S = regK (runOps C l55_12 R S) := ev_plain rfl
@[simp] theorem en55_14 : evCode C n55_14 R S = some (.norm, R, S) := (rfl)
@[simp] theorem en55_16 : evCode C n55_16 R S = regK (runOps C l55_16 R S) := ev_plain rfl
@[simp] theorem en55_18 : evCode C n55_18 R S = some (.norm, R, S) := (rfl)
@[simp] theorem en55_19 : evCode C n55_19 R S = regK (runOps C l55_19 R S) := ev_plain rfl
@[simp] theorem en55_17 : evCode C n55_17 R S = condK (IV.ev R (.t 18)) (fun _ => evCode C n55_18 R S) fun _ => evCode C n55_19 R S := ev_cond
@[simp] theorem en55_15 : evCode C n55_15 R S = seqK (evCode C n55_16 R S) fun R S => evCode C n55_17 R S := ev_seq
@[simp] theorem en55_13 : evCode C n55_13 R S = condK (IV.ev R (.t 18)) (fun _ => evCode C n55_14 R S) fun _ => evCode C n55_15 R S := ev_cond
@[simp] theorem en55_11 : evCode C n55_11 R S = seqK (evCode C n55_12 R S) fun R S => evCode C n55_13 R S := ev_seq
@[simp] theorem en55_22 : evCode C n55_22 R S = regK (runOps C l55_22 R S) := ev_plain rfl
@[simp] theorem en55_23 : evCode C n55_23 R S = some (.ret, R, S) := (rfl)
@[simp] theorem en55_21 : evCode C n55_21 R S = seqK (evCode C n55_22 R S) fun R S => evCode C n55_23 R S := ev_seq
@[simp] theorem en55_25 : evCode C n55_25 R S = regK (runOps C l55_25 R S) := ev_plain rfl
@[simp] theorem en55_28 : evCode C n55_28 R S = regK (runOps C l55_28 R S) := ev_plain rfl
@[simp] theorem en55_29 : evCode C n55_29 R S = some (.ret, R, S) := (rfl)
@[simp] theorem en55_27 : evCode C n55_27 R S = seqK (evCode C n55_28 R S) fun R S => evCode C n55_29 R S := ev_seq
@[simp] theorem en55_30 : evCode C n55_30 R S = some (.norm, R, S) := (rfl)
@[simp] theorem en55_26 : evCode C n55_26 R S = condK (IV.ev R (.t 30)) (fun _ => evCode C n55_27 R S) fun _ => evCode C n55_30 R S := ev_cond
@[simp] theorem en55_24 : evCode C n55_24 R S = seqK (evCode C n55_25 R S) fun R S => evCode C n55_26 R S := ev_seq
@[simp] theorem en55_20 : evCode C n55_20 R S = condK (IV.ev R (.t 18)) (fun _ => evCode C n55_21 R S) fun _ => evCode C n55_24 R S := ev_cond
@[simp] theorem en55_10 : evCode C n55_10 R S = seqK (evCode C n55_11 R S) fun R S => evCode C n55_20 R S := ev_seq
@[simp] theorem en55_9 : evCode C n55_9 R S = blockK 2 (evCode C n55_10 R S) := ev_block
@[simp] theorem en55_32 : evCode C n55_32 R S = regK (runOps C l55_32 R S) := ev_plain rfl
@[simp] theorem en55_34 : evCode C n55_34 R S = regK (runOps C l55_34 R S) := ev_plain rfl
@[simp] theorem en55_35 : evCode C n55_35 R S = regK (runOps C l55_35 R S) := ev_plain rfl
@[simp] theorem en55_33 : evCode C n55_33 R S = seqK (evCode C n55_34 R S) fun R S => evCode C n55_35 R S := ev_seq
@[simp] theorem en55_31 : evCode C n55_31 R S = seqK (evCode C n55_32 R S) fun R S => evCode C n55_33 R S := ev_seq
@[simp] theorem en55_8 : evCode C n55_8 R S = seqK (evCode C n55_9 R S) fun R S => evCode C n55_31 R S := ev_seq
@[simp] theorem en55_6 : evCode C n55_6 R S = seqK (evCode C n55_7 R S) fun R S => evCode C n55_8 R S := ev_seq
@[simp] theorem en55_5 : evCode C n55_5 R S = blockK 1 (evCode C n55_6 R S) := ev_block
theorem eloop55_0 : evCode C loop55_0 R S = iter (fun R S => evCode C n55_5 R S) rounds R S := (rfl)
@[simp] theorem en55_4 : evCode C n55_4 R S = blockK 0 (evCode C loop55_0 R S) := ev_block
@[simp] theorem en55_2 : evCode C n55_2 R S = seqK (evCode C n55_3 R S) fun R S => evCode C n55_4 R S := ev_seq
@[simp] theorem en55_0 : evCode C n55_0 R S = seqK (evCode C n55_1 R S) fun R S => evCode C n55_2 R S := ev_seq
theorem q55 {n : Nat} {args : List Value} {S : St} : calls table.find (n + 1) 55 args S = endK S [.tmp 6, .tmp 7] (evCode (calls table.find n) n55_0 (args ++ List.replicate (48 - args.length) undef) S.enter) := call_enter b55

/-! wainscot/chart.shelfOf -/
@[simp] def l56_1 : List IOper := [oy 2 (.mv (.c (.int .i64 0))),
  oy 3 (.mv (.c (.bool false)))]
def n56_1 : ICode := .region l56_1
@[simp] def l56_3 : List IOper := [oy 4 (.mv (.t 0)),
  oy 5 (.conv .i64 (.t 4)),
  oy 6 (.bin .sub .int (.t 5) (.c (.int .i64 1))),
  oy 7 (.mv (.t 0)),
  oy 8 (.bin .leq .int (.t 7) (.c (.int .u64 32))),
  oy 2 (.mv (.t 6)),
  oy 3 (.mv (.t 8))]
def n56_3 : ICode := .region l56_3
def n56_4 : ICode := .ret
def n56_2 : ICode := .seq n56_3 n56_4
def n56_0 : ICode := .seq n56_1 n56_2
theorem b56 : table.find 56 = some ⟨9, n56_0, [.tmp 2, .tmp 3]⟩ := by kernel_rfl
@[simp] theorem en56_1 : evCode C n56_1 R S = regK (runOps C l56_1 R S) := ev_plain rfl
@[simp] theorem en56_3 : evCode C n56_3 R S = regK (runOps C l56_3 R S) := ev_plain rfl
@[simp] theorem en56_4 : evCode C n56_4 R S = some (.ret, R, S) := (rfl)
@[simp] theorem en56_2 : evCode C n56_2 R S = seqK (evCode C n56_3 R S) fun R S => evCode C n56_4 R S := ev_seq
@[simp] theorem en56_0 : evCode C n56_0 R S = seqK (evCode C n56_1 R S) fun R S => evCode C n56_2 R S := ev_seq
theorem q56 {n : Nat} {args : List Value} {S : St} : calls table.find (n + 1) 56 args S = endK S [.tmp 2, .tmp 3] (evCode (calls table.find n) n56_0 (args ++ List.replicate (9 - args.length) undef) S.enter) := call_enter b56

/-! (wainscot/chart.reader).slab -/
@[simp] def l57_1 : List IOper := [oy 2 (.box 64 7 (.t 0)),
  oy 4 (.new 62 [(.int .i64 0), (.int .i64 0), (.bool false), (.bool false), (.slice none 0 0)]),
  oy 5 (.mv (.c (.bool false)))]
def n57_1 : ICode := .region l57_1
@[simp] def l57_3 : List IOper := [oy 8 (.addOff 1 (.t 2)),
  oy 9 (.load true 6 (.t 8)),
  oy 10 (.mv (.t 1)),
  oy 11 (.call (.c (.func (.func 15) #[] #[])) [(.t 9), (.t 10)] true),
  oy 6 (.mv (.t 11))]
def n57_3 : ICode := .region l57_3
@[simp] def l57_5 : List IOper := [oy 12 (.addOff 0 (.t 2)),
  oy 13 (.load false 1 (.t 12)),
  oy 14 (.mv (.t 6)),
  oy 15 (.idxS 1 (.t 13) (.t 14)),
  oy 16 (.load false 1 (.t 15)),
  oy 7 (.mv (.t 16))]
def n57_5 : ICode := .region l57_5
@[simp] def l57_8 : List IOper := [oy 18 (.addOff 0 (.t 2)),
  oy 19 (.load false 1 (.t 18)),
  oy 20 (.mv (.t 6)),
  oy 21 (.bin .add .int (.t 20) (.c (.int .i64 1))),
  oy 22 (.idxS 1 (.t 19) (.t 21)),
  oy 23 (.load false 1 (.t 22)),
  oy 24 (.call (.c (.func (.func 65) #[] #[])) [(.t 23)] true),
  oy 17 (.mv (.t 24)),
  oy 25 (.extract (.t 17) 0),
  oy 26 (.extract (.t 17) 1),
  oy 27 (.addOff 0 (.t 4)),
  ox (.store 4 (.t 27) (.t 25)),
  oy 5 (.mv (.t 26))]
def n57_8 : ICode := .region l57_8
@[simp] def l57_10 : List IOper := [oy 28 (.mv (.t 5)),
  oy 29 (.un .not (.t 28)),
  oy 30 (.mv (.t 29)),
  oz 31 30 false (.mv (.t 7)),
  oz 32 30 false (.addOff 1 (.t 2)),
  oz 33 30 false (.addOff 2 (.t 32)),
  oz 34 30 false (.load false 1 (.t 33)),
  oz 35 30 false (.conv .u64 (.t 34)),
  oz 36 30 false (.bin .gtr .int (.t 31) (.t 35)),
  oy 37 (.pick (.t 30) (.c (.bool true)) (.t 36))]
def n57_10 : ICode := .region l57_10
@[simp] def l57_13 : List IOper := [oy 38 (.build [(.int .i64 0), (.int .i64 0), (.bool false), (.bool false), (.slice none 0 0)] []),
  ox (.store 5 (.t 4) (.t 38)),
  oy 5 (.mv (.c (.bool false)))]
def n57_13 : ICode := .region l57_13
def n57_14 : ICode := .ret
def n57_12 : ICode := .seq n57_13 n57_14
def n57_15 : ICode := .skip
def n57_11 : ICode := .cond (.t 37) n57_12 n57_15
def n57_9 : ICode := .seq n57_10 n57_11
def n57_7 : ICode := .seq n57_8 n57_9
@[simp] def l57_18 : List IOper := [oy 40 (.load true 7 (.t 2)),
  oy 41 (.mv (.t 1)),
  oy 42 (.mv (.t 7)),
  oy 43 (.conv .i64 (.t 42)),
  oy 44 (.bin .sub .int (.t 43) (.c (.int .i64 1))),
  oy 45 (.call (.c (.func (.func 63) #[] #[])) [(.t 40), (.t 41), (.t 44)] true),
  oy 39 (.mv (.t 45)),
  oy 46 (.extract (.t 39) 0),
  oy 47 (.extract (.t 39) 1),
  oy 48 (.addOff 4 (.t 4)),
  ox (.store 1 (.t 48) (.t 46)),
  oy 5 (.mv (.t 47))]
def n57_18 : ICode := .region l57_18
@[simp] def l57_20 : List IOper := [oy 49 (.mv (.t 5)),
  oy 50 (.un .not (.t 49))]
def n57_20 : ICode := .region l57_20
@[simp] def l57_23 : List IOper := [oy 51 (.build [(.int .i64 0), (.int .i64 0), (.bool false), (.bool false), (.slice none 0 0)] []),
  ox (.store 5 (.t 4) (.t 51)),
  oy 5 (.mv (.c (.bool false)))]
def n57_23 : ICode := .region l57_23
def n57_24 : ICode := .ret
def n57_22 : ICode := .seq n57_23 n57_24
def n57_25 : ICode := .skip
def n57_21 : ICode := .cond (.t 50) n57_22 n57_25
def n57_19 : ICode := .seq n57_20 n57_21
def n57_17 : ICode := .seq n57_18 n57_19
@[simp] def l57_27 : List IOper := [oy 52 (.load true 5 (.t 4)),
  ox (.store 5 (.t 4) (.t 52)),
  oy 5 (.mv (.c (.bool true)))]
def n57_27 : ICode := .region l57_27
def n57_28 : ICode := .ret
def n57_26 : ICode := .seq n57_27 n57_28
def n57_16 : ICode := .seq n57_17 n57_26
def n57_6 : ICode := .seq n57_7 n57_16
def n57_4 : ICode := .seq n57_5 n57_6
def n57_2 : ICode := .seq n57_3 n57_4
def n57_0 : ICode := .seq n57_1 n57_2
theorem b57 : table.find 57 = some ⟨53, n57_0, [.cell 4 true 5, .tmp 5]⟩ := by kernel_rfl
@[simp] theorem en57_1 : evCode C n57_1 R S = regK (runOps C l57_1 R S) := ev_plain rfl
@[simp] theorem en57_3 : evCode C n57_3 R S = regK (runOps C l57_3 R S) := ev_plain rfl
@[simp] theorem en57_5 : evCode C n57_5 R S = regK (runOps C l57_5 R S) := ev_plain rfl
@[simp] theorem en57_8 : evCode C n57_8 R S = regK (runOps C l57_8 R S) := ev_plain rfl
@[simp] theorem en57_10 : evCode C n57_10 R S = regK (runOps C l57_10 R S) := ev_plain rfl
@[simp] theorem en57_13 : evCode C n57_13 R S = regK (runOps C l57_13 R S) := ev_plain rfl
@[simp] theorem en57_14 : evCode C n57_14 R S = some (.ret, R, S) := (rfl)
@[simp] theorem en57_12 : evCode C n57_12 R S = seqK (evCode C n57_13 R S) fun R S => evCode C n57_14 R S := ev_seq
@[simp] theorem en57_15 : evCode C n57_15 R S = some (.norm, R, S) := (rfl)
@[simp] theorem en57_11 : evCode C n57_11 R S = condK (IV.ev R (.t 37)) (fun _ => evCode C n57_12 R S) fun _ => evCode C n57_15 R S := ev_cond
@[simp] theorem en57_9 : evCode C n57_9 R S = seqK (evCode C n57_10 R S) fun R S => evCode C n57_11 R S := ev_seq
@[simp] theorem en57_7 : evCode C n57_7 R S = seqK (evCode C n57_8 R S) fun R S => evCode C n57_9 R S := ev_seq
@[simp] theorem en57_18 : evCode C n57_18 R S = regK (runOps C l57_18 R S) := ev_plain rfl
@[simp] theorem en57_20 : evCode C n57_20 R S = regK (runOps C l57_20 R S) := ev_plain rfl
@[simp] theorem en57_23 : evCode C n57_23 R S = regK (runOps C l57_23 R S) := ev_plain rfl
@[simp] theorem en57_24 : evCode C n57_24 R S = some (.ret, R, S) := (rfl)
@[simp] theorem en57_22 : evCode C n57_22 R S = seqK (evCode C n57_23 R S) fun R S => evCode C n57_24 R S := ev_seq
@[simp] theorem en57_25 : evCode C n57_25 R S = some (.norm, R, S) := (rfl)
@[simp] theorem en57_21 : evCode C n57_21 R S = condK (IV.ev R (.t 50)) (fun _ => evCode C n57_22 R S) fun _ => evCode C n57_25 R S := ev_cond
@[simp] theorem en57_19 : evCode C n57_19 R S = seqK (evCode C n57_20 R S) fun R S => evCode C n57_21 R S := ev_seq
@[simp] theorem en57_17 : evCode C n57_17 R S = seqK (evCode C n57_18 R S) fun R S => evCode C n57_19 R S := ev_seq
@[simp] theorem en57_27 : evCode C n57_27 R S = regK (runOps C l57_27 R S) := ev_plain rfl
@[simp] theorem en57_28 : evCode C n57_28 R S = some (.ret, R, S) := (rfl)
@[simp] theorem en57_26 : evCode C n57_26 R S = seqK (evCode C n57_27 R S) fun R S => evCode C n57_28 R S := ev_seq
@[simp] theorem en57_16 : evCode C n57_16 R S = seqK (evCode C n57_17 R S) fun R S => evCode C n57_26 R S := ev_seq
@[simp] theorem en57_6 : evCode C n57_6 R S = seqK (evCode C n57_7 R S) fun R S => evCode C n57_16 R S := ev_seq
@[simp] theorem en57_4 : evCode C n57_4 R S = seqK (evCode C n57_5 R S) fun R S => evCode C n57_6 R S := ev_seq
@[simp] theorem en57_2 : evCode C n57_2 R S = seqK (evCode C n57_3 R S) fun R S => evCode C n57_4 R S := ev_seq
@[simp] theorem en57_0 : evCode C n57_0 R S = seqK (evCode C n57_1 R S) fun R S => evCode C n57_2 R S := ev_seq
theorem q57 {n : Nat} {args : List Value} {S : St} : calls table.find (n + 1) 57 args S = endK S [.cell 4 true 5, .tmp 5] (evCode (calls table.find n) n57_0 (args ++ List.replicate (53 - args.length) undef) S.enter) := call_enter b57

/-! wainscot/wainscotref00.Bring -/
@[simp] def l61_1 : List IOper := [oy 4 (.mv (.c (.int .i64 0)))]
def n61_1 : ICode := .region l61_1
@[simp] def l61_3 : List IOper := [oy 5 (.mv (.t 0)),
  oy 6 (.mv (.t 1)),
  oy 7 (.bin .rem .int (.t 5) (.t 6)),
  oy 0 (.mv (.t 7))]
def n61_3 : ICode := .region l61_3
@[simp] def l61_6 : List IOper := [oy 8 (.mv (.t 0)),
  oy 9 (.bin .lss .int (.t 8) (.c (.int .i64 0)))]
def n61_6 : ICode := .region l61_6
@[simp] def l61_8 : List IOper := [oy 10 (.mv (.t 0)),
  oy 11 (.mv (.t 1)),
  oy 12 (.bin .add .int (.t 10) (.t 11)),
  oy 0 (.mv (.t 12))]
def n61_8 : ICode := .region l61_8
def n61_9 : ICode := .skip
def n61_7 : ICode := .cond (.t 9) n61_8 n61_9
def n61_5 : ICode := .seq n61_6 n61_7
@[simp] def l61_11 : List IOper := [oy 13 (.mv (.t 0)),
  oy 4 (.mv (.t 13))]
def n61_11 : ICode := .region l61_11
def n61_12 : ICode := .ret
def n61_10 : ICode := .seq n61_11 n61_12
def n61_4 : ICode := .seq n61_5 n61_10
def n61_2 : ICode := .seq n61_3 n61_4
def n61_0 : ICode := .seq n61_1 n61_2
theorem b61 : table.find 61 = some ⟨14, n61_0, [.tmp 4]⟩ := by kernel_rfl
@[simp] theorem en61_1 : evCode C n61_1 R S = regK (runOps C l61_1 R S) := ev_plain rfl
@[simp] theorem en61_3 : evCode C n61_3 R S = regK (runOps C l61_3 R S) := ev_plain rfl
@[simp] theorem en61_6 : evCode C n61_6 R S = regK (runOps C l61_6 R S) := ev_plain rfl
@[simp] theorem en61_8 : evCode C n61_8 R S = regK (runOps C l61_8 R S) := ev_plain rfl
@[simp] theorem en61_9 : evCode C n61_9 R S = some (.norm, R, S) := (rfl)
@[simp] theorem en61_7 : evCode C n61_7 R S = condK (IV.ev R (.t 9)) (fun _ => evCode C n61_8 R S) fun _ => evCode C n61_9 R S := ev_cond
@[simp] theorem en61_5 : evCode C n61_5 R S = seqK (evCode C n61_6 R S) fun R S => evCode C n61_7 R S := ev_seq
@[simp] theorem en61_11 : evCode C n61_11 R S = regK (runOps C l61_11 R S) := ev_plain rfl
@[simp] theorem en61_12 : evCode C n61_12 R S = some (.ret, R, S) := (rfl)
@[simp] theorem en61_10 : evCode C n61_10 R S = seqK (evCode C n61_11 R S) fun R S => evCode C n61_12 R S := ev_seq
@[simp] theorem en61_4 : evCode C n61_4 R S = seqK (evCode C n61_5 R S) fun R S => evCode C n61_10 R S := ev_seq
@[simp] theorem en61_2 : evCode C n61_2 R S = seqK (evCode C n61_3 R S) fun R S => evCode C n61_4 R S := ev_seq
@[simp] theorem en61_0 : evCode C n61_0 R S = seqK (evCode C n61_1 R S) fun R S => evCode C n61_2 R S := ev_seq
theorem q61 {n : Nat} {args : List Value} {S : St} : calls table.find (n + 1) 61 args S = endK S [.tmp 4] (evCode (calls table.find n) n61_0 (args ++ List.replicate (14 - args.length) undef) S.enter) := call_enter b61

/-! wainscot/count.HeadOf -/
@[simp] def l62_1 : List IOper := [oy 2 (.mv (.c (.int .i64 0))),
  oy 3 (.mv (.c (.int .i64 0))),
  oy 4 (.mv (.c (.bool false)))]
def n62_1 : ICode := .region l62_1
@[simp] def l62_3 : List IOper := [oy 6 (.mv (.t 0)),
  oy 7 (.call (.c (.func (.func 71) #[] #[])) [(.t 6), (.c (.int .i64 1)), (.c (.int .i64 1)), (.c (.func (.func 72) #[] #[]))] true),
  oy 5 (.mv (.t 7)),
  oy 8 (.extract (.t 5) 0),
  oy 9 (.extract (.t 5) 1),
  oy 10 (.extract (.t 5) 2),
  oy 2 (.mv (.t 8)),
  oy 3 (.mv (.t 9)),
  oy 4 (.mv (.t 10))]
def n62_3 : ICode := .region l62_3
@[simp] def l62_6 : List IOper := [oy 11 (.mv (.t 4)),
  oy 12 (.un .not (.t 11))]
def n62_6 : ICode := .region l62_6
@[simp] def l62_9 : List IOper := [oy 2 (.mv (.c (.int .i64 (-1)))),
  oy 3 (.mv (.c (.int .i64 (-1)))),
  oy 4 (.mv (.c (.bool false)))]
def n62_9 : ICode := .region l62_9
def n62_10 : ICode := .ret
def n62_8 : ICode := .seq n62_9 n62_10
def n62_11 : ICode := .skip
def n62_7 : ICode := .cond (.t 12) n62_8 n62_11
def n62_5 : ICode := .seq n62_6 n62_7
@[simp] def l62_13 : List IOper := [oy 13 (.mv (.t 2)),
  oy 14 (.mv (.t 3)),
  oy 2 (.mv (.t 13)),
  oy 3 (.mv (.t 14)),
  oy 4 (.mv (.c (.bool true)))]
def n62_13 : ICode := .region l62_13
def n62_14 : ICode := .ret
def n62_12 : ICode := .seq n62_13 n62_14
def n62_4 : ICode := .seq n62_5 n62_12
def n62_2 : ICode := .seq n62_3 n62_4
def n62_0 : ICode := .seq n62_1 n62_2
theorem b62 : table.find 62 = some ⟨15, n62_0, [.tmp 2, .tmp 3, .tmp 4]⟩ := by kernel_rfl
@[simp] theorem en62_1 : evCode C n62_1 R S = regK (runOps C l62_1 R S) := ev_plain rfl
@[simp] theorem en62_3 : evCode C n62_3 R S = regK (runOps C l62_3 R S) := ev_plain rfl
@[simp] theorem en62_6 : evCode C n62_6 R S = regK (runOps C l62_6 R S) := ev_plain rfl
@[simp] theorem en62_9 : evCode C n62_9 R S = regK (runOps C l62_9 R S) := ev_plain rfl
@[simp] theorem en62_10 : evCode C n62_10 R S = some (.ret, R, S) := (rfl)
@[simp] theorem en62_8 : evCode C n62_8 R S = seqK (evCode C n62_9 R S) fun R S => evCode C n62_10 R S := ev_seq
@[simp] theorem en62_11 : evCode C n62_11 R S = some (.norm, R, S) := (rfl)
@[simp] theorem en62_7 : evCode C n62_7 R S = condK (IV.ev R (.t 12)) (fun _ => evCode C n62_8 R S) fun _ => evCode C n62_11 R S := ev_cond
@[simp] theorem en62_5 : evCode C n62_5 R S = seqK (evCode C n62_6 R S) fun R S => evCode C n62_7 R S := ev_seq
@[simp] theorem en62_13 : evCode C n62_13 R S = regK (runOps C l62_13 R S) := ev_plain rfl
@[simp] theorem en62_14 : evCode C n62_14 R S = some (.ret, R, S) := (rfl)
@[simp] theorem en62_12 : evCode C n62_12 R S = seqK (evCode C n62_13 R S) fun R S => evCode C n62_14 R S := ev_seq
@[simp] theorem en62_4 : evCode C n62_4 R S = seqK (evCode C n62_5 R S) fun R S => evCode C n62_12 R S := ev_seq
@[simp] theorem en62_2 : evCode C n62_2 R S = seqK (evCode C n62_3 R S) fun R S => evCode C n62_4 R S := ev_seq
@[simp] theorem en62_0 : evCode C n62_0 R S = seqK (evCode C n62_1 R S) fun R S => evCode C n62_2 R S := ev_seq
theorem q62 {n : Nat} {args : List Value} {S : St} : calls table.find (n + 1) 62 args S = endK S [.tmp 2, .tmp 3, .tmp 4] (evCode (calls table.find n) n62_0 (args ++ List.replicate (15 - args.length) undef) S.enter) := call_enter b62

/-! (wainscot/chart.reader).list -/
@[simp] def l63_1 : List IOper := [oy 3 (.box 64 7 (.t 0)),
  oy 6 (.mv (.c (.slice none 0 0))),
  oy 7 (.mv (.c (.bool false)))]
def n63_1 : ICode := .region l63_1
@[simp] def l63_4 : List IOper := [oy 11 (.mv (.t 2)),
  oy 12 (.addOff 1 (.t 3)),
  oy 13 (.addOff 2 (.t 12)),
  oy 14 (.load false 1 (.t 13)),
  oy 15 (.bin .geq .int (.t 11) (.t 14))]
def n63_4 : ICode := .region l63_4
@[simp] def l63_7 : List IOper := [oy 6 (.mv (.c (.slice none 0 0))),
  oy 7 (.mv (.c (.bool false)))]
def n63_7 : ICode := .region l63_7
def n63_8 : ICode := .ret
def n63_6 : ICode := .seq n63_7 n63_8
def n63_9 : ICode := .skip
def n63_5 : ICode := .cond (.t 15) n63_6 n63_9
def n63_3 : ICode := .seq n63_4 n63_5
@[simp] def l63_11 : List IOper := [oy 16 (.addOff 1 (.t 3)),
  oy 17 (.load true 6 (.t 16)),
  oy 18 (.mv (.t 1)),
  oy 19 (.call (.c (.func (.func 17) #[] #[])) [(.t 17), (.t 18), (.c (.int .i64 0))] true),
  oy 8 (.mv (.t 19))]
def n63_11 : ICode := .region l63_11
@[simp] def l63_13 : List IOper := [oy 21 (.addOff 0 (.t 3)),
  oy 22 (.load false 1 (.t 21)),
  oy 23 (.mv (.t 8)),
  oy 24 (.mv (.t 8)),
  oy 25 (.addOff 1 (.t 3)),
  oy 26 (.addOff 2 (.t 25)),
  oy 27 (.load false 1 (.t 26)),
  oy 28 (.bin .add .int (.t 24) (.t 27)),
  oy 29 (.slice 22 (.t 22) (some (.t 23)) (some (.t 28)) none),
  oy 30 (.addOff 1 (.t 3)),
  oy 31 (.load true 6 (.t 30)),
  oy 32 (.mv (.t 1)),
  oy 33 (.call (.c (.func (.func 29) #[] #[])) [(.t 31), (.t 32)] true),
  oy 34 (.mv (.t 2)),
  oy 35 (.call (.c (.func (.func 74) #[] #[])) [(.t 29), (.t 33), (.t 34)] true),
  oy 20 (.mv (.t 35)),
  oy 36 (.extract (.t 20) 0),
  oy 37 (.extract (.t 20) 1),
  oy 9 (.mv (.t 36)),
  oy 10 (.mv (.t 37))]
def n63_13 : ICode := .region l63_13
@[simp] def l63_15 : List IOper := [oy 38 (.mv (.t 9)),
  oy 39 (.mv (.t 10)),
  oy 40 (.bin .eql .int (.t 39) (.c (.int .i64 0))),
  oy 6 (.mv (.t 38)),
  oy 7 (.mv (.t 40))]
def n63_15 : ICode := .region l63_15
def n63_16 : ICode := .ret
def n63_14 : ICode := .seq n63_15 n63_16
def n63_12 : ICode := .seq n63_13 n63_14
def n63_10 : ICode := .seq n63_11 n63_12
def n63_2 : ICode := .seq n63_3 n63_10
def n63_0 : ICode := .seq n63_1 n63_2
theorem b63 : table.find 63 = some ⟨41, n63_0, [.tmp 6, .tmp 7]⟩ := by kernel_rfl
@[simp] theorem en63_1 : evCode C n63_1 R S = regK (runOps C l63_1 R S) := ev_plain rfl
@[simp] theorem en63_4 : evCode C n63_4 R S = regK (runOps C l63_4 R S) := ev_plain rfl
@[simp] theorem en63_7 : evCode C n63_7 R S = regK (runOps C l63_7 R S) := ev_plain rfl
@[simp] theorem en63_8 : evCode C n63_8 R S = some (.ret, R, S) := (rfl)
@[simp] theorem en63_6 : evCode C n63_6 R S = seqK (evCode C n63_7 R S) fun R S => evCode C n63_8 R S := ev_seq
@[simp] theorem en63_9 : evCode C n63_9 R S = some (.norm, R, S) := (rfl)
@[simp] theorem en63_5 : evCode C n63_5 R S = condK (IV.ev R (.t 15)) (fun _ => evCode C n63_6 R S) fun _ => evCode C n63_9 R S := ev_cond
@[simp] theorem en63_3 : evCode C n63_3 R S = seqK (evCode C n63_4 R S) fun R S => evCode C n63_5 R S := ev_seq
@[simp] theorem en63_11 : evCode C n63_11 R S = regK (runOps C l63_11 R S) := ev_plain rfl
@[simp] theorem en63_13 : evCode C n63_13 R S = regK (runOps C l63_13 R S) := ev_plain rfl
@[simp] theorem en63_15 : evCode C n63_15 R S = regK (runOps C l63_15 R S) := ev_plain rfl
@[simp] theorem en63_16 : evCode C n63_16 R S = some (.ret, R, S) := (rfl)
@[simp] theorem en63_14 : evCode C n63_14 R S = seqK (evCode C n63_15 R S) fun R S => evCode C n63_16 R S := ev_seq
@[simp] theorem en63_12 : evCode C n63_12 R S = seqK (evCode C n63_13 R S) fun R S => evCode C n63_14 R S := ev_seq
@[simp] theorem en63_10 : evCode C n63_10 R S = seqK (evCode C n63_11 R S) fun R S => evCode C n63_12 R S := ev_seq
@[simp] theorem en63_2 : evCode C n63_2 R S = seqK (evCode C n63_3 R S) fun R S => evCode C n63_10 R S := ev_seq
@[simp] theorem en63_0 : evCode C n63_0 R S = seqK (evCode C n63_1 R S) fun R S => evCode C n63_2 R S := ev_seq
theorem q63 {n : Nat} {args : List Value} {S : St} : calls table.find (n + 1) 63 args S = endK S [.tmp 6, .tmp 7] (evCode (calls table.find n) n63_0 (args ++ List.replicate (41 - args.length) undef) S.enter) := call_enter b63

/-! wainscot/chart.partOf -/
@[simp] def l64_1 : List IOper := [oy 2 (.mv (.c (.int .i64 0))),
  oy 3 (.mv (.c (.bool false)))]
def n64_1 : ICode := .region l64_1
@[simp] def l64_3 : List IOper := [oy 8 (.mv (.t 0)),
  oy 9 (.call (.c (.func (.func 75) #[] #[])) [(.t 8)] true),
  oy 7 (.mv (.t 9)),
  oy 10 (.extract (.t 7) 0),
  oy 11 (.extract (.t 7) 1),
  oy 12 (.extract (.t 7) 2),
  oy 4 (.mv (.t 10)),
  oy 5 (.mv (.t 11)),
  oy 6 (.mv (.t 12))]
def n64_3 : ICode := .region l64_3
@[simp] def l64_5 : List IOper := [oy 13 (.mv (.t 4)),
  oy 14 (.mv (.t 6)),
  oy 2 (.mv (.t 13)),
  oy 3 (.mv (.t 14))]
def n64_5 : ICode := .region l64_5
def n64_6 : ICode := .ret
def n64_4 : ICode := .seq n64_5 n64_6
def n64_2 : ICode := .seq n64_3 n64_4
def n64_0 : ICode := .seq n64_1 n64_2
theorem b64 : table.find 64 = some ⟨15, n64_0, [.tmp 2, .tmp 3]⟩ := by kernel_rfl
@[simp] theorem en64_1 : evCode C n64_1 R S = regK (runOps C l64_1 R S) := ev_plain rfl
@[simp] theorem en64_3 : evCode C n64_3 R S = regK (runOps C l64_3 R S) := ev_plain rfl
@[simp] theorem en64_5 : evCode C n64_5 R S = regK (runOps C l64_5 R S) := ev_plain rfl
@[simp] theorem en64_6 : evCode C n64_6 R S = some (.ret, R, S) := (rfl)
@[simp] theorem en64_4 : evCode C n64_4 R S = seqK (evCode C n64_5 R S) fun R S => evCode C n64_6 R S := ev_seq
@[simp] theorem en64_2 : evCode C n64_2 R S = seqK (evCode C n64_3 R S) fun R S => evCode C n64_4 R S := ev_seq
@[simp] theorem en64_0 : evCode C n64_0 R S = seqK (evCode C n64_1 R S) fun R S => evCode C n64_2 R S := ev_seq
theorem q64 {n : Nat} {args : List Value} {S : St} : calls table.find (n + 1) 64 args S = endK S [.tmp 2, .tmp 3] (evCode (calls table.find n) n64_0 (args ++ List.replicate (15 - args.length) undef) S.enter) := call_enter b64

/-! wainscot/count.Counts -/
@[simp] def l65_1 : List IOper := [oy 2 (.new 60 [(.int .i64 0), (.int .i64 0), (.bool false), (.bool false)]),
  oy 3 (.mv (.c (.bool false)))]
def n65_1 : ICode := .region l65_1
@[simp] def l65_3 : List IOper := [oy 5 (.mv (.t 0)),
  oy 6 (.bin .and .int (.t 5) (.c (.int .u64 255))),
  oy 7 (.conv .i64 (.t 6)),
  oy 8 (.mv (.t 0)),
  oy 9 (.bin .shr .int (.t 8) (.c (.int .u64 8))),
  oy 10 (.bin .and .int (.t 9) (.c (.int .u64 255))),
  oy 11 (.conv .i64 (.t 10)),
  oy 12 (.mv (.t 0)),
  oy 13 (.bin .and .int (.t 12) (.c (.int .u64 65536))),
  oy 14 (.bin .neq .int (.t 13) (.c (.int .u64 0))),
  oy 15 (.mv (.t 0)),
  oy 16 (.bin .and .int (.t 15) (.c (.int .u64 131072))),
  oy 17 (.bin .neq .int (.t 16) (.c (.int .u64 0))),
  oy 18 (.build [(.int .i64 0), (.int .i64 0), (.bool false), (.bool false)] [(0, 1, (.t 7)), (1, 1, (.t 11)), (2, 1, (.t 14)), (3, 1, (.t 17))]),
  oy 4 (.new 60 [(.int .i64 0), (.int .i64 0), (.bool false), (.bool false)]),
  ox (.store 4 (.t 4) (.t 18))]
def n65_3 : ICode := .region l65_3
@[simp] def l65_6 : List IOper := [oy 19 (.mv (.t 0)),
  oy 20 (.bin .geq .int (.t 19) (.c (.int .u64 262144))),
  oy 21 (.mv (.t 20)),
  oz 22 21 false (.load true 4 (.t 4)),
  oz 23 21 false (.call (.c (.func (.func 76) #[] #[])) [(.t 22)] true),
  oz 24 21 false (.un .not (.t 23)),
  oy 25 (.pick (.t 21) (.c (.bool true)) (.t 24))]
def n65_6 : ICode := .region l65_6
@[simp] def l65_9 : List IOper := [oy 26 (.build [(.int .i64 0), (.int .i64 0), (.bool false), (.bool false)] []),
  ox (.store 4 (.t 2) (.t 26)),
  oy 3 (.mv (.c (.bool false)))]
def n65_9 : ICode := .region l65_9
def n65_10 : ICode := .ret
def n65_8 : ICode := .seq n65_9 n65_10
def n65_11 : ICode := .skip
def n65_7 : ICode := .cond (.t 25) n65_8 n65_11
def n65_5 : ICode := .seq n65_6 n65_7
@[simp] def l65_13 : List IOper := [oy 27 (.load true 4 (.t 4)),
  ox (.store 4 (.t 2) (.t 27)),
  oy 3 (.mv (.c (.bool true)))]
def n65_13 : ICode := .region l65_13
def n65_14 : ICode := .ret
def n65_12 : ICode := .seq n65_13 n65_14
def n65_4 : ICode := .seq n65_5 n65_12
def n65_2 : ICode := .seq n65_3 n65_4
def n65_0 : ICode := .seq n65_1 n65_2
theorem b65 : table.find 65 = some ⟨28, n65_0, [.cell 2 true 4, .tmp 3]⟩ := by kernel_rfl
@[simp] theorem en65_1 : evCode C n65_1 R S = regK (runOps C l65_1 R S) := ev_plain rfl
@[simp] theorem en65_3 : evCode C n65_3 R S = regK (runOps C l65_3 R S) := ev_plain rfl
@[simp] theorem en65_6 : evCode C n65_6 R S = regK (runOps C l65_6 R S) := ev_plain rfl
@[simp] theorem en65_9 : evCode C n65_9 R S = regK (runOps C l65_9 R S) := ev_plain rfl
@[simp] theorem en65_10 : evCode C n65_10 R S = some (.ret, R, S) := (rfl)
@[simp] theorem en65_8 : evCode C n65_8 R S = seqK (evCode C n65_9 R S) fun R S => evCode C n65_10 R S := ev_seq
@[simp] theorem en65_11 : evCode C n65_11 R S = some (.norm, R, S) := (rfl)
@[simp] theorem en65_7 : evCode C n65_7 R S = condK (IV.ev R (.t 25)) (fun _ => evCode C n65_8 R S) fun _ => evCode C n65_11 R S := ev_cond
@[simp] theorem en65_5 : evCode C n65_5 R S = seqK (evCode C n65_6 R S) fun R S => evCode C n65_7 R S := ev_seq
@[simp] theorem en65_13 : evCode C n65_13 R S = regK (runOps C l65_13 R S) := ev_plain rfl
@[simp] theorem en65_14 : evCode C n65_14 R S = some (.ret, R, S) := (rfl)
@[simp] theorem en65_12 : evCode C n65_12 R S = seqK (evCode C n65_13 R S) fun R S => evCode C n65_14 R S := ev_seq
@[simp] theorem en65_4 : evCode C n65_4 R S = seqK (evCode C n65_5 R S) fun R S => evCode C n65_12 R S := ev_seq
@[simp] theorem en65_2 : evCode C n65_2 R S = seqK (evCode C n65_3 R S) fun R S => evCode C n65_4 R S := ev_seq
@[simp] theorem en65_0 : evCode C n65_0 R S = seqK (evCode C n65_1 R S) fun R S => evCode C n65_2 R S := ev_seq
theorem q65 {n : Nat} {args : List Value} {S : St} : calls table.find (n + 1) 65 args S = endK S [.cell 2 true 4, .tmp 3] (evCode (calls table.find n) n65_0 (args ++ List.replicate (28 - args.length) undef) S.enter) := call_enter b65

/-! wainscot/count.told[int] -/
@[simp] def l71_1 : List IOper := [oy 8 (.mv (.c (.int .i64 0))),
  oy 9 (.mv (.c (.int .i64 0))),
  oy 10 (.mv (.c (.bool false)))]
def n71_1 : ICode := .region l71_1
@[simp] def l71_3 : List IOper := [oy 13 (.mv (.t 0)),
  oy 14 (.bin .shr .int (.t 13) (.c (.int .u64 6))),
  oy 15 (.conv .i64 (.t 14)),
  oy 16 (.mv (.t 1)),
  oy 17 (.bin .sub .int (.t 15) (.t 16)),
  oy 18 (.mv (.t 0)),
  oy 19 (.bin .and .int (.t 18) (.c (.int .u64 63))),
  oy 20 (.conv .i64 (.t 19)),
  oy 21 (.mv (.t 2)),
  oy 22 (.bin .sub .int (.t 20) (.t 21)),
  oy 11 (.mv (.t 17)),
  oy 12 (.mv (.t 22))]
def n71_3 : ICode := .region l71_3
@[simp] def l71_6 : List IOper := [oy 23 (.mv (.t 0)),
  oy 24 (.bin .gtr .int (.t 23) (.c (.int .u64 4095))),
  oy 25 (.mv (.t 24)),
  oz 26 25 false (.mv (.t 3)),
  oz 27 25 false (.mv (.t 11)),
  oz 28 25 false (.mv (.t 12)),
  oz 29 25 false (.call (.t 26) [(.t 27), (.t 28)] false),
  oz 30 25 false (.un .not (.t 29)),
  oy 31 (.pick (.t 25) (.c (.bool true)) (.t 30))]
def n71_6 : ICode := .region l71_6
@[simp] def l71_9 : List IOper := [oy 8 (.mv (.c (.int .i64 0))),
  oy 9 (.mv (.c (.int .i64 0))),
  oy 10 (.mv (.c (.bool false)))]
def n71_9 : ICode := .region l71_9
def n71_10 : ICode := .ret
def n71_8 : ICode := .seq n71_9 n71_10
def n71_11 : ICode := .skip
def n71_7 : ICode := .cond (.t 31) n71_8 n71_11
def n71_5 : ICode := .seq n71_6 n71_7
@[simp] def l71_13 : List IOper := [oy 32 (.mv (.t 11)),
  oy 33 (.mv (.t 12)),
  oy 8 (.mv (.t 32)),
  oy 9 (.mv (.t 33)),
  oy 10 (.mv (.c (.bool true)))]
def n71_13 : ICode := .region l71_13
def n71_14 : ICode := .ret
def n71_12 : ICode := .seq n71_13 n71_14
def n71_4 : ICode := .seq n71_5 n71_12
def n71_2 : ICode := .seq n71_3 n71_4
def n71_0 : ICode := .seq n71_1 n71_2
theorem b71 : table.find 71 = some ⟨34, n71_0, [.tmp 8, .tmp 9, .tmp 10]⟩ := by kernel_rfl
@[simp] theorem en71_1 : evCode C n71_1 R S = regK (runOps C l71_1 R S) := ev_plain rfl
@[simp] theorem en71_3 : evCode C n71_3 R S = regK (runOps C l71_3 R S) := ev_plain rfl
@[simp] theorem en71_6 : evCode C n71_6 R S = regK (runOps C l71_6 R S) := ev_plain rfl
@[simp] theorem en71_9 : evCode C n71_9 R S = regK (runOps C l71_9 R S) := ev_plain rfl
@[simp] theorem en71_10 : evCode C n71_10 R S = some (.ret, R, S) := (rfl)
@[simp] theorem en71_8 : evCode C n71_8 R S = seqK (evCode C n71_9 R S) fun R S => evCode C n71_10 R S := ev_seq
@[simp] theorem en71_11 : evCode C n71_11 R S = some (.norm, R, S) := (rfl)
@[simp] theorem en71_7 : evCode C n71_7 R S = condK (IV.ev R (.t 31)) (fun _ => evCode C n71_8 R S) fun _ => evCode C n71_11 R S := ev_cond
@[simp] theorem en71_5 : evCode C n71_5 R S = seqK (evCode C n71_6 R S) fun R S => evCode C n71_7 R S := ev_seq
@[simp] theorem en71_13 : evCode C n71_13 R S = regK (runOps C l71_13 R S) := ev_plain rfl
@[simp] theorem en71_14 : evCode C n71_14 R S = some (.ret, R, S) := (rfl)
@[simp] theorem en71_12 : evCode C n71_12 R S = seqK (evCode C n71_13 R S) fun R S => evCode C n71_14 R S := ev_seq
@[simp] theorem en71_4 : evCode C n71_4 R S = seqK (evCode C n71_5 R S) fun R S => evCode C n71_12 R S := ev_seq
@[simp] theorem en71_2 : evCode C n71_2 R S = seqK (evCode C n71_3 R S) fun R S => evCode C n71_4 R S := ev_seq
@[simp] theorem en71_0 : evCode C n71_0 R S = seqK (evCode C n71_1 R S) fun R S => evCode C n71_2 R S := ev_seq
theorem q71 {n : Nat} {args : List Value} {S : St} : calls table.find (n + 1) 71 args S = endK S [.tmp 8, .tmp 9, .tmp 10] (evCode (calls table.find n) n71_0 (args ++ List.replicate (34 - args.length) undef) S.enter) := call_enter b71

/-! wainscot/count.HeadOf$1 -/
@[simp] def l72_1 : List IOper := [oy 4 (.mv (.c (.bool false)))]
def n72_1 : ICode := .region l72_1
@[simp] def l72_3 : List IOper := [oy 8 (.mv (.t 0)),
  oy 9 (.mv (.t 1)),
  oy 10 (.call (.c (.func (.func 73) #[] #[])) [(.t 8), (.t 9)] true),
  oy 7 (.mv (.t 10)),
  oy 11 (.extract (.t 7) 0),
  oy 12 (.extract (.t 7) 1),
  oy 5 (.mv (.t 11)),
  oy 6 (.mv (.t 12))]
def n72_3 : ICode := .region l72_3
@[simp] def l72_5 : List IOper := [oy 13 (.mv (.t 6)),
  oy 14 (.bin .eql .int (.t 13) (.c (.int .i64 0))),
  oy 4 (.mv (.t 14))]
def n72_5 : ICode := .region l72_5
def n72_6 : ICode := .ret
def n72_4 : ICode := .seq n72_5 n72_6
def n72_2 : ICode := .seq n72_3 n72_4
def n72_0 : ICode := .seq n72_1 n72_2
theorem b72 : table.find 72 = some ⟨15, n72_0, [.tmp 4]⟩ := by kernel_rfl
@[simp] theorem en72_1 : evCode C n72_1 R S = regK (runOps C l72_1 R S) := ev_plain rfl
@[simp] theorem en72_3 : evCode C n72_3 R S = regK (runOps C l72_3 R S) := ev_plain rfl
@[simp] theorem en72_5 : evCode C n72_5 R S = regK (runOps C l72_5 R S) := ev_plain rfl
@[simp] theorem en72_6 : evCode C n72_6 R S = some (.ret, R, S) := (rfl)
@[simp] theorem en72_4 : evCode C n72_4 R S = seqK (evCode C n72_5 R S) fun R S => evCode C n72_6 R S := ev_seq
@[simp] theorem en72_2 : evCode C n72_2 R S = seqK (evCode C n72_3 R S) fun R S => evCode C n72_4 R S := ev_seq
@[simp] theorem en72_0 : evCode C n72_0 R S = seqK (evCode C n72_1 R S) fun R S => evCode C n72_2 R S := ev_seq
theorem q72 {n : Nat} {args : List Value} {S : St} : calls table.find (n + 1) 72 args S = endK S [.tmp 4] (evCode (calls table.find n) n72_0 (args ++ List.replicate (15 - args.length) undef) S.enter) := call_enter b72

/-! wainscot/count.Head -/
@[simp] def l73_1 : List IOper := [oy 4 (.mv (.c (.int .u64 0))),
  oy 5 (.mv (.c (.int .i64 0)))]
def n73_1 : ICode := .region l73_1
@[simp] def l73_5 : List IOper := [oy 7 (.mv (.t 0)),
  oy 8 (.bin .eql .int (.t 7) (.c (.int .i64 (-1)))),
  oy 9 (.mv (.t 8)),
  oz 10 9 true (.mv (.t 1)),
  oz 11 9 true (.bin .eql .int (.t 10) (.c (.int .i64 (-1)))),
  oy 12 (.pick (.t 9) (.t 11) (.c (.bool false))),
  oy 6 (.mv (.t 12))]
def n73_5 : ICode := .region l73_5
@[simp] def l73_8 : List IOper := [oy 4 (.mv (.c (.int .u64 0))),
  oy 5 (.mv (.c (.int .i64 0)))]
def n73_8 : ICode := .region l73_8
def n73_9 : ICode := .ret
def n73_7 : ICode := .seq n73_8 n73_9
@[simp] def l73_11 : List IOper := [oy 14 (.mv (.t 0)),
  oy 15 (.call (.c (.func (.func 81) #[] #[])) [(.t 14)] true),
  oy 16 (.un .not (.t 15)),
  oy 17 (.mv (.t 16)),
  oz 18 17 false (.mv (.t 1)),
  oz 19 17 false (.bin .lss .int (.t 18) (.c (.int .i64 (-1)))),
  oy 20 (.pick (.t 17) (.c (.bool true)) (.t 19)),
  oy 21 (.mv (.t 20)),
  oz 22 21 false (.mv (.t 1)),
  oz 23 21 false (.bin .geq .int (.t 22) (.c (.int .i64 16))),
  oy 24 (.pick (.t 21) (.c (.bool true)) (.t 23)),
  oy 13 (.mv (.t 24))]
def n73_11 : ICode := .region l73_11
@[simp] def l73_14 : List IOper := [oy 4 (.mv (.c (.int .u64 0))),
  oy 5 (.mv (.c (.int .i64 2)))]
def n73_14 : ICode := .region l73_14
def n73_15 : ICode := .ret
def n73_13 : ICode := .seq n73_14 n73_15
def n73_16 : ICode := .skip
def n73_12 : ICode := .cond (.t 13) n73_13 n73_16
def n73_10 : ICode := .seq n73_11 n73_12
def n73_6 : ICode := .cond (.t 6) n73_7 n73_10
def n73_4 : ICode := .seq n73_5 n73_6
def n73_3 : ICode := .block 0 n73_4
@[simp] def l73_18 : List IOper := [oy 25 (.mv (.t 0)),
  oy 26 (.bin .add .int (.t 25) (.c (.int .i64 1))),
  oy 27 (.conv .u64 (.t 26)),
  oy 28 (.bin .shl .int (.t 27) (.c (.int .u64 6))),
  oy 29 (.mv (.t 1)),
  oy 30 (.bin .add .int (.t 29) (.c (.int .i64 1))),
  oy 31 (.conv .u64 (.t 30)),
  oy 32 (.bin .or .int (.t 28) (.t 31)),
  oy 4 (.mv (.t 32)),
  oy 5 (.mv (.c (.int .i64 0)))]
def n73_18 : ICode := .region l73_18
def n73_19 : ICode := .ret
def n73_17 : ICode := .seq n73_18 n73_19
def n73_2 : ICode := .seq n73_3 n73_17
def n73_0 : ICode := .seq n73_1 n73_2
theorem b73 : table.find 73 = some ⟨33, n73_0, [.tmp 4, .tmp 5]⟩ := by kernel_rfl
@[simp] theorem en73_1 : evCode C n73_1 R S = regK (runOps C l73_1 R S) := ev_plain rfl
@[simp] theorem en73_5 : evCode C n73_5 R S = regK (runOps C l73_5 R S) := ev_plain rfl
@[simp] theorem en73_8 : evCode C n73_8 R S = regK (runOps C l73_8 R S) := ev_plain rfl
@[simp] theorem en73_9 : evCode C n73_9 R S = some (.ret, R, S) := (rfl)
@[simp] theorem en73_7 : evCode C n73_7 R S = seqK (evCode C n73_8 R S) fun R S => evCode C n73_9 R S := ev_seq
@[simp] theorem en73_11 : evCode C n73_11 R S = regK (runOps C l73_11 R S) := ev_plain rfl
@[simp] theorem en73_14 : evCode C n73_14 R S = regK (runOps C l73_14 R S) := ev_plain rfl
@[simp] theorem en73_15 : evCode C n73_15 R S = some (.ret, R, S) := (rfl)
@[simp] theorem en73_13 : evCode C n73_13 R S = seqK (evCode C n73_14 R S) fun R S => evCode C n73_15 R S := ev_seq
@[simp] theorem en73_16 : evCode C n73_16 R S = some (.norm, R, S) := (rfl)
@[simp] theorem en73_12 : evCode C n73_12 R S = condK (IV.ev R (.t 13)) (fun _ => evCode C n73_13 R S) fun _ => evCode C n73_16 R S := ev_cond
@[simp] theorem en73_10 : evCode C n73_10 R S = seqK (evCode C n73_11 R S) fun R S => evCode C n73_12 R S := ev_seq
@[simp] theorem en73_6 : evCode C n73_6 R S = condK (IV.ev R (.t 6)) (fun _ => evCode C n73_7 R S) fun _ => evCode C n73_10 R S := ev_cond
@[simp] theorem en73_4 : evCode C n73_4 R S = seqK (evCode C n73_5 R S) fun R S => evCode C n73_6 R S := ev_seq
@[simp] theorem en73_3 : evCode C n73_3 R S = blockK 0 (evCode C n73_4 R S) := ev_block
@[simp] theorem en73_18 : evCode C n73_18 R S = regK (runOps C l73_18 R S) := ev_plain rfl
@[simp] theorem en73_19 : evCode C n73_19 R S = some (.ret, R, S) := (rfl)
@[simp] theorem en73_17 : evCode C n73_17 R S = seqK (evCode C n73_18 R S) fun R S => evCode C n73_19 R S := ev_seq
@[simp] theorem en73_2 : evCode C n73_2 R S = seqK (evCode C n73_3 R S) fun R S => evCode C n73_17 R S := ev_seq
@[simp] theorem en73_0 : evCode C n73_0 R S = seqK (evCode C n73_1 R S) fun R S => evCode C n73_2 R S := ev_seq
theorem q73 {n : Nat} {args : List Value} {S : St} : calls table.find (n + 1) 73 args S = endK S [.tmp 4, .tmp 5] (evCode (calls table.find n) n73_0 (args ++ List.replicate (33 - args.length) undef) S.enter) := call_enter b73

/-! wainscot/link.List -/
@[simp] def l74_1 : List IOper := [oy 6 (.mv (.c (.slice none 0 0))),
  oy 7 (.mv (.c (.int .i64 0)))]
def n74_1 : ICode := .region l74_1
@[simp] def l74_4 : List IOper := [oy 12 (.mv (.t 0)),
  oy 13 (.lenS (.t 12)),
  oy 14 (.bin .gtr .int (.t 13) (.c (.int .i64 16))),
  oy 15 (.mv (.t 14)),
  oz 16 15 false (.mv (.t 2)),
  oz 17 15 false (.bin .lss .int (.t 16) (.c (.int .i64 (-1)))),
  oy 18 (.pick (.t 15) (.c (.bool true)) (.t 17)),
  oy 19 (.mv (.t 18)),
  oz 20 19 false (.mv (.t 2)),
  oz 21 19 false (.mv (.t 0)),
  oz 22 19 false (.lenS (.t 21)),
  oz 23 19 false (.bin .geq .int (.t 20) (.t 22)),
  oy 24 (.pick (.t 19) (.c (.bool true)) (.t 23))]
def n74_4 : ICode := .region l74_4
@[simp] def l74_7 : List IOper := [oy 6 (.mv (.c (.slice none 0 0))),
  oy 7 (.mv (.c (.int .i64 2)))]
def n74_7 : ICode := .region l74_7
def n74_8 : ICode := .ret
def n74_6 : ICode := .seq n74_7 n74_8
def n74_9 : ICode := .skip
def n74_5 : ICode := .cond (.t 24) n74_6 n74_9
def n74_3 : ICode := .seq n74_4 n74_5
@[simp] def l74_11 : List IOper := [oy 8 (.new 97 [(.bool false), (.bool false), (.bool false), (.bool false), (.bool false), (.bool false), (.bool false), (.bool false), (.bool false), (.bool false), (.bool false), (.bool false), (.bool false), (.bool false), (.bool false), (.bool false)])]
def n74_11 : ICode := .region l74_11
@[simp] def l74_13 : List IOper := [oy 9 (.mv (.c (.slice none 0 0)))]
def n74_13 : ICode := .region l74_13
def n74_15 : ICode := .skip
@[simp] def l74_22 : List IOper := [oy 26 (.mv (.t 2)),
  oy 27 (.bin .eql .int (.t 26) (.c (.int .i64 (-1)))),
  oy 25 (.mv (.t 27))]
def n74_22 : ICode := .region l74_22
def n74_24 : ICode := .exit 0
@[simp] def l74_26 : List IOper := [oy 29 (.mv (.t 2)),
  oy 30 (.idxA 16 1 (.t 8) (.t 29)),
  oy 31 (.load false 1 (.t 30)),
  oy 28 (.mv (.t 31))]
def n74_26 : ICode := .region l74_26
@[simp] def l74_29 : List IOper := [oy 6 (.mv (.c (.slice none 0 0))),
  oy 7 (.mv (.c (.int .i64 150)))]
def n74_29 : ICode := .region l74_29
def n74_30 : ICode := .ret
def n74_28 : ICode := .seq n74_29 n74_30
def n74_31 : ICode := .skip
def n74_27 : ICode := .cond (.t 28) n74_28 n74_31
def n74_25 : ICode := .seq n74_26 n74_27
def n74_23 : ICode := .cond (.t 25) n74_24 n74_25
def n74_21 : ICode := .seq n74_22 n74_23
def n74_20 : ICode := .block 2 n74_21
@[simp] def l74_33 : List IOper := [oy 32 (.mv (.t 2)),
  oy 33 (.idxA 16 1 (.t 8) (.t 32)),
  ox (.store 1 (.t 33) (.c (.bool true)))]
def n74_33 : ICode := .region l74_33
@[simp] def l74_35 : List IOper := [oy 34 (.mv (.t 9)),
  oy 35 (.mv (.t 2)),
  oy 36 (.buildSlice 3 [(.int .i64 0)] 1 [(0, 1, (.t 35))]),
  oy 37 (.append 3 1 8 (.t 34) (.t 36)),
  oy 9 (.mv (.t 37))]
def n74_35 : ICode := .region l74_35
@[simp] def l74_37 : List IOper := [oy 39 (.mv (.t 0)),
  oy 40 (.mv (.t 2)),
  oy 41 (.idxS 1 (.t 39) (.t 40)),
  oy 42 (.load false 1 (.t 41)),
  oy 43 (.mv (.t 1)),
  oy 44 (.mv (.t 2)),
  oy 45 (.call (.c (.func (.func 82) #[] #[])) [(.t 42), (.t 43), (.t 44)] true),
  oy 38 (.mv (.t 45)),
  oy 46 (.extract (.t 38) 0),
  oy 47 (.extract (.t 38) 1),
  oy 10 (.mv (.t 46)),
  oy 11 (.mv (.t 47))]
def n74_37 : ICode := .region l74_37
@[simp] def l74_40 : List IOper := [oy 48 (.mv (.t 11)),
  oy 49 (.un .not (.t 48)),
  oy 50 (.mv (.t 49)),
  oz 51 50 false (.mv (.t 10)),
  oz 52 50 false (.mv (.t 0)),
  oz 53 50 false (.lenS (.t 52)),
  oz 54 50 false (.bin .geq .int (.t 51) (.t 53)),
  oy 55 (.pick (.t 50) (.c (.bool true)) (.t 54))]
def n74_40 : ICode := .region l74_40
@[simp] def l74_43 : List IOper := [oy 6 (.mv (.c (.slice none 0 0))),
  oy 7 (.mv (.c (.int .i64 150)))]
def n74_43 : ICode := .region l74_43
def n74_44 : ICode := .ret
def n74_42 : ICode := .seq n74_43 n74_44
def n74_45 : ICode := .skip
def n74_41 : ICode := .cond (.t 55) n74_42 n74_45
def n74_39 : ICode := .seq n74_40 n74_41
@[simp] def l74_46 : List IOper := [oy 56 (.mv (.t 10)),
  oy 2 (.mv (.t 56))]
def n74_46 : ICode := .region l74_46
def n74_38 : ICode := .seq n74_39 n74_46
def n74_36 : ICode := .seq n74_37 n74_38
def n74_34 : ICode := .seq n74_35 n74_36
def n74_32 : ICode := .seq n74_33 n74_34
def n74_19 : ICode := .seq n74_20 n74_32
def n74_18 : ICode := .block 1 n74_19
def loop74_0 : ICode := .loop n74_18
def n74_17 : ICode := .block 0 loop74_0
@[simp] def l74_48 : List IOper := [oy 57 (.mv (.t 9)),
  oy 6 (.mv (.t 57)),
  oy 7 (.mv (.c (.int .i64 0)))]
def n74_48 : ICode := .region l74_48
def n74_49 : ICode := .ret
def n74_47 : ICode := .seq n74_48 n74_49
def n74_16 : ICode := .seq n74_17 n74_47
def n74_14 : ICode := .seq n74_15 n74_16
def n74_12 : ICode := .seq n74_13 n74_14
def n74_10 : ICode := .seq n74_11 n74_12
def n74_2 : ICode := .seq n74_3 n74_10
def n74_0 : ICode := .seq n74_1 n74_2
theorem b74 : table.find 74 = some ⟨58, n74_0, [.tmp 6, .tmp 7]⟩ := by kernel_rfl
@[simp] theorem en74_1 : evCode C n74_1 R S = regK (runOps C l74_1 R S) := ev_plain rfl
@[simp] theorem en74_4 : evCode C n74_4 R S = regK (runOps C l74_4 R S) := ev_plain rfl
@[simp] theorem en74_7 : evCode C n74_7 R S = regK (runOps C l74_7 R S) := ev_plain rfl
@[simp] theorem en74_8 : evCode C n74_8 R S = some (.ret, R, S) := (rfl)
@[simp] theorem en74_6 : evCode C n74_6 R S = seqK (evCode C n74_7 R S) fun R S => evCode C n74_8 R S := ev_seq
@[simp] theorem en74_9 : evCode C n74_9 R S = some (.norm, R, S) := (rfl)
@[simp] theorem en74_5 : evCode C n74_5 R S = condK (IV.ev R (.t 24)) (fun _ => evCode C n74_6 R S) fun _ => evCode C n74_9 R S := ev_cond
@[simp] theorem en74_3 : evCode C n74_3 R S = seqK (evCode C n74_4 R S) fun R S => evCode C n74_5 R S := ev_seq
@[simp] theorem en74_11 : evCode C n74_11 R S = regK (runOps C l74_11 R S) := ev_plain rfl
@[simp] theorem en74_13 : evCode C n74_13 R S = regK (runOps C l74_13 R S) := ev_plain rfl
@[simp] theorem en74_15 : evCode C n74_15 R S = some (.norm, R, S) := (rfl)
@[simp] theorem en74_22 : evCode C n74_22 R S = regK (runOps C l74_22 R S) := ev_plain rfl
@[simp] theorem en74_24 : evCode C n74_24 R S = some (.exit 0, R, S) := (rfl)
@[simp] theorem en74_26 : evCode C n74_26 R S = regK (runOps C l74_26 R S) := ev_plain rfl
@[simp] theorem en74_29 : evCode C n74_29 R S = regK (runOps C l74_29 R S) := ev_plain rfl
@[simp] theorem en74_30 : evCode C n74_30 R S = some (.ret, R, S) := (rfl)
@[simp] theorem en74_28 : evCode C n74_28 R S = seqK (evCode C n74_29 R S) fun R S => evCode C n74_30 R S := ev_seq
@[simp] theorem en74_31 : evCode C n74_31 R S = some (.norm, R, S) := (rfl)
@[simp] theorem en74_27 : evCode C n74_27 R S = condK (IV.ev R (.t 28)) (fun _ => evCode C n74_28 R S) fun _ => evCode C n74_31 R S := ev_cond
@[simp] theorem en74_25 : evCode C n74_25 R S = seqK (evCode C n74_26 R S) fun R S => evCode C n74_27 R S := ev_seq
@[simp] theorem en74_23 : evCode C n74_23 R S = condK (IV.ev R (.t 25)) (fun _ => evCode C n74_24 R S) fun _ => evCode C n74_25 R S := ev_cond
@[simp] theorem en74_21 : evCode C n74_21 R S = seqK (evCode C n74_22 R S) fun R S => evCode C n74_23 R S := ev_seq
@[simp] theorem en74_20 : evCode C n74_20 R S = blockK 2 (evCode C n74_21 R S) := ev_block
@[simp] theorem en74_33 : evCode C n74_33 R S = regK (runOps C l74_33 R S) := ev_plain rfl
@[simp] theorem en74_35 : evCode C n74_35 R S = regK (runOps C l74_35 R S) := ev_plain rfl
@[simp] theorem en74_37 : evCode C n74_37 R S = regK (runOps C l74_37 R S) := ev_plain rfl
@[simp] theorem en74_40 : evCode C n74_40 R S = regK (runOps C l74_40 R S) := ev_plain rfl
@[simp] theorem en74_43 : evCode C n74_43 R S = regK (runOps C l74_43 R S) := ev_plain rfl
@[simp] theorem en74_44 : evCode C n74_44 R S = some (.ret, R, S) := (rfl)
@[simp] theorem en74_42 : evCode C n74_42 R S = seqK (evCode C n74_43 R S) fun R S => evCode C n74_44 R S := ev_seq
@[simp] theorem en74_45 : evCode C n74_45 R S = some (.norm, R, S) := (rfl)
@[simp] theorem en74_41 : evCode C n74_41 R S = condK (IV.ev R (.t 55)) (fun _ => evCode C n74_42 R S) fun _ => evCode C n74_45 R S := ev_cond
@[simp] theorem en74_39 : evCode C n74_39 R S = seqK (evCode C n74_40 R S) fun R S => evCode C n74_41 R S := ev_seq
@[simp] theorem en74_46 : evCode C n74_46 R S = regK (runOps C l74_46 R S) := ev_plain rfl
@[simp] theorem en74_38 : evCode C n74_38 R S = seqK (evCode C n74_39 R S) fun R S => evCode C n74_46 R S := ev_seq
@[simp] theorem en74_36 : evCode C n74_36 R S = seqK (evCode C n74_37 R S) fun R S => evCode C n74_38 R S := ev_seq
@[simp] theorem en74_34 : evCode C n74_34 R S = seqK (evCode C n74_35 R S) fun R S => evCode C n74_36 R S := ev_seq
@[simp] theorem en74_32 : evCode C n74_32 R S = seqK (evCode C n74_33 R S) fun R S => evCode C n74_34 R S := ev_seq
@[simp] theorem en74_19 : evCode C n74_19 R S = seqK (evCode C n74_20 R S) fun R S => evCode C n74_32 R S := ev_seq
@[simp] theorem en74_18 : evCode C n74_18 R S = blockK 1 (evCode C n74_19 R S) := ev_block
theorem eloop74_0 : evCode C loop74_0 R S = iter (fun R S => evCode C n74_18 R S) rounds R S := (rfl)
@[simp] theorem en74_17 : evCode C n74_17 R S = blockK 0 (evCode C loop74_0 R S) := ev_block
@[simp] theorem en74_48 : evCode C n74_48 R S = regK (runOps C l74_48 R S) := ev_plain rfl
@[simp] theorem en74_49 : evCode C n74_49 R S = some (.ret, R, S) := (rfl)
@[simp] theorem en74_47 : evCode C n74_47 R S = seqK (evCode C n74_48 R S) fun R S => evCode C n74_49 R S := ev_seq
@[simp] theorem en74_16 : evCode C n74_16 R S = seqK (evCode C n74_17 R S) fun R S => evCode C n74_47 R S := ev_seq
@[simp] theorem en74_14 : evCode C n74_14 R S = seqK (evCode C n74_15 R S) fun R S => evCode C n74_16 R S := ev_seq
@[simp] theorem en74_12 : evCode C n74_12 R S = seqK (evCode C n74_13 R S) fun R S => evCode C n74_14 R S := ev_seq
@[simp] theorem en74_10 : evCode C n74_10 R S = seqK (evCode C n74_11 R S) fun R S => evCode C n74_12 R S := ev_seq
@[simp] theorem en74_2 : evCode C n74_2 R S = seqK (evCode C n74_3 R S) fun R S => evCode C n74_10 R S := ev_seq
@[simp] theorem en74_0 : evCode C n74_0 R S = seqK (evCode C n74_1 R S) fun R S => evCode C n74_2 R S := ev_seq
theorem q74 {n : Nat} {args : List Value} {S : St} : calls table.find (n + 1) 74 args S = endK S [.tmp 6, .tmp 7] (evCode (calls table.find n) n74_0 (args ++ List.replicate (58 - args.length) undef) S.enter) := call_enter b74

/-! wainscot/count.PartOf -/
@[simp] def l75_1 : List IOper := [oy 2 (.mv (.c (.int .i64 0))),
  oy 3 (.mv (.c (.int .i64 0))),
  oy 4 (.mv (.c (.bool false)))]
def n75_1 : ICode := .region l75_1
@[simp] def l75_3 : List IOper := [oy 6 (.mv (.t 0)),
  oy 7 (.call (.c (.func (.func 71) #[] #[])) [(.t 6), (.c (.int .i64 0)), (.c (.int .i64 1)), (.c (.func (.func 83) #[] #[]))] true),
  oy 5 (.mv (.t 7)),
  oy 8 (.extract (.t 5) 0),
  oy 9 (.extract (.t 5) 1),
  oy 10 (.extract (.t 5) 2),
  oy 3 (.mv (.t 8)),
  oy 2 (.mv (.t 9)),
  oy 4 (.mv (.t 10))]
def n75_3 : ICode := .region l75_3
@[simp] def l75_6 : List IOper := [oy 11 (.mv (.t 4)),
  oy 12 (.un .not (.t 11))]
def n75_6 : ICode := .region l75_6
@[simp] def l75_9 : List IOper := [oy 2 (.mv (.c (.int .i64 (-1)))),
  oy 3 (.mv (.c (.int .i64 0))),
  oy 4 (.mv (.c (.bool false)))]
def n75_9 : ICode := .region l75_9
def n75_10 : ICode := .ret
def n75_8 : ICode := .seq n75_9 n75_10
def n75_11 : ICode := .skip
def n75_7 : ICode := .cond (.t 12) n75_8 n75_11
def n75_5 : ICode := .seq n75_6 n75_7
@[simp] def l75_13 : List IOper := [oy 13 (.mv (.t 2)),
  oy 14 (.mv (.t 3)),
  oy 2 (.mv (.t 13)),
  oy 3 (.mv (.t 14)),
  oy 4 (.mv (.c (.bool true)))]
def n75_13 : ICode := .region l75_13
def n75_14 : ICode := .ret
def n75_12 : ICode := .seq n75_13 n75_14
def n75_4 : ICode := .seq n75_5 n75_12
def n75_2 : ICode := .seq n75_3 n75_4
def n75_0 : ICode := .seq n75_1 n75_2
theorem b75 : table.find 75 = some ⟨15, n75_0, [.tmp 2, .tmp 3, .tmp 4]⟩ := by kernel_rfl
@[simp] theorem en75_1 : evCode C n75_1 R S = regK (runOps C l75_1 R S) := ev_plain rfl
@[simp] theorem en75_3 : evCode C n75_3 R S = regK (runOps C l75_3 R S) := ev_plain rfl
@[simp] theorem en75_6 : evCode C n75_6 R S = regK (runOps C l75_6 R S) := ev_plain rfl
@[simp] theorem en75_9 : evCode C n75_9 R S = regK (runOps C l75_9 R S) := ev_plain rfl
@[simp] theorem en75_10 : evCode C n75_10 R S = some (.ret, R, S) := (rfl)
@[simp] theorem en75_8 : evCode C n75_8 R S = seqK (evCode C n75_9 R S) fun R S => evCode C n75_10 R S := ev_seq
@[simp] theorem en75_11 : evCode C n75_11 R S = some (.norm, R, S) := (rfl)
@[simp] theorem en75_7 : evCode C n75_7 R S = condK (IV.ev R (.t 12)) (fun _ => evCode C n75_8 R S) fun _ => evCode C n75_11 R S := ev_cond
@[simp] theorem en75_5 : evCode C n75_5 R S = seqK (evCode C n75_6 R S) fun R S => evCode C n75_7 R S := ev_seq
@[simp] theorem en75_13 : evCode C n75_13 R S = regK (runOps C l75_13 R S) := ev_plain rfl
@[simp] theorem en75_14 : evCode C n75_14 R S = some (.ret, R, S) := (rfl)
@[simp] theorem en75_12 : evCode C n75_12 R S = seqK (evCode C n75_13 R S) fun R S => evCode C n75_14 R S := ev_seq
@[simp] theorem en75_4 : evCode C n75_4 R S = seqK (evCode C n75_5 R S) fun R S => evCode C n75_12 R S := ev_seq
@[simp] theorem en75_2 : evCode C n75_2 R S = seqK (evCode C n75_3 R S) fun R S => evCode C n75_4 R S := ev_seq
@[simp] theorem en75_0 : evCode C n75_0 R S = seqK (evCode C n75_1 R S) fun R S => evCode C n75_2 R S := ev_seq
theorem q75 {n : Nat} {args : List Value} {S : St} : calls table.find (n + 1) 75 args S = endK S [.tmp 2, .tmp 3, .tmp 4] (evCode (calls table.find n) n75_0 (args ++ List.replicate (15 - args.length) undef) S.enter) := call_enter b75

/-! wainscot/count.may -/
@[simp] def l76_1 : List IOper := [oy 1 (.box 60 4 (.t 0)),
  oy 2 (.mv (.c (.bool false)))]
def n76_1 : ICode := .region l76_1
@[simp] def l76_3 : List IOper := [oy 3 (.addOff 3 (.t 1)),
  oy 4 (.load false 1 (.t 3)),
  oy 5 (.mv (.t 4)),
  oz 6 5 true (.addOff 1 (.t 1)),
  oz 7 5 true (.load false 1 (.t 6)),
  oz 8 5 true (.bin .leq .int (.c (.int .i64 1)) (.t 7)),
  oy 9 (.pick (.t 5) (.t 8) (.c (.bool false))),
  oy 10 (.mv (.t 9)),
  oz 11 10 true (.addOff 1 (.t 1)),
  oz 12 10 true (.load false 1 (.t 11)),
  oz 13 10 true (.bin .leq .int (.t 12) (.c (.int .i64 16))),
  oy 14 (.pick (.t 10) (.t 13) (.c (.bool false))),
  oy 15 (.mv (.t 14)),
  oz 16 15 true (.addOff 0 (.t 1)),
  oz 17 15 true (.load false 1 (.t 16)),
  oz 18 15 true (.bin .leq .int (.c (.int .i64 0)) (.t 17)),
  oy 19 (.pick (.t 15) (.t 18) (.c (.bool false))),
  oy 20 (.mv (.t 19)),
  oz 21 20 true (.addOff 0 (.t 1)),
  oz 22 20 true (.load false 1 (.t 21)),
  oz 23 20 true (.addOff 1 (.t 1)),
  oz 24 20 true (.load false 1 (.t 23)),
  oz 25 20 true (.bin .leq .int (.t 22) (.t 24)),
  oy 26 (.pick (.t 20) (.t 25) (.c (.bool false))),
  oy 27 (.mv (.t 26)),
  oz 28 27 false (.load true 4 (.t 1)),
  oz 29 27 false (.build [(.int .i64 0), (.int .i64 0), (.bool false), (.bool false)] []),
  oz 30 27 false (.bin .eql (.plain [(some .i64), (some .i64), none, none]) (.t 28) (.t 29)),
  oy 31 (.pick (.t 27) (.c (.bool true)) (.t 30)),
  oy 2 (.mv (.t 31))]
def n76_3 : ICode := .region l76_3
def n76_4 : ICode := .ret
def n76_2 : ICode := .seq n76_3 n76_4
def n76_0 : ICode := .seq n76_1 n76_2
theorem b76 : table.find 76 = some ⟨32, n76_0, [.tmp 2]⟩ := by kernel_rfl
@[simp] theorem en76_1 : evCode C n76_1 R S = regK (runOps C l76_1 R S) := ev_plain rfl
@[simp] theorem en76_3 : evCode C n76_3 R S = regK (runOps C l76_3 R S) := ev_plain rfl
@[simp] theorem en76_4 : evCode C n76_4 R S = some (.ret, R, S) := (rfl)
@[simp] theorem en76_2 : evCode C n76_2 R S = seqK (evCode C n76_3 R S) fun R S => evCode C n76_4 R S := ev_seq
@[simp] theorem en76_0 : evCode C n76_0 R S = seqK (evCode C n76_1 R S) fun R S => evCode C n76_2 R S := ev_seq
theorem q76 {n : Nat} {args : List Value} {S : St} : calls table.find (n + 1) 76 args S = endK S [.tmp 2] (evCode (calls table.find n) n76_0 (args ++ List.replicate (32 - args.length) undef) S.enter) := call_enter b76

/-! wainscot/count.slabMay -/
@[simp] def l81_1 : List IOper := [oy 2 (.mv (.c (.bool false)))]
def n81_1 : ICode := .region l81_1
@[simp] def l81_3 : List IOper := [oy 3 (.mv (.t 0)),
  oy 4 (.bin .leq .int (.c (.int .i64 0)) (.t 3)),
  oy 5 (.mv (.t 4)),
  oz 6 5 true (.mv (.t 0)),
  oz 7 5 true (.bin .lss .int (.t 6) (.c (.int .i64 32))),
  oy 8 (.pick (.t 5) (.t 7) (.c (.bool false))),
  oy 2 (.mv (.t 8))]
def n81_3 : ICode := .region l81_3
def n81_4 : ICode := .ret
def n81_2 : ICode := .seq n81_3 n81_4
def n81_0 : ICode := .seq n81_1 n81_2
theorem b81 : table.find 81 = some ⟨9, n81_0, [.tmp 2]⟩ := by kernel_rfl
@[simp] theorem en81_1 : evCode C n81_1 R S = regK (runOps C l81_1 R S) := ev_plain rfl
@[simp] theorem en81_3 : evCode C n81_3 R S = regK (runOps C l81_3 R S) := ev_plain rfl
@[simp] theorem en81_4 : evCode C n81_4 R S = some (.ret, R, S) := (rfl)
@[simp] theorem en81_2 : evCode C n81_2 R S = seqK (evCode C n81_3 R S) fun R S => evCode C n81_4 R S := ev_seq
@[simp] theorem en81_0 : evCode C n81_0 R S = seqK (evCode C n81_1 R S) fun R S => evCode C n81_2 R S := ev_seq
theorem q81 {n : Nat} {args : List Value} {S : St} : calls table.find (n + 1) 81 args S = endK S [.tmp 2] (evCode (calls table.find n) n81_0 (args ++ List.replicate (9 - args.length) undef) S.enter) := call_enter b81

/-! wainscot/link.Show -/
@[simp] def l82_1 : List IOper := [oy 6 (.mv (.c (.int .i64 0))),
  oy 7 (.mv (.c (.bool false)))]
def n82_1 : ICode := .region l82_1
@[simp] def l82_4 : List IOper := [oy 8 (.mv (.t 2)),
  oy 9 (.call (.c (.func (.func 88) #[] #[])) [(.t 8)] true),
  oy 10 (.un .not (.t 9))]
def n82_4 : ICode := .region l82_4
@[simp] def l82_7 : List IOper := [oy 6 (.mv (.c (.int .i64 0))),
  oy 7 (.mv (.c (.bool false)))]
def n82_7 : ICode := .region l82_7
def n82_8 : ICode := .ret
def n82_6 : ICode := .seq n82_7 n82_8
def n82_9 : ICode := .skip
def n82_5 : ICode := .cond (.t 10) n82_6 n82_9
def n82_3 : ICode := .seq n82_4 n82_5
@[simp] def l82_12 : List IOper := [oy 11 (.mv (.t 0)),
  oy 12 (.mv (.t 1)),
  oy 13 (.mv (.t 2)),
  oy 14 (.call (.c (.func (.func 89) #[] #[])) [(.t 12), (.t 13)] true),
  oy 15 (.bin .xor .int (.t 11) (.t 14)),
  oy 0 (.mv (.t 15))]
def n82_12 : ICode := .region l82_12
@[simp] def l82_14 : List IOper := [oy 16 (.mv (.t 0)),
  oy 17 (.bin .gtr .int (.t 16) (.c (.int .u64 16)))]
def n82_14 : ICode := .region l82_14
@[simp] def l82_17 : List IOper := [oy 6 (.mv (.c (.int .i64 0))),
  oy 7 (.mv (.c (.bool false)))]
def n82_17 : ICode := .region l82_17
def n82_18 : ICode := .ret
def n82_16 : ICode := .seq n82_17 n82_18
def n82_19 : ICode := .skip
def n82_15 : ICode := .cond (.t 17) n82_16 n82_19
def n82_13 : ICode := .seq n82_14 n82_15
def n82_11 : ICode := .seq n82_12 n82_13
@[simp] def l82_21 : List IOper := [oy 18 (.mv (.t 0)),
  oy 19 (.conv .i64 (.t 18)),
  oy 20 (.bin .sub .int (.t 19) (.c (.int .i64 1))),
  oy 6 (.mv (.t 20)),
  oy 7 (.mv (.c (.bool true)))]
def n82_21 : ICode := .region l82_21
def n82_22 : ICode := .ret
def n82_20 : ICode := .seq n82_21 n82_22
def n82_10 : ICode := .seq n82_11 n82_20
def n82_2 : ICode := .seq n82_3 n82_10
def n82_0 : ICode := .seq n82_1 n82_2
theorem b82 : table.find 82 = some ⟨21, n82_0, [.tmp 6, .tmp 7]⟩ := by kernel_rfl
@[simp] theorem en82_1 : evCode C n82_1 R S = regK (runOps C l82_1 R S) := ev_plain rfl
@[simp] theorem en82_4 : evCode C n82_4 R S = regK (runOps C l82_4 R S) := ev_plain rfl
@[simp] theorem en82_7 : evCode C n82_7 R S = regK (runOps C l82_7 R S) := ev_plain rfl
@[simp] theorem en82_8 : evCode C n82_8 R S = some (.ret, R, S) := (rfl)
@[simp] theorem en82_6 : evCode C n82_6 R S = seqK (evCode C n82_7 R S) fun R S => evCode C n82_8 R S := ev_seq
@[simp] theorem en82_9 : evCode C n82_9 R S = some (.norm, R, S) := (rfl)
@[simp] theorem en82_5 : evCode C n82_5 R S = condK (IV.ev R (.t 10)) (fun _ => evCode C n82_6 R S) fun _ => evCode C n82_9 R S := ev_cond
@[simp] theorem en82_3 : evCode C n82_3 R S = seqK (evCode C n82_4 R S) fun R S => evCode C n82_5 R S := ev_seq
@[simp] theorem en82_12 : evCode C n82_12 R S = regK (runOps C l82_12 R S) := ev_plain rfl
@[simp] theorem en82_14 : evCode C n82_14 R S = regK (runOps C l82_14 R S) := ev_plain rfl
@[simp] theorem en82_17 : evCode C n82_17 R S = regK (runOps C l82_17 R S) := ev_plain rfl
@[simp] theorem en82_18 : evCode C n82_18 R S = some (.ret, R, S) := (rfl)
@[simp] theorem en82_16 : evCode C n82_16 R S = seqK (evCode C n82_17 R S) fun R S => evCode C n82_18 R S := ev_seq
@[simp] theorem en82_19 : evCode C n82_19 R S = some (.norm, R, S) := (rfl)
@[simp] theorem en82_15 : evCode C n82_15 R S = condK (IV.ev R (.t 17)) (fun _ => evCode C n82_16 R S) fun _ => evCode C n82_19 R S := ev_cond
@[simp] theorem en82_13 : evCode C n82_13 R S = seqK (evCode C n82_14 R S) fun R S => evCode C n82_15 R S := ev_seq
@[simp] theorem en82_11 : evCode C n82_11 R S = seqK (evCode C n82_12 R S) fun R S => evCode C n82_13 R S := ev_seq
@[simp] theorem en82_21 : evCode C n82_21 R S = regK (runOps C l82_21 R S) := ev_plain rfl
@[simp] theorem en82_22 : evCode C n82_22 R S = some (.ret, R, S) := (rfl)
@[simp] theorem en82_20 : evCode C n82_20 R S = seqK (evCode C n82_21 R S) fun R S => evCode C n82_22 R S := ev_seq
@[simp] theorem en82_10 : evCode C n82_10 R S = seqK (evCode C n82_11 R S) fun R S => evCode C n82_20 R S := ev_seq
@[simp] theorem en82_2 : evCode C n82_2 R S = seqK (evCode C n82_3 R S) fun R S => evCode C n82_10 R S := ev_seq
@[simp] theorem en82_0 : evCode C n82_0 R S = seqK (evCode C n82_1 R S) fun R S => evCode C n82_2 R S := ev_seq
theorem q82 {n : Nat} {args : List Value} {S : St} : calls table.find (n + 1) 82 args S = endK S [.tmp 6, .tmp 7] (evCode (calls table.find n) n82_0 (args ++ List.replicate (21 - args.length) undef) S.enter) := call_enter b82

/-! wainscot/count.PartOf$1 -/
@[simp] def l83_1 : List IOper := [oy 4 (.mv (.c (.bool false)))]
def n83_1 : ICode := .region l83_1
@[simp] def l83_3 : List IOper := [oy 8 (.mv (.t 1)),
  oy 9 (.mv (.t 0)),
  oy 10 (.call (.c (.func (.func 84) #[] #[])) [(.t 8), (.t 9)] true),
  oy 7 (.mv (.t 10)),
  oy 11 (.extract (.t 7) 0),
  oy 12 (.extract (.t 7) 1),
  oy 5 (.mv (.t 11)),
  oy 6 (.mv (.t 12))]
def n83_3 : ICode := .region l83_3
@[simp] def l83_5 : List IOper := [oy 13 (.mv (.t 6)),
  oy 14 (.bin .eql .int (.t 13) (.c (.int .i64 0))),
  oy 4 (.mv (.t 14))]
def n83_5 : ICode := .region l83_5
def n83_6 : ICode := .ret
def n83_4 : ICode := .seq n83_5 n83_6
def n83_2 : ICode := .seq n83_3 n83_4
def n83_0 : ICode := .seq n83_1 n83_2
theorem b83 : table.find 83 = some ⟨15, n83_0, [.tmp 4]⟩ := by kernel_rfl
@[simp] theorem en83_1 : evCode C n83_1 R S = regK (runOps C l83_1 R S) := ev_plain rfl
@[simp] theorem en83_3 : evCode C n83_3 R S = regK (runOps C l83_3 R S) := ev_plain rfl
@[simp] theorem en83_5 : evCode C n83_5 R S = regK (runOps C l83_5 R S) := ev_plain rfl
@[simp] theorem en83_6 : evCode C n83_6 R S = some (.ret, R, S) := (rfl)
@[simp] theorem en83_4 : evCode C n83_4 R S = seqK (evCode C n83_5 R S) fun R S => evCode C n83_6 R S := ev_seq
@[simp] theorem en83_2 : evCode C n83_2 R S = seqK (evCode C n83_3 R S) fun R S => evCode C n83_4 R S := ev_seq
@[simp] theorem en83_0 : evCode C n83_0 R S = seqK (evCode C n83_1 R S) fun R S => evCode C n83_2 R S := ev_seq
theorem q83 {n : Nat} {args : List Value} {S : St} : calls table.find (n + 1) 83 args S = endK S [.tmp 4] (evCode (calls table.find n) n83_0 (args ++ List.replicate (15 - args.length) undef) S.enter) := call_enter b83

/-! wainscot/count.Part -/
@[simp] def l84_1 : List IOper := [oy 4 (.mv (.c (.int .u64 0))),
  oy 5 (.mv (.c (.int .i64 0)))]
def n84_1 : ICode := .region l84_1
@[simp] def l84_5 : List IOper := [oy 7 (.mv (.t 0)),
  oy 8 (.bin .eql .int (.t 7) (.c (.int .i64 (-1)))),
  oy 9 (.mv (.t 8)),
  oz 10 9 true (.mv (.t 1)),
  oz 11 9 true (.bin .eql .int (.t 10) (.c (.int .i64 0))),
  oy 12 (.pick (.t 9) (.t 11) (.c (.bool false))),
  oy 6 (.mv (.t 12))]
def n84_5 : ICode := .region l84_5
@[simp] def l84_8 : List IOper := [oy 4 (.mv (.c (.int .u64 0))),
  oy 5 (.mv (.c (.int .i64 0)))]
def n84_8 : ICode := .region l84_8
def n84_9 : ICode := .ret
def n84_7 : ICode := .seq n84_8 n84_9
@[simp] def l84_11 : List IOper := [oy 14 (.mv (.t 0)),
  oy 15 (.call (.c (.func (.func 81) #[] #[])) [(.t 14)] true),
  oy 16 (.un .not (.t 15)),
  oy 17 (.mv (.t 16)),
  oz 18 17 false (.mv (.t 1)),
  oz 19 17 false (.bin .lss .int (.t 18) (.c (.int .i64 1))),
  oy 20 (.pick (.t 17) (.c (.bool true)) (.t 19)),
  oy 21 (.mv (.t 20)),
  oz 22 21 false (.mv (.t 1)),
  oz 23 21 false (.bin .gtr .int (.t 22) (.c (.int .i64 63))),
  oy 24 (.pick (.t 21) (.c (.bool true)) (.t 23)),
  oy 13 (.mv (.t 24))]
def n84_11 : ICode := .region l84_11
@[simp] def l84_14 : List IOper := [oy 4 (.mv (.c (.int .u64 0))),
  oy 5 (.mv (.c (.int .i64 2)))]
def n84_14 : ICode := .region l84_14
def n84_15 : ICode := .ret
def n84_13 : ICode := .seq n84_14 n84_15
def n84_16 : ICode := .skip
def n84_12 : ICode := .cond (.t 13) n84_13 n84_16
def n84_10 : ICode := .seq n84_11 n84_12
def n84_6 : ICode := .cond (.t 6) n84_7 n84_10
def n84_4 : ICode := .seq n84_5 n84_6
def n84_3 : ICode := .block 0 n84_4
@[simp] def l84_18 : List IOper := [oy 25 (.mv (.t 1)),
  oy 26 (.conv .u64 (.t 25)),
  oy 27 (.bin .shl .int (.t 26) (.c (.int .u64 6))),
  oy 28 (.mv (.t 0)),
  oy 29 (.bin .add .int (.t 28) (.c (.int .i64 1))),
  oy 30 (.conv .u64 (.t 29)),
  oy 31 (.bin .or .int (.t 27) (.t 30)),
  oy 4 (.mv (.t 31)),
  oy 5 (.mv (.c (.int .i64 0)))]
def n84_18 : ICode := .region l84_18
def n84_19 : ICode := .ret
def n84_17 : ICode := .seq n84_18 n84_19
def n84_2 : ICode := .seq n84_3 n84_17
def n84_0 : ICode := .seq n84_1 n84_2
theorem b84 : table.find 84 = some ⟨32, n84_0, [.tmp 4, .tmp 5]⟩ := by kernel_rfl
@[simp] theorem en84_1 : evCode C n84_1 R S = regK (runOps C l84_1 R S) := ev_plain rfl
@[simp] theorem en84_5 : evCode C n84_5 R S = regK (runOps C l84_5 R S) := ev_plain rfl
@[simp] theorem en84_8 : evCode C n84_8 R S = regK (runOps C l84_8 R S) := ev_plain rfl
@[simp] theorem en84_9 : evCode C n84_9 R S = some (.ret, R, S) := (rfl)
@[simp] theorem en84_7 : evCode C n84_7 R S = seqK (evCode C n84_8 R S) fun R S => evCode C n84_9 R S := ev_seq
@[simp] theorem en84_11 : evCode C n84_11 R S = regK (runOps C l84_11 R S) := ev_plain rfl
@[simp] theorem en84_14 : evCode C n84_14 R S = regK (runOps C l84_14 R S) := ev_plain rfl
@[simp] theorem en84_15 : evCode C n84_15 R S = some (.ret, R, S) := (rfl)
@[simp] theorem en84_13 : evCode C n84_13 R S = seqK (evCode C n84_14 R S) fun R S => evCode C n84_15 R S := ev_seq
@[simp] theorem en84_16 : evCode C n84_16 R S = some (.norm, R, S) := (rfl)
@[simp] theorem en84_12 : evCode C n84_12 R S = condK (IV.ev R (.t 13)) (fun _ => evCode C n84_13 R S) fun _ => evCode C n84_16 R S := ev_cond
@[simp] theorem en84_10 : evCode C n84_10 R S = seqK (evCode C n84_11 R S) fun R S => evCode C n84_12 R S := ev_seq
@[simp] theorem en84_6 : evCode C n84_6 R S = condK (IV.ev R (.t 6)) (fun _ => evCode C n84_7 R S) fun _ => evCode C n84_10 R S := ev_cond
@[simp] theorem en84_4 : evCode C n84_4 R S = seqK (evCode C n84_5 R S) fun R S => evCode C n84_6 R S := ev_seq
@[simp] theorem en84_3 : evCode C n84_3 R S = blockK 0 (evCode C n84_4 R S) := ev_block
@[simp] theorem en84_18 : evCode C n84_18 R S = regK (runOps C l84_18 R S) := ev_plain rfl
@[simp] theorem en84_19 : evCode C n84_19 R S = some (.ret, R, S) := (rfl)
@[simp] theorem en84_17 : evCode C n84_17 R S = seqK (evCode C n84_18 R S) fun R S => evCode C n84_19 R S := ev_seq
@[simp] theorem en84_2 : evCode C n84_2 R S = seqK (evCode C n84_3 R S) fun R S => evCode C n84_17 R S := ev_seq
@[simp] theorem en84_0 : evCode C n84_0 R S = seqK (evCode C n84_1 R S) fun R S => evCode C n84_2 R S := ev_seq
theorem q84 {n : Nat} {args : List Value} {S : St} : calls table.find (n + 1) 84 args S = endK S [.tmp 4, .tmp 5] (evCode (calls table.find n) n84_0 (args ++ List.replicate (32 - args.length) undef) S.enter) := call_enter b84

/-! wainscot/link.object -/
@[simp] def l88_1 : List IOper := [oy 2 (.mv (.c (.bool false)))]
def n88_1 : ICode := .region l88_1
@[simp] def l88_3 : List IOper := [oy 3 (.mv (.t 0)),
  oy 4 (.bin .leq .int (.c (.int .i64 0)) (.t 3)),
  oy 5 (.mv (.t 4)),
  oz 6 5 true (.mv (.t 0)),
  oz 7 5 true (.bin .lss .int (.t 6) (.c (.int .i64 16))),
  oy 8 (.pick (.t 5) (.t 7) (.c (.bool false))),
  oy 2 (.mv (.t 8))]
def n88_3 : ICode := .region l88_3
def n88_4 : ICode := .ret
def n88_2 : ICode := .seq n88_3 n88_4
def n88_0 : ICode := .seq n88_1 n88_2
theorem b88 : table.find 88 = some ⟨9, n88_0, [.tmp 2]⟩ := by kernel_rfl
@[simp] theorem en88_1 : evCode C n88_1 R S = regK (runOps C l88_1 R S) := ev_plain rfl
@[simp] theorem en88_3 : evCode C n88_3 R S = regK (runOps C l88_3 R S) := ev_plain rfl
@[simp] theorem en88_4 : evCode C n88_4 R S = some (.ret, R, S) := (rfl)
@[simp] theorem en88_2 : evCode C n88_2 R S = seqK (evCode C n88_3 R S) fun R S => evCode C n88_4 R S := ev_seq
@[simp] theorem en88_0 : evCode C n88_0 R S = seqK (evCode C n88_1 R S) fun R S => evCode C n88_2 R S := ev_seq
theorem q88 {n : Nat} {args : List Value} {S : St} : calls table.find (n + 1) 88 args S = endK S [.tmp 2] (evCode (calls table.find n) n88_0 (args ++ List.replicate (9 - args.length) undef) S.enter) := call_enter b88

/-! wainscot/link.turned -/
@[simp] def l89_1 : List IOper := [oy 4 (.mv (.c (.int .u64 0)))]
def n89_1 : ICode := .region l89_1
@[simp] def l89_3 : List IOper := [oy 5 (.mv (.t 0)),
  oy 6 (.mv (.t 1)),
  oy 7 (.bin .mul .int (.c (.int .i64 5)) (.t 6)),
  oy 8 (.call (.c (.func (.func 91) #[] #[])) [(.t 5), (.t 7)] true),
  oy 9 (.mv (.t 1)),
  oy 10 (.conv .u64 (.t 9)),
  oy 11 (.bin .mul .int (.t 10) (.c (.int .u64 2654435769))),
  oy 12 (.bin .add .int (.t 8) (.t 11)),
  oy 4 (.mv (.t 12))]
def n89_3 : ICode := .region l89_3
def n89_4 : ICode := .ret
def n89_2 : ICode := .seq n89_3 n89_4
def n89_0 : ICode := .seq n89_1 n89_2
theorem b89 : table.find 89 = some ⟨13, n89_0, [.tmp 4]⟩ := by kernel_rfl
@[simp] theorem en89_1 : evCode C n89_1 R S = regK (runOps C l89_1 R S) := ev_plain rfl
@[simp] theorem en89_3 : evCode C n89_3 R S = regK (runOps C l89_3 R S) := ev_plain rfl
@[simp] theorem en89_4 : evCode C n89_4 R S = some (.ret, R, S) := (rfl)
@[simp] theorem en89_2 : evCode C n89_2 R S = seqK (evCode C n89_3 R S) fun R S => evCode C n89_4 R S := ev_seq
@[simp] theorem en89_0 : evCode C n89_0 R S = seqK (evCode C n89_1 R S) fun R S => evCode C n89_2 R S := ev_seq
theorem q89 {n : Nat} {args : List Value} {S : St} : calls table.find (n + 1) 89 args S = endK S [.tmp 4] (evCode (calls table.find n) n89_0 (args ++ List.replicate (13 - args.length) undef) S.enter) := call_enter b89

/-! math/bits.RotateLeft64 -/
@[simp] def l91_1 : List IOper := [oy 4 (.mv (.c (.int .u64 0)))]
def n91_1 : ICode := .region l91_1
@[simp] def l91_3 : List IOper := [oy 6 (.mv (.t 1)),
  oy 7 (.conv .u64 (.t 6)),
  oy 8 (.bin .and .int (.t 7) (.c (.int .u64 63))),
  oy 5 (.mv (.t 8))]
def n91_3 : ICode := .region l91_3
@[simp] def l91_5 : List IOper := [oy 9 (.mv (.t 0)),
  oy 10 (.mv (.t 5)),
  oy 11 (.bin .shl .int (.t 9) (.t 10)),
  oy 12 (.mv (.t 0)),
  oy 13 (.mv (.t 5)),
  oy 14 (.bin .sub .int (.c (.int .u64 64)) (.t 13)),
  oy 15 (.bin .shr .int (.t 12) (.t 14)),
  oy 16 (.bin .or .int (.t 11) (.t 15)),
  oy 4 (.mv (.t 16))]
def n91_5 : ICode := .region l91_5
def n91_6 : ICode := .ret
def n91_4 : ICode := .seq n91_5 n91_6
def n91_2 : ICode := .seq n91_3 n91_4
def n91_0 : ICode := .seq n91_1 n91_2
theorem b91 : table.find 91 = some ⟨17, n91_0, [.tmp 4]⟩ := by kernel_rfl
@[simp] theorem en91_1 : evCode C n91_1 R S = regK (runOps C l91_1 R S) := ev_plain rfl
@[simp] theorem en91_3 : evCode C n91_3 R S = regK (runOps C l91_3 R S) := ev_plain rfl
@[simp] theorem en91_5 : evCode C n91_5 R S = regK (runOps C l91_5 R S) := ev_plain rfl
@[simp] theorem en91_6 : evCode C n91_6 R S = some (.ret, R, S) := (rfl)
@[simp] theorem en91_4 : evCode C n91_4 R S = seqK (evCode C n91_5 R S) fun R S => evCode C n91_6 R S := ev_seq
@[simp] theorem en91_2 : evCode C n91_2 R S = seqK (evCode C n91_3 R S) fun R S => evCode C n91_4 R S := ev_seq
@[simp] theorem en91_0 : evCode C n91_0 R S = seqK (evCode C n91_1 R S) fun R S => evCode C n91_2 R S := ev_seq
theorem q91 {n : Nat} {args : List Value} {S : St} : calls table.find (n + 1) 91 args S = endK S [.tmp 4] (evCode (calls table.find n) n91_0 (args ++ List.replicate (17 - args.length) undef) S.enter) := call_enter b91

end Go.Proofs.Ytpecefjgadecfaa.Chart
