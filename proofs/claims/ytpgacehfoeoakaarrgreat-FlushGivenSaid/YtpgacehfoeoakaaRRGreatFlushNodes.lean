/- The pieces of the code, each with a name and a rule (written by program). -/
import Derived.Test.YtpgacehfoeoakaaRRGreatFlushIr
import Derived.Test.YtpgacehfoeoakaaRRGreatAe33
namespace Go.Proofs.YtpgacehfoeoakaaRRGreat.Flush
open Go Go.Proofs.YtpgacehfoeoakaaRRGreat.AE
set_option maxRecDepth 100000
variable {C : CallS} {R : List Value} {S : St}

/-! wainscot/wainscotlaw25.FlushGiven -/
@[simp] def l3_1 : List IOper := [oy 1 (.box 24 17 (.t 0)),
  oy 2 (.mv (.c (.bool false)))]
def n3_1 : ICode := .region l3_1
@[simp] def l3_4 : List IOper := [oy 3 (.mv (.c (.int .i64 0)))]
def n3_4 : ICode := .region l3_4
@[simp] def l3_8 : List IOper := [oy 9 (.mv (.t 3)),
  oy 10 (.bin .lss .int (.t 9) (.c (.int .i64 5)))]
def n3_8 : ICode := .region l3_8
def n3_10 : ICode := .skip
def n3_11 : ICode := .exit 0
def n3_9 : ICode := .cond (.t 10) n3_10 n3_11
def n3_7 : ICode := .seq n3_8 n3_9
@[simp] def l3_15 : List IOper := [oy 13 (.load true 17 (.t 1)),
  oy 4 (.new 24 [(.int .i64 0), (.int .i64 0), (.int .i64 0), (.int .i64 0), (.int .i64 0), (.int .i64 0), (.int .i64 0), (.int .u64 0), (.int .u64 0), (.int .u64 0), (.int .u64 0), (.int .u64 0), (.int .i64 0), (.int .i64 0), (.int .i64 0), (.int .i64 0), (.int .i64 0)]),
  ox (.store 17 (.t 4) (.t 13))]
def n3_15 : ICode := .region l3_15
@[simp] def l3_18 : List IOper := [oy 14 (.mv (.t 3)),
  oy 15 (.bin .gtr .int (.t 14) (.c (.int .i64 0)))]
def n3_18 : ICode := .region l3_18
@[simp] def l3_21 : List IOper := [oy 16 (.addOff 3 (.t 4)),
  ox (.store 1 (.t 16) (.c (.int .i64 0)))]
def n3_21 : ICode := .region l3_21
@[simp] def l3_23 : List IOper := [oy 17 (.addOff 4 (.t 4)),
  ox (.store 1 (.t 17) (.c (.int .i64 2)))]
def n3_23 : ICode := .region l3_23
@[simp] def l3_24 : List IOper := [oy 18 (.buildSlice 3 [(.int .i64 0), (.int .i64 0), (.int .i64 0), (.int .i64 0)] 4 [(0, 1, (.c (.int .i64 0))), (1, 1, (.c (.int .i64 73))), (2, 1, (.c (.int .i64 79))), (3, 1, (.c (.int .i64 95)))]),
  oy 19 (.mv (.t 3)),
  oy 20 (.bin .sub .int (.t 19) (.c (.int .i64 1))),
  oy 21 (.idxS 1 (.t 18) (.t 20)),
  oy 22 (.load false 1 (.t 21)),
  oy 23 (.addOff 15 (.t 4)),
  ox (.store 1 (.t 23) (.t 22))]
def n3_24 : ICode := .region l3_24
def n3_22 : ICode := .seq n3_23 n3_24
def n3_20 : ICode := .seq n3_21 n3_22
def n3_25 : ICode := .skip
def n3_19 : ICode := .cond (.t 15) n3_20 n3_25
def n3_17 : ICode := .seq n3_18 n3_19
@[simp] def l3_27 : List IOper := [oy 25 (.load true 17 (.t 4)),
  oy 26 (.call (.c (.func (.func 4) #[] #[])) [(.t 25)] false),
  oy 24 (.mv (.t 26)),
  oy 27 (.extract (.t 24) 0),
  oy 28 (.extract (.t 24) 1),
  oy 5 (.new 24 [(.int .i64 0), (.int .i64 0), (.int .i64 0), (.int .i64 0), (.int .i64 0), (.int .i64 0), (.int .i64 0), (.int .u64 0), (.int .u64 0), (.int .u64 0), (.int .u64 0), (.int .u64 0), (.int .i64 0), (.int .i64 0), (.int .i64 0), (.int .i64 0), (.int .i64 0)]),
  ox (.store 17 (.t 5) (.t 27)),
  oy 6 (.mv (.t 28))]
def n3_27 : ICode := .region l3_27
@[simp] def l3_29 : List IOper := [oy 30 (.load true 17 (.t 4)),
  oy 31 (.call (.c (.func (.func 5) #[] #[])) [(.t 30)] false),
  oy 29 (.mv (.t 31)),
  oy 32 (.extract (.t 29) 0),
  oy 33 (.extract (.t 29) 1),
  oy 7 (.new 24 [(.int .i64 0), (.int .i64 0), (.int .i64 0), (.int .i64 0), (.int .i64 0), (.int .i64 0), (.int .i64 0), (.int .u64 0), (.int .u64 0), (.int .u64 0), (.int .u64 0), (.int .u64 0), (.int .i64 0), (.int .i64 0), (.int .i64 0), (.int .i64 0), (.int .i64 0)]),
  ox (.store 17 (.t 7) (.t 32)),
  oy 8 (.mv (.t 33))]
def n3_29 : ICode := .region l3_29
@[simp] def l3_31 : List IOper := [oy 34 (.load true 17 (.t 5)),
  oy 35 (.load true 17 (.t 7)),
  oy 36 (.bin .neq (.plain [(some .i64), (some .i64), (some .i64), (some .i64), (some .i64), (some .i64), (some .i64), (some .u64), (some .u64), (some .u64), (some .u64), (some .u64), (some .i64), (some .i64), (some .i64), (some .i64), (some .i64)]) (.t 34) (.t 35)),
  oy 37 (.mv (.t 36)),
  oz 38 37 false (.mv (.t 6)),
  oz 39 37 false (.mv (.t 8)),
  oz 40 37 false (.bin .neq .int (.t 38) (.t 39)),
  oy 41 (.pick (.t 37) (.c (.bool true)) (.t 40))]
def n3_31 : ICode := .region l3_31
@[simp] def l3_34 : List IOper := [oy 2 (.mv (.c (.bool false)))]
def n3_34 : ICode := .region l3_34
def n3_35 : ICode := .ret
def n3_33 : ICode := .seq n3_34 n3_35
def n3_36 : ICode := .skip
def n3_32 : ICode := .cond (.t 41) n3_33 n3_36
def n3_30 : ICode := .seq n3_31 n3_32
def n3_28 : ICode := .seq n3_29 n3_30
def n3_26 : ICode := .seq n3_27 n3_28
def n3_16 : ICode := .seq n3_17 n3_26
def n3_14 : ICode := .seq n3_15 n3_16
def n3_13 : ICode := .block 1 n3_14
@[simp] def l3_37 : List IOper := [oy 11 (.mv (.t 3)),
  oy 12 (.bin .add .int (.t 11) (.c (.int .i64 1))),
  oy 3 (.mv (.t 12))]
def n3_37 : ICode := .region l3_37
def n3_12 : ICode := .seq n3_13 n3_37
def n3_6 : ICode := .seq n3_7 n3_12
def loop3_0 : ICode := .loop n3_6
def n3_5 : ICode := .block 0 loop3_0
def n3_3 : ICode := .seq n3_4 n3_5
@[simp] def l3_39 : List IOper := [oy 42 (.call (.c (.func (.func 6) #[] #[])) [] false),
  oy 2 (.mv (.t 42))]
def n3_39 : ICode := .region l3_39
def n3_40 : ICode := .ret
def n3_38 : ICode := .seq n3_39 n3_40
def n3_2 : ICode := .seq n3_3 n3_38
def n3_0 : ICode := .seq n3_1 n3_2
theorem b3 : table.find 3 = some ⟨43, n3_0, [.tmp 2]⟩ := by kernel_rfl
@[simp] theorem en3_1 : evCode C n3_1 R S = regK (runOps C l3_1 R S) := ev_plain rfl
@[simp] theorem en3_4 : evCode C n3_4 R S = regK (runOps C l3_4 R S) := ev_plain rfl
@[simp] theorem en3_8 : evCode C n3_8 R S = regK (runOps C l3_8 R S) := ev_plain rfl
@[simp] theorem en3_10 : evCode C n3_10 R S = some (.norm, R, S) := (rfl)
@[simp] theorem en3_11 : evCode C n3_11 R S = some (.exit 0, R, S) := (rfl)
@[simp] theorem en3_9 : evCode C n3_9 R S = condK (IV.ev R (.t 10)) (fun _ => evCode C n3_10 R S) fun _ => evCode C n3_11 R S := ev_cond
@[simp] theorem en3_7 : evCode C n3_7 R S = seqK (evCode C n3_8 R S) fun R S => evCode C n3_9 R S := ev_seq
@[simp] theorem en3_15 : evCode C n3_15 R S = regK (runOps C l3_15 R S) := ev_plain rfl
@[simp] theorem en3_18 : evCode C n3_18 R S = regK (runOps C l3_18 R S) := ev_plain rfl
@[simp] theorem en3_21 : evCode C n3_21 R S = regK (runOps C l3_21 R S) := ev_plain rfl
@[simp] theorem en3_23 : evCode C n3_23 R S = regK (runOps C l3_23 R S) := ev_plain rfl
@[simp] theorem en3_24 : evCode C n3_24 R S = regK (runOps C l3_24 R S) := ev_plain rfl
@[simp] theorem en3_22 : evCode C n3_22 R S = seqK (evCode C n3_23 R S) fun R S => evCode C n3_24 R S := ev_seq
@[simp] theorem en3_20 : evCode C n3_20 R S = seqK (evCode C n3_21 R S) fun R S => evCode C n3_22 R S := ev_seq
@[simp] theorem en3_25 : evCode C n3_25 R S = some (.norm, R, S) := (rfl)
@[simp] theorem en3_19 : evCode C n3_19 R S = condK (IV.ev R (.t 15)) (fun _ => evCode C n3_20 R S) fun _ => evCode C n3_25 R S := ev_cond
@[simp] theorem en3_17 : evCode C n3_17 R S = seqK (evCode C n3_18 R S) fun R S => evCode C n3_19 R S := ev_seq
@[simp] theorem en3_27 : evCode C n3_27 R S = regK (runOps C l3_27 R S) := ev_plain rfl
@[simp] theorem en3_29 : evCode C n3_29 R S = regK (runOps C l3_29 R S) := ev_plain rfl
@[simp] theorem en3_31 : evCode C n3_31 R S = regK (runOps C l3_31 R S) := ev_plain rfl
@[simp] theorem en3_34 : evCode C n3_34 R S = regK (runOps C l3_34 R S) := ev_plain rfl
@[simp] theorem en3_35 : evCode C n3_35 R S = some (.ret, R, S) := (rfl)
@[simp] theorem en3_33 : evCode C n3_33 R S = seqK (evCode C n3_34 R S) fun R S => evCode C n3_35 R S := ev_seq
@[simp] theorem en3_36 : evCode C n3_36 R S = some (.norm, R, S) := (rfl)
@[simp] theorem en3_32 : evCode C n3_32 R S = condK (IV.ev R (.t 41)) (fun _ => evCode C n3_33 R S) fun _ => evCode C n3_36 R S := ev_cond
@[simp] theorem en3_30 : evCode C n3_30 R S = seqK (evCode C n3_31 R S) fun R S => evCode C n3_32 R S := ev_seq
@[simp] theorem en3_28 : evCode C n3_28 R S = seqK (evCode C n3_29 R S) fun R S => evCode C n3_30 R S := ev_seq
@[simp] theorem en3_26 : evCode C n3_26 R S = seqK (evCode C n3_27 R S) fun R S => evCode C n3_28 R S := ev_seq
@[simp] theorem en3_16 : evCode C n3_16 R S = seqK (evCode C n3_17 R S) fun R S => evCode C n3_26 R S := ev_seq
@[simp] theorem en3_14 : evCode C n3_14 R S = seqK (evCode C n3_15 R S) fun R S => evCode C n3_16 R S := ev_seq
@[simp] theorem en3_13 : evCode C n3_13 R S = blockK 1 (evCode C n3_14 R S) := ev_block
@[simp] theorem en3_37 : evCode C n3_37 R S = regK (runOps C l3_37 R S) := ev_plain rfl
@[simp] theorem en3_12 : evCode C n3_12 R S = seqK (evCode C n3_13 R S) fun R S => evCode C n3_37 R S := ev_seq
@[simp] theorem en3_6 : evCode C n3_6 R S = seqK (evCode C n3_7 R S) fun R S => evCode C n3_12 R S := ev_seq
theorem eloop3_0 : evCode C loop3_0 R S = iter (fun R S => evCode C n3_6 R S) rounds R S := (rfl)
@[simp] theorem en3_5 : evCode C n3_5 R S = blockK 0 (evCode C loop3_0 R S) := ev_block
@[simp] theorem en3_3 : evCode C n3_3 R S = seqK (evCode C n3_4 R S) fun R S => evCode C n3_5 R S := ev_seq
@[simp] theorem en3_39 : evCode C n3_39 R S = regK (runOps C l3_39 R S) := ev_plain rfl
@[simp] theorem en3_40 : evCode C n3_40 R S = some (.ret, R, S) := (rfl)
@[simp] theorem en3_38 : evCode C n3_38 R S = seqK (evCode C n3_39 R S) fun R S => evCode C n3_40 R S := ev_seq
@[simp] theorem en3_2 : evCode C n3_2 R S = seqK (evCode C n3_3 R S) fun R S => evCode C n3_38 R S := ev_seq
@[simp] theorem en3_0 : evCode C n3_0 R S = seqK (evCode C n3_1 R S) fun R S => evCode C n3_2 R S := ev_seq
theorem q3 {n : Nat} {args : List Value} {S : St} : calls table.find (n + 1) 3 args S = endK S [.tmp 2] (evCode (calls table.find n) n3_0 (args ++ List.replicate (43 - args.length) undef) S.enter) := call_enter b3

/-! wainscot/flush.Given -/
@[simp] def l4_1 : List IOper := [oy 1 (.box 24 17 (.t 0)),
  oy 2 (.new 24 [(.int .i64 0), (.int .i64 0), (.int .i64 0), (.int .i64 0), (.int .i64 0), (.int .i64 0), (.int .i64 0), (.int .u64 0), (.int .u64 0), (.int .u64 0), (.int .u64 0), (.int .u64 0), (.int .i64 0), (.int .i64 0), (.int .i64 0), (.int .i64 0), (.int .i64 0)]),
  oy 3 (.mv (.c (.int .i64 0)))]
def n4_1 : ICode := .region l4_1
@[simp] def l4_4 : List IOper := [oy 5 (.addOff 3 (.t 1)),
  oy 6 (.load false 1 (.t 5)),
  oy 7 (.bin .neq .int (.t 6) (.c (.int .i64 0))),
  oy 8 (.mv (.t 7)),
  oz 9 8 false (.addOff 4 (.t 1)),
  oz 10 8 false (.load false 1 (.t 9)),
  oz 11 8 false (.bin .neq .int (.t 10) (.c (.int .i64 2))),
  oy 12 (.pick (.t 8) (.c (.bool true)) (.t 11))]
def n4_4 : ICode := .region l4_4
@[simp] def l4_7 : List IOper := [oy 13 (.build [(.int .i64 0), (.int .i64 0), (.int .i64 0), (.int .i64 0), (.int .i64 0), (.int .i64 0), (.int .i64 0), (.int .u64 0), (.int .u64 0), (.int .u64 0), (.int .u64 0), (.int .u64 0), (.int .i64 0), (.int .i64 0), (.int .i64 0), (.int .i64 0), (.int .i64 0)] []),
  ox (.store 17 (.t 2) (.t 13)),
  oy 3 (.mv (.c (.int .i64 292)))]
def n4_7 : ICode := .region l4_7
def n4_8 : ICode := .ret
def n4_6 : ICode := .seq n4_7 n4_8
def n4_9 : ICode := .skip
def n4_5 : ICode := .cond (.t 12) n4_6 n4_9
def n4_3 : ICode := .seq n4_4 n4_5
@[simp] def l4_11 : List IOper := [oy 14 (.addOff 4 (.t 1)),
  ox (.store 1 (.t 14) (.c (.int .i64 0)))]
def n4_11 : ICode := .region l4_11
@[simp] def l4_13 : List IOper := [oy 15 (.load true 17 (.t 1)),
  oy 16 (.build [(.pointer none), (.int .i64 0), (.int .i64 0), (.int .i64 0), (.int .i64 0), (.int .i64 0), (.int .u64 0), (.int .i64 0), (.int .i64 0), (.int .i64 0), (.int .i64 0), (.int .i64 0), (.int .i64 0), (.int .i64 0), (.int .u64 0), (.int .u64 0), (.int .u64 0), (.int .u64 0), (.int .u64 0), (.int .i64 0), (.int .i64 0), (.int .i64 0), (.int .i64 0), (.int .i64 0), (.bool false)] [(7, 17, (.t 15))]),
  oy 17 (.box 36 25 (.t 16)),
  oy 4 (.mv (.t 17))]
def n4_13 : ICode := .region l4_13
@[simp] def l4_16 : List IOper := [oy 18 (.mv (.t 4)),
  oy 19 (.call (.c (.func (.func 7) #[] #[])) [(.t 18)] false)]
def n4_16 : ICode := .region l4_16
@[simp] def l4_18 : List IOper := [oy 20 (.mv (.t 4)),
  oy 21 (.nilCheck (.t 20)),
  oy 22 (.addOff 24 (.t 21)),
  oy 23 (.load false 1 (.t 22))]
def n4_18 : ICode := .region l4_18
@[simp] def l4_21 : List IOper := [oy 24 (.build [(.int .i64 0), (.int .i64 0), (.int .i64 0), (.int .i64 0), (.int .i64 0), (.int .i64 0), (.int .i64 0), (.int .u64 0), (.int .u64 0), (.int .u64 0), (.int .u64 0), (.int .u64 0), (.int .i64 0), (.int .i64 0), (.int .i64 0), (.int .i64 0), (.int .i64 0)] []),
  ox (.store 17 (.t 2) (.t 24)),
  oy 3 (.mv (.c (.int .i64 292)))]
def n4_21 : ICode := .region l4_21
def n4_22 : ICode := .ret
def n4_20 : ICode := .seq n4_21 n4_22
def n4_23 : ICode := .skip
def n4_19 : ICode := .cond (.t 23) n4_20 n4_23
def n4_17 : ICode := .seq n4_18 n4_19
def n4_15 : ICode := .seq n4_16 n4_17
@[simp] def l4_25 : List IOper := [oy 25 (.mv (.t 4)),
  oy 26 (.nilCheck (.t 25)),
  oy 27 (.addOff 7 (.t 26)),
  oy 28 (.load true 17 (.t 27)),
  ox (.store 17 (.t 2) (.t 28)),
  oy 3 (.mv (.c (.int .i64 0)))]
def n4_25 : ICode := .region l4_25
def n4_26 : ICode := .ret
def n4_24 : ICode := .seq n4_25 n4_26
def n4_14 : ICode := .seq n4_15 n4_24
def n4_12 : ICode := .seq n4_13 n4_14
def n4_10 : ICode := .seq n4_11 n4_12
def n4_2 : ICode := .seq n4_3 n4_10
def n4_0 : ICode := .seq n4_1 n4_2
theorem b4 : table.find 4 = some ⟨29, n4_0, [.cell 2 true 17, .tmp 3]⟩ := by kernel_rfl
@[simp] theorem en4_1 : evCode C n4_1 R S = regK (runOps C l4_1 R S) := ev_plain rfl
@[simp] theorem en4_4 : evCode C n4_4 R S = regK (runOps C l4_4 R S) := ev_plain rfl
@[simp] theorem en4_7 : evCode C n4_7 R S = regK (runOps C l4_7 R S) := ev_plain rfl
@[simp] theorem en4_8 : evCode C n4_8 R S = some (.ret, R, S) := (rfl)
@[simp] theorem en4_6 : evCode C n4_6 R S = seqK (evCode C n4_7 R S) fun R S => evCode C n4_8 R S := ev_seq
@[simp] theorem en4_9 : evCode C n4_9 R S = some (.norm, R, S) := (rfl)
@[simp] theorem en4_5 : evCode C n4_5 R S = condK (IV.ev R (.t 12)) (fun _ => evCode C n4_6 R S) fun _ => evCode C n4_9 R S := ev_cond
@[simp] theorem en4_3 : evCode C n4_3 R S = seqK (evCode C n4_4 R S) fun R S => evCode C n4_5 R S := ev_seq
@[simp] theorem en4_11 : evCode C n4_11 R S = regK (runOps C l4_11 R S) := ev_plain rfl
@[simp] theorem en4_13 : evCode C n4_13 R S = regK (runOps C l4_13 R S) := ev_plain rfl
@[simp] theorem en4_16 : evCode C n4_16 R S = regK (runOps C l4_16 R S) := ev_plain rfl
@[simp] theorem en4_18 : evCode C n4_18 R S = regK (runOps C l4_18 R S) := ev_plain rfl
@[simp] theorem en4_21 : evCode C n4_21 R S = regK (runOps C l4_21 R S) := ev_plain rfl
@[simp] theorem en4_22 : evCode C n4_22 R S = some (.ret, R, S) := (rfl)
@[simp] theorem en4_20 : evCode C n4_20 R S = seqK (evCode C n4_21 R S) fun R S => evCode C n4_22 R S := ev_seq
@[simp] theorem en4_23 : evCode C n4_23 R S = some (.norm, R, S) := (rfl)
@[simp] theorem en4_19 : evCode C n4_19 R S = condK (IV.ev R (.t 23)) (fun _ => evCode C n4_20 R S) fun _ => evCode C n4_23 R S := ev_cond
@[simp] theorem en4_17 : evCode C n4_17 R S = seqK (evCode C n4_18 R S) fun R S => evCode C n4_19 R S := ev_seq
@[simp] theorem en4_15 : evCode C n4_15 R S = seqK (evCode C n4_16 R S) fun R S => evCode C n4_17 R S := ev_seq
@[simp] theorem en4_25 : evCode C n4_25 R S = regK (runOps C l4_25 R S) := ev_plain rfl
@[simp] theorem en4_26 : evCode C n4_26 R S = some (.ret, R, S) := (rfl)
@[simp] theorem en4_24 : evCode C n4_24 R S = seqK (evCode C n4_25 R S) fun R S => evCode C n4_26 R S := ev_seq
@[simp] theorem en4_14 : evCode C n4_14 R S = seqK (evCode C n4_15 R S) fun R S => evCode C n4_24 R S := ev_seq
@[simp] theorem en4_12 : evCode C n4_12 R S = seqK (evCode C n4_13 R S) fun R S => evCode C n4_14 R S := ev_seq
@[simp] theorem en4_10 : evCode C n4_10 R S = seqK (evCode C n4_11 R S) fun R S => evCode C n4_12 R S := ev_seq
@[simp] theorem en4_2 : evCode C n4_2 R S = seqK (evCode C n4_3 R S) fun R S => evCode C n4_10 R S := ev_seq
@[simp] theorem en4_0 : evCode C n4_0 R S = seqK (evCode C n4_1 R S) fun R S => evCode C n4_2 R S := ev_seq
theorem q4 {n : Nat} {args : List Value} {S : St} : calls table.find (n + 1) 4 args S = endK S [.cell 2 true 17, .tmp 3] (evCode (calls table.find n) n4_0 (args ++ List.replicate (29 - args.length) undef) S.enter) := call_enter b4

/-! wainscot/wainscotref25.Given -/
@[simp] def l5_1 : List IOper := [oy 1 (.box 24 17 (.t 0)),
  oy 2 (.new 24 [(.int .i64 0), (.int .i64 0), (.int .i64 0), (.int .i64 0), (.int .i64 0), (.int .i64 0), (.int .i64 0), (.int .u64 0), (.int .u64 0), (.int .u64 0), (.int .u64 0), (.int .u64 0), (.int .i64 0), (.int .i64 0), (.int .i64 0), (.int .i64 0), (.int .i64 0)]),
  oy 3 (.mv (.c (.int .i64 0)))]
def n5_1 : ICode := .region l5_1
@[simp] def l5_4 : List IOper := [oy 6 (.addOff 3 (.t 1)),
  oy 7 (.load false 1 (.t 6)),
  oy 8 (.bin .neq .int (.t 7) (.c (.int .i64 0))),
  oy 9 (.mv (.t 8)),
  oz 10 9 false (.addOff 4 (.t 1)),
  oz 11 9 false (.load false 1 (.t 10)),
  oz 12 9 false (.bin .neq .int (.t 11) (.c (.int .i64 2))),
  oy 13 (.pick (.t 9) (.c (.bool true)) (.t 12))]
def n5_4 : ICode := .region l5_4
@[simp] def l5_7 : List IOper := [oy 14 (.build [(.int .i64 0), (.int .i64 0), (.int .i64 0), (.int .i64 0), (.int .i64 0), (.int .i64 0), (.int .i64 0), (.int .u64 0), (.int .u64 0), (.int .u64 0), (.int .u64 0), (.int .u64 0), (.int .i64 0), (.int .i64 0), (.int .i64 0), (.int .i64 0), (.int .i64 0)] []),
  ox (.store 17 (.t 2) (.t 14)),
  oy 3 (.mv (.c (.int .i64 292)))]
def n5_7 : ICode := .region l5_7
def n5_8 : ICode := .ret
def n5_6 : ICode := .seq n5_7 n5_8
def n5_9 : ICode := .skip
def n5_5 : ICode := .cond (.t 13) n5_6 n5_9
def n5_3 : ICode := .seq n5_4 n5_5
@[simp] def l5_11 : List IOper := [oy 15 (.addOff 4 (.t 1)),
  ox (.store 1 (.t 15) (.c (.int .i64 0)))]
def n5_11 : ICode := .region l5_11
@[simp] def l5_13 : List IOper := [oy 17 (.load true 17 (.t 1)),
  oy 18 (.call (.c (.func (.func 8) #[] #[])) [(.t 17)] false),
  oy 16 (.mv (.t 18)),
  oy 19 (.extract (.t 16) 0),
  oy 20 (.extract (.t 16) 1),
  oy 4 (.new 24 [(.int .i64 0), (.int .i64 0), (.int .i64 0), (.int .i64 0), (.int .i64 0), (.int .i64 0), (.int .i64 0), (.int .u64 0), (.int .u64 0), (.int .u64 0), (.int .u64 0), (.int .u64 0), (.int .i64 0), (.int .i64 0), (.int .i64 0), (.int .i64 0), (.int .i64 0)]),
  ox (.store 17 (.t 4) (.t 19)),
  oy 5 (.mv (.t 20))]
def n5_13 : ICode := .region l5_13
@[simp] def l5_16 : List IOper := [oy 21 (.mv (.t 5)),
  oy 22 (.un .not (.t 21))]
def n5_16 : ICode := .region l5_16
@[simp] def l5_19 : List IOper := [oy 23 (.build [(.int .i64 0), (.int .i64 0), (.int .i64 0), (.int .i64 0), (.int .i64 0), (.int .i64 0), (.int .i64 0), (.int .u64 0), (.int .u64 0), (.int .u64 0), (.int .u64 0), (.int .u64 0), (.int .i64 0), (.int .i64 0), (.int .i64 0), (.int .i64 0), (.int .i64 0)] []),
  ox (.store 17 (.t 2) (.t 23)),
  oy 3 (.mv (.c (.int .i64 292)))]
def n5_19 : ICode := .region l5_19
def n5_20 : ICode := .ret
def n5_18 : ICode := .seq n5_19 n5_20
def n5_21 : ICode := .skip
def n5_17 : ICode := .cond (.t 22) n5_18 n5_21
def n5_15 : ICode := .seq n5_16 n5_17
@[simp] def l5_23 : List IOper := [oy 24 (.load true 17 (.t 4)),
  ox (.store 17 (.t 2) (.t 24)),
  oy 3 (.mv (.c (.int .i64 0)))]
def n5_23 : ICode := .region l5_23
def n5_24 : ICode := .ret
def n5_22 : ICode := .seq n5_23 n5_24
def n5_14 : ICode := .seq n5_15 n5_22
def n5_12 : ICode := .seq n5_13 n5_14
def n5_10 : ICode := .seq n5_11 n5_12
def n5_2 : ICode := .seq n5_3 n5_10
def n5_0 : ICode := .seq n5_1 n5_2
theorem b5 : table.find 5 = some ⟨25, n5_0, [.cell 2 true 17, .tmp 3]⟩ := by kernel_rfl
@[simp] theorem en5_1 : evCode C n5_1 R S = regK (runOps C l5_1 R S) := ev_plain rfl
@[simp] theorem en5_4 : evCode C n5_4 R S = regK (runOps C l5_4 R S) := ev_plain rfl
@[simp] theorem en5_7 : evCode C n5_7 R S = regK (runOps C l5_7 R S) := ev_plain rfl
@[simp] theorem en5_8 : evCode C n5_8 R S = some (.ret, R, S) := (rfl)
@[simp] theorem en5_6 : evCode C n5_6 R S = seqK (evCode C n5_7 R S) fun R S => evCode C n5_8 R S := ev_seq
@[simp] theorem en5_9 : evCode C n5_9 R S = some (.norm, R, S) := (rfl)
@[simp] theorem en5_5 : evCode C n5_5 R S = condK (IV.ev R (.t 13)) (fun _ => evCode C n5_6 R S) fun _ => evCode C n5_9 R S := ev_cond
@[simp] theorem en5_3 : evCode C n5_3 R S = seqK (evCode C n5_4 R S) fun R S => evCode C n5_5 R S := ev_seq
@[simp] theorem en5_11 : evCode C n5_11 R S = regK (runOps C l5_11 R S) := ev_plain rfl
@[simp] theorem en5_13 : evCode C n5_13 R S = regK (runOps C l5_13 R S) := ev_plain rfl
@[simp] theorem en5_16 : evCode C n5_16 R S = regK (runOps C l5_16 R S) := ev_plain rfl
@[simp] theorem en5_19 : evCode C n5_19 R S = regK (runOps C l5_19 R S) := ev_plain rfl
@[simp] theorem en5_20 : evCode C n5_20 R S = some (.ret, R, S) := (rfl)
@[simp] theorem en5_18 : evCode C n5_18 R S = seqK (evCode C n5_19 R S) fun R S => evCode C n5_20 R S := ev_seq
@[simp] theorem en5_21 : evCode C n5_21 R S = some (.norm, R, S) := (rfl)
@[simp] theorem en5_17 : evCode C n5_17 R S = condK (IV.ev R (.t 22)) (fun _ => evCode C n5_18 R S) fun _ => evCode C n5_21 R S := ev_cond
@[simp] theorem en5_15 : evCode C n5_15 R S = seqK (evCode C n5_16 R S) fun R S => evCode C n5_17 R S := ev_seq
@[simp] theorem en5_23 : evCode C n5_23 R S = regK (runOps C l5_23 R S) := ev_plain rfl
@[simp] theorem en5_24 : evCode C n5_24 R S = some (.ret, R, S) := (rfl)
@[simp] theorem en5_22 : evCode C n5_22 R S = seqK (evCode C n5_23 R S) fun R S => evCode C n5_24 R S := ev_seq
@[simp] theorem en5_14 : evCode C n5_14 R S = seqK (evCode C n5_15 R S) fun R S => evCode C n5_22 R S := ev_seq
@[simp] theorem en5_12 : evCode C n5_12 R S = seqK (evCode C n5_13 R S) fun R S => evCode C n5_14 R S := ev_seq
@[simp] theorem en5_10 : evCode C n5_10 R S = seqK (evCode C n5_11 R S) fun R S => evCode C n5_12 R S := ev_seq
@[simp] theorem en5_2 : evCode C n5_2 R S = seqK (evCode C n5_3 R S) fun R S => evCode C n5_10 R S := ev_seq
@[simp] theorem en5_0 : evCode C n5_0 R S = seqK (evCode C n5_1 R S) fun R S => evCode C n5_2 R S := ev_seq
theorem q5 {n : Nat} {args : List Value} {S : St} : calls table.find (n + 1) 5 args S = endK S [.cell 2 true 17, .tmp 3] (evCode (calls table.find n) n5_0 (args ++ List.replicate (25 - args.length) undef) S.enter) := call_enter b5

/-! (*wainscot/flush.step).goes -/
def n7_1 : ICode := .skip
@[simp] def l7_3 : List IOper := [oy 2 (.mv (.t 0)),
  oy 3 (.nilCheck (.t 2)),
  oy 4 (.addOff 7 (.t 3)),
  oy 5 (.addOff 15 (.t 4)),
  oy 6 (.load false 1 (.t 5))]
def n7_3 : ICode := .region l7_3
@[simp] def l7_16 : List IOper := [oy 8 (.bin .eql .int (.t 6) (.c (.int .i64 79))),
  oy 7 (.mv (.t 8))]
def n7_16 : ICode := .region l7_16
def n7_18 : ICode := .exit 1
def n7_19 : ICode := .skip
def n7_17 : ICode := .cond (.t 7) n7_18 n7_19
def n7_15 : ICode := .seq n7_16 n7_17
@[simp] def l7_23 : List IOper := [oy 10 (.bin .eql .int (.t 6) (.c (.int .i64 73))),
  oy 9 (.mv (.t 10))]
def n7_23 : ICode := .region l7_23
def n7_25 : ICode := .skip
@[simp] def l7_26 : List IOper := [oy 11 (.bin .eql .int (.t 6) (.c (.int .i64 95))),
  oy 9 (.mv (.t 11))]
def n7_26 : ICode := .region l7_26
def n7_24 : ICode := .cond (.t 9) n7_25 n7_26
def n7_22 : ICode := .seq n7_23 n7_24
def n7_28 : ICode := .exit 2
def n7_29 : ICode := .skip
def n7_27 : ICode := .cond (.t 9) n7_28 n7_29
def n7_21 : ICode := .seq n7_22 n7_27
@[simp] def l7_31 : List IOper := [oy 13 (.bin .eql .int (.t 6) (.c (.int .i64 0))),
  oy 12 (.mv (.t 13))]
def n7_31 : ICode := .region l7_31
def n7_33 : ICode := .exit 3
def n7_34 : ICode := .skip
def n7_32 : ICode := .cond (.t 12) n7_33 n7_34
def n7_30 : ICode := .seq n7_31 n7_32
def n7_20 : ICode := .seq n7_21 n7_30
def n7_14 : ICode := .seq n7_15 n7_20
def n7_35 : ICode := .exit 4
def n7_13 : ICode := .seq n7_14 n7_35
def n7_12 : ICode := .block 1 n7_13
@[simp] def l7_37 : List IOper := [oy 14 (.mv (.t 0)),
  oy 15 (.nilCheck (.t 14)),
  oy 16 (.addOff 7 (.t 15)),
  oy 17 (.addOff 7 (.t 16)),
  oy 18 (.load false 1 (.t 17)),
  oy 19 (.bin .eql .int (.t 18) (.c (.int .u64 0)))]
def n7_37 : ICode := .region l7_37
@[simp] def l7_40 : List IOper := [oy 20 (.mv (.t 0)),
  oy 21 (.call (.c (.func (.func 20) #[] #[])) [(.t 20)] false)]
def n7_40 : ICode := .region l7_40
def n7_41 : ICode := .exit 0
def n7_39 : ICode := .seq n7_40 n7_41
def n7_42 : ICode := .skip
def n7_38 : ICode := .cond (.t 19) n7_39 n7_42
def n7_36 : ICode := .seq n7_37 n7_38
def n7_11 : ICode := .seq n7_12 n7_36
def n7_10 : ICode := .block 2 n7_11
@[simp] def l7_44 : List IOper := [oy 22 (.mv (.t 0)),
  oy 23 (.mv (.t 0)),
  oy 24 (.nilCheck (.t 23)),
  oy 25 (.addOff 7 (.t 24)),
  oy 26 (.addOff 15 (.t 25)),
  oy 27 (.load false 1 (.t 26)),
  oy 28 (.call (.c (.func (.func 21) #[] #[])) [(.t 22), (.t 27)] false)]
def n7_44 : ICode := .region l7_44
def n7_45 : ICode := .exit 0
def n7_43 : ICode := .seq n7_44 n7_45
def n7_9 : ICode := .seq n7_10 n7_43
def n7_8 : ICode := .block 3 n7_9
@[simp] def l7_47 : List IOper := [oy 29 (.mv (.t 0)),
  oy 30 (.call (.c (.func (.func 20) #[] #[])) [(.t 29)] false)]
def n7_47 : ICode := .region l7_47
def n7_48 : ICode := .exit 0
def n7_46 : ICode := .seq n7_47 n7_48
def n7_7 : ICode := .seq n7_8 n7_46
def n7_6 : ICode := .block 4 n7_7
@[simp] def l7_50 : List IOper := [oy 31 (.mv (.t 0)),
  oy 32 (.call (.c (.func (.func 22) #[] #[])) [(.t 31), (.c (.bool false))] false)]
def n7_50 : ICode := .region l7_50
def n7_51 : ICode := .exit 0
def n7_49 : ICode := .seq n7_50 n7_51
def n7_5 : ICode := .seq n7_6 n7_49
def n7_4 : ICode := .block 0 n7_5
def n7_2 : ICode := .seq n7_3 n7_4
def n7_0 : ICode := .seq n7_1 n7_2
theorem b7 : table.find 7 = some ⟨33, n7_0, []⟩ := by kernel_rfl
@[simp] theorem en7_1 : evCode C n7_1 R S = some (.norm, R, S) := (rfl)
@[simp] theorem en7_3 : evCode C n7_3 R S = regK (runOps C l7_3 R S) := ev_plain rfl
@[simp] theorem en7_16 : evCode C n7_16 R S = regK (runOps C l7_16 R S) := ev_plain rfl
@[simp] theorem en7_18 : evCode C n7_18 R S = some (.exit 1, R, S) := (rfl)
@[simp] theorem en7_19 : evCode C n7_19 R S = some (.norm, R, S) := (rfl)
@[simp] theorem en7_17 : evCode C n7_17 R S = condK (IV.ev R (.t 7)) (fun _ => evCode C n7_18 R S) fun _ => evCode C n7_19 R S := ev_cond
@[simp] theorem en7_15 : evCode C n7_15 R S = seqK (evCode C n7_16 R S) fun R S => evCode C n7_17 R S := ev_seq
@[simp] theorem en7_23 : evCode C n7_23 R S = regK (runOps C l7_23 R S) := ev_plain rfl
@[simp] theorem en7_25 : evCode C n7_25 R S = some (.norm, R, S) := (rfl)
@[simp] theorem en7_26 : evCode C n7_26 R S = regK (runOps C l7_26 R S) := ev_plain rfl
@[simp] theorem en7_24 : evCode C n7_24 R S = condK (IV.ev R (.t 9)) (fun _ => evCode C n7_25 R S) fun _ => evCode C n7_26 R S := ev_cond
@[simp] theorem en7_22 : evCode C n7_22 R S = seqK (evCode C n7_23 R S) fun R S => evCode C n7_24 R S := ev_seq
@[simp] theorem en7_28 : evCode C n7_28 R S = some (.exit 2, R, S) := (rfl)
@[simp] theorem en7_29 : evCode C n7_29 R S = some (.norm, R, S) := (rfl)
@[simp] theorem en7_27 : evCode C n7_27 R S = condK (IV.ev R (.t 9)) (fun _ => evCode C n7_28 R S) fun _ => evCode C n7_29 R S := ev_cond
@[simp] theorem en7_21 : evCode C n7_21 R S = seqK (evCode C n7_22 R S) fun R S => evCode C n7_27 R S := ev_seq
@[simp] theorem en7_31 : evCode C n7_31 R S = regK (runOps C l7_31 R S) := ev_plain rfl
@[simp] theorem en7_33 : evCode C n7_33 R S = some (.exit 3, R, S) := (rfl)
@[simp] theorem en7_34 : evCode C n7_34 R S = some (.norm, R, S) := (rfl)
@[simp] theorem en7_32 : evCode C n7_32 R S = condK (IV.ev R (.t 12)) (fun _ => evCode C n7_33 R S) fun _ => evCode C n7_34 R S := ev_cond
@[simp] theorem en7_30 : evCode C n7_30 R S = seqK (evCode C n7_31 R S) fun R S => evCode C n7_32 R S := ev_seq
@[simp] theorem en7_20 : evCode C n7_20 R S = seqK (evCode C n7_21 R S) fun R S => evCode C n7_30 R S := ev_seq
@[simp] theorem en7_14 : evCode C n7_14 R S = seqK (evCode C n7_15 R S) fun R S => evCode C n7_20 R S := ev_seq
@[simp] theorem en7_35 : evCode C n7_35 R S = some (.exit 4, R, S) := (rfl)
@[simp] theorem en7_13 : evCode C n7_13 R S = seqK (evCode C n7_14 R S) fun R S => evCode C n7_35 R S := ev_seq
@[simp] theorem en7_12 : evCode C n7_12 R S = blockK 1 (evCode C n7_13 R S) := ev_block
@[simp] theorem en7_37 : evCode C n7_37 R S = regK (runOps C l7_37 R S) := ev_plain rfl
@[simp] theorem en7_40 : evCode C n7_40 R S = regK (runOps C l7_40 R S) := ev_plain rfl
@[simp] theorem en7_41 : evCode C n7_41 R S = some (.exit 0, R, S) := (rfl)
@[simp] theorem en7_39 : evCode C n7_39 R S = seqK (evCode C n7_40 R S) fun R S => evCode C n7_41 R S := ev_seq
@[simp] theorem en7_42 : evCode C n7_42 R S = some (.norm, R, S) := (rfl)
@[simp] theorem en7_38 : evCode C n7_38 R S = condK (IV.ev R (.t 19)) (fun _ => evCode C n7_39 R S) fun _ => evCode C n7_42 R S := ev_cond
@[simp] theorem en7_36 : evCode C n7_36 R S = seqK (evCode C n7_37 R S) fun R S => evCode C n7_38 R S := ev_seq
@[simp] theorem en7_11 : evCode C n7_11 R S = seqK (evCode C n7_12 R S) fun R S => evCode C n7_36 R S := ev_seq
@[simp] theorem en7_10 : evCode C n7_10 R S = blockK 2 (evCode C n7_11 R S) := ev_block
@[simp] theorem en7_44 : evCode C n7_44 R S = regK (runOps C l7_44 R S) := ev_plain rfl
@[simp] theorem en7_45 : evCode C n7_45 R S = some (.exit 0, R, S) := (rfl)
@[simp] theorem en7_43 : evCode C n7_43 R S = seqK (evCode C n7_44 R S) fun R S => evCode C n7_45 R S := ev_seq
@[simp] theorem en7_9 : evCode C n7_9 R S = seqK (evCode C n7_10 R S) fun R S => evCode C n7_43 R S := ev_seq
@[simp] theorem en7_8 : evCode C n7_8 R S = blockK 3 (evCode C n7_9 R S) := ev_block
@[simp] theorem en7_47 : evCode C n7_47 R S = regK (runOps C l7_47 R S) := ev_plain rfl
@[simp] theorem en7_48 : evCode C n7_48 R S = some (.exit 0, R, S) := (rfl)
@[simp] theorem en7_46 : evCode C n7_46 R S = seqK (evCode C n7_47 R S) fun R S => evCode C n7_48 R S := ev_seq
@[simp] theorem en7_7 : evCode C n7_7 R S = seqK (evCode C n7_8 R S) fun R S => evCode C n7_46 R S := ev_seq
@[simp] theorem en7_6 : evCode C n7_6 R S = blockK 4 (evCode C n7_7 R S) := ev_block
@[simp] theorem en7_50 : evCode C n7_50 R S = regK (runOps C l7_50 R S) := ev_plain rfl
@[simp] theorem en7_51 : evCode C n7_51 R S = some (.exit 0, R, S) := (rfl)
@[simp] theorem en7_49 : evCode C n7_49 R S = seqK (evCode C n7_50 R S) fun R S => evCode C n7_51 R S := ev_seq
@[simp] theorem en7_5 : evCode C n7_5 R S = seqK (evCode C n7_6 R S) fun R S => evCode C n7_49 R S := ev_seq
@[simp] theorem en7_4 : evCode C n7_4 R S = blockK 0 (evCode C n7_5 R S) := ev_block
@[simp] theorem en7_2 : evCode C n7_2 R S = seqK (evCode C n7_3 R S) fun R S => evCode C n7_4 R S := ev_seq
@[simp] theorem en7_0 : evCode C n7_0 R S = seqK (evCode C n7_1 R S) fun R S => evCode C n7_2 R S := ev_seq
theorem q7 {n : Nat} {args : List Value} {S : St} : calls table.find (n + 1) 7 args S = endK S [] (evCode (calls table.find n) n7_0 (args ++ List.replicate (33 - args.length) undef) S.enter) := call_enter b7

/-! wainscot/wainscotref25.goes -/
@[simp] def l8_1 : List IOper := [oy 1 (.box 24 17 (.t 0)),
  oy 2 (.new 24 [(.int .i64 0), (.int .i64 0), (.int .i64 0), (.int .i64 0), (.int .i64 0), (.int .i64 0), (.int .i64 0), (.int .u64 0), (.int .u64 0), (.int .u64 0), (.int .u64 0), (.int .u64 0), (.int .i64 0), (.int .i64 0), (.int .i64 0), (.int .i64 0), (.int .i64 0)]),
  oy 3 (.mv (.c (.bool false)))]
def n8_1 : ICode := .region l8_1
@[simp] def l8_4 : List IOper := [oy 4 (.addOff 15 (.t 1)),
  oy 5 (.load false 1 (.t 4))]
def n8_4 : ICode := .region l8_4
@[simp] def l8_7 : List IOper := [oy 7 (.bin .eql .int (.t 5) (.c (.int .i64 0))),
  oy 6 (.mv (.t 7))]
def n8_7 : ICode := .region l8_7
@[simp] def l8_10 : List IOper := [oy 8 (.load true 17 (.t 1)),
  oy 9 (.call (.c (.func (.func 23) #[] #[])) [(.t 8)] false),
  ox (.store 17 (.t 2) (.t 9)),
  oy 3 (.mv (.c (.bool true)))]
def n8_10 : ICode := .region l8_10
def n8_11 : ICode := .ret
def n8_9 : ICode := .seq n8_10 n8_11
@[simp] def l8_14 : List IOper := [oy 11 (.bin .eql .int (.t 5) (.c (.int .i64 73))),
  oy 10 (.mv (.t 11))]
def n8_14 : ICode := .region l8_14
def n8_16 : ICode := .skip
@[simp] def l8_17 : List IOper := [oy 12 (.bin .eql .int (.t 5) (.c (.int .i64 95))),
  oy 10 (.mv (.t 12))]
def n8_17 : ICode := .region l8_17
def n8_15 : ICode := .cond (.t 10) n8_16 n8_17
def n8_13 : ICode := .seq n8_14 n8_15
@[simp] def l8_20 : List IOper := [oy 13 (.load true 17 (.t 1)),
  oy 14 (.addOff 15 (.t 1)),
  oy 15 (.load false 1 (.t 14)),
  oy 16 (.call (.c (.func (.func 24) #[] #[])) [(.t 13), (.t 15)] false),
  ox (.store 17 (.t 2) (.t 16)),
  oy 3 (.mv (.c (.bool true)))]
def n8_20 : ICode := .region l8_20
def n8_21 : ICode := .ret
def n8_19 : ICode := .seq n8_20 n8_21
@[simp] def l8_23 : List IOper := [oy 18 (.bin .eql .int (.t 5) (.c (.int .i64 79))),
  oy 17 (.mv (.t 18))]
def n8_23 : ICode := .region l8_23
@[simp] def l8_27 : List IOper := [oy 19 (.addOff 7 (.t 1)),
  oy 20 (.load false 1 (.t 19)),
  oy 21 (.bin .neq .int (.t 20) (.c (.int .u64 0)))]
def n8_27 : ICode := .region l8_27
@[simp] def l8_30 : List IOper := [oy 22 (.load true 17 (.t 1)),
  oy 23 (.call (.c (.func (.func 24) #[] #[])) [(.t 22), (.c (.int .i64 79))] false),
  ox (.store 17 (.t 2) (.t 23)),
  oy 3 (.mv (.c (.bool true)))]
def n8_30 : ICode := .region l8_30
def n8_31 : ICode := .ret
def n8_29 : ICode := .seq n8_30 n8_31
def n8_32 : ICode := .skip
def n8_28 : ICode := .cond (.t 21) n8_29 n8_32
def n8_26 : ICode := .seq n8_27 n8_28
@[simp] def l8_34 : List IOper := [oy 24 (.load true 17 (.t 1)),
  oy 25 (.call (.c (.func (.func 23) #[] #[])) [(.t 24)] false),
  ox (.store 17 (.t 2) (.t 25)),
  oy 3 (.mv (.c (.bool true)))]
def n8_34 : ICode := .region l8_34
def n8_35 : ICode := .ret
def n8_33 : ICode := .seq n8_34 n8_35
def n8_25 : ICode := .seq n8_26 n8_33
def n8_36 : ICode := .skip
def n8_24 : ICode := .cond (.t 17) n8_25 n8_36
def n8_22 : ICode := .seq n8_23 n8_24
def n8_18 : ICode := .cond (.t 10) n8_19 n8_22
def n8_12 : ICode := .seq n8_13 n8_18
def n8_8 : ICode := .cond (.t 6) n8_9 n8_12
def n8_6 : ICode := .seq n8_7 n8_8
def n8_5 : ICode := .block 0 n8_6
def n8_3 : ICode := .seq n8_4 n8_5
@[simp] def l8_38 : List IOper := [oy 26 (.load true 17 (.t 1)),
  ox (.store 17 (.t 2) (.t 26)),
  oy 3 (.mv (.c (.bool false)))]
def n8_38 : ICode := .region l8_38
def n8_39 : ICode := .ret
def n8_37 : ICode := .seq n8_38 n8_39
def n8_2 : ICode := .seq n8_3 n8_37
def n8_0 : ICode := .seq n8_1 n8_2
theorem b8 : table.find 8 = some ⟨27, n8_0, [.cell 2 true 17, .tmp 3]⟩ := by kernel_rfl
@[simp] theorem en8_1 : evCode C n8_1 R S = regK (runOps C l8_1 R S) := ev_plain rfl
@[simp] theorem en8_4 : evCode C n8_4 R S = regK (runOps C l8_4 R S) := ev_plain rfl
@[simp] theorem en8_7 : evCode C n8_7 R S = regK (runOps C l8_7 R S) := ev_plain rfl
@[simp] theorem en8_10 : evCode C n8_10 R S = regK (runOps C l8_10 R S) := ev_plain rfl
@[simp] theorem en8_11 : evCode C n8_11 R S = some (.ret, R, S) := (rfl)
@[simp] theorem en8_9 : evCode C n8_9 R S = seqK (evCode C n8_10 R S) fun R S => evCode C n8_11 R S := ev_seq
@[simp] theorem en8_14 : evCode C n8_14 R S = regK (runOps C l8_14 R S) := ev_plain rfl
@[simp] theorem en8_16 : evCode C n8_16 R S = some (.norm, R, S) := (rfl)
@[simp] theorem en8_17 : evCode C n8_17 R S = regK (runOps C l8_17 R S) := ev_plain rfl
@[simp] theorem en8_15 : evCode C n8_15 R S = condK (IV.ev R (.t 10)) (fun _ => evCode C n8_16 R S) fun _ => evCode C n8_17 R S := ev_cond
@[simp] theorem en8_13 : evCode C n8_13 R S = seqK (evCode C n8_14 R S) fun R S => evCode C n8_15 R S := ev_seq
@[simp] theorem en8_20 : evCode C n8_20 R S = regK (runOps C l8_20 R S) := ev_plain rfl
@[simp] theorem en8_21 : evCode C n8_21 R S = some (.ret, R, S) := (rfl)
@[simp] theorem en8_19 : evCode C n8_19 R S = seqK (evCode C n8_20 R S) fun R S => evCode C n8_21 R S := ev_seq
@[simp] theorem en8_23 : evCode C n8_23 R S = regK (runOps C l8_23 R S) := ev_plain rfl
@[simp] theorem en8_27 : evCode C n8_27 R S = regK (runOps C l8_27 R S) := ev_plain rfl
@[simp] theorem en8_30 : evCode C n8_30 R S = regK (runOps C l8_30 R S) := ev_plain rfl
@[simp] theorem en8_31 : evCode C n8_31 R S = some (.ret, R, S) := (rfl)
@[simp] theorem en8_29 : evCode C n8_29 R S = seqK (evCode C n8_30 R S) fun R S => evCode C n8_31 R S := ev_seq
@[simp] theorem en8_32 : evCode C n8_32 R S = some (.norm, R, S) := (rfl)
@[simp] theorem en8_28 : evCode C n8_28 R S = condK (IV.ev R (.t 21)) (fun _ => evCode C n8_29 R S) fun _ => evCode C n8_32 R S := ev_cond
@[simp] theorem en8_26 : evCode C n8_26 R S = seqK (evCode C n8_27 R S) fun R S => evCode C n8_28 R S := ev_seq
@[simp] theorem en8_34 : evCode C n8_34 R S = regK (runOps C l8_34 R S) := ev_plain rfl
@[simp] theorem en8_35 : evCode C n8_35 R S = some (.ret, R, S) := (rfl)
@[simp] theorem en8_33 : evCode C n8_33 R S = seqK (evCode C n8_34 R S) fun R S => evCode C n8_35 R S := ev_seq
@[simp] theorem en8_25 : evCode C n8_25 R S = seqK (evCode C n8_26 R S) fun R S => evCode C n8_33 R S := ev_seq
@[simp] theorem en8_36 : evCode C n8_36 R S = some (.norm, R, S) := (rfl)
@[simp] theorem en8_24 : evCode C n8_24 R S = condK (IV.ev R (.t 17)) (fun _ => evCode C n8_25 R S) fun _ => evCode C n8_36 R S := ev_cond
@[simp] theorem en8_22 : evCode C n8_22 R S = seqK (evCode C n8_23 R S) fun R S => evCode C n8_24 R S := ev_seq
@[simp] theorem en8_18 : evCode C n8_18 R S = condK (IV.ev R (.t 10)) (fun _ => evCode C n8_19 R S) fun _ => evCode C n8_22 R S := ev_cond
@[simp] theorem en8_12 : evCode C n8_12 R S = seqK (evCode C n8_13 R S) fun R S => evCode C n8_18 R S := ev_seq
@[simp] theorem en8_8 : evCode C n8_8 R S = condK (IV.ev R (.t 6)) (fun _ => evCode C n8_9 R S) fun _ => evCode C n8_12 R S := ev_cond
@[simp] theorem en8_6 : evCode C n8_6 R S = seqK (evCode C n8_7 R S) fun R S => evCode C n8_8 R S := ev_seq
@[simp] theorem en8_5 : evCode C n8_5 R S = blockK 0 (evCode C n8_6 R S) := ev_block
@[simp] theorem en8_3 : evCode C n8_3 R S = seqK (evCode C n8_4 R S) fun R S => evCode C n8_5 R S := ev_seq
@[simp] theorem en8_38 : evCode C n8_38 R S = regK (runOps C l8_38 R S) := ev_plain rfl
@[simp] theorem en8_39 : evCode C n8_39 R S = some (.ret, R, S) := (rfl)
@[simp] theorem en8_37 : evCode C n8_37 R S = seqK (evCode C n8_38 R S) fun R S => evCode C n8_39 R S := ev_seq
@[simp] theorem en8_2 : evCode C n8_2 R S = seqK (evCode C n8_3 R S) fun R S => evCode C n8_37 R S := ev_seq
@[simp] theorem en8_0 : evCode C n8_0 R S = seqK (evCode C n8_1 R S) fun R S => evCode C n8_2 R S := ev_seq
theorem q8 {n : Nat} {args : List Value} {S : St} : calls table.find (n + 1) 8 args S = endK S [.cell 2 true 17, .tmp 3] (evCode (calls table.find n) n8_0 (args ++ List.replicate (27 - args.length) undef) S.enter) := call_enter b8

/-! (*wainscot/flush.step).done -/
@[simp] def l20_0 : List IOper := [oy 2 (.mv (.t 0)),
  oy 3 (.nilCheck (.t 2)),
  oy 4 (.addOff 7 (.t 3)),
  oy 5 (.addOff 3 (.t 4)),
  ox (.store 1 (.t 5) (.c (.int .i64 1)))]
def n20_0 : ICode := .region l20_0
theorem b20 : table.find 20 = some ⟨6, n20_0, []⟩ := by kernel_rfl
@[simp] theorem en20_0 : evCode C n20_0 R S = regK (runOps C l20_0 R S) := ev_plain rfl
theorem q20 {n : Nat} {args : List Value} {S : St} : calls table.find (n + 1) 20 args S = endK S [] (evCode (calls table.find n) n20_0 (args ++ List.replicate (6 - args.length) undef) S.enter) := call_enter b20

/-! (*wainscot/flush.step).to -/
@[simp] def l21_0 : List IOper := [oy 4 (.mv (.t 0)),
  oy 5 (.mv (.t 1)),
  oy 6 (.nilCheck (.t 4)),
  oy 7 (.addOff 7 (.t 6)),
  oy 8 (.addOff 2 (.t 7)),
  ox (.store 1 (.t 8) (.t 5))]
def n21_0 : ICode := .region l21_0
theorem b21 : table.find 21 = some ⟨9, n21_0, []⟩ := by kernel_rfl
@[simp] theorem en21_0 : evCode C n21_0 R S = regK (runOps C l21_0 R S) := ev_plain rfl
theorem q21 {n : Nat} {args : List Value} {S : St} : calls table.find (n + 1) 21 args S = endK S [] (evCode (calls table.find n) n21_0 (args ++ List.replicate (9 - args.length) undef) S.enter) := call_enter b21

/-! (*wainscot/flush.step).must -/
@[simp] def l22_0 : List IOper := [oy 4 (.mv (.t 0)),
  oy 5 (.mv (.t 0)),
  oy 6 (.nilCheck (.t 5)),
  oy 7 (.addOff 24 (.t 6)),
  oy 8 (.load false 1 (.t 7)),
  oy 9 (.mv (.t 8)),
  oz 10 9 false (.mv (.t 1)),
  oz 11 9 false (.un .not (.t 10)),
  oy 12 (.pick (.t 9) (.c (.bool true)) (.t 11)),
  oy 13 (.nilCheck (.t 4)),
  oy 14 (.addOff 24 (.t 13)),
  ox (.store 1 (.t 14) (.t 12))]
def n22_0 : ICode := .region l22_0
theorem b22 : table.find 22 = some ⟨15, n22_0, []⟩ := by kernel_rfl
@[simp] theorem en22_0 : evCode C n22_0 R S = regK (runOps C l22_0 R S) := ev_plain rfl
theorem q22 {n : Nat} {args : List Value} {S : St} : calls table.find (n + 1) 22 args S = endK S [] (evCode (calls table.find n) n22_0 (args ++ List.replicate (15 - args.length) undef) S.enter) := call_enter b22

/-! wainscot/wainscotref22.Done -/
@[simp] def l23_1 : List IOper := [oy 1 (.box 24 17 (.t 0)),
  oy 2 (.new 24 [(.int .i64 0), (.int .i64 0), (.int .i64 0), (.int .i64 0), (.int .i64 0), (.int .i64 0), (.int .i64 0), (.int .u64 0), (.int .u64 0), (.int .u64 0), (.int .u64 0), (.int .u64 0), (.int .i64 0), (.int .i64 0), (.int .i64 0), (.int .i64 0), (.int .i64 0)])]
def n23_1 : ICode := .region l23_1
@[simp] def l23_3 : List IOper := [oy 3 (.addOff 3 (.t 1)),
  ox (.store 1 (.t 3) (.c (.int .i64 1)))]
def n23_3 : ICode := .region l23_3
@[simp] def l23_5 : List IOper := [oy 4 (.load true 17 (.t 1)),
  ox (.store 17 (.t 2) (.t 4))]
def n23_5 : ICode := .region l23_5
def n23_6 : ICode := .ret
def n23_4 : ICode := .seq n23_5 n23_6
def n23_2 : ICode := .seq n23_3 n23_4
def n23_0 : ICode := .seq n23_1 n23_2
theorem b23 : table.find 23 = some ⟨5, n23_0, [.cell 2 true 17]⟩ := by kernel_rfl
@[simp] theorem en23_1 : evCode C n23_1 R S = regK (runOps C l23_1 R S) := ev_plain rfl
@[simp] theorem en23_3 : evCode C n23_3 R S = regK (runOps C l23_3 R S) := ev_plain rfl
@[simp] theorem en23_5 : evCode C n23_5 R S = regK (runOps C l23_5 R S) := ev_plain rfl
@[simp] theorem en23_6 : evCode C n23_6 R S = some (.ret, R, S) := (rfl)
@[simp] theorem en23_4 : evCode C n23_4 R S = seqK (evCode C n23_5 R S) fun R S => evCode C n23_6 R S := ev_seq
@[simp] theorem en23_2 : evCode C n23_2 R S = seqK (evCode C n23_3 R S) fun R S => evCode C n23_4 R S := ev_seq
@[simp] theorem en23_0 : evCode C n23_0 R S = seqK (evCode C n23_1 R S) fun R S => evCode C n23_2 R S := ev_seq
theorem q23 {n : Nat} {args : List Value} {S : St} : calls table.find (n + 1) 23 args S = endK S [.cell 2 true 17] (evCode (calls table.find n) n23_0 (args ++ List.replicate (5 - args.length) undef) S.enter) := call_enter b23

/-! wainscot/wainscotref22.To -/
@[simp] def l24_1 : List IOper := [oy 2 (.box 24 17 (.t 0)),
  oy 4 (.new 24 [(.int .i64 0), (.int .i64 0), (.int .i64 0), (.int .i64 0), (.int .i64 0), (.int .i64 0), (.int .i64 0), (.int .u64 0), (.int .u64 0), (.int .u64 0), (.int .u64 0), (.int .u64 0), (.int .i64 0), (.int .i64 0), (.int .i64 0), (.int .i64 0), (.int .i64 0)])]
def n24_1 : ICode := .region l24_1
@[simp] def l24_3 : List IOper := [oy 5 (.mv (.t 1)),
  oy 6 (.addOff 2 (.t 2)),
  ox (.store 1 (.t 6) (.t 5))]
def n24_3 : ICode := .region l24_3
@[simp] def l24_5 : List IOper := [oy 7 (.load true 17 (.t 2)),
  ox (.store 17 (.t 4) (.t 7))]
def n24_5 : ICode := .region l24_5
def n24_6 : ICode := .ret
def n24_4 : ICode := .seq n24_5 n24_6
def n24_2 : ICode := .seq n24_3 n24_4
def n24_0 : ICode := .seq n24_1 n24_2
theorem b24 : table.find 24 = some ⟨8, n24_0, [.cell 4 true 17]⟩ := by kernel_rfl
@[simp] theorem en24_1 : evCode C n24_1 R S = regK (runOps C l24_1 R S) := ev_plain rfl
@[simp] theorem en24_3 : evCode C n24_3 R S = regK (runOps C l24_3 R S) := ev_plain rfl
@[simp] theorem en24_5 : evCode C n24_5 R S = regK (runOps C l24_5 R S) := ev_plain rfl
@[simp] theorem en24_6 : evCode C n24_6 R S = some (.ret, R, S) := (rfl)
@[simp] theorem en24_4 : evCode C n24_4 R S = seqK (evCode C n24_5 R S) fun R S => evCode C n24_6 R S := ev_seq
@[simp] theorem en24_2 : evCode C n24_2 R S = seqK (evCode C n24_3 R S) fun R S => evCode C n24_4 R S := ev_seq
@[simp] theorem en24_0 : evCode C n24_0 R S = seqK (evCode C n24_1 R S) fun R S => evCode C n24_2 R S := ev_seq
theorem q24 {n : Nat} {args : List Value} {S : St} : calls table.find (n + 1) 24 args S = endK S [.cell 4 true 17] (evCode (calls table.find n) n24_0 (args ++ List.replicate (8 - args.length) undef) S.enter) := call_enter b24

end Go.Proofs.YtpgacehfoeoakaaRRGreat.Flush
