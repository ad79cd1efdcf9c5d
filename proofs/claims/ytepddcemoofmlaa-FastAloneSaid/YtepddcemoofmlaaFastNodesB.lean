/- The pieces of the code, each with a name and a rule (written by program). -/
import Derived.Test.YtepddcemoofmlaaFastIr
import Derived.Test.YtepddcemoofmlaaAe33
set_option linter.unusedSimpArgs false
set_option linter.unusedVariables false
namespace Go.Proofs.Ytepddcemoofmlaa.Fast
open Go Go.Proofs.Ytepddcemoofmlaa.AE
set_option maxRecDepth 100000
variable {C : CallS} {R : List Value} {S : St}

/-! wainscot/wainscotlaw22.FastAlone -/
@[simp] def l3_1 : List IOper := [oy 6 (.mv (.c (.bool false)))]
def n3_1 : ICode := .region l3_1
@[simp] def l3_3 : List IOper := [oy 23 (.mv (.t 0)),
  oy 24 (.call (.c (.func (.func 6) #[] #[])) [(.t 23), (.c (.int .i64 16))] true),
  oy 25 (.bin .add .int (.c (.int .i64 1)) (.t 24)),
  oy 7 (.mv (.t 25))]
def n3_3 : ICode := .region l3_3
@[simp] def l3_5 : List IOper := [oy 27 (.mv (.t 7)),
  oy 28 (.mv (.t 1)),
  oy 29 (.mv (.t 0)),
  oy 30 (.conv .u64 (.t 29)),
  oy 31 (.call (.c (.func (.func 7) #[] #[])) [(.t 27), (.c (.int .i64 16)), (.t 28), (.t 30)] false),
  oy 26 (.mv (.t 31)),
  oy 32 (.extract (.t 26) 0),
  oy 33 (.extract (.t 26) 1),
  oy 9 (.new 26 [(.int .i64 0), (.int .i64 0), (.int .i64 0), (.int .i64 0), (.int .i64 0), (.int .u64 0)]),
  oy 8 (.mv (.t 32)),
  ox (.store 6 (.t 9) (.t 33))]
def n3_5 : ICode := .region l3_5
@[simp] def l3_8 : List IOper := [oy 34 (.mv (.t 8)),
  oy 35 (.bin .eql .ptr (.t 34) (.c (.pointer none)))]
def n3_8 : ICode := .region l3_8
@[simp] def l3_11 : List IOper := [oy 6 (.mv (.c (.bool false)))]
def n3_11 : ICode := .region l3_11
def n3_12 : ICode := .ret
def n3_10 : ICode := .seq n3_11 n3_12
def n3_13 : ICode := .skip
def n3_9 : ICode := .cond (.t 35) n3_10 n3_13
def n3_7 : ICode := .seq n3_8 n3_9
@[simp] def l3_15 : List IOper := [oy 36 (.mv (.t 2)),
  oy 37 (.mv (.t 7)),
  oy 38 (.call (.c (.func (.func 6) #[] #[])) [(.t 36), (.t 37)] true),
  oy 39 (.bin .add .int (.c (.int .i64 1)) (.t 38)),
  oy 10 (.mv (.t 39))]
def n3_15 : ICode := .region l3_15
@[simp] def l3_18 : List IOper := [oy 11 (.mv (.c (.int .i64 0)))]
def n3_18 : ICode := .region l3_18
@[simp] def l3_22 : List IOper := [oy 40 (.mv (.t 11)),
  oy 41 (.mv (.t 10)),
  oy 42 (.bin .lss .int (.t 40) (.t 41))]
def n3_22 : ICode := .region l3_22
def n3_24 : ICode := .skip
def n3_25 : ICode := .exit 0
def n3_23 : ICode := .cond (.t 42) n3_24 n3_25
def n3_21 : ICode := .seq n3_22 n3_23
@[simp] def l3_29 : List IOper := [oy 46 (.mv (.t 8)),
  oy 47 (.load true 6 (.t 9)),
  oy 48 (.build [(.int .i64 0), (.int .i64 0), (.int .i64 0), (.int .i64 0), (.int .i64 0), (.int .i64 0), (.int .i64 0), (.int .u64 0), (.int .u64 0), (.int .u64 0), (.int .u64 0), (.int .u64 0), (.int .i64 0), (.int .i64 0), (.int .i64 0), (.int .i64 0), (.int .i64 0)] [(0, 1, (.c (.int .i64 1)))]),
  oy 49 (.call (.c (.func (.func 8) #[] #[])) [(.t 46), (.t 47), (.t 48), (.c (.int .i64 9))] false),
  oy 45 (.mv (.t 49)),
  oy 50 (.extract (.t 45) 0),
  oy 51 (.extract (.t 45) 1),
  oy 12 (.new 30 [(.int .i64 0), (.int .i64 0), (.int .i64 0), (.int .i64 0), (.int .i64 0), (.int .i64 0), (.int .i64 0), (.int .u64 0), (.int .u64 0), (.int .u64 0), (.int .u64 0), (.int .u64 0), (.int .i64 0), (.int .i64 0), (.int .i64 0), (.int .i64 0), (.int .i64 0)]),
  ox (.store 17 (.t 12) (.t 50)),
  oy 13 (.mv (.t 51))]
def n3_29 : ICode := .region l3_29
@[simp] def l3_31 : List IOper := [oy 53 (.mv (.t 8)),
  oy 54 (.load true 6 (.t 9)),
  oy 55 (.call (.c (.func (.func 9) #[] #[])) [(.t 53), (.t 54)] false),
  oy 52 (.mv (.t 55)),
  oy 56 (.extract (.t 52) 0),
  oy 57 (.extract (.t 52) 1),
  oy 58 (.extract (.t 52) 2),
  oy 14 (.mv (.t 56)),
  oy 15 (.mv (.t 57)),
  oy 16 (.mv (.t 58))]
def n3_31 : ICode := .region l3_31
@[simp] def l3_33 : List IOper := [oy 59 (.addOff 3 (.t 12)),
  oy 60 (.load false 1 (.t 59)),
  oy 61 (.bin .neq .int (.t 60) (.c (.int .i64 1))),
  oy 62 (.mv (.t 61)),
  oz 63 62 false (.mv (.t 13)),
  oz 64 62 false (.bin .neq .int (.t 63) (.c (.int .i64 4))),
  oy 65 (.pick (.t 62) (.c (.bool true)) (.t 64)),
  oy 66 (.mv (.t 65)),
  oz 67 66 false (.addOff 6 (.t 12)),
  oz 68 66 false (.load false 1 (.t 67)),
  oz 69 66 false (.mv (.t 11)),
  oz 70 66 false (.bin .neq .int (.t 68) (.t 69)),
  oy 71 (.pick (.t 66) (.c (.bool true)) (.t 70)),
  oy 72 (.mv (.t 71)),
  oz 73 72 false (.mv (.t 16)),
  oz 74 72 false (.un .not (.t 73)),
  oy 75 (.pick (.t 72) (.c (.bool true)) (.t 74)),
  oy 76 (.mv (.t 75)),
  oz 77 76 false (.mv (.t 14)),
  oz 78 76 false (.lenS (.t 77)),
  oz 79 76 false (.mv (.t 7)),
  oz 80 76 false (.mv (.t 11)),
  oz 81 76 false (.bin .sub .int (.t 79) (.t 80)),
  oz 82 76 false (.bin .sub .int (.t 81) (.c (.int .i64 1))),
  oz 83 76 false (.bin .neq .int (.t 78) (.t 82)),
  oy 84 (.pick (.t 76) (.c (.bool true)) (.t 83)),
  oy 85 (.mv (.t 84)),
  oz 86 85 false (.mv (.t 15)),
  oz 87 85 false (.mv (.t 0)),
  oz 88 85 false (.conv .u64 (.t 87)),
  oz 89 85 false (.mv (.t 11)),
  oz 90 85 false (.conv .u64 (.t 89)),
  oz 91 85 false (.bin .add .int (.t 88) (.t 90)),
  oz 92 85 false (.bin .add .int (.t 91) (.c (.int .u64 1))),
  oz 93 85 false (.bin .neq .int (.t 86) (.t 92)),
  oy 94 (.pick (.t 85) (.c (.bool true)) (.t 93))]
def n3_33 : ICode := .region l3_33
@[simp] def l3_36 : List IOper := [oy 6 (.mv (.c (.bool false)))]
def n3_36 : ICode := .region l3_36
def n3_37 : ICode := .ret
def n3_35 : ICode := .seq n3_36 n3_37
def n3_38 : ICode := .skip
def n3_34 : ICode := .cond (.t 94) n3_35 n3_38
def n3_32 : ICode := .seq n3_33 n3_34
def n3_30 : ICode := .seq n3_31 n3_32
def n3_28 : ICode := .seq n3_29 n3_30
def n3_27 : ICode := .block 1 n3_28
@[simp] def l3_39 : List IOper := [oy 43 (.mv (.t 11)),
  oy 44 (.bin .add .int (.t 43) (.c (.int .i64 1))),
  oy 11 (.mv (.t 44))]
def n3_39 : ICode := .region l3_39
def n3_26 : ICode := .seq n3_27 n3_39
def n3_20 : ICode := .seq n3_21 n3_26
def loop3_0 : ICode := .loop n3_20
def n3_19 : ICode := .block 0 loop3_0
def n3_17 : ICode := .seq n3_18 n3_19
@[simp] def l3_42 : List IOper := [oy 95 (.mv (.t 10)),
  oy 96 (.bin .sub .int (.t 95) (.c (.int .i64 1))),
  oy 17 (.mv (.t 96))]
def n3_42 : ICode := .region l3_42
@[simp] def l3_46 : List IOper := [oy 97 (.mv (.t 17)),
  oy 98 (.bin .geq .int (.t 97) (.c (.int .i64 0)))]
def n3_46 : ICode := .region l3_46
def n3_48 : ICode := .skip
def n3_49 : ICode := .exit 2
def n3_47 : ICode := .cond (.t 98) n3_48 n3_49
def n3_45 : ICode := .seq n3_46 n3_47
@[simp] def l3_53 : List IOper := [oy 102 (.mv (.t 8)),
  oy 103 (.load true 6 (.t 9)),
  oy 104 (.mv (.t 17)),
  oy 105 (.build [(.int .i64 0), (.int .i64 0), (.int .i64 0), (.int .i64 0), (.int .i64 0), (.int .i64 0), (.int .i64 0), (.int .u64 0), (.int .u64 0), (.int .u64 0), (.int .u64 0), (.int .u64 0), (.int .i64 0), (.int .i64 0), (.int .i64 0), (.int .i64 0), (.int .i64 0)] [(0, 1, (.c (.int .i64 2))), (2, 1, (.c (.int .i64 10))), (6, 1, (.t 104))]),
  oy 106 (.call (.c (.func (.func 8) #[] #[])) [(.t 102), (.t 103), (.t 105), (.c (.int .i64 9))] false),
  oy 101 (.mv (.t 106)),
  oy 107 (.extract (.t 101) 0),
  oy 108 (.extract (.t 101) 1),
  oy 18 (.new 30 [(.int .i64 0), (.int .i64 0), (.int .i64 0), (.int .i64 0), (.int .i64 0), (.int .i64 0), (.int .i64 0), (.int .u64 0), (.int .u64 0), (.int .u64 0), (.int .u64 0), (.int .u64 0), (.int .i64 0), (.int .i64 0), (.int .i64 0), (.int .i64 0), (.int .i64 0)]),
  ox (.store 17 (.t 18) (.t 107)),
  oy 19 (.mv (.t 108))]
def n3_53 : ICode := .region l3_53
@[simp] def l3_55 : List IOper := [oy 110 (.mv (.t 8)),
  oy 111 (.load true 6 (.t 9)),
  oy 112 (.call (.c (.func (.func 9) #[] #[])) [(.t 110), (.t 111)] false),
  oy 109 (.mv (.t 112)),
  oy 113 (.extract (.t 109) 0),
  oy 114 (.extract (.t 109) 1),
  oy 115 (.extract (.t 109) 2),
  oy 20 (.mv (.t 113)),
  oy 21 (.mv (.t 114)),
  oy 22 (.mv (.t 115))]
def n3_55 : ICode := .region l3_55
@[simp] def l3_57 : List IOper := [oy 116 (.addOff 3 (.t 18)),
  oy 117 (.load false 1 (.t 116)),
  oy 118 (.bin .neq .int (.t 117) (.c (.int .i64 1))),
  oy 119 (.mv (.t 118)),
  oz 120 119 false (.mv (.t 19)),
  oz 121 119 false (.bin .neq .int (.t 120) (.c (.int .i64 4))),
  oy 122 (.pick (.t 119) (.c (.bool true)) (.t 121)),
  oy 123 (.mv (.t 122)),
  oz 124 123 false (.mv (.t 22)),
  oz 125 123 false (.un .not (.t 124)),
  oy 126 (.pick (.t 123) (.c (.bool true)) (.t 125)),
  oy 127 (.mv (.t 126)),
  oz 128 127 false (.mv (.t 20)),
  oz 129 127 false (.lenS (.t 128)),
  oz 130 127 false (.mv (.t 7)),
  oz 131 127 false (.mv (.t 17)),
  oz 132 127 false (.bin .sub .int (.t 130) (.t 131)),
  oz 133 127 false (.bin .neq .int (.t 129) (.t 132)),
  oy 134 (.pick (.t 127) (.c (.bool true)) (.t 133)),
  oy 135 (.mv (.t 134)),
  oz 136 135 false (.mv (.t 20)),
  oz 137 135 false (.idxS 1 (.t 136) (.c (.int .i64 0))),
  oz 138 135 false (.load false 1 (.t 137)),
  oz 139 135 false (.mv (.t 17)),
  oz 140 135 false (.bin .neq .int (.t 138) (.t 139)),
  oy 141 (.pick (.t 135) (.c (.bool true)) (.t 140))]
def n3_57 : ICode := .region l3_57
@[simp] def l3_60 : List IOper := [oy 6 (.mv (.c (.bool false)))]
def n3_60 : ICode := .region l3_60
def n3_61 : ICode := .ret
def n3_59 : ICode := .seq n3_60 n3_61
def n3_62 : ICode := .skip
def n3_58 : ICode := .cond (.t 141) n3_59 n3_62
def n3_56 : ICode := .seq n3_57 n3_58
def n3_54 : ICode := .seq n3_55 n3_56
def n3_52 : ICode := .seq n3_53 n3_54
def n3_51 : ICode := .block 3 n3_52
@[simp] def l3_63 : List IOper := [oy 99 (.mv (.t 17)),
  oy 100 (.bin .sub .int (.t 99) (.c (.int .i64 1))),
  oy 17 (.mv (.t 100))]
def n3_63 : ICode := .region l3_63
def n3_50 : ICode := .seq n3_51 n3_63
def n3_44 : ICode := .seq n3_45 n3_50
def loop3_1 : ICode := .loop n3_44
def n3_43 : ICode := .block 2 loop3_1
def n3_41 : ICode := .seq n3_42 n3_43
@[simp] def l3_65 : List IOper := [oy 142 (.call (.c (.func (.func 10) #[] #[])) [] false),
  oy 6 (.mv (.t 142))]
def n3_65 : ICode := .region l3_65
def n3_66 : ICode := .ret
def n3_64 : ICode := .seq n3_65 n3_66
def n3_40 : ICode := .seq n3_41 n3_64
def n3_16 : ICode := .seq n3_17 n3_40
def n3_14 : ICode := .seq n3_15 n3_16
def n3_6 : ICode := .seq n3_7 n3_14
def n3_4 : ICode := .seq n3_5 n3_6
def n3_2 : ICode := .seq n3_3 n3_4
def n3_0 : ICode := .seq n3_1 n3_2
theorem b3 : table.find 3 = some ⟨143, n3_0, [.tmp 6]⟩ := by kernel_rfl
@[simp] theorem en3_1 : evCode C n3_1 R S = regK (runOps C l3_1 R S) := ev_plain rfl
@[simp] theorem en3_3 : evCode C n3_3 R S = regK (runOps C l3_3 R S) := ev_plain rfl
@[simp] theorem en3_5 : evCode C n3_5 R S = regK (runOps C l3_5 R S) := ev_plain rfl
@[simp] theorem en3_8 : evCode C n3_8 R S = regK (runOps C l3_8 R S) := ev_plain rfl
@[simp] theorem en3_11 : evCode C n3_11 R S = regK (runOps C l3_11 R S) := ev_plain rfl
@[simp] theorem en3_12 : evCode C n3_12 R S = some (.ret, R, S) := (rfl)
@[simp] theorem en3_10 : evCode C n3_10 R S = seqK (evCode C n3_11 R S) fun R S => evCode C n3_12 R S := ev_seq
@[simp] theorem en3_13 : evCode C n3_13 R S = some (.norm, R, S) := (rfl)
@[simp] theorem en3_9 : evCode C n3_9 R S = condK (IV.ev R (.t 35)) (fun _ => evCode C n3_10 R S) fun _ => evCode C n3_13 R S := ev_cond
@[simp] theorem en3_7 : evCode C n3_7 R S = seqK (evCode C n3_8 R S) fun R S => evCode C n3_9 R S := ev_seq
@[simp] theorem en3_15 : evCode C n3_15 R S = regK (runOps C l3_15 R S) := ev_plain rfl
@[simp] theorem en3_18 : evCode C n3_18 R S = regK (runOps C l3_18 R S) := ev_plain rfl
@[simp] theorem en3_22 : evCode C n3_22 R S = regK (runOps C l3_22 R S) := ev_plain rfl
@[simp] theorem en3_24 : evCode C n3_24 R S = some (.norm, R, S) := (rfl)
@[simp] theorem en3_25 : evCode C n3_25 R S = some (.exit 0, R, S) := (rfl)
@[simp] theorem en3_23 : evCode C n3_23 R S = condK (IV.ev R (.t 42)) (fun _ => evCode C n3_24 R S) fun _ => evCode C n3_25 R S := ev_cond
@[simp] theorem en3_21 : evCode C n3_21 R S = seqK (evCode C n3_22 R S) fun R S => evCode C n3_23 R S := ev_seq
@[simp] theorem en3_29 : evCode C n3_29 R S = regK (runOps C l3_29 R S) := ev_plain rfl
@[simp] theorem en3_31 : evCode C n3_31 R S = regK (runOps C l3_31 R S) := ev_plain rfl
@[simp] theorem en3_33 : evCode C n3_33 R S = regK (runOps C l3_33 R S) := ev_plain rfl
@[simp] theorem en3_36 : evCode C n3_36 R S = regK (runOps C l3_36 R S) := ev_plain rfl
@[simp] theorem en3_37 : evCode C n3_37 R S = some (.ret, R, S) := (rfl)
@[simp] theorem en3_35 : evCode C n3_35 R S = seqK (evCode C n3_36 R S) fun R S => evCode C n3_37 R S := ev_seq
@[simp] theorem en3_38 : evCode C n3_38 R S = some (.norm, R, S) := (rfl)
@[simp] theorem en3_34 : evCode C n3_34 R S = condK (IV.ev R (.t 94)) (fun _ => evCode C n3_35 R S) fun _ => evCode C n3_38 R S := ev_cond
@[simp] theorem en3_32 : evCode C n3_32 R S = seqK (evCode C n3_33 R S) fun R S => evCode C n3_34 R S := ev_seq
@[simp] theorem en3_30 : evCode C n3_30 R S = seqK (evCode C n3_31 R S) fun R S => evCode C n3_32 R S := ev_seq
@[simp] theorem en3_28 : evCode C n3_28 R S = seqK (evCode C n3_29 R S) fun R S => evCode C n3_30 R S := ev_seq
@[simp] theorem en3_27 : evCode C n3_27 R S = blockK 1 (evCode C n3_28 R S) := ev_block
@[simp] theorem en3_39 : evCode C n3_39 R S = regK (runOps C l3_39 R S) := ev_plain rfl
@[simp] theorem en3_26 : evCode C n3_26 R S = seqK (evCode C n3_27 R S) fun R S => evCode C n3_39 R S := ev_seq
@[simp] theorem en3_20 : evCode C n3_20 R S = seqK (evCode C n3_21 R S) fun R S => evCode C n3_26 R S := ev_seq
theorem eloop3_0 : evCode C loop3_0 R S = iter (fun R S => evCode C n3_20 R S) rounds R S := (rfl)
@[simp] theorem en3_19 : evCode C n3_19 R S = blockK 0 (evCode C loop3_0 R S) := ev_block
@[simp] theorem en3_17 : evCode C n3_17 R S = seqK (evCode C n3_18 R S) fun R S => evCode C n3_19 R S := ev_seq
@[simp] theorem en3_42 : evCode C n3_42 R S = regK (runOps C l3_42 R S) := ev_plain rfl
@[simp] theorem en3_46 : evCode C n3_46 R S = regK (runOps C l3_46 R S) := ev_plain rfl
@[simp] theorem en3_48 : evCode C n3_48 R S = some (.norm, R, S) := (rfl)
@[simp] theorem en3_49 : evCode C n3_49 R S = some (.exit 2, R, S) := (rfl)
@[simp] theorem en3_47 : evCode C n3_47 R S = condK (IV.ev R (.t 98)) (fun _ => evCode C n3_48 R S) fun _ => evCode C n3_49 R S := ev_cond
@[simp] theorem en3_45 : evCode C n3_45 R S = seqK (evCode C n3_46 R S) fun R S => evCode C n3_47 R S := ev_seq
@[simp] theorem en3_53 : evCode C n3_53 R S = regK (runOps C l3_53 R S) := ev_plain rfl
@[simp] theorem en3_55 : evCode C n3_55 R S = regK (runOps C l3_55 R S) := ev_plain rfl
@[simp] theorem en3_57 : evCode C n3_57 R S = regK (runOps C l3_57 R S) := ev_plain rfl
@[simp] theorem en3_60 : evCode C n3_60 R S = regK (runOps C l3_60 R S) := ev_plain rfl
@[simp] theorem en3_61 : evCode C n3_61 R S = some (.ret, R, S) := (rfl)
@[simp] theorem en3_59 : evCode C n3_59 R S = seqK (evCode C n3_60 R S) fun R S => evCode C n3_61 R S := ev_seq
@[simp] theorem en3_62 : evCode C n3_62 R S = some (.norm, R, S) := (rfl)
@[simp] theorem en3_58 : evCode C n3_58 R S = condK (IV.ev R (.t 141)) (fun _ => evCode C n3_59 R S) fun _ => evCode C n3_62 R S := ev_cond
@[simp] theorem en3_56 : evCode C n3_56 R S = seqK (evCode C n3_57 R S) fun R S => evCode C n3_58 R S := ev_seq
@[simp] theorem en3_54 : evCode C n3_54 R S = seqK (evCode C n3_55 R S) fun R S => evCode C n3_56 R S := ev_seq
@[simp] theorem en3_52 : evCode C n3_52 R S = seqK (evCode C n3_53 R S) fun R S => evCode C n3_54 R S := ev_seq
@[simp] theorem en3_51 : evCode C n3_51 R S = blockK 3 (evCode C n3_52 R S) := ev_block
@[simp] theorem en3_63 : evCode C n3_63 R S = regK (runOps C l3_63 R S) := ev_plain rfl
@[simp] theorem en3_50 : evCode C n3_50 R S = seqK (evCode C n3_51 R S) fun R S => evCode C n3_63 R S := ev_seq
@[simp] theorem en3_44 : evCode C n3_44 R S = seqK (evCode C n3_45 R S) fun R S => evCode C n3_50 R S := ev_seq
theorem eloop3_1 : evCode C loop3_1 R S = iter (fun R S => evCode C n3_44 R S) rounds R S := (rfl)
@[simp] theorem en3_43 : evCode C n3_43 R S = blockK 2 (evCode C loop3_1 R S) := ev_block
@[simp] theorem en3_41 : evCode C n3_41 R S = seqK (evCode C n3_42 R S) fun R S => evCode C n3_43 R S := ev_seq
@[simp] theorem en3_65 : evCode C n3_65 R S = regK (runOps C l3_65 R S) := ev_plain rfl
@[simp] theorem en3_66 : evCode C n3_66 R S = some (.ret, R, S) := (rfl)
@[simp] theorem en3_64 : evCode C n3_64 R S = seqK (evCode C n3_65 R S) fun R S => evCode C n3_66 R S := ev_seq
@[simp] theorem en3_40 : evCode C n3_40 R S = seqK (evCode C n3_41 R S) fun R S => evCode C n3_64 R S := ev_seq
@[simp] theorem en3_16 : evCode C n3_16 R S = seqK (evCode C n3_17 R S) fun R S => evCode C n3_40 R S := ev_seq
@[simp] theorem en3_14 : evCode C n3_14 R S = seqK (evCode C n3_15 R S) fun R S => evCode C n3_16 R S := ev_seq
@[simp] theorem en3_6 : evCode C n3_6 R S = seqK (evCode C n3_7 R S) fun R S => evCode C n3_14 R S := ev_seq
@[simp] theorem en3_4 : evCode C n3_4 R S = seqK (evCode C n3_5 R S) fun R S => evCode C n3_6 R S := ev_seq
@[simp] theorem en3_2 : evCode C n3_2 R S = seqK (evCode C n3_3 R S) fun R S => evCode C n3_4 R S := ev_seq
@[simp] theorem en3_0 : evCode C n3_0 R S = seqK (evCode C n3_1 R S) fun R S => evCode C n3_2 R S := ev_seq
theorem q3 {n : Nat} {args : List Value} {S : St} : calls table.find (n + 1) 3 args S = endK S [.tmp 6] (evCode (calls table.find n) n3_0 (args ++ List.replicate (143 - args.length) undef) S.enter) := call_enter b3

/-! wainscot/wainscotlaw22.FastApart -/
@[simp] def l4_1 : List IOper := [oy 6 (.mv (.c (.bool false)))]
def n4_1 : ICode := .region l4_1
@[simp] def l4_3 : List IOper := [oy 23 (.mv (.t 0)),
  oy 24 (.call (.c (.func (.func 6) #[] #[])) [(.t 23), (.c (.int .i64 9))] true),
  oy 7 (.mv (.t 24))]
def n4_3 : ICode := .region l4_3
@[simp] def l4_5 : List IOper := [oy 26 (.mv (.t 7)),
  oy 27 (.mv (.t 0)),
  oy 28 (.conv .u64 (.t 27)),
  oy 29 (.bin .mul .int (.t 28) (.c (.int .u64 77))),
  oy 30 (.call (.c (.func (.func 7) #[] #[])) [(.t 26), (.c (.int .i64 10)), (.t 29), (.c (.int .u64 3))] false),
  oy 25 (.mv (.t 30)),
  oy 31 (.extract (.t 25) 0),
  oy 32 (.extract (.t 25) 1),
  oy 9 (.new 26 [(.int .i64 0), (.int .i64 0), (.int .i64 0), (.int .i64 0), (.int .i64 0), (.int .u64 0)]),
  oy 8 (.mv (.t 31)),
  ox (.store 6 (.t 9) (.t 32))]
def n4_5 : ICode := .region l4_5
@[simp] def l4_8 : List IOper := [oy 33 (.mv (.t 8)),
  oy 34 (.bin .eql .ptr (.t 33) (.c (.pointer none)))]
def n4_8 : ICode := .region l4_8
@[simp] def l4_11 : List IOper := [oy 6 (.mv (.c (.bool false)))]
def n4_11 : ICode := .region l4_11
def n4_12 : ICode := .ret
def n4_10 : ICode := .seq n4_11 n4_12
def n4_13 : ICode := .skip
def n4_9 : ICode := .cond (.t 34) n4_10 n4_13
def n4_7 : ICode := .seq n4_8 n4_9
@[simp] def l4_15 : List IOper := [oy 35 (.build [(.int .i64 0), (.int .i64 0), (.int .i64 0), (.int .i64 0), (.int .i64 0), (.int .i64 0), (.int .i64 0), (.int .u64 0), (.int .u64 0), (.int .u64 0), (.int .u64 0), (.int .u64 0), (.int .i64 0), (.int .i64 0), (.int .i64 0), (.int .i64 0), (.int .i64 0)] [(0, 1, (.c (.int .i64 1)))]),
  oy 36 (.build [(.int .i64 0), (.int .i64 0), (.int .i64 0), (.int .i64 0), (.int .i64 0), (.int .i64 0), (.int .i64 0), (.int .u64 0), (.int .u64 0), (.int .u64 0), (.int .u64 0), (.int .u64 0), (.int .i64 0), (.int .i64 0), (.int .i64 0), (.int .i64 0), (.int .i64 0)] [(0, 1, (.c (.int .i64 1)))]),
  oy 37 (.build [(.int .i64 0), (.int .i64 0), (.int .i64 0), (.int .i64 0), (.int .i64 0), (.int .i64 0), (.int .i64 0), (.int .u64 0), (.int .u64 0), (.int .u64 0), (.int .u64 0), (.int .u64 0), (.int .i64 0), (.int .i64 0), (.int .i64 0), (.int .i64 0), (.int .i64 0), (.int .i64 0), (.int .i64 0), (.int .i64 0), (.int .i64 0), (.int .i64 0), (.int .i64 0), (.int .i64 0), (.int .u64 0), (.int .u64 0), (.int .u64 0), (.int .u64 0), (.int .u64 0), (.int .i64 0), (.int .i64 0), (.int .i64 0), (.int .i64 0), (.int .i64 0)] [(0, 17, (.t 35)), (17, 17, (.t 36))]),
  oy 10 (.new 39 [(.int .i64 0), (.int .i64 0), (.int .i64 0), (.int .i64 0), (.int .i64 0), (.int .i64 0), (.int .i64 0), (.int .u64 0), (.int .u64 0), (.int .u64 0), (.int .u64 0), (.int .u64 0), (.int .i64 0), (.int .i64 0), (.int .i64 0), (.int .i64 0), (.int .i64 0), (.int .i64 0), (.int .i64 0), (.int .i64 0), (.int .i64 0), (.int .i64 0), (.int .i64 0), (.int .i64 0), (.int .u64 0), (.int .u64 0), (.int .u64 0), (.int .u64 0), (.int .u64 0), (.int .i64 0), (.int .i64 0), (.int .i64 0), (.int .i64 0), (.int .i64 0)]),
  ox (.store 34 (.t 10) (.t 37))]
def n4_15 : ICode := .region l4_15
@[simp] def l4_18 : List IOper := [oy 38 (.mv (.t 1))]
def n4_18 : ICode := .region l4_18
@[simp] def l4_20 : List IOper := [oy 39 (.build [(.int .i64 0), (.int .i64 0), (.int .i64 0), (.int .i64 0), (.int .i64 0), (.int .i64 0), (.int .i64 0), (.int .u64 0), (.int .u64 0), (.int .u64 0), (.int .u64 0), (.int .u64 0), (.int .i64 0), (.int .i64 0), (.int .i64 0), (.int .i64 0), (.int .i64 0)] [(0, 1, (.c (.int .i64 2))), (2, 1, (.c (.int .i64 10))), (6, 1, (.c (.int .i64 9)))]),
  oy 40 (.idxA 2 17 (.t 10) (.c (.int .i64 1))),
  ox (.store 17 (.t 40) (.t 39))]
def n4_20 : ICode := .region l4_20
def n4_21 : ICode := .skip
def n4_19 : ICode := .cond (.t 38) n4_20 n4_21
def n4_17 : ICode := .seq n4_18 n4_19
@[simp] def l4_24 : List IOper := [oy 11 (.mv (.c (.int .i64 0)))]
def n4_24 : ICode := .region l4_24
@[simp] def l4_28 : List IOper := [oy 41 (.mv (.t 11)),
  oy 42 (.bin .lss .int (.t 41) (.c (.int .i64 60)))]
def n4_28 : ICode := .region l4_28
def n4_30 : ICode := .skip
def n4_31 : ICode := .exit 0
def n4_29 : ICode := .cond (.t 42) n4_30 n4_31
def n4_27 : ICode := .seq n4_28 n4_29
@[simp] def l4_35 : List IOper := [oy 12 (.mv (.c (.int .i64 0)))]
def n4_35 : ICode := .region l4_35
@[simp] def l4_38 : List IOper := [oy 45 (.mv (.t 11)),
  oy 46 (.bin .lss .int (.t 45) (.c (.int .i64 28))),
  oy 47 (.mv (.t 46)),
  oz 48 47 true (.mv (.t 11)),
  oz 49 47 true (.mv (.t 2)),
  oz 50 47 true (.lenS (.t 49)),
  oz 51 47 true (.bin .lss .int (.t 48) (.t 50)),
  oy 52 (.pick (.t 47) (.t 51) (.c (.bool false))),
  oy 53 (.mv (.t 52)),
  oz 54 53 true (.mv (.t 2)),
  oz 55 53 true (.mv (.t 11)),
  oz 56 53 true (.idxS 1 (.t 54) (.t 55)),
  oz 57 53 true (.load false 1 (.t 56)),
  oy 58 (.pick (.t 53) (.t 57) (.c (.bool false))),
  oy 59 (.mv (.t 58)),
  oz 60 59 false (.mv (.t 11)),
  oz 61 59 false (.bin .geq .int (.t 60) (.c (.int .i64 28))),
  oz 62 59 false (.mv (.t 61)),
  oz 63 62 false (.mv (.t 11)),
  oz 64 62 false (.mv (.t 2)),
  oz 65 62 false (.lenS (.t 64)),
  oz 66 62 false (.bin .geq .int (.t 63) (.t 65)),
  oz 67 59 false (.pick (.t 62) (.c (.bool true)) (.t 66)),
  oz 68 59 false (.mv (.t 67)),
  oz 69 68 true (.mv (.t 11)),
  oz 70 68 true (.bin .rem .int (.t 69) (.c (.int .i64 2))),
  oz 71 68 true (.bin .eql .int (.t 70) (.c (.int .i64 1))),
  oz 72 59 false (.pick (.t 68) (.t 71) (.c (.bool false))),
  oy 73 (.pick (.t 59) (.c (.bool true)) (.t 72))]
def n4_38 : ICode := .region l4_38
@[simp] def l4_40 : List IOper := [oy 12 (.mv (.c (.int .i64 1)))]
def n4_40 : ICode := .region l4_40
def n4_41 : ICode := .skip
def n4_39 : ICode := .cond (.t 73) n4_40 n4_41
def n4_37 : ICode := .seq n4_38 n4_39
@[simp] def l4_43 : List IOper := [oy 75 (.mv (.t 8)),
  oy 76 (.load true 6 (.t 9)),
  oy 77 (.mv (.t 12)),
  oy 78 (.idxA 2 17 (.t 10) (.t 77)),
  oy 79 (.load true 17 (.t 78)),
  oy 80 (.call (.c (.func (.func 11) #[] #[])) [(.t 75), (.t 76), (.t 79)] false),
  oy 74 (.mv (.t 80)),
  oy 81 (.extract (.t 74) 0),
  oy 82 (.extract (.t 74) 1),
  oy 13 (.new 30 [(.int .i64 0), (.int .i64 0), (.int .i64 0), (.int .i64 0), (.int .i64 0), (.int .i64 0), (.int .i64 0), (.int .u64 0), (.int .u64 0), (.int .u64 0), (.int .u64 0), (.int .u64 0), (.int .i64 0), (.int .i64 0), (.int .i64 0), (.int .i64 0), (.int .i64 0)]),
  ox (.store 17 (.t 13) (.t 81)),
  oy 14 (.mv (.t 82))]
def n4_43 : ICode := .region l4_43
@[simp] def l4_45 : List IOper := [oy 83 (.mv (.t 14)),
  oy 84 (.bin .eql .int (.t 83) (.c (.int .i64 0)))]
def n4_45 : ICode := .region l4_45
@[simp] def l4_47 : List IOper := [oy 85 (.mv (.t 12)),
  oy 86 (.load true 17 (.t 13)),
  oy 87 (.idxA 2 17 (.t 10) (.t 85)),
  ox (.store 17 (.t 87) (.t 86))]
def n4_47 : ICode := .region l4_47
def n4_48 : ICode := .skip
def n4_46 : ICode := .cond (.t 84) n4_47 n4_48
def n4_44 : ICode := .seq n4_45 n4_46
def n4_42 : ICode := .seq n4_43 n4_44
def n4_36 : ICode := .seq n4_37 n4_42
def n4_34 : ICode := .seq n4_35 n4_36
def n4_33 : ICode := .block 1 n4_34
@[simp] def l4_49 : List IOper := [oy 43 (.mv (.t 11)),
  oy 44 (.bin .add .int (.t 43) (.c (.int .i64 1))),
  oy 11 (.mv (.t 44))]
def n4_49 : ICode := .region l4_49
def n4_32 : ICode := .seq n4_33 n4_49
def n4_26 : ICode := .seq n4_27 n4_32
def loop4_0 : ICode := .loop n4_26
def n4_25 : ICode := .block 0 loop4_0
def n4_23 : ICode := .seq n4_24 n4_25
@[simp] def l4_51 : List IOper := [oy 89 (.mv (.t 8)),
  oy 90 (.load true 6 (.t 9)),
  oy 91 (.call (.c (.func (.func 9) #[] #[])) [(.t 89), (.t 90)] false),
  oy 88 (.mv (.t 91)),
  oy 92 (.extract (.t 88) 0),
  oy 93 (.extract (.t 88) 1),
  oy 94 (.extract (.t 88) 2),
  oy 15 (.mv (.t 92)),
  oy 16 (.mv (.t 93)),
  oy 17 (.mv (.t 94))]
def n4_51 : ICode := .region l4_51
@[simp] def l4_54 : List IOper := [oy 95 (.mv (.t 17)),
  oy 96 (.un .not (.t 95))]
def n4_54 : ICode := .region l4_54
@[simp] def l4_57 : List IOper := [oy 6 (.mv (.c (.bool false)))]
def n4_57 : ICode := .region l4_57
def n4_58 : ICode := .ret
def n4_56 : ICode := .seq n4_57 n4_58
def n4_59 : ICode := .skip
def n4_55 : ICode := .cond (.t 96) n4_56 n4_59
def n4_53 : ICode := .seq n4_54 n4_55
@[simp] def l4_61 : List IOper := [oy 18 (.new 43 [(.int .i64 0), (.int .i64 0), (.int .i64 0), (.int .i64 0), (.int .i64 0), (.int .i64 0), (.int .i64 0), (.int .i64 0), (.int .i64 0), (.int .i64 0)])]
def n4_61 : ICode := .region l4_61
@[simp] def l4_64 : List IOper := [oy 19 (.mv (.c (.int .i64 0)))]
def n4_64 : ICode := .region l4_64
@[simp] def l4_68 : List IOper := [oy 97 (.mv (.t 19)),
  oy 98 (.mv (.t 15)),
  oy 99 (.lenS (.t 98)),
  oy 100 (.bin .lss .int (.t 97) (.t 99))]
def n4_68 : ICode := .region l4_68
def n4_70 : ICode := .skip
def n4_71 : ICode := .exit 2
def n4_69 : ICode := .cond (.t 100) n4_70 n4_71
def n4_67 : ICode := .seq n4_68 n4_69
@[simp] def l4_74 : List IOper := [oy 103 (.mv (.t 15)),
  oy 104 (.mv (.t 19)),
  oy 105 (.idxS 1 (.t 103) (.t 104)),
  oy 106 (.load false 1 (.t 105)),
  oy 107 (.call (.c (.func (.func 6) #[] #[])) [(.t 106), (.c (.int .i64 10))] true),
  oy 108 (.idxA 10 1 (.t 18) (.t 107)),
  oy 109 (.load false 1 (.t 108)),
  oy 110 (.bin .add .int (.t 109) (.c (.int .i64 1))),
  oy 111 (.idxA 10 1 (.t 18) (.t 107)),
  ox (.store 1 (.t 111) (.t 110))]
def n4_74 : ICode := .region l4_74
def n4_73 : ICode := .block 3 n4_74
@[simp] def l4_75 : List IOper := [oy 101 (.mv (.t 19)),
  oy 102 (.bin .add .int (.t 101) (.c (.int .i64 1))),
  oy 19 (.mv (.t 102))]
def n4_75 : ICode := .region l4_75
def n4_72 : ICode := .seq n4_73 n4_75
def n4_66 : ICode := .seq n4_67 n4_72
def loop4_1 : ICode := .loop n4_66
def n4_65 : ICode := .block 2 loop4_1
def n4_63 : ICode := .seq n4_64 n4_65
@[simp] def l4_78 : List IOper := [oy 20 (.mv (.c (.int .i64 0)))]
def n4_78 : ICode := .region l4_78
@[simp] def l4_82 : List IOper := [oy 112 (.mv (.t 20)),
  oy 113 (.bin .lss .int (.t 112) (.c (.int .i64 2)))]
def n4_82 : ICode := .region l4_82
def n4_84 : ICode := .skip
def n4_85 : ICode := .exit 4
def n4_83 : ICode := .cond (.t 113) n4_84 n4_85
def n4_81 : ICode := .seq n4_82 n4_83
@[simp] def l4_90 : List IOper := [oy 116 (.mv (.t 20)),
  oy 117 (.idxA 2 17 (.t 10) (.t 116)),
  oy 118 (.addOff 3 (.t 117)),
  oy 119 (.load false 1 (.t 118)),
  oy 120 (.bin .eql .int (.t 119) (.c (.int .i64 1))),
  oy 121 (.mv (.t 120)),
  oz 122 121 true (.mv (.t 20)),
  oz 123 121 true (.idxA 2 17 (.t 10) (.t 122)),
  oz 124 121 true (.addOff 0 (.t 123)),
  oz 125 121 true (.load false 1 (.t 124)),
  oz 126 121 true (.bin .eql .int (.t 125) (.c (.int .i64 1))),
  oy 127 (.pick (.t 121) (.t 126) (.c (.bool false)))]
def n4_90 : ICode := .region l4_90
@[simp] def l4_92 : List IOper := [oy 128 (.mv (.t 20)),
  oy 129 (.idxA 2 17 (.t 10) (.t 128)),
  oy 130 (.addOff 6 (.t 129)),
  oy 131 (.load false 1 (.t 130)),
  oy 132 (.call (.c (.func (.func 6) #[] #[])) [(.t 131), (.c (.int .i64 10))] true),
  oy 133 (.idxA 10 1 (.t 18) (.t 132)),
  oy 134 (.load false 1 (.t 133)),
  oy 135 (.bin .add .int (.t 134) (.c (.int .i64 1))),
  oy 136 (.idxA 10 1 (.t 18) (.t 132)),
  ox (.store 1 (.t 136) (.t 135))]
def n4_92 : ICode := .region l4_92
def n4_93 : ICode := .skip
def n4_91 : ICode := .cond (.t 127) n4_92 n4_93
def n4_89 : ICode := .seq n4_90 n4_91
@[simp] def l4_95 : List IOper := [oy 137 (.mv (.t 20)),
  oy 138 (.idxA 2 17 (.t 10) (.t 137)),
  oy 139 (.addOff 3 (.t 138)),
  oy 140 (.load false 1 (.t 139)),
  oy 141 (.bin .neq .int (.t 140) (.c (.int .i64 1))),
  oy 142 (.mv (.t 141)),
  oz 143 142 true (.mv (.t 20)),
  oz 144 142 true (.idxA 2 17 (.t 10) (.t 143)),
  oz 145 142 true (.addOff 2 (.t 144)),
  oz 146 142 true (.load false 1 (.t 145)),
  oz 147 142 true (.bin .neq .int (.t 146) (.c (.int .i64 20))),
  oy 148 (.pick (.t 142) (.t 147) (.c (.bool false)))]
def n4_95 : ICode := .region l4_95
@[simp] def l4_98 : List IOper := [oy 6 (.mv (.c (.bool false)))]
def n4_98 : ICode := .region l4_98
def n4_99 : ICode := .ret
def n4_97 : ICode := .seq n4_98 n4_99
def n4_100 : ICode := .skip
def n4_96 : ICode := .cond (.t 148) n4_97 n4_100
def n4_94 : ICode := .seq n4_95 n4_96
def n4_88 : ICode := .seq n4_89 n4_94
def n4_87 : ICode := .block 5 n4_88
@[simp] def l4_101 : List IOper := [oy 114 (.mv (.t 20)),
  oy 115 (.bin .add .int (.t 114) (.c (.int .i64 1))),
  oy 20 (.mv (.t 115))]
def n4_101 : ICode := .region l4_101
def n4_86 : ICode := .seq n4_87 n4_101
def n4_80 : ICode := .seq n4_81 n4_86
def loop4_2 : ICode := .loop n4_80
def n4_79 : ICode := .block 4 loop4_2
def n4_77 : ICode := .seq n4_78 n4_79
@[simp] def l4_104 : List IOper := [oy 21 (.mv (.c (.int .i64 0)))]
def n4_104 : ICode := .region l4_104
@[simp] def l4_108 : List IOper := [oy 149 (.mv (.t 21)),
  oy 150 (.bin .lss .int (.t 149) (.c (.int .i64 10)))]
def n4_108 : ICode := .region l4_108
def n4_110 : ICode := .skip
def n4_111 : ICode := .exit 6
def n4_109 : ICode := .cond (.t 150) n4_110 n4_111
def n4_107 : ICode := .seq n4_108 n4_109
@[simp] def l4_115 : List IOper := [oy 22 (.mv (.c (.int .i64 0)))]
def n4_115 : ICode := .region l4_115
@[simp] def l4_118 : List IOper := [oy 153 (.mv (.t 21)),
  oy 154 (.mv (.t 7)),
  oy 155 (.bin .lss .int (.t 153) (.t 154)),
  oy 156 (.mv (.t 155)),
  oz 157 156 false (.mv (.t 21)),
  oz 158 156 false (.bin .eql .int (.t 157) (.c (.int .i64 9))),
  oz 159 156 false (.mv (.t 158)),
  oz 160 159 true (.mv (.t 1)),
  oz 161 156 false (.pick (.t 159) (.t 160) (.c (.bool false))),
  oy 162 (.pick (.t 156) (.c (.bool true)) (.t 161))]
def n4_118 : ICode := .region l4_118
@[simp] def l4_120 : List IOper := [oy 22 (.mv (.c (.int .i64 1)))]
def n4_120 : ICode := .region l4_120
def n4_121 : ICode := .skip
def n4_119 : ICode := .cond (.t 162) n4_120 n4_121
def n4_117 : ICode := .seq n4_118 n4_119
@[simp] def l4_123 : List IOper := [oy 163 (.mv (.t 21)),
  oy 164 (.idxA 10 1 (.t 18) (.t 163)),
  oy 165 (.load false 1 (.t 164)),
  oy 166 (.mv (.t 22)),
  oy 167 (.bin .neq .int (.t 165) (.t 166))]
def n4_123 : ICode := .region l4_123
@[simp] def l4_126 : List IOper := [oy 6 (.mv (.c (.bool false)))]
def n4_126 : ICode := .region l4_126
def n4_127 : ICode := .ret
def n4_125 : ICode := .seq n4_126 n4_127
def n4_128 : ICode := .skip
def n4_124 : ICode := .cond (.t 167) n4_125 n4_128
def n4_122 : ICode := .seq n4_123 n4_124
def n4_116 : ICode := .seq n4_117 n4_122
def n4_114 : ICode := .seq n4_115 n4_116
def n4_113 : ICode := .block 7 n4_114
@[simp] def l4_129 : List IOper := [oy 151 (.mv (.t 21)),
  oy 152 (.bin .add .int (.t 151) (.c (.int .i64 1))),
  oy 21 (.mv (.t 152))]
def n4_129 : ICode := .region l4_129
def n4_112 : ICode := .seq n4_113 n4_129
def n4_106 : ICode := .seq n4_107 n4_112
def loop4_3 : ICode := .loop n4_106
def n4_105 : ICode := .block 6 loop4_3
def n4_103 : ICode := .seq n4_104 n4_105
@[simp] def l4_131 : List IOper := [oy 168 (.call (.c (.func (.func 10) #[] #[])) [] false),
  oy 6 (.mv (.t 168))]
def n4_131 : ICode := .region l4_131
def n4_132 : ICode := .ret
def n4_130 : ICode := .seq n4_131 n4_132
def n4_102 : ICode := .seq n4_103 n4_130
def n4_76 : ICode := .seq n4_77 n4_102
def n4_62 : ICode := .seq n4_63 n4_76
def n4_60 : ICode := .seq n4_61 n4_62
def n4_52 : ICode := .seq n4_53 n4_60
def n4_50 : ICode := .seq n4_51 n4_52
def n4_22 : ICode := .seq n4_23 n4_50
def n4_16 : ICode := .seq n4_17 n4_22
def n4_14 : ICode := .seq n4_15 n4_16
def n4_6 : ICode := .seq n4_7 n4_14
def n4_4 : ICode := .seq n4_5 n4_6
def n4_2 : ICode := .seq n4_3 n4_4
def n4_0 : ICode := .seq n4_1 n4_2
theorem b4 : table.find 4 = some ⟨169, n4_0, [.tmp 6]⟩ := by kernel_rfl
@[simp] theorem en4_1 : evCode C n4_1 R S = regK (runOps C l4_1 R S) := ev_plain rfl
@[simp] theorem en4_3 : evCode C n4_3 R S = regK (runOps C l4_3 R S) := ev_plain rfl
@[simp] theorem en4_5 : evCode C n4_5 R S = regK (runOps C l4_5 R S) := ev_plain rfl
@[simp] theorem en4_8 : evCode C n4_8 R S = regK (runOps C l4_8 R S) := ev_plain rfl
@[simp] theorem en4_11 : evCode C n4_11 R S = regK (runOps C l4_11 R S) := ev_plain rfl
@[simp] theorem en4_12 : evCode C n4_12 R S = some (.ret, R, S) := (rfl)
@[simp] theorem en4_10 : evCode C n4_10 R S = seqK (evCode C n4_11 R S) fun R S => evCode C n4_12 R S := ev_seq
@[simp] theorem en4_13 : evCode C n4_13 R S = some (.norm, R, S) := (rfl)
@[simp] theorem en4_9 : evCode C n4_9 R S = condK (IV.ev R (.t 34)) (fun _ => evCode C n4_10 R S) fun _ => evCode C n4_13 R S := ev_cond
@[simp] theorem en4_7 : evCode C n4_7 R S = seqK (evCode C n4_8 R S) fun R S => evCode C n4_9 R S := ev_seq
@[simp] theorem en4_15 : evCode C n4_15 R S = regK (runOps C l4_15 R S) := ev_plain rfl
@[simp] theorem en4_18 : evCode C n4_18 R S = regK (runOps C l4_18 R S) := ev_plain rfl
@[simp] theorem en4_20 : evCode C n4_20 R S = regK (runOps C l4_20 R S) := ev_plain rfl
@[simp] theorem en4_21 : evCode C n4_21 R S = some (.norm, R, S) := (rfl)
@[simp] theorem en4_19 : evCode C n4_19 R S = condK (IV.ev R (.t 38)) (fun _ => evCode C n4_20 R S) fun _ => evCode C n4_21 R S := ev_cond
@[simp] theorem en4_17 : evCode C n4_17 R S = seqK (evCode C n4_18 R S) fun R S => evCode C n4_19 R S := ev_seq
@[simp] theorem en4_24 : evCode C n4_24 R S = regK (runOps C l4_24 R S) := ev_plain rfl
@[simp] theorem en4_28 : evCode C n4_28 R S = regK (runOps C l4_28 R S) := ev_plain rfl
@[simp] theorem en4_30 : evCode C n4_30 R S = some (.norm, R, S) := (rfl)
@[simp] theorem en4_31 : evCode C n4_31 R S = some (.exit 0, R, S) := (rfl)
@[simp] theorem en4_29 : evCode C n4_29 R S = condK (IV.ev R (.t 42)) (fun _ => evCode C n4_30 R S) fun _ => evCode C n4_31 R S := ev_cond
@[simp] theorem en4_27 : evCode C n4_27 R S = seqK (evCode C n4_28 R S) fun R S => evCode C n4_29 R S := ev_seq
@[simp] theorem en4_35 : evCode C n4_35 R S = regK (runOps C l4_35 R S) := ev_plain rfl
@[simp] theorem en4_38 : evCode C n4_38 R S = regK (runOps C l4_38 R S) := ev_plain rfl
@[simp] theorem en4_40 : evCode C n4_40 R S = regK (runOps C l4_40 R S) := ev_plain rfl
@[simp] theorem en4_41 : evCode C n4_41 R S = some (.norm, R, S) := (rfl)
@[simp] theorem en4_39 : evCode C n4_39 R S = condK (IV.ev R (.t 73)) (fun _ => evCode C n4_40 R S) fun _ => evCode C n4_41 R S := ev_cond
@[simp] theorem en4_37 : evCode C n4_37 R S = seqK (evCode C n4_38 R S) fun R S => evCode C n4_39 R S := ev_seq
@[simp] theorem en4_43 : evCode C n4_43 R S = regK (runOps C l4_43 R S) := ev_plain rfl
@[simp] theorem en4_45 : evCode C n4_45 R S = regK (runOps C l4_45 R S) := ev_plain rfl
@[simp] theorem en4_47 : evCode C n4_47 R S = regK (runOps C l4_47 R S) := ev_plain rfl
@[simp] theorem en4_48 : evCode C n4_48 R S = some (.norm, R, S) := (rfl)
@[simp] theorem en4_46 : evCode C n4_46 R S = condK (IV.ev R (.t 84)) (fun _ => evCode C n4_47 R S) fun _ => evCode C n4_48 R S := ev_cond
@[simp] theorem en4_44 : evCode C n4_44 R S = seqK (evCode C n4_45 R S) fun R S => evCode C n4_46 R S := ev_seq
@[simp] theorem en4_42 : evCode C n4_42 R S = seqK (evCode C n4_43 R S) fun R S => evCode C n4_44 R S := ev_seq
@[simp] theorem en4_36 : evCode C n4_36 R S = seqK (evCode C n4_37 R S) fun R S => evCode C n4_42 R S := ev_seq
@[simp] theorem en4_34 : evCode C n4_34 R S = seqK (evCode C n4_35 R S) fun R S => evCode C n4_36 R S := ev_seq
@[simp] theorem en4_33 : evCode C n4_33 R S = blockK 1 (evCode C n4_34 R S) := ev_block
@[simp] theorem en4_49 : evCode C n4_49 R S = regK (runOps C l4_49 R S) := ev_plain rfl
@[simp] theorem en4_32 : evCode C n4_32 R S = seqK (evCode C n4_33 R S) fun R S => evCode C n4_49 R S := ev_seq
@[simp] theorem en4_26 : evCode C n4_26 R S = seqK (evCode C n4_27 R S) fun R S => evCode C n4_32 R S := ev_seq
theorem eloop4_0 : evCode C loop4_0 R S = iter (fun R S => evCode C n4_26 R S) rounds R S := (rfl)
@[simp] theorem en4_25 : evCode C n4_25 R S = blockK 0 (evCode C loop4_0 R S) := ev_block
@[simp] theorem en4_23 : evCode C n4_23 R S = seqK (evCode C n4_24 R S) fun R S => evCode C n4_25 R S := ev_seq
@[simp] theorem en4_51 : evCode C n4_51 R S = regK (runOps C l4_51 R S) := ev_plain rfl
@[simp] theorem en4_54 : evCode C n4_54 R S = regK (runOps C l4_54 R S) := ev_plain rfl
@[simp] theorem en4_57 : evCode C n4_57 R S = regK (runOps C l4_57 R S) := ev_plain rfl
@[simp] theorem en4_58 : evCode C n4_58 R S = some (.ret, R, S) := (rfl)
@[simp] theorem en4_56 : evCode C n4_56 R S = seqK (evCode C n4_57 R S) fun R S => evCode C n4_58 R S := ev_seq
@[simp] theorem en4_59 : evCode C n4_59 R S = some (.norm, R, S) := (rfl)
@[simp] theorem en4_55 : evCode C n4_55 R S = condK (IV.ev R (.t 96)) (fun _ => evCode C n4_56 R S) fun _ => evCode C n4_59 R S := ev_cond
@[simp] theorem en4_53 : evCode C n4_53 R S = seqK (evCode C n4_54 R S) fun R S => evCode C n4_55 R S := ev_seq
@[simp] theorem en4_61 : evCode C n4_61 R S = regK (runOps C l4_61 R S) := ev_plain rfl
@[simp] theorem en4_64 : evCode C n4_64 R S = regK (runOps C l4_64 R S) := ev_plain rfl
@[simp] theorem en4_68 : evCode C n4_68 R S = regK (runOps C l4_68 R S) := ev_plain rfl
@[simp] theorem en4_70 : evCode C n4_70 R S = some (.norm, R, S) := (rfl)
@[simp] theorem en4_71 : evCode C n4_71 R S = some (.exit 2, R, S) := (rfl)
@[simp] theorem en4_69 : evCode C n4_69 R S = condK (IV.ev R (.t 100)) (fun _ => evCode C n4_70 R S) fun _ => evCode C n4_71 R S := ev_cond
@[simp] theorem en4_67 : evCode C n4_67 R S = seqK (evCode C n4_68 R S) fun R S => evCode C n4_69 R S := ev_seq
@[simp] theorem en4_74 : evCode C n4_74 R S = regK (runOps C l4_74 R S) := ev_plain rfl
@[simp] theorem en4_73 : evCode C n4_73 R S = blockK 3 (evCode C n4_74 R S) := ev_block
@[simp] theorem en4_75 : evCode C n4_75 R S = regK (runOps C l4_75 R S) := ev_plain rfl
@[simp] theorem en4_72 : evCode C n4_72 R S = seqK (evCode C n4_73 R S) fun R S => evCode C n4_75 R S := ev_seq
@[simp] theorem en4_66 : evCode C n4_66 R S = seqK (evCode C n4_67 R S) fun R S => evCode C n4_72 R S := ev_seq
theorem eloop4_1 : evCode C loop4_1 R S = iter (fun R S => evCode C n4_66 R S) rounds R S := (rfl)
@[simp] theorem en4_65 : evCode C n4_65 R S = blockK 2 (evCode C loop4_1 R S) := ev_block
@[simp] theorem en4_63 : evCode C n4_63 R S = seqK (evCode C n4_64 R S) fun R S => evCode C n4_65 R S := ev_seq
@[simp] theorem en4_78 : evCode C n4_78 R S = regK (runOps C l4_78 R S) := ev_plain rfl
@[simp] theorem en4_82 : evCode C n4_82 R S = regK (runOps C l4_82 R S) := ev_plain rfl
@[simp] theorem en4_84 : evCode C n4_84 R S = some (.norm, R, S) := (rfl)
@[simp] theorem en4_85 : evCode C n4_85 R S = some (.exit 4, R, S) := (rfl)
@[simp] theorem en4_83 : evCode C n4_83 R S = condK (IV.ev R (.t 113)) (fun _ => evCode C n4_84 R S) fun _ => evCode C n4_85 R S := ev_cond
@[simp] theorem en4_81 : evCode C n4_81 R S = seqK (evCode C n4_82 R S) fun R S => evCode C n4_83 R S := ev_seq
@[simp] theorem en4_90 : evCode C n4_90 R S = regK (runOps C l4_90 R S) := ev_plain rfl
@[simp] theorem en4_92 : evCode C n4_92 R S = regK (runOps C l4_92 R S) := ev_plain rfl
@[simp] theorem en4_93 : evCode C n4_93 R S = some (.norm, R, S) := (rfl)
@[simp] theorem en4_91 : evCode C n4_91 R S = condK (IV.ev R (.t 127)) (fun _ => evCode C n4_92 R S) fun _ => evCode C n4_93 R S := ev_cond
@[simp] theorem en4_89 : evCode C n4_89 R S = seqK (evCode C n4_90 R S) fun R S => evCode C n4_91 R S := ev_seq
@[simp] theorem en4_95 : evCode C n4_95 R S = regK (runOps C l4_95 R S) := ev_plain rfl
@[simp] theorem en4_98 : evCode C n4_98 R S = regK (runOps C l4_98 R S) := ev_plain rfl
@[simp] theorem en4_99 : evCode C n4_99 R S = some (.ret, R, S) := (rfl)
@[simp] theorem en4_97 : evCode C n4_97 R S = seqK (evCode C n4_98 R S) fun R S => evCode C n4_99 R S := ev_seq
@[simp] theorem en4_100 : evCode C n4_100 R S = some (.norm, R, S) := (rfl)
@[simp] theorem en4_96 : evCode C n4_96 R S = condK (IV.ev R (.t 148)) (fun _ => evCode C n4_97 R S) fun _ => evCode C n4_100 R S := ev_cond
@[simp] theorem en4_94 : evCode C n4_94 R S = seqK (evCode C n4_95 R S) fun R S => evCode C n4_96 R S := ev_seq
@[simp] theorem en4_88 : evCode C n4_88 R S = seqK (evCode C n4_89 R S) fun R S => evCode C n4_94 R S := ev_seq
@[simp] theorem en4_87 : evCode C n4_87 R S = blockK 5 (evCode C n4_88 R S) := ev_block
@[simp] theorem en4_101 : evCode C n4_101 R S = regK (runOps C l4_101 R S) := ev_plain rfl
@[simp] theorem en4_86 : evCode C n4_86 R S = seqK (evCode C n4_87 R S) fun R S => evCode C n4_101 R S := ev_seq
@[simp] theorem en4_80 : evCode C n4_80 R S = seqK (evCode C n4_81 R S) fun R S => evCode C n4_86 R S := ev_seq
theorem eloop4_2 : evCode C loop4_2 R S = iter (fun R S => evCode C n4_80 R S) rounds R S := (rfl)
@[simp] theorem en4_79 : evCode C n4_79 R S = blockK 4 (evCode C loop4_2 R S) := ev_block
@[simp] theorem en4_77 : evCode C n4_77 R S = seqK (evCode C n4_78 R S) fun R S => evCode C n4_79 R S := ev_seq
@[simp] theorem en4_104 : evCode C n4_104 R S = regK (runOps C l4_104 R S) := ev_plain rfl
@[simp] theorem en4_108 : evCode C n4_108 R S = regK (runOps C l4_108 R S) := ev_plain rfl
@[simp] theorem en4_110 : evCode C n4_110 R S = some (.norm, R, S) := (rfl)
@[simp] theorem en4_111 : evCode C n4_111 R S = some (.exit 6, R, S) := (rfl)
@[simp] theorem en4_109 : evCode C n4_109 R S = condK (IV.ev R (.t 150)) (fun _ => evCode C n4_110 R S) fun _ => evCode C n4_111 R S := ev_cond
@[simp] theorem en4_107 : evCode C n4_107 R S = seqK (evCode C n4_108 R S) fun R S => evCode C n4_109 R S := ev_seq
@[simp] theorem en4_115 : evCode C n4_115 R S = regK (runOps C l4_115 R S) := ev_plain rfl
@[simp] theorem en4_118 : evCode C n4_118 R S = regK (runOps C l4_118 R S) := ev_plain rfl
@[simp] theorem en4_120 : evCode C n4_120 R S = regK (runOps C l4_120 R S) := ev_plain rfl
@[simp] theorem en4_121 : evCode C n4_121 R S = some (.norm, R, S) := (rfl)
@[simp] theorem en4_119 : evCode C n4_119 R S = condK (IV.ev R (.t 162)) (fun _ => evCode C n4_120 R S) fun _ => evCode C n4_121 R S := ev_cond
@[simp] theorem en4_117 : evCode C n4_117 R S = seqK (evCode C n4_118 R S) fun R S => evCode C n4_119 R S := ev_seq
@[simp] theorem en4_123 : evCode C n4_123 R S = regK (runOps C l4_123 R S) := ev_plain rfl
@[simp] theorem en4_126 : evCode C n4_126 R S = regK (runOps C l4_126 R S) := ev_plain rfl
@[simp] theorem en4_127 : evCode C n4_127 R S = some (.ret, R, S) := (rfl)
@[simp] theorem en4_125 : evCode C n4_125 R S = seqK (evCode C n4_126 R S) fun R S => evCode C n4_127 R S := ev_seq
@[simp] theorem en4_128 : evCode C n4_128 R S = some (.norm, R, S) := (rfl)
@[simp] theorem en4_124 : evCode C n4_124 R S = condK (IV.ev R (.t 167)) (fun _ => evCode C n4_125 R S) fun _ => evCode C n4_128 R S := ev_cond
@[simp] theorem en4_122 : evCode C n4_122 R S = seqK (evCode C n4_123 R S) fun R S => evCode C n4_124 R S := ev_seq
@[simp] theorem en4_116 : evCode C n4_116 R S = seqK (evCode C n4_117 R S) fun R S => evCode C n4_122 R S := ev_seq
@[simp] theorem en4_114 : evCode C n4_114 R S = seqK (evCode C n4_115 R S) fun R S => evCode C n4_116 R S := ev_seq
@[simp] theorem en4_113 : evCode C n4_113 R S = blockK 7 (evCode C n4_114 R S) := ev_block
@[simp] theorem en4_129 : evCode C n4_129 R S = regK (runOps C l4_129 R S) := ev_plain rfl
@[simp] theorem en4_112 : evCode C n4_112 R S = seqK (evCode C n4_113 R S) fun R S => evCode C n4_129 R S := ev_seq
@[simp] theorem en4_106 : evCode C n4_106 R S = seqK (evCode C n4_107 R S) fun R S => evCode C n4_112 R S := ev_seq
theorem eloop4_3 : evCode C loop4_3 R S = iter (fun R S => evCode C n4_106 R S) rounds R S := (rfl)
@[simp] theorem en4_105 : evCode C n4_105 R S = blockK 6 (evCode C loop4_3 R S) := ev_block
@[simp] theorem en4_103 : evCode C n4_103 R S = seqK (evCode C n4_104 R S) fun R S => evCode C n4_105 R S := ev_seq
@[simp] theorem en4_131 : evCode C n4_131 R S = regK (runOps C l4_131 R S) := ev_plain rfl
@[simp] theorem en4_132 : evCode C n4_132 R S = some (.ret, R, S) := (rfl)
@[simp] theorem en4_130 : evCode C n4_130 R S = seqK (evCode C n4_131 R S) fun R S => evCode C n4_132 R S := ev_seq
@[simp] theorem en4_102 : evCode C n4_102 R S = seqK (evCode C n4_103 R S) fun R S => evCode C n4_130 R S := ev_seq
@[simp] theorem en4_76 : evCode C n4_76 R S = seqK (evCode C n4_77 R S) fun R S => evCode C n4_102 R S := ev_seq
@[simp] theorem en4_62 : evCode C n4_62 R S = seqK (evCode C n4_63 R S) fun R S => evCode C n4_76 R S := ev_seq
@[simp] theorem en4_60 : evCode C n4_60 R S = seqK (evCode C n4_61 R S) fun R S => evCode C n4_62 R S := ev_seq
@[simp] theorem en4_52 : evCode C n4_52 R S = seqK (evCode C n4_53 R S) fun R S => evCode C n4_60 R S := ev_seq
@[simp] theorem en4_50 : evCode C n4_50 R S = seqK (evCode C n4_51 R S) fun R S => evCode C n4_52 R S := ev_seq
@[simp] theorem en4_22 : evCode C n4_22 R S = seqK (evCode C n4_23 R S) fun R S => evCode C n4_50 R S := ev_seq
@[simp] theorem en4_16 : evCode C n4_16 R S = seqK (evCode C n4_17 R S) fun R S => evCode C n4_22 R S := ev_seq
@[simp] theorem en4_14 : evCode C n4_14 R S = seqK (evCode C n4_15 R S) fun R S => evCode C n4_16 R S := ev_seq
@[simp] theorem en4_6 : evCode C n4_6 R S = seqK (evCode C n4_7 R S) fun R S => evCode C n4_14 R S := ev_seq
@[simp] theorem en4_4 : evCode C n4_4 R S = seqK (evCode C n4_5 R S) fun R S => evCode C n4_6 R S := ev_seq
@[simp] theorem en4_2 : evCode C n4_2 R S = seqK (evCode C n4_3 R S) fun R S => evCode C n4_4 R S := ev_seq
@[simp] theorem en4_0 : evCode C n4_0 R S = seqK (evCode C n4_1 R S) fun R S => evCode C n4_2 R S := ev_seq
theorem q4 {n : Nat} {args : List Value} {S : St} : calls table.find (n + 1) 4 args S = endK S [.tmp 6] (evCode (calls table.find n) n4_0 (args ++ List.replicate (169 - args.length) undef) S.enter) := call_enter b4

/-! wainscot/wainscotref00.Bring -/
@[simp] def l6_1 : List IOper := [oy 4 (.mv (.c (.int .i64 0)))]
def n6_1 : ICode := .region l6_1
@[simp] def l6_3 : List IOper := [oy 5 (.mv (.t 0)),
  oy 6 (.mv (.t 1)),
  oy 7 (.bin .rem .int (.t 5) (.t 6)),
  oy 0 (.mv (.t 7))]
def n6_3 : ICode := .region l6_3
@[simp] def l6_6 : List IOper := [oy 8 (.mv (.t 0)),
  oy 9 (.bin .lss .int (.t 8) (.c (.int .i64 0)))]
def n6_6 : ICode := .region l6_6
@[simp] def l6_8 : List IOper := [oy 10 (.mv (.t 0)),
  oy 11 (.mv (.t 1)),
  oy 12 (.bin .add .int (.t 10) (.t 11)),
  oy 0 (.mv (.t 12))]
def n6_8 : ICode := .region l6_8
def n6_9 : ICode := .skip
def n6_7 : ICode := .cond (.t 9) n6_8 n6_9
def n6_5 : ICode := .seq n6_6 n6_7
@[simp] def l6_11 : List IOper := [oy 13 (.mv (.t 0)),
  oy 4 (.mv (.t 13))]
def n6_11 : ICode := .region l6_11
def n6_12 : ICode := .ret
def n6_10 : ICode := .seq n6_11 n6_12
def n6_4 : ICode := .seq n6_5 n6_10
def n6_2 : ICode := .seq n6_3 n6_4
def n6_0 : ICode := .seq n6_1 n6_2
theorem b6 : table.find 6 = some ⟨14, n6_0, [.tmp 4]⟩ := by kernel_rfl
@[simp] theorem en6_1 : evCode C n6_1 R S = regK (runOps C l6_1 R S) := ev_plain rfl
@[simp] theorem en6_3 : evCode C n6_3 R S = regK (runOps C l6_3 R S) := ev_plain rfl
@[simp] theorem en6_6 : evCode C n6_6 R S = regK (runOps C l6_6 R S) := ev_plain rfl
@[simp] theorem en6_8 : evCode C n6_8 R S = regK (runOps C l6_8 R S) := ev_plain rfl
@[simp] theorem en6_9 : evCode C n6_9 R S = some (.norm, R, S) := (rfl)
@[simp] theorem en6_7 : evCode C n6_7 R S = condK (IV.ev R (.t 9)) (fun _ => evCode C n6_8 R S) fun _ => evCode C n6_9 R S := ev_cond
@[simp] theorem en6_5 : evCode C n6_5 R S = seqK (evCode C n6_6 R S) fun R S => evCode C n6_7 R S := ev_seq
@[simp] theorem en6_11 : evCode C n6_11 R S = regK (runOps C l6_11 R S) := ev_plain rfl
@[simp] theorem en6_12 : evCode C n6_12 R S = some (.ret, R, S) := (rfl)
@[simp] theorem en6_10 : evCode C n6_10 R S = seqK (evCode C n6_11 R S) fun R S => evCode C n6_12 R S := ev_seq
@[simp] theorem en6_4 : evCode C n6_4 R S = seqK (evCode C n6_5 R S) fun R S => evCode C n6_10 R S := ev_seq
@[simp] theorem en6_2 : evCode C n6_2 R S = seqK (evCode C n6_3 R S) fun R S => evCode C n6_4 R S := ev_seq
@[simp] theorem en6_0 : evCode C n6_0 R S = seqK (evCode C n6_1 R S) fun R S => evCode C n6_2 R S := ev_seq
theorem q6 {n : Nat} {args : List Value} {S : St} : calls table.find (n + 1) 6 args S = endK S [.tmp 4] (evCode (calls table.find n) n6_0 (args ++ List.replicate (14 - args.length) undef) S.enter) := call_enter b6

/-! wainscot/wainscotlaw22.stocked -/
@[simp] def l7_1 : List IOper := [oy 8 (.mv (.c (.pointer none))),
  oy 9 (.new 26 [(.int .i64 0), (.int .i64 0), (.int .i64 0), (.int .i64 0), (.int .i64 0), (.int .u64 0)])]
def n7_1 : ICode := .region l7_1
@[simp] def l7_3 : List IOper := [oy 21 (.mv (.t 1)),
  oy 22 (.mv (.t 2)),
  oy 23 (.build [(.int .i64 0), (.int .i64 0), (.int .i64 0), (.int .i64 0), (.int .i64 0), (.int .u64 0)] [(0, 1, (.c (.int .i64 1))), (1, 1, (.c (.int .i64 1))), (2, 1, (.t 21)), (5, 1, (.t 22))]),
  oy 10 (.new 26 [(.int .i64 0), (.int .i64 0), (.int .i64 0), (.int .i64 0), (.int .i64 0), (.int .u64 0)]),
  ox (.store 6 (.t 10) (.t 23))]
def n7_3 : ICode := .region l7_3
@[simp] def l7_5 : List IOper := [oy 25 (.load true 6 (.t 10)),
  oy 26 (.call (.c (.func (.func 15) #[] #[])) [(.t 25)] true),
  oy 27 (.minmax true (.t 26) [(.c (.int .i64 1))]),
  oy 28 (.call (.c (.func (.func 14) #[] #[])) [(.t 27)] true),
  oy 24 (.mv (.t 28)),
  oy 29 (.extract (.t 24) 0),
  oy 30 (.extract (.t 24) 1),
  oy 11 (.mv (.t 29)),
  oy 12 (.mv (.t 30))]
def n7_5 : ICode := .region l7_5
@[simp] def l7_8 : List IOper := [oy 31 (.mv (.t 12)),
  oy 32 (.bin .neq .int (.t 31) (.c (.int .i64 0))),
  oy 33 (.mv (.t 32)),
  oz 34 33 false (.mv (.t 11)),
  oz 35 33 false (.bin .eql .ptr (.t 34) (.c (.pointer none))),
  oy 36 (.pick (.t 33) (.c (.bool true)) (.t 35))]
def n7_8 : ICode := .region l7_8
@[simp] def l7_11 : List IOper := [oy 37 (.load true 6 (.t 10)),
  oy 8 (.mv (.c (.pointer none))),
  ox (.store 6 (.t 9) (.t 37))]
def n7_11 : ICode := .region l7_11
def n7_12 : ICode := .ret
def n7_10 : ICode := .seq n7_11 n7_12
def n7_13 : ICode := .skip
def n7_9 : ICode := .cond (.t 36) n7_10 n7_13
def n7_7 : ICode := .seq n7_8 n7_9
@[simp] def l7_15 : List IOper := [oy 39 (.mv (.t 0)),
  oy 40 (.minmax true (.t 39) [(.c (.int .i64 1))]),
  oy 41 (.load true 6 (.t 10)),
  oy 42 (.call (.c (.func (.func 17) #[] #[])) [(.t 41), (.c (.int .i64 0))] true),
  oy 43 (.call (.c (.func (.func 16) #[] #[])) [(.t 40), (.t 42)] true),
  oy 38 (.mv (.t 43)),
  oy 44 (.extract (.t 38) 0),
  oy 45 (.extract (.t 38) 1),
  oy 13 (.mv (.t 44)),
  oy 14 (.mv (.t 45))]
def n7_15 : ICode := .region l7_15
@[simp] def l7_18 : List IOper := [oy 15 (.mv (.c (.int .i64 0)))]
def n7_18 : ICode := .region l7_18
@[simp] def l7_22 : List IOper := [oy 46 (.mv (.t 15)),
  oy 47 (.mv (.t 0)),
  oy 48 (.bin .lss .int (.t 46) (.t 47)),
  oy 49 (.mv (.t 48)),
  oz 50 49 true (.mv (.t 15)),
  oz 51 49 true (.mv (.t 13)),
  oz 52 49 true (.lenS (.t 51)),
  oz 53 49 true (.bin .lss .int (.t 50) (.t 52)),
  oy 54 (.pick (.t 49) (.t 53) (.c (.bool false)))]
def n7_22 : ICode := .region l7_22
def n7_24 : ICode := .skip
def n7_25 : ICode := .exit 0
def n7_23 : ICode := .cond (.t 54) n7_24 n7_25
def n7_21 : ICode := .seq n7_22 n7_23
@[simp] def l7_28 : List IOper := [oy 57 (.mv (.t 11)),
  oy 58 (.load true 6 (.t 10)),
  oy 59 (.mv (.t 15)),
  oy 60 (.call (.c (.func (.func 18) #[] #[])) [(.t 58), (.c (.int .i64 0)), (.t 59)] true),
  oy 61 (.mv (.t 13)),
  oy 62 (.mv (.t 15)),
  oy 63 (.idxS 1 (.t 61) (.t 62)),
  oy 64 (.load false 1 (.t 63)),
  oy 65 (.call (.c (.func (.func 12) #[] #[])) [(.t 57), (.t 60), (.t 64)] false)]
def n7_28 : ICode := .region l7_28
def n7_27 : ICode := .block 1 n7_28
@[simp] def l7_29 : List IOper := [oy 55 (.mv (.t 15)),
  oy 56 (.bin .add .int (.t 55) (.c (.int .i64 1))),
  oy 15 (.mv (.t 56))]
def n7_29 : ICode := .region l7_29
def n7_26 : ICode := .seq n7_27 n7_29
def n7_20 : ICode := .seq n7_21 n7_26
def loop7_0 : ICode := .loop n7_20
def n7_19 : ICode := .block 0 loop7_0
def n7_17 : ICode := .seq n7_18 n7_19
@[simp] def l7_31 : List IOper := [oy 16 (.mv (.c (.int .i64 0)))]
def n7_31 : ICode := .region l7_31
@[simp] def l7_34 : List IOper := [oy 66 (.mv (.t 0)),
  oy 67 (.bin .eql .int (.t 66) (.c (.int .i64 0)))]
def n7_34 : ICode := .region l7_34
@[simp] def l7_36 : List IOper := [oy 16 (.mv (.c (.int .i64 (-1))))]
def n7_36 : ICode := .region l7_36
def n7_37 : ICode := .skip
def n7_35 : ICode := .cond (.t 67) n7_36 n7_37
def n7_33 : ICode := .seq n7_34 n7_35
@[simp] def l7_39 : List IOper := [oy 69 (.mv (.t 16)),
  oy 70 (.call (.c (.func (.func 19) #[] #[])) [(.c (.int .i64 0)), (.t 69)] true),
  oy 68 (.mv (.t 70)),
  oy 71 (.extract (.t 68) 0),
  oy 72 (.extract (.t 68) 1),
  oy 17 (.mv (.t 71)),
  oy 18 (.mv (.t 72))]
def n7_39 : ICode := .region l7_39
@[simp] def l7_41 : List IOper := [oy 74 (.mv (.t 1)),
  oy 75 (.mv (.t 1)),
  oy 76 (.build [(.int .i64 0), (.int .i64 0), (.bool false), (.bool false)] [(0, 1, (.t 74)), (1, 1, (.t 75)), (2, 1, (.c (.bool true))), (3, 1, (.c (.bool true)))]),
  oy 77 (.call (.c (.func (.func 20) #[] #[])) [(.t 76)] true),
  oy 73 (.mv (.t 77)),
  oy 78 (.extract (.t 73) 0),
  oy 79 (.extract (.t 73) 1),
  oy 19 (.mv (.t 78)),
  oy 20 (.mv (.t 79))]
def n7_41 : ICode := .region l7_41
@[simp] def l7_43 : List IOper := [oy 80 (.mv (.t 11)),
  oy 81 (.load true 6 (.t 10)),
  oy 82 (.call (.c (.func (.func 13) #[] #[])) [(.t 81), (.c (.int .i64 0))] true),
  oy 83 (.mv (.t 17)),
  oy 84 (.call (.c (.func (.func 12) #[] #[])) [(.t 80), (.t 82), (.t 83)] false)]
def n7_43 : ICode := .region l7_43
@[simp] def l7_45 : List IOper := [oy 85 (.mv (.t 11)),
  oy 86 (.load true 6 (.t 10)),
  oy 87 (.call (.c (.func (.func 13) #[] #[])) [(.t 86), (.c (.int .i64 0))] true),
  oy 88 (.bin .add .int (.t 87) (.c (.int .i64 1))),
  oy 89 (.mv (.t 3)),
  oy 90 (.call (.c (.func (.func 12) #[] #[])) [(.t 85), (.t 88), (.t 89)] false)]
def n7_45 : ICode := .region l7_45
@[simp] def l7_47 : List IOper := [oy 91 (.mv (.t 11)),
  oy 92 (.load true 6 (.t 10)),
  oy 93 (.call (.c (.func (.func 21) #[] #[])) [(.t 92), (.c (.int .i64 0))] true),
  oy 94 (.bin .add .int (.t 93) (.c (.int .i64 1))),
  oy 95 (.mv (.t 19)),
  oy 96 (.call (.c (.func (.func 12) #[] #[])) [(.t 91), (.t 94), (.t 95)] false)]
def n7_47 : ICode := .region l7_47
@[simp] def l7_49 : List IOper := [oy 97 (.mv (.t 11)),
  oy 98 (.load true 6 (.t 10)),
  oy 8 (.mv (.t 97)),
  ox (.store 6 (.t 9) (.t 98))]
def n7_49 : ICode := .region l7_49
def n7_50 : ICode := .ret
def n7_48 : ICode := .seq n7_49 n7_50
def n7_46 : ICode := .seq n7_47 n7_48
def n7_44 : ICode := .seq n7_45 n7_46
def n7_42 : ICode := .seq n7_43 n7_44
def n7_40 : ICode := .seq n7_41 n7_42
def n7_38 : ICode := .seq n7_39 n7_40
def n7_32 : ICode := .seq n7_33 n7_38
def n7_30 : ICode := .seq n7_31 n7_32
def n7_16 : ICode := .seq n7_17 n7_30
def n7_14 : ICode := .seq n7_15 n7_16
def n7_6 : ICode := .seq n7_7 n7_14
def n7_4 : ICode := .seq n7_5 n7_6
def n7_2 : ICode := .seq n7_3 n7_4
def n7_0 : ICode := .seq n7_1 n7_2
theorem b7 : table.find 7 = some ⟨99, n7_0, [.tmp 8, .cell 9 true 6]⟩ := by kernel_rfl
@[simp] theorem en7_1 : evCode C n7_1 R S = regK (runOps C l7_1 R S) := ev_plain rfl
@[simp] theorem en7_3 : evCode C n7_3 R S = regK (runOps C l7_3 R S) := ev_plain rfl
@[simp] theorem en7_5 : evCode C n7_5 R S = regK (runOps C l7_5 R S) := ev_plain rfl
@[simp] theorem en7_8 : evCode C n7_8 R S = regK (runOps C l7_8 R S) := ev_plain rfl
@[simp] theorem en7_11 : evCode C n7_11 R S = regK (runOps C l7_11 R S) := ev_plain rfl
@[simp] theorem en7_12 : evCode C n7_12 R S = some (.ret, R, S) := (rfl)
@[simp] theorem en7_10 : evCode C n7_10 R S = seqK (evCode C n7_11 R S) fun R S => evCode C n7_12 R S := ev_seq
@[simp] theorem en7_13 : evCode C n7_13 R S = some (.norm, R, S) := (rfl)
@[simp] theorem en7_9 : evCode C n7_9 R S = condK (IV.ev R (.t 36)) (fun _ => evCode C n7_10 R S) fun _ => evCode C n7_13 R S := ev_cond
@[simp] theorem en7_7 : evCode C n7_7 R S = seqK (evCode C n7_8 R S) fun R S => evCode C n7_9 R S := ev_seq
@[simp] theorem en7_15 : evCode C n7_15 R S = regK (runOps C l7_15 R S) := ev_plain rfl
@[simp] theorem en7_18 : evCode C n7_18 R S = regK (runOps C l7_18 R S) := ev_plain rfl
@[simp] theorem en7_22 : evCode C n7_22 R S = regK (runOps C l7_22 R S) := ev_plain rfl
@[simp] theorem en7_24 : evCode C n7_24 R S = some (.norm, R, S) := (rfl)
@[simp] theorem en7_25 : evCode C n7_25 R S = some (.exit 0, R, S) := (rfl)
@[simp] theorem en7_23 : evCode C n7_23 R S = condK (IV.ev R (.t 54)) (fun _ => evCode C n7_24 R S) fun _ => evCode C n7_25 R S := ev_cond
@[simp] theorem en7_21 : evCode C n7_21 R S = seqK (evCode C n7_22 R S) fun R S => evCode C n7_23 R S := ev_seq
@[simp] theorem en7_28 : evCode C n7_28 R S = regK (runOps C l7_28 R S) := ev_plain rfl
@[simp] theorem en7_27 : evCode C n7_27 R S = blockK 1 (evCode C n7_28 R S) := ev_block
@[simp] theorem en7_29 : evCode C n7_29 R S = regK (runOps C l7_29 R S) := ev_plain rfl
@[simp] theorem en7_26 : evCode C n7_26 R S = seqK (evCode C n7_27 R S) fun R S => evCode C n7_29 R S := ev_seq
@[simp] theorem en7_20 : evCode C n7_20 R S = seqK (evCode C n7_21 R S) fun R S => evCode C n7_26 R S := ev_seq
theorem eloop7_0 : evCode C loop7_0 R S = iter (fun R S => evCode C n7_20 R S) rounds R S := (rfl)
@[simp] theorem en7_19 : evCode C n7_19 R S = blockK 0 (evCode C loop7_0 R S) := ev_block
@[simp] theorem en7_17 : evCode C n7_17 R S = seqK (evCode C n7_18 R S) fun R S => evCode C n7_19 R S := ev_seq
@[simp] theorem en7_31 : evCode C n7_31 R S = regK (runOps C l7_31 R S) := ev_plain rfl
@[simp] theorem en7_34 : evCode C n7_34 R S = regK (runOps C l7_34 R S) := ev_plain rfl
@[simp] theorem en7_36 : evCode C n7_36 R S = regK (runOps C l7_36 R S) := ev_plain rfl
@[simp] theorem en7_37 : evCode C n7_37 R S = some (.norm, R, S) := (rfl)
@[simp] theorem en7_35 : evCode C n7_35 R S = condK (IV.ev R (.t 67)) (fun _ => evCode C n7_36 R S) fun _ => evCode C n7_37 R S := ev_cond
@[simp] theorem en7_33 : evCode C n7_33 R S = seqK (evCode C n7_34 R S) fun R S => evCode C n7_35 R S := ev_seq
@[simp] theorem en7_39 : evCode C n7_39 R S = regK (runOps C l7_39 R S) := ev_plain rfl
@[simp] theorem en7_41 : evCode C n7_41 R S = regK (runOps C l7_41 R S) := ev_plain rfl
@[simp] theorem en7_43 : evCode C n7_43 R S = regK (runOps C l7_43 R S) := ev_plain rfl
@[simp] theorem en7_45 : evCode C n7_45 R S = regK (runOps C l7_45 R S) := ev_plain rfl
@[simp] theorem en7_47 : evCode C n7_47 R S = regK (runOps C l7_47 R S) := ev_plain rfl
@[simp] theorem en7_49 : evCode C n7_49 R S = regK (runOps C l7_49 R S) := ev_plain rfl
@[simp] theorem en7_50 : evCode C n7_50 R S = some (.ret, R, S) := (rfl)
@[simp] theorem en7_48 : evCode C n7_48 R S = seqK (evCode C n7_49 R S) fun R S => evCode C n7_50 R S := ev_seq
@[simp] theorem en7_46 : evCode C n7_46 R S = seqK (evCode C n7_47 R S) fun R S => evCode C n7_48 R S := ev_seq
@[simp] theorem en7_44 : evCode C n7_44 R S = seqK (evCode C n7_45 R S) fun R S => evCode C n7_46 R S := ev_seq
@[simp] theorem en7_42 : evCode C n7_42 R S = seqK (evCode C n7_43 R S) fun R S => evCode C n7_44 R S := ev_seq
@[simp] theorem en7_40 : evCode C n7_40 R S = seqK (evCode C n7_41 R S) fun R S => evCode C n7_42 R S := ev_seq
@[simp] theorem en7_38 : evCode C n7_38 R S = seqK (evCode C n7_39 R S) fun R S => evCode C n7_40 R S := ev_seq
@[simp] theorem en7_32 : evCode C n7_32 R S = seqK (evCode C n7_33 R S) fun R S => evCode C n7_38 R S := ev_seq
@[simp] theorem en7_30 : evCode C n7_30 R S = seqK (evCode C n7_31 R S) fun R S => evCode C n7_32 R S := ev_seq
@[simp] theorem en7_16 : evCode C n7_16 R S = seqK (evCode C n7_17 R S) fun R S => evCode C n7_30 R S := ev_seq
@[simp] theorem en7_14 : evCode C n7_14 R S = seqK (evCode C n7_15 R S) fun R S => evCode C n7_16 R S := ev_seq
@[simp] theorem en7_6 : evCode C n7_6 R S = seqK (evCode C n7_7 R S) fun R S => evCode C n7_14 R S := ev_seq
@[simp] theorem en7_4 : evCode C n7_4 R S = seqK (evCode C n7_5 R S) fun R S => evCode C n7_6 R S := ev_seq
@[simp] theorem en7_2 : evCode C n7_2 R S = seqK (evCode C n7_3 R S) fun R S => evCode C n7_4 R S := ev_seq
@[simp] theorem en7_0 : evCode C n7_0 R S = seqK (evCode C n7_1 R S) fun R S => evCode C n7_2 R S := ev_seq
theorem q7 {n : Nat} {args : List Value} {S : St} : calls table.find (n + 1) 7 args S = endK S [.tmp 8, .cell 9 true 6] (evCode (calls table.find n) n7_0 (args ++ List.replicate (99 - args.length) undef) S.enter) := call_enter b7

/-! wainscot/wainscotlaw22.through -/
@[simp] def l8_1 : List IOper := [oy 5 (.box 26 6 (.t 1)),
  oy 6 (.box 30 17 (.t 2)),
  oy 8 (.new 30 [(.int .i64 0), (.int .i64 0), (.int .i64 0), (.int .i64 0), (.int .i64 0), (.int .i64 0), (.int .i64 0), (.int .u64 0), (.int .u64 0), (.int .u64 0), (.int .u64 0), (.int .u64 0), (.int .i64 0), (.int .i64 0), (.int .i64 0), (.int .i64 0), (.int .i64 0)]),
  oy 9 (.mv (.c (.int .i64 0)))]
def n8_1 : ICode := .region l8_1
@[simp] def l8_4 : List IOper := [oy 10 (.mv (.c (.int .i64 0)))]
def n8_4 : ICode := .region l8_4
@[simp] def l8_8 : List IOper := [oy 13 (.mv (.t 10)),
  oy 14 (.mv (.t 3)),
  oy 15 (.bin .lss .int (.t 13) (.t 14))]
def n8_8 : ICode := .region l8_8
def n8_10 : ICode := .skip
def n8_11 : ICode := .exit 0
def n8_9 : ICode := .cond (.t 15) n8_10 n8_11
def n8_7 : ICode := .seq n8_8 n8_9
@[simp] def l8_15 : List IOper := [oy 19 (.mv (.t 0)),
  oy 20 (.load true 6 (.t 5)),
  oy 21 (.load true 17 (.t 6)),
  oy 22 (.call (.c (.func (.func 11) #[] #[])) [(.t 19), (.t 20), (.t 21)] false),
  oy 18 (.mv (.t 22)),
  oy 23 (.extract (.t 18) 0),
  oy 24 (.extract (.t 18) 1),
  oy 11 (.new 30 [(.int .i64 0), (.int .i64 0), (.int .i64 0), (.int .i64 0), (.int .i64 0), (.int .i64 0), (.int .i64 0), (.int .u64 0), (.int .u64 0), (.int .u64 0), (.int .u64 0), (.int .u64 0), (.int .i64 0), (.int .i64 0), (.int .i64 0), (.int .i64 0), (.int .i64 0)]),
  ox (.store 17 (.t 11) (.t 23)),
  oy 12 (.mv (.t 24))]
def n8_15 : ICode := .region l8_15
@[simp] def l8_18 : List IOper := [oy 25 (.mv (.t 12)),
  oy 26 (.bin .neq .int (.t 25) (.c (.int .i64 0)))]
def n8_18 : ICode := .region l8_18
@[simp] def l8_21 : List IOper := [oy 27 (.load true 17 (.t 6)),
  oy 28 (.mv (.t 10)),
  ox (.store 17 (.t 8) (.t 27)),
  oy 9 (.mv (.t 28))]
def n8_21 : ICode := .region l8_21
def n8_22 : ICode := .ret
def n8_20 : ICode := .seq n8_21 n8_22
def n8_23 : ICode := .skip
def n8_19 : ICode := .cond (.t 26) n8_20 n8_23
def n8_17 : ICode := .seq n8_18 n8_19
@[simp] def l8_25 : List IOper := [oy 29 (.load true 17 (.t 11)),
  ox (.store 17 (.t 6) (.t 29))]
def n8_25 : ICode := .region l8_25
@[simp] def l8_27 : List IOper := [oy 30 (.addOff 3 (.t 6)),
  oy 31 (.load false 1 (.t 30)),
  oy 32 (.bin .neq .int (.t 31) (.c (.int .i64 0)))]
def n8_27 : ICode := .region l8_27
@[simp] def l8_30 : List IOper := [oy 33 (.load true 17 (.t 6)),
  oy 34 (.mv (.t 10)),
  oy 35 (.bin .add .int (.t 34) (.c (.int .i64 1))),
  ox (.store 17 (.t 8) (.t 33)),
  oy 9 (.mv (.t 35))]
def n8_30 : ICode := .region l8_30
def n8_31 : ICode := .ret
def n8_29 : ICode := .seq n8_30 n8_31
def n8_32 : ICode := .skip
def n8_28 : ICode := .cond (.t 32) n8_29 n8_32
def n8_26 : ICode := .seq n8_27 n8_28
def n8_24 : ICode := .seq n8_25 n8_26
def n8_16 : ICode := .seq n8_17 n8_24
def n8_14 : ICode := .seq n8_15 n8_16
def n8_13 : ICode := .block 1 n8_14
@[simp] def l8_33 : List IOper := [oy 16 (.mv (.t 10)),
  oy 17 (.bin .add .int (.t 16) (.c (.int .i64 1))),
  oy 10 (.mv (.t 17))]
def n8_33 : ICode := .region l8_33
def n8_12 : ICode := .seq n8_13 n8_33
def n8_6 : ICode := .seq n8_7 n8_12
def loop8_0 : ICode := .loop n8_6
def n8_5 : ICode := .block 0 loop8_0
def n8_3 : ICode := .seq n8_4 n8_5
@[simp] def l8_35 : List IOper := [oy 36 (.load true 17 (.t 6)),
  oy 37 (.mv (.t 3)),
  ox (.store 17 (.t 8) (.t 36)),
  oy 9 (.mv (.t 37))]
def n8_35 : ICode := .region l8_35
def n8_36 : ICode := .ret
def n8_34 : ICode := .seq n8_35 n8_36
def n8_2 : ICode := .seq n8_3 n8_34
def n8_0 : ICode := .seq n8_1 n8_2
theorem b8 : table.find 8 = some ⟨38, n8_0, [.cell 8 true 17, .tmp 9]⟩ := by kernel_rfl
@[simp] theorem en8_1 : evCode C n8_1 R S = regK (runOps C l8_1 R S) := ev_plain rfl
@[simp] theorem en8_4 : evCode C n8_4 R S = regK (runOps C l8_4 R S) := ev_plain rfl
@[simp] theorem en8_8 : evCode C n8_8 R S = regK (runOps C l8_8 R S) := ev_plain rfl
@[simp] theorem en8_10 : evCode C n8_10 R S = some (.norm, R, S) := (rfl)
@[simp] theorem en8_11 : evCode C n8_11 R S = some (.exit 0, R, S) := (rfl)
@[simp] theorem en8_9 : evCode C n8_9 R S = condK (IV.ev R (.t 15)) (fun _ => evCode C n8_10 R S) fun _ => evCode C n8_11 R S := ev_cond
@[simp] theorem en8_7 : evCode C n8_7 R S = seqK (evCode C n8_8 R S) fun R S => evCode C n8_9 R S := ev_seq
@[simp] theorem en8_15 : evCode C n8_15 R S = regK (runOps C l8_15 R S) := ev_plain rfl
@[simp] theorem en8_18 : evCode C n8_18 R S = regK (runOps C l8_18 R S) := ev_plain rfl
@[simp] theorem en8_21 : evCode C n8_21 R S = regK (runOps C l8_21 R S) := ev_plain rfl
@[simp] theorem en8_22 : evCode C n8_22 R S = some (.ret, R, S) := (rfl)
@[simp] theorem en8_20 : evCode C n8_20 R S = seqK (evCode C n8_21 R S) fun R S => evCode C n8_22 R S := ev_seq
@[simp] theorem en8_23 : evCode C n8_23 R S = some (.norm, R, S) := (rfl)
@[simp] theorem en8_19 : evCode C n8_19 R S = condK (IV.ev R (.t 26)) (fun _ => evCode C n8_20 R S) fun _ => evCode C n8_23 R S := ev_cond
@[simp] theorem en8_17 : evCode C n8_17 R S = seqK (evCode C n8_18 R S) fun R S => evCode C n8_19 R S := ev_seq
@[simp] theorem en8_25 : evCode C n8_25 R S = regK (runOps C l8_25 R S) := ev_plain rfl
@[simp] theorem en8_27 : evCode C n8_27 R S = regK (runOps C l8_27 R S) := ev_plain rfl
@[simp] theorem en8_30 : evCode C n8_30 R S = regK (runOps C l8_30 R S) := ev_plain rfl
@[simp] theorem en8_31 : evCode C n8_31 R S = some (.ret, R, S) := (rfl)
@[simp] theorem en8_29 : evCode C n8_29 R S = seqK (evCode C n8_30 R S) fun R S => evCode C n8_31 R S := ev_seq
@[simp] theorem en8_32 : evCode C n8_32 R S = some (.norm, R, S) := (rfl)
@[simp] theorem en8_28 : evCode C n8_28 R S = condK (IV.ev R (.t 32)) (fun _ => evCode C n8_29 R S) fun _ => evCode C n8_32 R S := ev_cond
@[simp] theorem en8_26 : evCode C n8_26 R S = seqK (evCode C n8_27 R S) fun R S => evCode C n8_28 R S := ev_seq
@[simp] theorem en8_24 : evCode C n8_24 R S = seqK (evCode C n8_25 R S) fun R S => evCode C n8_26 R S := ev_seq
@[simp] theorem en8_16 : evCode C n8_16 R S = seqK (evCode C n8_17 R S) fun R S => evCode C n8_24 R S := ev_seq
@[simp] theorem en8_14 : evCode C n8_14 R S = seqK (evCode C n8_15 R S) fun R S => evCode C n8_16 R S := ev_seq
@[simp] theorem en8_13 : evCode C n8_13 R S = blockK 1 (evCode C n8_14 R S) := ev_block
@[simp] theorem en8_33 : evCode C n8_33 R S = regK (runOps C l8_33 R S) := ev_plain rfl
@[simp] theorem en8_12 : evCode C n8_12 R S = seqK (evCode C n8_13 R S) fun R S => evCode C n8_33 R S := ev_seq
@[simp] theorem en8_6 : evCode C n8_6 R S = seqK (evCode C n8_7 R S) fun R S => evCode C n8_12 R S := ev_seq
theorem eloop8_0 : evCode C loop8_0 R S = iter (fun R S => evCode C n8_6 R S) rounds R S := (rfl)
@[simp] theorem en8_5 : evCode C n8_5 R S = blockK 0 (evCode C loop8_0 R S) := ev_block
@[simp] theorem en8_3 : evCode C n8_3 R S = seqK (evCode C n8_4 R S) fun R S => evCode C n8_5 R S := ev_seq
@[simp] theorem en8_35 : evCode C n8_35 R S = regK (runOps C l8_35 R S) := ev_plain rfl
@[simp] theorem en8_36 : evCode C n8_36 R S = some (.ret, R, S) := (rfl)
@[simp] theorem en8_34 : evCode C n8_34 R S = seqK (evCode C n8_35 R S) fun R S => evCode C n8_36 R S := ev_seq
@[simp] theorem en8_2 : evCode C n8_2 R S = seqK (evCode C n8_3 R S) fun R S => evCode C n8_34 R S := ev_seq
@[simp] theorem en8_0 : evCode C n8_0 R S = seqK (evCode C n8_1 R S) fun R S => evCode C n8_2 R S := ev_seq
theorem q8 {n : Nat} {args : List Value} {S : St} : calls table.find (n + 1) 8 args S = endK S [.cell 8 true 17, .tmp 9] (evCode (calls table.find n) n8_0 (args ++ List.replicate (38 - args.length) undef) S.enter) := call_enter b8

/-! wainscot/wainscotlaw22.listed -/
@[simp] def l9_1 : List IOper := [oy 3 (.box 26 6 (.t 1)),
  oy 4 (.mv (.c (.slice none 0 0))),
  oy 5 (.mv (.c (.int .u64 0))),
  oy 6 (.mv (.c (.bool false)))]
def n9_1 : ICode := .region l9_1
@[simp] def l9_3 : List IOper := [oy 10 (.mv (.t 0)),
  oy 11 (.call (.c (.func (.func 23) #[] #[])) [(.t 10)] true),
  oy 12 (.load true 6 (.t 3)),
  oy 13 (.call (.c (.func (.func 22) #[] #[])) [(.t 11), (.t 12)] true),
  oy 9 (.mv (.t 13)),
  oy 14 (.extract (.t 9) 0),
  oy 15 (.extract (.t 9) 1),
  oy 7 (.new 66 [(.slice none 0 0), (.slice none 0 0), (.bool false), (.slice none 0 0)]),
  ox (.store 4 (.t 7) (.t 14)),
  oy 8 (.mv (.t 15))]
def n9_3 : ICode := .region l9_3
@[simp] def l9_6 : List IOper := [oy 16 (.mv (.t 8)),
  oy 17 (.bin .neq .int (.t 16) (.c (.int .i64 0))),
  oy 18 (.mv (.t 17)),
  oz 19 18 false (.addOff 0 (.t 7)),
  oz 20 18 false (.load false 1 (.t 19)),
  oz 21 18 false (.lenS (.t 20)),
  oz 22 18 false (.bin .neq .int (.t 21) (.c (.int .i64 1))),
  oy 23 (.pick (.t 18) (.c (.bool true)) (.t 22)),
  oy 24 (.mv (.t 23)),
  oz 25 24 false (.addOff 0 (.t 7)),
  oz 26 24 false (.load false 1 (.t 25)),
  oz 27 24 false (.idxS 4 (.t 26) (.c (.int .i64 0))),
  oz 28 24 false (.addOff 0 (.t 27)),
  oz 29 24 false (.load false 1 (.t 28)),
  oz 30 24 false (.bin .neq .int (.t 29) (.c (.int .i64 0))),
  oy 31 (.pick (.t 24) (.c (.bool true)) (.t 30))]
def n9_6 : ICode := .region l9_6
@[simp] def l9_9 : List IOper := [oy 4 (.mv (.c (.slice none 0 0))),
  oy 5 (.mv (.c (.int .u64 0))),
  oy 6 (.mv (.c (.bool false)))]
def n9_9 : ICode := .region l9_9
def n9_10 : ICode := .ret
def n9_8 : ICode := .seq n9_9 n9_10
def n9_11 : ICode := .skip
def n9_7 : ICode := .cond (.t 31) n9_8 n9_11
def n9_5 : ICode := .seq n9_6 n9_7
@[simp] def l9_13 : List IOper := [oy 32 (.addOff 0 (.t 7)),
  oy 33 (.load false 1 (.t 32)),
  oy 34 (.idxS 4 (.t 33) (.c (.int .i64 0))),
  oy 35 (.addOff 1 (.t 34)),
  oy 36 (.load false 1 (.t 35)),
  oy 37 (.addOff 0 (.t 7)),
  oy 38 (.load false 1 (.t 37)),
  oy 39 (.idxS 4 (.t 38) (.c (.int .i64 0))),
  oy 40 (.addOff 2 (.t 39)),
  oy 41 (.load false 1 (.t 40)),
  oy 4 (.mv (.t 36)),
  oy 5 (.mv (.t 41)),
  oy 6 (.mv (.c (.bool true)))]
def n9_13 : ICode := .region l9_13
def n9_14 : ICode := .ret
def n9_12 : ICode := .seq n9_13 n9_14
def n9_4 : ICode := .seq n9_5 n9_12
def n9_2 : ICode := .seq n9_3 n9_4
def n9_0 : ICode := .seq n9_1 n9_2
theorem b9 : table.find 9 = some ⟨42, n9_0, [.tmp 4, .tmp 5, .tmp 6]⟩ := by kernel_rfl
@[simp] theorem en9_1 : evCode C n9_1 R S = regK (runOps C l9_1 R S) := ev_plain rfl
@[simp] theorem en9_3 : evCode C n9_3 R S = regK (runOps C l9_3 R S) := ev_plain rfl
@[simp] theorem en9_6 : evCode C n9_6 R S = regK (runOps C l9_6 R S) := ev_plain rfl
@[simp] theorem en9_9 : evCode C n9_9 R S = regK (runOps C l9_9 R S) := ev_plain rfl
@[simp] theorem en9_10 : evCode C n9_10 R S = some (.ret, R, S) := (rfl)
@[simp] theorem en9_8 : evCode C n9_8 R S = seqK (evCode C n9_9 R S) fun R S => evCode C n9_10 R S := ev_seq
@[simp] theorem en9_11 : evCode C n9_11 R S = some (.norm, R, S) := (rfl)
@[simp] theorem en9_7 : evCode C n9_7 R S = condK (IV.ev R (.t 31)) (fun _ => evCode C n9_8 R S) fun _ => evCode C n9_11 R S := ev_cond
@[simp] theorem en9_5 : evCode C n9_5 R S = seqK (evCode C n9_6 R S) fun R S => evCode C n9_7 R S := ev_seq
@[simp] theorem en9_13 : evCode C n9_13 R S = regK (runOps C l9_13 R S) := ev_plain rfl
@[simp] theorem en9_14 : evCode C n9_14 R S = some (.ret, R, S) := (rfl)
@[simp] theorem en9_12 : evCode C n9_12 R S = seqK (evCode C n9_13 R S) fun R S => evCode C n9_14 R S := ev_seq
@[simp] theorem en9_4 : evCode C n9_4 R S = seqK (evCode C n9_5 R S) fun R S => evCode C n9_12 R S := ev_seq
@[simp] theorem en9_2 : evCode C n9_2 R S = seqK (evCode C n9_3 R S) fun R S => evCode C n9_4 R S := ev_seq
@[simp] theorem en9_0 : evCode C n9_0 R S = seqK (evCode C n9_1 R S) fun R S => evCode C n9_2 R S := ev_seq
theorem q9 {n : Nat} {args : List Value} {S : St} : calls table.find (n + 1) 9 args S = endK S [.tmp 4, .tmp 5, .tmp 6] (evCode (calls table.find n) n9_0 (args ++ List.replicate (42 - args.length) undef) S.enter) := call_enter b9

/-! wainscot/wainscotlaw22.works -/
@[simp] def l10_1 : List IOper := [oy 0 (.mv (.c (.bool false)))]
def n10_1 : ICode := .region l10_1
@[simp] def l10_3 : List IOper := [oy 14 (.call (.c (.func (.func 7) #[] #[])) [(.c (.int .i64 3)), (.c (.int .i64 3)), (.c (.int .u64 0)), (.c (.int .u64 5))] false),
  oy 13 (.mv (.t 14)),
  oy 15 (.extract (.t 13) 0),
  oy 16 (.extract (.t 13) 1),
  oy 2 (.new 26 [(.int .i64 0), (.int .i64 0), (.int .i64 0), (.int .i64 0), (.int .i64 0), (.int .u64 0)]),
  oy 1 (.mv (.t 15)),
  ox (.store 6 (.t 2) (.t 16))]
def n10_3 : ICode := .region l10_3
@[simp] def l10_6 : List IOper := [oy 17 (.mv (.t 1)),
  oy 18 (.bin .eql .ptr (.t 17) (.c (.pointer none)))]
def n10_6 : ICode := .region l10_6
@[simp] def l10_9 : List IOper := [oy 0 (.mv (.c (.bool false)))]
def n10_9 : ICode := .region l10_9
def n10_10 : ICode := .ret
def n10_8 : ICode := .seq n10_9 n10_10
def n10_11 : ICode := .skip
def n10_7 : ICode := .cond (.t 18) n10_8 n10_11
def n10_5 : ICode := .seq n10_6 n10_7
@[simp] def l10_13 : List IOper := [oy 20 (.mv (.t 1)),
  oy 21 (.load true 6 (.t 2)),
  oy 22 (.build [(.int .i64 0), (.int .i64 0), (.int .i64 0), (.int .i64 0), (.int .i64 0), (.int .i64 0), (.int .i64 0), (.int .u64 0), (.int .u64 0), (.int .u64 0), (.int .u64 0), (.int .u64 0), (.int .i64 0), (.int .i64 0), (.int .i64 0), (.int .i64 0), (.int .i64 0)] [(0, 1, (.c (.int .i64 1)))]),
  oy 23 (.call (.c (.func (.func 8) #[] #[])) [(.t 20), (.t 21), (.t 22), (.c (.int .i64 9))] false),
  oy 19 (.mv (.t 23)),
  oy 24 (.extract (.t 19) 0),
  oy 25 (.extract (.t 19) 1),
  oy 3 (.new 30 [(.int .i64 0), (.int .i64 0), (.int .i64 0), (.int .i64 0), (.int .i64 0), (.int .i64 0), (.int .i64 0), (.int .u64 0), (.int .u64 0), (.int .u64 0), (.int .u64 0), (.int .u64 0), (.int .i64 0), (.int .i64 0), (.int .i64 0), (.int .i64 0), (.int .i64 0)]),
  ox (.store 17 (.t 3) (.t 24)),
  oy 4 (.mv (.t 25))]
def n10_13 : ICode := .region l10_13
@[simp] def l10_15 : List IOper := [oy 27 (.mv (.t 1)),
  oy 28 (.load true 6 (.t 2)),
  oy 29 (.call (.c (.func (.func 9) #[] #[])) [(.t 27), (.t 28)] false),
  oy 26 (.mv (.t 29)),
  oy 30 (.extract (.t 26) 0),
  oy 31 (.extract (.t 26) 1),
  oy 32 (.extract (.t 26) 2),
  oy 5 (.mv (.t 30)),
  oy 6 (.mv (.t 31)),
  oy 7 (.mv (.t 32))]
def n10_15 : ICode := .region l10_15
@[simp] def l10_17 : List IOper := [oy 34 (.mv (.t 1)),
  oy 35 (.load true 6 (.t 2)),
  oy 36 (.addOff 5 (.t 3)),
  oy 37 (.load false 1 (.t 36)),
  oy 38 (.addOff 6 (.t 3)),
  oy 39 (.load false 1 (.t 38)),
  oy 40 (.build [(.int .i64 0), (.int .i64 0), (.int .i64 0), (.int .i64 0), (.int .i64 0), (.int .i64 0), (.int .i64 0), (.int .u64 0), (.int .u64 0), (.int .u64 0), (.int .u64 0), (.int .u64 0), (.int .i64 0), (.int .i64 0), (.int .i64 0), (.int .i64 0), (.int .i64 0)] [(0, 1, (.c (.int .i64 2))), (2, 1, (.c (.int .i64 10))), (5, 1, (.t 37)), (6, 1, (.t 39))]),
  oy 41 (.call (.c (.func (.func 8) #[] #[])) [(.t 34), (.t 35), (.t 40), (.c (.int .i64 9))] false),
  oy 33 (.mv (.t 41)),
  oy 42 (.extract (.t 33) 0),
  oy 43 (.extract (.t 33) 1),
  oy 8 (.new 30 [(.int .i64 0), (.int .i64 0), (.int .i64 0), (.int .i64 0), (.int .i64 0), (.int .i64 0), (.int .i64 0), (.int .u64 0), (.int .u64 0), (.int .u64 0), (.int .u64 0), (.int .u64 0), (.int .i64 0), (.int .i64 0), (.int .i64 0), (.int .i64 0), (.int .i64 0)]),
  ox (.store 17 (.t 8) (.t 42)),
  oy 9 (.mv (.t 43))]
def n10_17 : ICode := .region l10_17
@[simp] def l10_19 : List IOper := [oy 45 (.mv (.t 1)),
  oy 46 (.load true 6 (.t 2)),
  oy 47 (.call (.c (.func (.func 9) #[] #[])) [(.t 45), (.t 46)] false),
  oy 44 (.mv (.t 47)),
  oy 48 (.extract (.t 44) 0),
  oy 49 (.extract (.t 44) 1),
  oy 50 (.extract (.t 44) 2),
  oy 10 (.mv (.t 48)),
  oy 11 (.mv (.t 49)),
  oy 12 (.mv (.t 50))]
def n10_19 : ICode := .region l10_19
@[simp] def l10_21 : List IOper := [oy 51 (.mv (.t 4)),
  oy 52 (.bin .eql .int (.t 51) (.c (.int .i64 4))),
  oy 53 (.mv (.t 52)),
  oz 54 53 true (.addOff 3 (.t 3)),
  oz 55 53 true (.load false 1 (.t 54)),
  oz 56 53 true (.bin .eql .int (.t 55) (.c (.int .i64 1))),
  oy 57 (.pick (.t 53) (.t 56) (.c (.bool false))),
  oy 58 (.mv (.t 57)),
  oz 59 58 true (.addOff 5 (.t 3)),
  oz 60 58 true (.load false 1 (.t 59)),
  oz 61 58 true (.bin .eql .int (.t 60) (.c (.int .i64 0))),
  oy 62 (.pick (.t 58) (.t 61) (.c (.bool false))),
  oy 63 (.mv (.t 62)),
  oz 64 63 true (.addOff 6 (.t 3)),
  oz 65 63 true (.load false 1 (.t 64)),
  oz 66 63 true (.bin .eql .int (.t 65) (.c (.int .i64 0))),
  oy 67 (.pick (.t 63) (.t 66) (.c (.bool false))),
  oy 68 (.mv (.t 67)),
  oz 69 68 true (.mv (.t 7)),
  oy 70 (.pick (.t 68) (.t 69) (.c (.bool false))),
  oy 71 (.mv (.t 70)),
  oz 72 71 true (.mv (.t 5)),
  oz 73 71 true (.buildSlice 3 [(.int .i64 0), (.int .i64 0)] 2 [(0, 1, (.c (.int .i64 1))), (1, 1, (.c (.int .i64 2)))]),
  oz 74 71 true (.call (.c (.func (.func 24) #[] #[])) [(.t 72), (.t 73)] true),
  oy 75 (.pick (.t 71) (.t 74) (.c (.bool false))),
  oy 76 (.mv (.t 75)),
  oz 77 76 true (.mv (.t 6)),
  oz 78 76 true (.bin .eql .int (.t 77) (.c (.int .u64 6))),
  oy 79 (.pick (.t 76) (.t 78) (.c (.bool false))),
  oy 80 (.mv (.t 79)),
  oz 81 80 true (.mv (.t 9)),
  oz 82 80 true (.bin .eql .int (.t 81) (.c (.int .i64 4))),
  oy 83 (.pick (.t 80) (.t 82) (.c (.bool false))),
  oy 84 (.mv (.t 83)),
  oz 85 84 true (.addOff 3 (.t 8)),
  oz 86 84 true (.load false 1 (.t 85)),
  oz 87 84 true (.bin .eql .int (.t 86) (.c (.int .i64 1))),
  oy 88 (.pick (.t 84) (.t 87) (.c (.bool false))),
  oy 89 (.mv (.t 88)),
  oz 90 89 true (.mv (.t 12)),
  oy 91 (.pick (.t 89) (.t 90) (.c (.bool false))),
  oy 92 (.mv (.t 91)),
  oz 93 92 true (.mv (.t 10)),
  oz 94 92 true (.buildSlice 3 [(.int .i64 0), (.int .i64 0), (.int .i64 0)] 3 [(0, 1, (.c (.int .i64 0))), (1, 1, (.c (.int .i64 1))), (2, 1, (.c (.int .i64 2)))]),
  oz 95 92 true (.call (.c (.func (.func 24) #[] #[])) [(.t 93), (.t 94)] true),
  oy 96 (.pick (.t 92) (.t 95) (.c (.bool false))),
  oy 97 (.mv (.t 96)),
  oz 98 97 true (.mv (.t 11)),
  oz 99 97 true (.bin .eql .int (.t 98) (.c (.int .u64 7))),
  oy 100 (.pick (.t 97) (.t 99) (.c (.bool false))),
  oy 0 (.mv (.t 100))]
def n10_21 : ICode := .region l10_21
def n10_22 : ICode := .ret
def n10_20 : ICode := .seq n10_21 n10_22
def n10_18 : ICode := .seq n10_19 n10_20
def n10_16 : ICode := .seq n10_17 n10_18
def n10_14 : ICode := .seq n10_15 n10_16
def n10_12 : ICode := .seq n10_13 n10_14
def n10_4 : ICode := .seq n10_5 n10_12
def n10_2 : ICode := .seq n10_3 n10_4
def n10_0 : ICode := .seq n10_1 n10_2
theorem b10 : table.find 10 = some ⟨101, n10_0, [.tmp 0]⟩ := by kernel_rfl
@[simp] theorem en10_1 : evCode C n10_1 R S = regK (runOps C l10_1 R S) := ev_plain rfl
@[simp] theorem en10_3 : evCode C n10_3 R S = regK (runOps C l10_3 R S) := ev_plain rfl
@[simp] theorem en10_6 : evCode C n10_6 R S = regK (runOps C l10_6 R S) := ev_plain rfl
@[simp] theorem en10_9 : evCode C n10_9 R S = regK (runOps C l10_9 R S) := ev_plain rfl
@[simp] theorem en10_10 : evCode C n10_10 R S = some (.ret, R, S) := (rfl)
@[simp] theorem en10_8 : evCode C n10_8 R S = seqK (evCode C n10_9 R S) fun R S => evCode C n10_10 R S := ev_seq
@[simp] theorem en10_11 : evCode C n10_11 R S = some (.norm, R, S) := (rfl)
@[simp] theorem en10_7 : evCode C n10_7 R S = condK (IV.ev R (.t 18)) (fun _ => evCode C n10_8 R S) fun _ => evCode C n10_11 R S := ev_cond
@[simp] theorem en10_5 : evCode C n10_5 R S = seqK (evCode C n10_6 R S) fun R S => evCode C n10_7 R S := ev_seq
@[simp] theorem en10_13 : evCode C n10_13 R S = regK (runOps C l10_13 R S) := ev_plain rfl
@[simp] theorem en10_15 : evCode C n10_15 R S = regK (runOps C l10_15 R S) := ev_plain rfl
@[simp] theorem en10_17 : evCode C n10_17 R S = regK (runOps C l10_17 R S) := ev_plain rfl
@[simp] theorem en10_19 : evCode C n10_19 R S = regK (runOps C l10_19 R S) := ev_plain rfl
@[simp] theorem en10_21 : evCode C n10_21 R S = regK (runOps C l10_21 R S) := ev_plain rfl
@[simp] theorem en10_22 : evCode C n10_22 R S = some (.ret, R, S) := (rfl)
@[simp] theorem en10_20 : evCode C n10_20 R S = seqK (evCode C n10_21 R S) fun R S => evCode C n10_22 R S := ev_seq
@[simp] theorem en10_18 : evCode C n10_18 R S = seqK (evCode C n10_19 R S) fun R S => evCode C n10_20 R S := ev_seq
@[simp] theorem en10_16 : evCode C n10_16 R S = seqK (evCode C n10_17 R S) fun R S => evCode C n10_18 R S := ev_seq
@[simp] theorem en10_14 : evCode C n10_14 R S = seqK (evCode C n10_15 R S) fun R S => evCode C n10_16 R S := ev_seq
@[simp] theorem en10_12 : evCode C n10_12 R S = seqK (evCode C n10_13 R S) fun R S => evCode C n10_14 R S := ev_seq
@[simp] theorem en10_4 : evCode C n10_4 R S = seqK (evCode C n10_5 R S) fun R S => evCode C n10_12 R S := ev_seq
@[simp] theorem en10_2 : evCode C n10_2 R S = seqK (evCode C n10_3 R S) fun R S => evCode C n10_4 R S := ev_seq
@[simp] theorem en10_0 : evCode C n10_0 R S = seqK (evCode C n10_1 R S) fun R S => evCode C n10_2 R S := ev_seq
theorem q10 {n : Nat} {args : List Value} {S : St} : calls table.find (n + 1) 10 args S = endK S [.tmp 0] (evCode (calls table.find n) n10_0 (args ++ List.replicate (101 - args.length) undef) S.enter) := call_enter b10

/-! wainscot/fast.Step -/
@[simp] def l11_1 : List IOper := [oy 4 (.box 26 6 (.t 1)),
  oy 5 (.box 30 17 (.t 2)),
  oy 6 (.new 30 [(.int .i64 0), (.int .i64 0), (.int .i64 0), (.int .i64 0), (.int .i64 0), (.int .i64 0), (.int .i64 0), (.int .u64 0), (.int .u64 0), (.int .u64 0), (.int .u64 0), (.int .u64 0), (.int .i64 0), (.int .i64 0), (.int .i64 0), (.int .i64 0), (.int .i64 0)]),
  oy 7 (.mv (.c (.int .i64 0)))]
def n11_1 : ICode := .region l11_1
@[simp] def l11_5 : List IOper := [oy 12 (.mv (.t 0)),
  oy 13 (.call (.c (.func (.func 25) #[] #[])) [(.t 12)] true),
  oy 14 (.bin .eql .int (.t 13) (.c (.int .i64 0))),
  oy 11 (.mv (.t 14))]
def n11_5 : ICode := .region l11_5
@[simp] def l11_8 : List IOper := [oy 15 (.build [(.int .i64 0), (.int .i64 0), (.int .i64 0), (.int .i64 0), (.int .i64 0), (.int .i64 0), (.int .i64 0), (.int .u64 0), (.int .u64 0), (.int .u64 0), (.int .u64 0), (.int .u64 0), (.int .i64 0), (.int .i64 0), (.int .i64 0), (.int .i64 0), (.int .i64 0)] []),
  ox (.store 17 (.t 6) (.t 15)),
  oy 7 (.mv (.c (.int .i64 1)))]
def n11_8 : ICode := .region l11_8
def n11_9 : ICode := .ret
def n11_7 : ICode := .seq n11_8 n11_9
@[simp] def l11_11 : List IOper := [oy 17 (.load true 6 (.t 4)),
  oy 18 (.call (.c (.func (.func 26) #[] #[])) [(.t 17)] true),
  oy 19 (.bin .neq .int (.t 18) (.c (.int .i64 0))),
  oy 16 (.mv (.t 19))]
def n11_11 : ICode := .region l11_11
@[simp] def l11_14 : List IOper := [oy 20 (.build [(.int .i64 0), (.int .i64 0), (.int .i64 0), (.int .i64 0), (.int .i64 0), (.int .i64 0), (.int .i64 0), (.int .u64 0), (.int .u64 0), (.int .u64 0), (.int .u64 0), (.int .u64 0), (.int .i64 0), (.int .i64 0), (.int .i64 0), (.int .i64 0), (.int .i64 0)] []),
  ox (.store 17 (.t 6) (.t 20)),
  oy 7 (.mv (.c (.int .i64 2)))]
def n11_14 : ICode := .region l11_14
def n11_15 : ICode := .ret
def n11_13 : ICode := .seq n11_14 n11_15
def n11_16 : ICode := .skip
def n11_12 : ICode := .cond (.t 16) n11_13 n11_16
def n11_10 : ICode := .seq n11_11 n11_12
def n11_6 : ICode := .cond (.t 11) n11_7 n11_10
def n11_4 : ICode := .seq n11_5 n11_6
def n11_3 : ICode := .block 0 n11_4
@[simp] def l11_18 : List IOper := [oy 22 (.call (.c (.func (.func 27) #[] #[])) [] true),
  oy 23 (.addOff 2 (.t 5)),
  oy 24 (.load false 1 (.t 23)),
  oy 25 (.lookup .nilFunc true (.t 22) (.t 24)),
  oy 21 (.mv (.t 25)),
  oy 26 (.extract (.t 21) 0),
  oy 27 (.extract (.t 21) 1),
  oy 8 (.mv (.t 26)),
  oy 9 (.mv (.t 27))]
def n11_18 : ICode := .region l11_18
@[simp] def l11_21 : List IOper := [oy 28 (.mv (.t 9)),
  oy 29 (.un .not (.t 28)),
  oy 30 (.mv (.t 29)),
  oz 31 30 false (.addOff 3 (.t 5)),
  oz 32 30 false (.load false 1 (.t 31)),
  oz 33 30 false (.bin .neq .int (.t 32) (.c (.int .i64 0))),
  oy 34 (.pick (.t 30) (.c (.bool true)) (.t 33)),
  oy 35 (.mv (.t 34)),
  oz 36 35 false (.addOff 4 (.t 5)),
  oz 37 35 false (.load false 1 (.t 36)),
  oz 38 35 false (.bin .neq .int (.t 37) (.c (.int .i64 0))),
  oy 39 (.pick (.t 35) (.c (.bool true)) (.t 38))]
def n11_21 : ICode := .region l11_21
@[simp] def l11_24 : List IOper := [oy 40 (.build [(.int .i64 0), (.int .i64 0), (.int .i64 0), (.int .i64 0), (.int .i64 0), (.int .i64 0), (.int .i64 0), (.int .u64 0), (.int .u64 0), (.int .u64 0), (.int .u64 0), (.int .u64 0), (.int .i64 0), (.int .i64 0), (.int .i64 0), (.int .i64 0), (.int .i64 0)] []),
  ox (.store 17 (.t 6) (.t 40)),
  oy 7 (.mv (.c (.int .i64 292)))]
def n11_24 : ICode := .region l11_24
def n11_25 : ICode := .ret
def n11_23 : ICode := .seq n11_24 n11_25
def n11_26 : ICode := .skip
def n11_22 : ICode := .cond (.t 39) n11_23 n11_26
def n11_20 : ICode := .seq n11_21 n11_22
@[simp] def l11_28 : List IOper := [oy 41 (.mv (.t 0)),
  oy 42 (.load true 6 (.t 4)),
  oy 43 (.load true 17 (.t 5)),
  oy 44 (.build [(.pointer none), (.int .i64 0), (.int .i64 0), (.int .i64 0), (.int .i64 0), (.int .i64 0), (.int .u64 0), (.int .i64 0), (.int .i64 0), (.int .i64 0), (.int .i64 0), (.int .i64 0), (.int .i64 0), (.int .i64 0), (.int .u64 0), (.int .u64 0), (.int .u64 0), (.int .u64 0), (.int .u64 0), (.int .i64 0), (.int .i64 0), (.int .i64 0), (.int .i64 0), (.int .i64 0), (.bool false)] [(0, 1, (.t 41)), (1, 6, (.t 42)), (7, 17, (.t 43))]),
  oy 45 (.box 81 25 (.t 44)),
  oy 10 (.mv (.t 45))]
def n11_28 : ICode := .region l11_28
@[simp] def l11_31 : List IOper := [oy 46 (.mv (.t 8)),
  oy 47 (.mv (.t 10)),
  oy 48 (.call (.t 46) [(.t 47)] false)]
def n11_31 : ICode := .region l11_31
@[simp] def l11_33 : List IOper := [oy 49 (.mv (.t 10)),
  oy 50 (.nilCheck (.t 49)),
  oy 51 (.addOff 24 (.t 50)),
  oy 52 (.load false 1 (.t 51))]
def n11_33 : ICode := .region l11_33
@[simp] def l11_36 : List IOper := [oy 53 (.addOff 3 (.t 5)),
  ox (.store 1 (.t 53) (.c (.int .i64 3)))]
def n11_36 : ICode := .region l11_36
@[simp] def l11_38 : List IOper := [oy 54 (.load true 17 (.t 5)),
  ox (.store 17 (.t 6) (.t 54)),
  oy 7 (.mv (.c (.int .i64 0)))]
def n11_38 : ICode := .region l11_38
def n11_39 : ICode := .ret
def n11_37 : ICode := .seq n11_38 n11_39
def n11_35 : ICode := .seq n11_36 n11_37
def n11_40 : ICode := .skip
def n11_34 : ICode := .cond (.t 52) n11_35 n11_40
def n11_32 : ICode := .seq n11_33 n11_34
def n11_30 : ICode := .seq n11_31 n11_32
@[simp] def l11_42 : List IOper := [oy 55 (.mv (.t 10)),
  oy 56 (.nilCheck (.t 55)),
  oy 57 (.addOff 7 (.t 56)),
  oy 58 (.load true 17 (.t 57)),
  ox (.store 17 (.t 6) (.t 58)),
  oy 7 (.mv (.c (.int .i64 0)))]
def n11_42 : ICode := .region l11_42
def n11_43 : ICode := .ret
def n11_41 : ICode := .seq n11_42 n11_43
def n11_29 : ICode := .seq n11_30 n11_41
def n11_27 : ICode := .seq n11_28 n11_29
def n11_19 : ICode := .seq n11_20 n11_27
def n11_17 : ICode := .seq n11_18 n11_19
def n11_2 : ICode := .seq n11_3 n11_17
def n11_0 : ICode := .seq n11_1 n11_2
theorem b11 : table.find 11 = some ⟨59, n11_0, [.cell 6 true 17, .tmp 7]⟩ := by kernel_rfl
@[simp] theorem en11_1 : evCode C n11_1 R S = regK (runOps C l11_1 R S) := ev_plain rfl
@[simp] theorem en11_5 : evCode C n11_5 R S = regK (runOps C l11_5 R S) := ev_plain rfl
@[simp] theorem en11_8 : evCode C n11_8 R S = regK (runOps C l11_8 R S) := ev_plain rfl
@[simp] theorem en11_9 : evCode C n11_9 R S = some (.ret, R, S) := (rfl)
@[simp] theorem en11_7 : evCode C n11_7 R S = seqK (evCode C n11_8 R S) fun R S => evCode C n11_9 R S := ev_seq
@[simp] theorem en11_11 : evCode C n11_11 R S = regK (runOps C l11_11 R S) := ev_plain rfl
@[simp] theorem en11_14 : evCode C n11_14 R S = regK (runOps C l11_14 R S) := ev_plain rfl
@[simp] theorem en11_15 : evCode C n11_15 R S = some (.ret, R, S) := (rfl)
@[simp] theorem en11_13 : evCode C n11_13 R S = seqK (evCode C n11_14 R S) fun R S => evCode C n11_15 R S := ev_seq
@[simp] theorem en11_16 : evCode C n11_16 R S = some (.norm, R, S) := (rfl)
@[simp] theorem en11_12 : evCode C n11_12 R S = condK (IV.ev R (.t 16)) (fun _ => evCode C n11_13 R S) fun _ => evCode C n11_16 R S := ev_cond
@[simp] theorem en11_10 : evCode C n11_10 R S = seqK (evCode C n11_11 R S) fun R S => evCode C n11_12 R S := ev_seq
@[simp] theorem en11_6 : evCode C n11_6 R S = condK (IV.ev R (.t 11)) (fun _ => evCode C n11_7 R S) fun _ => evCode C n11_10 R S := ev_cond
@[simp] theorem en11_4 : evCode C n11_4 R S = seqK (evCode C n11_5 R S) fun R S => evCode C n11_6 R S := ev_seq
@[simp] theorem en11_3 : evCode C n11_3 R S = blockK 0 (evCode C n11_4 R S) := ev_block
@[simp] theorem en11_18 : evCode C n11_18 R S = regK (runOps C l11_18 R S) := ev_plain rfl
@[simp] theorem en11_21 : evCode C n11_21 R S = regK (runOps C l11_21 R S) := ev_plain rfl
@[simp] theorem en11_24 : evCode C n11_24 R S = regK (runOps C l11_24 R S) := ev_plain rfl
@[simp] theorem en11_25 : evCode C n11_25 R S = some (.ret, R, S) := (rfl)
@[simp] theorem en11_23 : evCode C n11_23 R S = seqK (evCode C n11_24 R S) fun R S => evCode C n11_25 R S := ev_seq
@[simp] theorem en11_26 : evCode C n11_26 R S = some (.norm, R, S) := (rfl)
@[simp] theorem en11_22 : evCode C n11_22 R S = condK (IV.ev R (.t 39)) (fun _ => evCode C n11_23 R S) fun _ => evCode C n11_26 R S := ev_cond
@[simp] theorem en11_20 : evCode C n11_20 R S = seqK (evCode C n11_21 R S) fun R S => evCode C n11_22 R S := ev_seq
@[simp] theorem en11_28 : evCode C n11_28 R S = regK (runOps C l11_28 R S) := ev_plain rfl
@[simp] theorem en11_31 : evCode C n11_31 R S = regK (runOps C l11_31 R S) := ev_plain rfl
@[simp] theorem en11_33 : evCode C n11_33 R S = regK (runOps C l11_33 R S) := ev_plain rfl
@[simp] theorem en11_36 : evCode C n11_36 R S = regK (runOps C l11_36 R S) := ev_plain rfl
@[simp] theorem en11_38 : evCode C n11_38 R S = regK (runOps C l11_38 R S) := ev_plain rfl
@[simp] theorem en11_39 : evCode C n11_39 R S = some (.ret, R, S) := (rfl)
@[simp] theorem en11_37 : evCode C n11_37 R S = seqK (evCode C n11_38 R S) fun R S => evCode C n11_39 R S := ev_seq
@[simp] theorem en11_35 : evCode C n11_35 R S = seqK (evCode C n11_36 R S) fun R S => evCode C n11_37 R S := ev_seq
@[simp] theorem en11_40 : evCode C n11_40 R S = some (.norm, R, S) := (rfl)
@[simp] theorem en11_34 : evCode C n11_34 R S = condK (IV.ev R (.t 52)) (fun _ => evCode C n11_35 R S) fun _ => evCode C n11_40 R S := ev_cond
@[simp] theorem en11_32 : evCode C n11_32 R S = seqK (evCode C n11_33 R S) fun R S => evCode C n11_34 R S := ev_seq
@[simp] theorem en11_30 : evCode C n11_30 R S = seqK (evCode C n11_31 R S) fun R S => evCode C n11_32 R S := ev_seq
@[simp] theorem en11_42 : evCode C n11_42 R S = regK (runOps C l11_42 R S) := ev_plain rfl
@[simp] theorem en11_43 : evCode C n11_43 R S = some (.ret, R, S) := (rfl)
@[simp] theorem en11_41 : evCode C n11_41 R S = seqK (evCode C n11_42 R S) fun R S => evCode C n11_43 R S := ev_seq
@[simp] theorem en11_29 : evCode C n11_29 R S = seqK (evCode C n11_30 R S) fun R S => evCode C n11_41 R S := ev_seq
@[simp] theorem en11_27 : evCode C n11_27 R S = seqK (evCode C n11_28 R S) fun R S => evCode C n11_29 R S := ev_seq
@[simp] theorem en11_19 : evCode C n11_19 R S = seqK (evCode C n11_20 R S) fun R S => evCode C n11_27 R S := ev_seq
@[simp] theorem en11_17 : evCode C n11_17 R S = seqK (evCode C n11_18 R S) fun R S => evCode C n11_19 R S := ev_seq
@[simp] theorem en11_2 : evCode C n11_2 R S = seqK (evCode C n11_3 R S) fun R S => evCode C n11_17 R S := ev_seq
@[simp] theorem en11_0 : evCode C n11_0 R S = seqK (evCode C n11_1 R S) fun R S => evCode C n11_2 R S := ev_seq
theorem q11 {n : Nat} {args : List Value} {S : St} : calls table.find (n + 1) 11 args S = endK S [.cell 6 true 17, .tmp 7] (evCode (calls table.find n) n11_0 (args ++ List.replicate (59 - args.length) undef) S.enter) := call_enter b11

/-! (*wainscot/mem.Mem).Store -/
@[simp] def l12_1 : List IOper := [oy 5 (.box 22 1 (.t 2)),
  oy 6 (.mv (.c (.int .i64 0)))]
def n12_1 : ICode := .region l12_1
@[simp] def l12_3 : List IOper := [oy 7 (.mv (.t 0)),
  oy 8 (.mv (.t 1)),
  oy 9 (.mkFunc 29 [] [(.t 5)]),
  oy 10 (.call (.c (.func (.func 28) #[] #[])) [(.t 7), (.t 8), (.c (.int .i64 1)), (.t 9)] false),
  oy 6 (.mv (.t 10))]
def n12_3 : ICode := .region l12_3
def n12_4 : ICode := .ret
def n12_2 : ICode := .seq n12_3 n12_4
def n12_0 : ICode := .seq n12_1 n12_2
theorem b12 : table.find 12 = some ⟨11, n12_0, [.tmp 6]⟩ := by kernel_rfl
@[simp] theorem en12_1 : evCode C n12_1 R S = regK (runOps C l12_1 R S) := ev_plain rfl
@[simp] theorem en12_3 : evCode C n12_3 R S = regK (runOps C l12_3 R S) := ev_plain rfl
@[simp] theorem en12_4 : evCode C n12_4 R S = some (.ret, R, S) := (rfl)
@[simp] theorem en12_2 : evCode C n12_2 R S = seqK (evCode C n12_3 R S) fun R S => evCode C n12_4 R S := ev_seq
@[simp] theorem en12_0 : evCode C n12_0 R S = seqK (evCode C n12_1 R S) fun R S => evCode C n12_2 R S := ev_seq
theorem q12 {n : Nat} {args : List Value} {S : St} : calls table.find (n + 1) 12 args S = endK S [.tmp 6] (evCode (calls table.find n) n12_0 (args ++ List.replicate (11 - args.length) undef) S.enter) := call_enter b12

/-! wainscot/mem.New -/
@[simp] def l14_1 : List IOper := [oy 2 (.mv (.c (.pointer none))),
  oy 3 (.mv (.c (.int .i64 0)))]
def n14_1 : ICode := .region l14_1
@[simp] def l14_4 : List IOper := [oy 4 (.mv (.t 0)),
  oy 5 (.bin .lss .int (.t 4) (.c (.int .i64 1))),
  oy 6 (.mv (.t 5)),
  oz 7 6 false (.mv (.t 0)),
  oz 8 6 false (.bin .gtr .int (.t 7) (.c (.int .i64 4096))),
  oy 9 (.pick (.t 6) (.c (.bool true)) (.t 8))]
def n14_4 : ICode := .region l14_4
@[simp] def l14_7 : List IOper := [oy 2 (.mv (.c (.pointer none))),
  oy 3 (.mv (.c (.int .i64 9)))]
def n14_7 : ICode := .region l14_7
def n14_8 : ICode := .ret
def n14_6 : ICode := .seq n14_7 n14_8
def n14_9 : ICode := .skip
def n14_5 : ICode := .cond (.t 9) n14_6 n14_9
def n14_3 : ICode := .seq n14_4 n14_5
@[simp] def l14_11 : List IOper := [oy 10 (.mv (.t 0)),
  oy 11 (.mkSlice 22 (.int .u64 0) 8 (.t 10) (.t 10)),
  oy 12 (.build [(.slice none 0 0), (.int .i64 0)] [(0, 1, (.t 11))]),
  oy 13 (.box 47 2 (.t 12)),
  oy 2 (.mv (.t 13)),
  oy 3 (.mv (.c (.int .i64 0)))]
def n14_11 : ICode := .region l14_11
def n14_12 : ICode := .ret
def n14_10 : ICode := .seq n14_11 n14_12
def n14_2 : ICode := .seq n14_3 n14_10
def n14_0 : ICode := .seq n14_1 n14_2
theorem b14 : table.find 14 = some ⟨14, n14_0, [.tmp 2, .tmp 3]⟩ := by kernel_rfl
@[simp] theorem en14_1 : evCode C n14_1 R S = regK (runOps C l14_1 R S) := ev_plain rfl
@[simp] theorem en14_4 : evCode C n14_4 R S = regK (runOps C l14_4 R S) := ev_plain rfl
@[simp] theorem en14_7 : evCode C n14_7 R S = regK (runOps C l14_7 R S) := ev_plain rfl
@[simp] theorem en14_8 : evCode C n14_8 R S = some (.ret, R, S) := (rfl)
@[simp] theorem en14_6 : evCode C n14_6 R S = seqK (evCode C n14_7 R S) fun R S => evCode C n14_8 R S := ev_seq
@[simp] theorem en14_9 : evCode C n14_9 R S = some (.norm, R, S) := (rfl)
@[simp] theorem en14_5 : evCode C n14_5 R S = condK (IV.ev R (.t 9)) (fun _ => evCode C n14_6 R S) fun _ => evCode C n14_9 R S := ev_cond
@[simp] theorem en14_3 : evCode C n14_3 R S = seqK (evCode C n14_4 R S) fun R S => evCode C n14_5 R S := ev_seq
@[simp] theorem en14_11 : evCode C n14_11 R S = regK (runOps C l14_11 R S) := ev_plain rfl
@[simp] theorem en14_12 : evCode C n14_12 R S = some (.ret, R, S) := (rfl)
@[simp] theorem en14_10 : evCode C n14_10 R S = seqK (evCode C n14_11 R S) fun R S => evCode C n14_12 R S := ev_seq
@[simp] theorem en14_2 : evCode C n14_2 R S = seqK (evCode C n14_3 R S) fun R S => evCode C n14_10 R S := ev_seq
@[simp] theorem en14_0 : evCode C n14_0 R S = seqK (evCode C n14_1 R S) fun R S => evCode C n14_2 R S := ev_seq
theorem q14 {n : Nat} {args : List Value} {S : St} : calls table.find (n + 1) 14 args S = endK S [.tmp 2, .tmp 3] (evCode (calls table.find n) n14_0 (args ++ List.replicate (14 - args.length) undef) S.enter) := call_enter b14

/-! wainscot/link.Fresh -/
@[simp] def l16_1 : List IOper := [oy 4 (.mv (.c (.slice none 0 0))),
  oy 5 (.mv (.c (.int .i64 0)))]
def n16_1 : ICode := .region l16_1
@[simp] def l16_4 : List IOper := [oy 8 (.mv (.t 0)),
  oy 9 (.bin .lss .int (.t 8) (.c (.int .i64 1))),
  oy 10 (.mv (.t 9)),
  oz 11 10 false (.mv (.t 0)),
  oz 12 10 false (.bin .gtr .int (.t 11) (.c (.int .i64 16))),
  oy 13 (.pick (.t 10) (.c (.bool true)) (.t 12))]
def n16_4 : ICode := .region l16_4
@[simp] def l16_7 : List IOper := [oy 4 (.mv (.c (.slice none 0 0))),
  oy 5 (.mv (.c (.int .i64 2)))]
def n16_7 : ICode := .region l16_7
def n16_8 : ICode := .ret
def n16_6 : ICode := .seq n16_7 n16_8
def n16_9 : ICode := .skip
def n16_5 : ICode := .cond (.t 13) n16_6 n16_9
def n16_3 : ICode := .seq n16_4 n16_5
@[simp] def l16_11 : List IOper := [oy 14 (.mv (.t 0)),
  oy 15 (.mkSlice 22 (.int .u64 0) 8 (.t 14) (.t 14)),
  oy 6 (.mv (.t 15))]
def n16_11 : ICode := .region l16_11
@[simp] def l16_14 : List IOper := [oy 16 (.mv (.t 6)),
  oy 17 (.lenS (.t 16)),
  oy 18 (.mv (.c (.int .i64 0)))]
def n16_14 : ICode := .region l16_14
@[simp] def l16_17 : List IOper := [oy 19 (.bin .lss .int (.t 18) (.t 17))]
def n16_17 : ICode := .region l16_17
def n16_20 : ICode := .skip
def n16_21 : ICode := .exit 0
def n16_19 : ICode := .cond (.t 19) n16_20 n16_21
@[simp] def l16_25 : List IOper := [oy 20 (.mv (.t 18)),
  oy 7 (.mv (.t 20))]
def n16_25 : ICode := .region l16_25
@[simp] def l16_26 : List IOper := [oy 21 (.mv (.t 6)),
  oy 22 (.mv (.t 7)),
  oy 23 (.mv (.t 7)),
  oy 24 (.bin .add .int (.t 23) (.c (.int .i64 2))),
  oy 25 (.conv .u64 (.t 24)),
  oy 26 (.mv (.t 1)),
  oy 27 (.mv (.t 7)),
  oy 28 (.call (.c (.func (.func 33) #[] #[])) [(.t 26), (.t 27)] true),
  oy 29 (.bin .xor .int (.t 25) (.t 28)),
  oy 30 (.idxS 1 (.t 21) (.t 22)),
  ox (.store 1 (.t 30) (.t 29))]
def n16_26 : ICode := .region l16_26
def n16_24 : ICode := .seq n16_25 n16_26
def n16_23 : ICode := .block 1 n16_24
@[simp] def l16_27 : List IOper := [oy 31 (.bin .add .int (.t 18) (.c (.int .i64 1))),
  oy 18 (.mv (.t 31))]
def n16_27 : ICode := .region l16_27
def n16_22 : ICode := .seq n16_23 n16_27
def n16_18 : ICode := .seq n16_19 n16_22
def n16_16 : ICode := .seq n16_17 n16_18
def loop16_0 : ICode := .loop n16_16
def n16_15 : ICode := .block 0 loop16_0
def n16_13 : ICode := .seq n16_14 n16_15
@[simp] def l16_29 : List IOper := [oy 32 (.mv (.t 6)),
  oy 33 (.mv (.t 0)),
  oy 34 (.bin .sub .int (.t 33) (.c (.int .i64 1))),
  oy 35 (.mv (.t 1)),
  oy 36 (.mv (.t 0)),
  oy 37 (.bin .sub .int (.t 36) (.c (.int .i64 1))),
  oy 38 (.call (.c (.func (.func 33) #[] #[])) [(.t 35), (.t 37)] true),
  oy 39 (.idxS 1 (.t 32) (.t 34)),
  ox (.store 1 (.t 39) (.t 38))]
def n16_29 : ICode := .region l16_29
@[simp] def l16_31 : List IOper := [oy 40 (.mv (.t 6)),
  oy 4 (.mv (.t 40)),
  oy 5 (.mv (.c (.int .i64 0)))]
def n16_31 : ICode := .region l16_31
def n16_32 : ICode := .ret
def n16_30 : ICode := .seq n16_31 n16_32
def n16_28 : ICode := .seq n16_29 n16_30
def n16_12 : ICode := .seq n16_13 n16_28
def n16_10 : ICode := .seq n16_11 n16_12
def n16_2 : ICode := .seq n16_3 n16_10
def n16_0 : ICode := .seq n16_1 n16_2
theorem b16 : table.find 16 = some ⟨41, n16_0, [.tmp 4, .tmp 5]⟩ := by kernel_rfl
@[simp] theorem en16_1 : evCode C n16_1 R S = regK (runOps C l16_1 R S) := ev_plain rfl
@[simp] theorem en16_4 : evCode C n16_4 R S = regK (runOps C l16_4 R S) := ev_plain rfl
@[simp] theorem en16_7 : evCode C n16_7 R S = regK (runOps C l16_7 R S) := ev_plain rfl
@[simp] theorem en16_8 : evCode C n16_8 R S = some (.ret, R, S) := (rfl)
@[simp] theorem en16_6 : evCode C n16_6 R S = seqK (evCode C n16_7 R S) fun R S => evCode C n16_8 R S := ev_seq
@[simp] theorem en16_9 : evCode C n16_9 R S = some (.norm, R, S) := (rfl)
@[simp] theorem en16_5 : evCode C n16_5 R S = condK (IV.ev R (.t 13)) (fun _ => evCode C n16_6 R S) fun _ => evCode C n16_9 R S := ev_cond
@[simp] theorem en16_3 : evCode C n16_3 R S = seqK (evCode C n16_4 R S) fun R S => evCode C n16_5 R S := ev_seq
@[simp] theorem en16_11 : evCode C n16_11 R S = regK (runOps C l16_11 R S) := ev_plain rfl
@[simp] theorem en16_14 : evCode C n16_14 R S = regK (runOps C l16_14 R S) := ev_plain rfl
@[simp] theorem en16_17 : evCode C n16_17 R S = regK (runOps C l16_17 R S) := ev_plain rfl
@[simp] theorem en16_20 : evCode C n16_20 R S = some (.norm, R, S) := (rfl)
@[simp] theorem en16_21 : evCode C n16_21 R S = some (.exit 0, R, S) := (rfl)
@[simp] theorem en16_19 : evCode C n16_19 R S = condK (IV.ev R (.t 19)) (fun _ => evCode C n16_20 R S) fun _ => evCode C n16_21 R S := ev_cond
@[simp] theorem en16_25 : evCode C n16_25 R S = regK (runOps C l16_25 R S) := ev_plain rfl
@[simp] theorem en16_26 : evCode C n16_26 R S = regK (runOps C l16_26 R S) := ev_plain rfl
@[simp] theorem en16_24 : evCode C n16_24 R S = seqK (evCode C n16_25 R S) fun R S => evCode C n16_26 R S := ev_seq
@[simp] theorem en16_23 : evCode C n16_23 R S = blockK 1 (evCode C n16_24 R S) := ev_block
@[simp] theorem en16_27 : evCode C n16_27 R S = regK (runOps C l16_27 R S) := ev_plain rfl
@[simp] theorem en16_22 : evCode C n16_22 R S = seqK (evCode C n16_23 R S) fun R S => evCode C n16_27 R S := ev_seq
@[simp] theorem en16_18 : evCode C n16_18 R S = seqK (evCode C n16_19 R S) fun R S => evCode C n16_22 R S := ev_seq
@[simp] theorem en16_16 : evCode C n16_16 R S = seqK (evCode C n16_17 R S) fun R S => evCode C n16_18 R S := ev_seq
theorem eloop16_0 : evCode C loop16_0 R S = iter (fun R S => evCode C n16_16 R S) rounds R S := (rfl)
@[simp] theorem en16_15 : evCode C n16_15 R S = blockK 0 (evCode C loop16_0 R S) := ev_block
@[simp] theorem en16_13 : evCode C n16_13 R S = seqK (evCode C n16_14 R S) fun R S => evCode C n16_15 R S := ev_seq
@[simp] theorem en16_29 : evCode C n16_29 R S = regK (runOps C l16_29 R S) := ev_plain rfl
@[simp] theorem en16_31 : evCode C n16_31 R S = regK (runOps C l16_31 R S) := ev_plain rfl
@[simp] theorem en16_32 : evCode C n16_32 R S = some (.ret, R, S) := (rfl)
@[simp] theorem en16_30 : evCode C n16_30 R S = seqK (evCode C n16_31 R S) fun R S => evCode C n16_32 R S := ev_seq
@[simp] theorem en16_28 : evCode C n16_28 R S = seqK (evCode C n16_29 R S) fun R S => evCode C n16_30 R S := ev_seq
@[simp] theorem en16_12 : evCode C n16_12 R S = seqK (evCode C n16_13 R S) fun R S => evCode C n16_28 R S := ev_seq
@[simp] theorem en16_10 : evCode C n16_10 R S = seqK (evCode C n16_11 R S) fun R S => evCode C n16_12 R S := ev_seq
@[simp] theorem en16_2 : evCode C n16_2 R S = seqK (evCode C n16_3 R S) fun R S => evCode C n16_10 R S := ev_seq
@[simp] theorem en16_0 : evCode C n16_0 R S = seqK (evCode C n16_1 R S) fun R S => evCode C n16_2 R S := ev_seq
theorem q16 {n : Nat} {args : List Value} {S : St} : calls table.find (n + 1) 16 args S = endK S [.tmp 4, .tmp 5] (evCode (calls table.find n) n16_0 (args ++ List.replicate (41 - args.length) undef) S.enter) := call_enter b16

/-! wainscot/count.Pack -/
@[simp] def l20_1 : List IOper := [oy 1 (.box 62 4 (.t 0)),
  oy 2 (.mv (.c (.int .u64 0))),
  oy 3 (.mv (.c (.int .i64 0)))]
def n20_1 : ICode := .region l20_1
@[simp] def l20_4 : List IOper := [oy 4 (.load true 4 (.t 1)),
  oy 5 (.call (.c (.func (.func 36) #[] #[])) [(.t 4)] true),
  oy 6 (.un .not (.t 5))]
def n20_4 : ICode := .region l20_4
@[simp] def l20_7 : List IOper := [oy 2 (.mv (.c (.int .u64 0))),
  oy 3 (.mv (.c (.int .i64 2)))]
def n20_7 : ICode := .region l20_7
def n20_8 : ICode := .ret
def n20_6 : ICode := .seq n20_7 n20_8
def n20_9 : ICode := .skip
def n20_5 : ICode := .cond (.t 6) n20_6 n20_9
def n20_3 : ICode := .seq n20_4 n20_5
@[simp] def l20_11 : List IOper := [oy 7 (.addOff 0 (.t 1)),
  oy 8 (.load false 1 (.t 7)),
  oy 9 (.conv .u64 (.t 8)),
  oy 10 (.addOff 1 (.t 1)),
  oy 11 (.load false 1 (.t 10)),
  oy 12 (.conv .u64 (.t 11)),
  oy 13 (.bin .shl .int (.t 12) (.c (.int .u64 8))),
  oy 14 (.bin .or .int (.t 9) (.t 13)),
  oy 15 (.addOff 2 (.t 1)),
  oy 16 (.load false 1 (.t 15)),
  oy 17 (.call (.c (.func (.func 37) #[] #[])) [(.t 16), (.c (.int .u64 65536))] true),
  oy 18 (.bin .or .int (.t 14) (.t 17)),
  oy 19 (.addOff 3 (.t 1)),
  oy 20 (.load false 1 (.t 19)),
  oy 21 (.call (.c (.func (.func 37) #[] #[])) [(.t 20), (.c (.int .u64 131072))] true),
  oy 22 (.bin .or .int (.t 18) (.t 21)),
  oy 2 (.mv (.t 22)),
  oy 3 (.mv (.c (.int .i64 0)))]
def n20_11 : ICode := .region l20_11
def n20_12 : ICode := .ret
def n20_10 : ICode := .seq n20_11 n20_12
def n20_2 : ICode := .seq n20_3 n20_10
def n20_0 : ICode := .seq n20_1 n20_2
theorem b20 : table.find 20 = some ⟨23, n20_0, [.tmp 2, .tmp 3]⟩ := by kernel_rfl
@[simp] theorem en20_1 : evCode C n20_1 R S = regK (runOps C l20_1 R S) := ev_plain rfl
@[simp] theorem en20_4 : evCode C n20_4 R S = regK (runOps C l20_4 R S) := ev_plain rfl
@[simp] theorem en20_7 : evCode C n20_7 R S = regK (runOps C l20_7 R S) := ev_plain rfl
@[simp] theorem en20_8 : evCode C n20_8 R S = some (.ret, R, S) := (rfl)
@[simp] theorem en20_6 : evCode C n20_6 R S = seqK (evCode C n20_7 R S) fun R S => evCode C n20_8 R S := ev_seq
@[simp] theorem en20_9 : evCode C n20_9 R S = some (.norm, R, S) := (rfl)
@[simp] theorem en20_5 : evCode C n20_5 R S = condK (IV.ev R (.t 6)) (fun _ => evCode C n20_6 R S) fun _ => evCode C n20_9 R S := ev_cond
@[simp] theorem en20_3 : evCode C n20_3 R S = seqK (evCode C n20_4 R S) fun R S => evCode C n20_5 R S := ev_seq
@[simp] theorem en20_11 : evCode C n20_11 R S = regK (runOps C l20_11 R S) := ev_plain rfl
@[simp] theorem en20_12 : evCode C n20_12 R S = some (.ret, R, S) := (rfl)
@[simp] theorem en20_10 : evCode C n20_10 R S = seqK (evCode C n20_11 R S) fun R S => evCode C n20_12 R S := ev_seq
@[simp] theorem en20_2 : evCode C n20_2 R S = seqK (evCode C n20_3 R S) fun R S => evCode C n20_10 R S := ev_seq
@[simp] theorem en20_0 : evCode C n20_0 R S = seqK (evCode C n20_1 R S) fun R S => evCode C n20_2 R S := ev_seq
theorem q20 {n : Nat} {args : List Value} {S : St} : calls table.find (n + 1) 20 args S = endK S [.tmp 2, .tmp 3] (evCode (calls table.find n) n20_0 (args ++ List.replicate (23 - args.length) undef) S.enter) := call_enter b20

/-! (*wainscot/mem.Mem).Words -/
@[simp] def l23_1 : List IOper := [oy 2 (.mv (.c (.slice none 0 0)))]
def n23_1 : ICode := .region l23_1
@[simp] def l23_4 : List IOper := [oy 3 (.mv (.t 0)),
  oy 4 (.bin .eql .ptr (.t 3) (.c (.pointer none)))]
def n23_4 : ICode := .region l23_4
@[simp] def l23_7 : List IOper := [oy 2 (.mv (.c (.slice none 0 0)))]
def n23_7 : ICode := .region l23_7
def n23_8 : ICode := .ret
def n23_6 : ICode := .seq n23_7 n23_8
def n23_9 : ICode := .skip
def n23_5 : ICode := .cond (.t 4) n23_6 n23_9
def n23_3 : ICode := .seq n23_4 n23_5
@[simp] def l23_11 : List IOper := [oy 5 (.mv (.t 0)),
  oy 6 (.nilCheck (.t 5)),
  oy 7 (.addOff 0 (.t 6)),
  oy 8 (.load false 1 (.t 7)),
  oy 9 (.call (.c (.func (.func 46) #[] #[])) [(.t 8)] true),
  oy 2 (.mv (.t 9))]
def n23_11 : ICode := .region l23_11
def n23_12 : ICode := .ret
def n23_10 : ICode := .seq n23_11 n23_12
def n23_2 : ICode := .seq n23_3 n23_10
def n23_0 : ICode := .seq n23_1 n23_2
theorem b23 : table.find 23 = some ⟨10, n23_0, [.tmp 2]⟩ := by kernel_rfl
@[simp] theorem en23_1 : evCode C n23_1 R S = regK (runOps C l23_1 R S) := ev_plain rfl
@[simp] theorem en23_4 : evCode C n23_4 R S = regK (runOps C l23_4 R S) := ev_plain rfl
@[simp] theorem en23_7 : evCode C n23_7 R S = regK (runOps C l23_7 R S) := ev_plain rfl
@[simp] theorem en23_8 : evCode C n23_8 R S = some (.ret, R, S) := (rfl)
@[simp] theorem en23_6 : evCode C n23_6 R S = seqK (evCode C n23_7 R S) fun R S => evCode C n23_8 R S := ev_seq
@[simp] theorem en23_9 : evCode C n23_9 R S = some (.norm, R, S) := (rfl)
@[simp] theorem en23_5 : evCode C n23_5 R S = condK (IV.ev R (.t 4)) (fun _ => evCode C n23_6 R S) fun _ => evCode C n23_9 R S := ev_cond
@[simp] theorem en23_3 : evCode C n23_3 R S = seqK (evCode C n23_4 R S) fun R S => evCode C n23_5 R S := ev_seq
@[simp] theorem en23_11 : evCode C n23_11 R S = regK (runOps C l23_11 R S) := ev_plain rfl
@[simp] theorem en23_12 : evCode C n23_12 R S = some (.ret, R, S) := (rfl)
@[simp] theorem en23_10 : evCode C n23_10 R S = seqK (evCode C n23_11 R S) fun R S => evCode C n23_12 R S := ev_seq
@[simp] theorem en23_2 : evCode C n23_2 R S = seqK (evCode C n23_3 R S) fun R S => evCode C n23_10 R S := ev_seq
@[simp] theorem en23_0 : evCode C n23_0 R S = seqK (evCode C n23_1 R S) fun R S => evCode C n23_2 R S := ev_seq
theorem q23 {n : Nat} {args : List Value} {S : St} : calls table.find (n + 1) 23 args S = endK S [.tmp 2] (evCode (calls table.find n) n23_0 (args ++ List.replicate (10 - args.length) undef) S.enter) := call_enter b23

/-! (*wainscot/mem.Mem).Len -/
@[simp] def l25_1 : List IOper := [oy 2 (.mv (.c (.int .i64 0)))]
def n25_1 : ICode := .region l25_1
@[simp] def l25_4 : List IOper := [oy 3 (.mv (.t 0)),
  oy 4 (.bin .eql .ptr (.t 3) (.c (.pointer none)))]
def n25_4 : ICode := .region l25_4
@[simp] def l25_7 : List IOper := [oy 2 (.mv (.c (.int .i64 0)))]
def n25_7 : ICode := .region l25_7
def n25_8 : ICode := .ret
def n25_6 : ICode := .seq n25_7 n25_8
def n25_9 : ICode := .skip
def n25_5 : ICode := .cond (.t 4) n25_6 n25_9
def n25_3 : ICode := .seq n25_4 n25_5
@[simp] def l25_11 : List IOper := [oy 5 (.mv (.t 0)),
  oy 6 (.nilCheck (.t 5)),
  oy 7 (.addOff 0 (.t 6)),
  oy 8 (.load false 1 (.t 7)),
  oy 9 (.lenS (.t 8)),
  oy 2 (.mv (.t 9))]
def n25_11 : ICode := .region l25_11
def n25_12 : ICode := .ret
def n25_10 : ICode := .seq n25_11 n25_12
def n25_2 : ICode := .seq n25_3 n25_10
def n25_0 : ICode := .seq n25_1 n25_2
theorem b25 : table.find 25 = some ⟨10, n25_0, [.tmp 2]⟩ := by kernel_rfl
@[simp] theorem en25_1 : evCode C n25_1 R S = regK (runOps C l25_1 R S) := ev_plain rfl
@[simp] theorem en25_4 : evCode C n25_4 R S = regK (runOps C l25_4 R S) := ev_plain rfl
@[simp] theorem en25_7 : evCode C n25_7 R S = regK (runOps C l25_7 R S) := ev_plain rfl
@[simp] theorem en25_8 : evCode C n25_8 R S = some (.ret, R, S) := (rfl)
@[simp] theorem en25_6 : evCode C n25_6 R S = seqK (evCode C n25_7 R S) fun R S => evCode C n25_8 R S := ev_seq
@[simp] theorem en25_9 : evCode C n25_9 R S = some (.norm, R, S) := (rfl)
@[simp] theorem en25_5 : evCode C n25_5 R S = condK (IV.ev R (.t 4)) (fun _ => evCode C n25_6 R S) fun _ => evCode C n25_9 R S := ev_cond
@[simp] theorem en25_3 : evCode C n25_3 R S = seqK (evCode C n25_4 R S) fun R S => evCode C n25_5 R S := ev_seq
@[simp] theorem en25_11 : evCode C n25_11 R S = regK (runOps C l25_11 R S) := ev_plain rfl
@[simp] theorem en25_12 : evCode C n25_12 R S = some (.ret, R, S) := (rfl)
@[simp] theorem en25_10 : evCode C n25_10 R S = seqK (evCode C n25_11 R S) fun R S => evCode C n25_12 R S := ev_seq
@[simp] theorem en25_2 : evCode C n25_2 R S = seqK (evCode C n25_3 R S) fun R S => evCode C n25_10 R S := ev_seq
@[simp] theorem en25_0 : evCode C n25_0 R S = seqK (evCode C n25_1 R S) fun R S => evCode C n25_2 R S := ev_seq
theorem q25 {n : Nat} {args : List Value} {S : St} : calls table.find (n + 1) 25 args S = endK S [.tmp 2] (evCode (calls table.find n) n25_0 (args ++ List.replicate (10 - args.length) undef) S.enter) := call_enter b25

/-! wainscot/fast.program -/
@[simp] def l27_1 : List IOper := [oy 0 (.mv (.c (.map none)))]
def n27_1 : ICode := .region l27_1
@[simp] def l27_3 : List IOper := [oy 1 (.mkMap),
  ox (.mapSet (.t 1) (.c (.int .i64 0)) (.c (.func (.func 47) #[] #[]))),
  ox (.mapSet (.t 1) (.c (.int .i64 1)) (.c (.func (.func 48) #[] #[]))),
  ox (.mapSet (.t 1) (.c (.int .i64 2)) (.c (.func (.func 49) #[] #[]))),
  ox (.mapSet (.t 1) (.c (.int .i64 3)) (.c (.func (.func 50) #[] #[]))),
  ox (.mapSet (.t 1) (.c (.int .i64 10)) (.c (.func (.func 47) #[] #[]))),
  ox (.mapSet (.t 1) (.c (.int .i64 11)) (.c (.func (.func 51) #[] #[]))),
  ox (.mapSet (.t 1) (.c (.int .i64 12)) (.c (.func (.func 52) #[] #[]))),
  ox (.mapSet (.t 1) (.c (.int .i64 13)) (.c (.func (.func 53) #[] #[]))),
  oy 2 (.mv (.t 1)),
  oy 0 (.mv (.t 2))]
def n27_3 : ICode := .region l27_3
def n27_4 : ICode := .ret
def n27_2 : ICode := .seq n27_3 n27_4
def n27_0 : ICode := .seq n27_1 n27_2
theorem b27 : table.find 27 = some ⟨3, n27_0, [.tmp 0]⟩ := by kernel_rfl
@[simp] theorem en27_1 : evCode C n27_1 R S = regK (runOps C l27_1 R S) := ev_plain rfl
@[simp] theorem en27_3 : evCode C n27_3 R S = regK (runOps C l27_3 R S) := ev_plain rfl
@[simp] theorem en27_4 : evCode C n27_4 R S = some (.ret, R, S) := (rfl)
@[simp] theorem en27_2 : evCode C n27_2 R S = seqK (evCode C n27_3 R S) fun R S => evCode C n27_4 R S := ev_seq
@[simp] theorem en27_0 : evCode C n27_0 R S = seqK (evCode C n27_1 R S) fun R S => evCode C n27_2 R S := ev_seq
theorem q27 {n : Nat} {args : List Value} {S : St} : calls table.find (n + 1) 27 args S = endK S [.tmp 0] (evCode (calls table.find n) n27_0 (args ++ List.replicate (3 - args.length) undef) S.enter) := call_enter b27

/-! (*wainscot/mem.Mem).access -/
@[simp] def l28_1 : List IOper := [oy 8 (.mv (.c (.int .i64 0)))]
def n28_1 : ICode := .region l28_1
@[simp] def l28_5 : List IOper := [oy 10 (.mv (.t 0)),
  oy 11 (.bin .eql .ptr (.t 10) (.c (.pointer none))),
  oy 12 (.mv (.t 11)),
  oz 13 12 false (.mv (.t 0)),
  oz 14 12 false (.nilCheck (.t 13)),
  oz 15 12 false (.addOff 0 (.t 14)),
  oz 16 12 false (.load false 1 (.t 15)),
  oz 17 12 false (.bin .eql .slice (.t 16) (.c (.slice none 0 0))),
  oy 18 (.pick (.t 12) (.c (.bool true)) (.t 17)),
  oy 9 (.mv (.t 18))]
def n28_5 : ICode := .region l28_5
@[simp] def l28_8 : List IOper := [oy 8 (.mv (.c (.int .i64 1)))]
def n28_8 : ICode := .region l28_8
def n28_9 : ICode := .ret
def n28_7 : ICode := .seq n28_8 n28_9
@[simp] def l28_11 : List IOper := [oy 20 (.mv (.t 1)),
  oy 21 (.bin .lss .int (.t 20) (.c (.int .i64 0))),
  oy 22 (.mv (.t 21)),
  oz 23 22 false (.mv (.t 1)),
  oz 24 22 false (.mv (.t 0)),
  oz 25 22 false (.nilCheck (.t 24)),
  oz 26 22 false (.addOff 0 (.t 25)),
  oz 27 22 false (.load false 1 (.t 26)),
  oz 28 22 false (.lenS (.t 27)),
  oz 29 22 false (.mv (.t 2)),
  oz 30 22 false (.bin .sub .int (.t 28) (.t 29)),
  oz 31 22 false (.bin .gtr .int (.t 23) (.t 30)),
  oy 32 (.pick (.t 22) (.c (.bool true)) (.t 31)),
  oy 19 (.mv (.t 32))]
def n28_11 : ICode := .region l28_11
@[simp] def l28_14 : List IOper := [oy 8 (.mv (.c (.int .i64 9)))]
def n28_14 : ICode := .region l28_14
def n28_15 : ICode := .ret
def n28_13 : ICode := .seq n28_14 n28_15
def n28_16 : ICode := .skip
def n28_12 : ICode := .cond (.t 19) n28_13 n28_16
def n28_10 : ICode := .seq n28_11 n28_12
def n28_6 : ICode := .cond (.t 9) n28_7 n28_10
def n28_4 : ICode := .seq n28_5 n28_6
def n28_3 : ICode := .block 0 n28_4
@[simp] def l28_18 : List IOper := [oy 33 (.mv (.t 0)),
  oy 34 (.nilCheck (.t 33)),
  oy 35 (.addOff 1 (.t 34)),
  oy 36 (.load false 1 (.t 35)),
  oy 37 (.bin .add .int (.t 36) (.c (.int .i64 1))),
  oy 38 (.nilCheck (.t 33)),
  oy 39 (.addOff 1 (.t 38)),
  ox (.store 1 (.t 39) (.t 37))]
def n28_18 : ICode := .region l28_18
@[simp] def l28_20 : List IOper := [oy 40 (.mv (.t 3)),
  oy 41 (.mv (.t 0)),
  oy 42 (.nilCheck (.t 41)),
  oy 43 (.addOff 0 (.t 42)),
  oy 44 (.load false 1 (.t 43)),
  oy 45 (.mv (.t 1)),
  oy 46 (.mv (.t 1)),
  oy 47 (.mv (.t 2)),
  oy 48 (.bin .add .int (.t 46) (.t 47)),
  oy 49 (.slice 22 (.t 44) (some (.t 45)) (some (.t 48)) none),
  oy 50 (.call (.t 40) [(.t 49)] false)]
def n28_20 : ICode := .region l28_20
@[simp] def l28_22 : List IOper := [oy 8 (.mv (.c (.int .i64 0)))]
def n28_22 : ICode := .region l28_22
def n28_23 : ICode := .ret
def n28_21 : ICode := .seq n28_22 n28_23
def n28_19 : ICode := .seq n28_20 n28_21
def n28_17 : ICode := .seq n28_18 n28_19
def n28_2 : ICode := .seq n28_3 n28_17
def n28_0 : ICode := .seq n28_1 n28_2
theorem b28 : table.find 28 = some ⟨51, n28_0, [.tmp 8]⟩ := by kernel_rfl
@[simp] theorem en28_1 : evCode C n28_1 R S = regK (runOps C l28_1 R S) := ev_plain rfl
@[simp] theorem en28_5 : evCode C n28_5 R S = regK (runOps C l28_5 R S) := ev_plain rfl
@[simp] theorem en28_8 : evCode C n28_8 R S = regK (runOps C l28_8 R S) := ev_plain rfl
@[simp] theorem en28_9 : evCode C n28_9 R S = some (.ret, R, S) := (rfl)
@[simp] theorem en28_7 : evCode C n28_7 R S = seqK (evCode C n28_8 R S) fun R S => evCode C n28_9 R S := ev_seq
@[simp] theorem en28_11 : evCode C n28_11 R S = regK (runOps C l28_11 R S) := ev_plain rfl
@[simp] theorem en28_14 : evCode C n28_14 R S = regK (runOps C l28_14 R S) := ev_plain rfl
@[simp] theorem en28_15 : evCode C n28_15 R S = some (.ret, R, S) := (rfl)
@[simp] theorem en28_13 : evCode C n28_13 R S = seqK (evCode C n28_14 R S) fun R S => evCode C n28_15 R S := ev_seq
@[simp] theorem en28_16 : evCode C n28_16 R S = some (.norm, R, S) := (rfl)
@[simp] theorem en28_12 : evCode C n28_12 R S = condK (IV.ev R (.t 19)) (fun _ => evCode C n28_13 R S) fun _ => evCode C n28_16 R S := ev_cond
@[simp] theorem en28_10 : evCode C n28_10 R S = seqK (evCode C n28_11 R S) fun R S => evCode C n28_12 R S := ev_seq
@[simp] theorem en28_6 : evCode C n28_6 R S = condK (IV.ev R (.t 9)) (fun _ => evCode C n28_7 R S) fun _ => evCode C n28_10 R S := ev_cond
@[simp] theorem en28_4 : evCode C n28_4 R S = seqK (evCode C n28_5 R S) fun R S => evCode C n28_6 R S := ev_seq
@[simp] theorem en28_3 : evCode C n28_3 R S = blockK 0 (evCode C n28_4 R S) := ev_block
@[simp] theorem en28_18 : evCode C n28_18 R S = regK (runOps C l28_18 R S) := ev_plain rfl
@[simp] theorem en28_20 : evCode C n28_20 R S = regK (runOps C l28_20 R S) := ev_plain rfl
@[simp] theorem en28_22 : evCode C n28_22 R S = regK (runOps C l28_22 R S) := ev_plain rfl
@[simp] theorem en28_23 : evCode C n28_23 R S = some (.ret, R, S) := (rfl)
@[simp] theorem en28_21 : evCode C n28_21 R S = seqK (evCode C n28_22 R S) fun R S => evCode C n28_23 R S := ev_seq
@[simp] theorem en28_19 : evCode C n28_19 R S = seqK (evCode C n28_20 R S) fun R S => evCode C n28_21 R S := ev_seq
@[simp] theorem en28_17 : evCode C n28_17 R S = seqK (evCode C n28_18 R S) fun R S => evCode C n28_19 R S := ev_seq
@[simp] theorem en28_2 : evCode C n28_2 R S = seqK (evCode C n28_3 R S) fun R S => evCode C n28_17 R S := ev_seq
@[simp] theorem en28_0 : evCode C n28_0 R S = seqK (evCode C n28_1 R S) fun R S => evCode C n28_2 R S := ev_seq
theorem q28 {n : Nat} {args : List Value} {S : St} : calls table.find (n + 1) 28 args S = endK S [.tmp 8] (evCode (calls table.find n) n28_0 (args ++ List.replicate (51 - args.length) undef) S.enter) := call_enter b28

/-! (*wainscot/mem.Mem).Store$1 -/
@[simp] def l29_0 : List IOper := [oy 3 (.mv (.t 0)),
  oy 4 (.load false 1 (.t 1)),
  oy 5 (.idxS 1 (.t 3) (.c (.int .i64 0))),
  ox (.store 1 (.t 5) (.t 4))]
def n29_0 : ICode := .region l29_0
theorem b29 : table.find 29 = some ⟨6, n29_0, []⟩ := by kernel_rfl
@[simp] theorem en29_0 : evCode C n29_0 R S = regK (runOps C l29_0 R S) := ev_plain rfl
theorem q29 {n : Nat} {args : List Value} {S : St} : calls table.find (n + 1) 29 args S = endK S [] (evCode (calls table.find n) n29_0 (args ++ List.replicate (6 - args.length) undef) S.enter) := call_enter b29

/-! slices.Clone[[]uint64,uint64] -/
@[simp] def l46_1 : List IOper := [oy 2 (.mv (.c (.slice none 0 0)))]
def n46_1 : ICode := .region l46_1
@[simp] def l46_4 : List IOper := [oy 3 (.mv (.t 0)),
  oy 4 (.bin .eql .slice (.t 3) (.c (.slice none 0 0)))]
def n46_4 : ICode := .region l46_4
@[simp] def l46_7 : List IOper := [oy 2 (.mv (.c (.slice none 0 0)))]
def n46_7 : ICode := .region l46_7
def n46_8 : ICode := .ret
def n46_6 : ICode := .seq n46_7 n46_8
def n46_9 : ICode := .skip
def n46_5 : ICode := .cond (.t 4) n46_6 n46_9
def n46_3 : ICode := .seq n46_4 n46_5
@[simp] def l46_11 : List IOper := [oy 5 (.buildSlice 22 [] 0 []),
  oy 6 (.mv (.t 0)),
  oy 7 (.append 22 1 8 (.t 5) (.t 6)),
  oy 2 (.mv (.t 7))]
def n46_11 : ICode := .region l46_11
def n46_12 : ICode := .ret
def n46_10 : ICode := .seq n46_11 n46_12
def n46_2 : ICode := .seq n46_3 n46_10
def n46_0 : ICode := .seq n46_1 n46_2
theorem b46 : table.find 46 = some ⟨8, n46_0, [.tmp 2]⟩ := by kernel_rfl
@[simp] theorem en46_1 : evCode C n46_1 R S = regK (runOps C l46_1 R S) := ev_plain rfl
@[simp] theorem en46_4 : evCode C n46_4 R S = regK (runOps C l46_4 R S) := ev_plain rfl
@[simp] theorem en46_7 : evCode C n46_7 R S = regK (runOps C l46_7 R S) := ev_plain rfl
@[simp] theorem en46_8 : evCode C n46_8 R S = some (.ret, R, S) := (rfl)
@[simp] theorem en46_6 : evCode C n46_6 R S = seqK (evCode C n46_7 R S) fun R S => evCode C n46_8 R S := ev_seq
@[simp] theorem en46_9 : evCode C n46_9 R S = some (.norm, R, S) := (rfl)
@[simp] theorem en46_5 : evCode C n46_5 R S = condK (IV.ev R (.t 4)) (fun _ => evCode C n46_6 R S) fun _ => evCode C n46_9 R S := ev_cond
@[simp] theorem en46_3 : evCode C n46_3 R S = seqK (evCode C n46_4 R S) fun R S => evCode C n46_5 R S := ev_seq
@[simp] theorem en46_11 : evCode C n46_11 R S = regK (runOps C l46_11 R S) := ev_plain rfl
@[simp] theorem en46_12 : evCode C n46_12 R S = some (.ret, R, S) := (rfl)
@[simp] theorem en46_10 : evCode C n46_10 R S = seqK (evCode C n46_11 R S) fun R S => evCode C n46_12 R S := ev_seq
@[simp] theorem en46_2 : evCode C n46_2 R S = seqK (evCode C n46_3 R S) fun R S => evCode C n46_10 R S := ev_seq
@[simp] theorem en46_0 : evCode C n46_0 R S = seqK (evCode C n46_1 R S) fun R S => evCode C n46_2 R S := ev_seq
theorem q46 {n : Nat} {args : List Value} {S : St} : calls table.find (n + 1) 46 args S = endK S [.tmp 2] (evCode (calls table.find n) n46_0 (args ++ List.replicate (8 - args.length) undef) S.enter) := call_enter b46

/-! (*wainscot/fast.step).turn -/
@[simp] def l47_1 : List IOper := [oy 2 (.mv (.t 0)),
  oy 3 (.mv (.t 0)),
  oy 4 (.mv (.t 0)),
  oy 5 (.nilCheck (.t 4)),
  oy 6 (.addOff 1 (.t 5)),
  oy 7 (.load true 6 (.t 6)),
  oy 8 (.mv (.t 0)),
  oy 9 (.nilCheck (.t 8)),
  oy 10 (.addOff 7 (.t 9)),
  oy 11 (.addOff 1 (.t 10)),
  oy 12 (.load false 1 (.t 11)),
  oy 13 (.call (.c (.func (.func 13) #[] #[])) [(.t 7), (.t 12)] true),
  oy 14 (.call (.c (.func (.func 64) #[] #[])) [(.t 13)] true),
  oy 15 (.call (.c (.func (.func 63) #[] #[])) [(.t 3), (.t 14)] false),
  oy 16 (.nilCheck (.t 2)),
  oy 17 (.addOff 7 (.t 16)),
  oy 18 (.addOff 8 (.t 17)),
  ox (.store 1 (.t 18) (.t 15))]
def n47_1 : ICode := .region l47_1
@[simp] def l47_2 : List IOper := [oy 19 (.mv (.t 0)),
  oy 20 (.mv (.t 0)),
  oy 21 (.nilCheck (.t 20)),
  oy 22 (.addOff 7 (.t 21)),
  oy 23 (.addOff 2 (.t 22)),
  oy 24 (.load false 1 (.t 23)),
  oy 25 (.bin .add .int (.t 24) (.c (.int .i64 1))),
  oy 26 (.call (.c (.func (.func 65) #[] #[])) [(.t 19), (.t 25)] false)]
def n47_2 : ICode := .region l47_2
def n47_0 : ICode := .seq n47_1 n47_2
theorem b47 : table.find 47 = some ⟨27, n47_0, []⟩ := by kernel_rfl
@[simp] theorem en47_1 : evCode C n47_1 R S = regK (runOps C l47_1 R S) := ev_plain rfl
@[simp] theorem en47_2 : evCode C n47_2 R S = regK (runOps C l47_2 R S) := ev_plain rfl
@[simp] theorem en47_0 : evCode C n47_0 R S = seqK (evCode C n47_1 R S) fun R S => evCode C n47_2 R S := ev_seq
theorem q47 {n : Nat} {args : List Value} {S : St} : calls table.find (n + 1) 47 args S = endK S [] (evCode (calls table.find n) n47_0 (args ++ List.replicate (27 - args.length) undef) S.enter) := call_enter b47

/-! (*wainscot/fast.step).look -/
@[simp] def l48_1 : List IOper := [oy 3 (.mv (.t 0)),
  oy 4 (.mv (.t 0)),
  oy 5 (.mv (.t 0)),
  oy 6 (.call (.c (.func (.func 66) #[] #[])) [(.t 5)] false),
  oy 2 (.mv (.t 6)),
  oy 7 (.extract (.t 2) 0),
  oy 8 (.extract (.t 2) 1),
  oy 9 (.nilCheck (.t 3)),
  oy 10 (.addOff 7 (.t 9)),
  oy 11 (.addOff 5 (.t 10)),
  ox (.store 1 (.t 11) (.t 7)),
  oy 12 (.nilCheck (.t 4)),
  oy 13 (.addOff 7 (.t 12)),
  oy 14 (.addOff 6 (.t 13)),
  ox (.store 1 (.t 14) (.t 8))]
def n48_1 : ICode := .region l48_1
@[simp] def l48_4 : List IOper := [oy 18 (.mv (.t 0)),
  oy 19 (.nilCheck (.t 18)),
  oy 20 (.addOff 7 (.t 19)),
  oy 21 (.addOff 5 (.t 20)),
  oy 22 (.load false 1 (.t 21)),
  oy 23 (.bin .lss .int (.t 22) (.c (.int .i64 0))),
  oy 17 (.mv (.t 23))]
def n48_4 : ICode := .region l48_4
@[simp] def l48_6 : List IOper := [oy 24 (.mv (.t 0)),
  oy 25 (.call (.c (.func (.func 65) #[] #[])) [(.t 24), (.c (.int .i64 30))] false)]
def n48_6 : ICode := .region l48_6
@[simp] def l48_8 : List IOper := [oy 27 (.mv (.t 0)),
  oy 28 (.nilCheck (.t 27)),
  oy 29 (.addOff 7 (.t 28)),
  oy 30 (.addOff 6 (.t 29)),
  oy 31 (.load false 1 (.t 30)),
  oy 32 (.bin .lss .int (.t 31) (.c (.int .i64 0))),
  oy 26 (.mv (.t 32))]
def n48_8 : ICode := .region l48_8
@[simp] def l48_10 : List IOper := [oy 33 (.mv (.t 0)),
  oy 34 (.call (.c (.func (.func 65) #[] #[])) [(.t 33), (.c (.int .i64 20))] false)]
def n48_10 : ICode := .region l48_10
@[simp] def l48_11 : List IOper := [oy 15 (.mv (.t 0)),
  oy 16 (.call (.c (.func (.func 65) #[] #[])) [(.t 15), (.c (.int .i64 2))] false)]
def n48_11 : ICode := .region l48_11
def n48_9 : ICode := .cond (.t 26) n48_10 n48_11
def n48_7 : ICode := .seq n48_8 n48_9
def n48_5 : ICode := .cond (.t 17) n48_6 n48_7
def n48_3 : ICode := .seq n48_4 n48_5
def n48_2 : ICode := .block 0 n48_3
def n48_0 : ICode := .seq n48_1 n48_2
theorem b48 : table.find 48 = some ⟨35, n48_0, []⟩ := by kernel_rfl
@[simp] theorem en48_1 : evCode C n48_1 R S = regK (runOps C l48_1 R S) := ev_plain rfl
@[simp] theorem en48_4 : evCode C n48_4 R S = regK (runOps C l48_4 R S) := ev_plain rfl
@[simp] theorem en48_6 : evCode C n48_6 R S = regK (runOps C l48_6 R S) := ev_plain rfl
@[simp] theorem en48_8 : evCode C n48_8 R S = regK (runOps C l48_8 R S) := ev_plain rfl
@[simp] theorem en48_10 : evCode C n48_10 R S = regK (runOps C l48_10 R S) := ev_plain rfl
@[simp] theorem en48_11 : evCode C n48_11 R S = regK (runOps C l48_11 R S) := ev_plain rfl
@[simp] theorem en48_9 : evCode C n48_9 R S = condK (IV.ev R (.t 26)) (fun _ => evCode C n48_10 R S) fun _ => evCode C n48_11 R S := ev_cond
@[simp] theorem en48_7 : evCode C n48_7 R S = seqK (evCode C n48_8 R S) fun R S => evCode C n48_9 R S := ev_seq
@[simp] theorem en48_5 : evCode C n48_5 R S = condK (IV.ev R (.t 17)) (fun _ => evCode C n48_6 R S) fun _ => evCode C n48_7 R S := ev_cond
@[simp] theorem en48_3 : evCode C n48_3 R S = seqK (evCode C n48_4 R S) fun R S => evCode C n48_5 R S := ev_seq
@[simp] theorem en48_2 : evCode C n48_2 R S = blockK 0 (evCode C n48_3 R S) := ev_block
@[simp] theorem en48_0 : evCode C n48_0 R S = seqK (evCode C n48_1 R S) fun R S => evCode C n48_2 R S := ev_seq
theorem q48 {n : Nat} {args : List Value} {S : St} : calls table.find (n + 1) 48 args S = endK S [] (evCode (calls table.find n) n48_0 (args ++ List.replicate (35 - args.length) undef) S.enter) := call_enter b48

/-! (*wainscot/fast.step).next -/
@[simp] def l49_1 : List IOper := [oy 5 (.mv (.t 0)),
  oy 6 (.mv (.t 0)),
  oy 7 (.nilCheck (.t 6)),
  oy 8 (.addOff 1 (.t 7)),
  oy 9 (.load true 6 (.t 8)),
  oy 10 (.mv (.t 0)),
  oy 11 (.nilCheck (.t 10)),
  oy 12 (.addOff 7 (.t 11)),
  oy 13 (.addOff 5 (.t 12)),
  oy 14 (.load false 1 (.t 13)),
  oy 15 (.mv (.t 0)),
  oy 16 (.nilCheck (.t 15)),
  oy 17 (.addOff 7 (.t 16)),
  oy 18 (.addOff 6 (.t 17)),
  oy 19 (.load false 1 (.t 18)),
  oy 20 (.call (.c (.func (.func 18) #[] #[])) [(.t 9), (.t 14), (.t 19)] true),
  oy 21 (.call (.c (.func (.func 63) #[] #[])) [(.t 5), (.t 20)] false),
  oy 2 (.mv (.t 21))]
def n49_1 : ICode := .region l49_1
@[simp] def l49_3 : List IOper := [oy 23 (.mv (.t 2)),
  oy 24 (.mv (.t 0)),
  oy 25 (.nilCheck (.t 24)),
  oy 26 (.addOff 1 (.t 25)),
  oy 27 (.load true 6 (.t 26)),
  oy 28 (.mv (.t 0)),
  oy 29 (.nilCheck (.t 28)),
  oy 30 (.addOff 7 (.t 29)),
  oy 31 (.addOff 5 (.t 30)),
  oy 32 (.load false 1 (.t 31)),
  oy 33 (.call (.c (.func (.func 17) #[] #[])) [(.t 27), (.t 32)] true),
  oy 34 (.mv (.t 0)),
  oy 35 (.nilCheck (.t 34)),
  oy 36 (.addOff 7 (.t 35)),
  oy 37 (.addOff 6 (.t 36)),
  oy 38 (.load false 1 (.t 37)),
  oy 39 (.call (.c (.func (.func 67) #[] #[])) [(.t 23), (.t 33), (.t 38)] true),
  oy 22 (.mv (.t 39)),
  oy 40 (.extract (.t 22) 0),
  oy 41 (.extract (.t 22) 1),
  oy 3 (.mv (.t 40)),
  oy 4 (.mv (.t 41))]
def n49_3 : ICode := .region l49_3
@[simp] def l49_6 : List IOper := [oy 42 (.mv (.t 4)),
  oy 43 (.un .not (.t 42)),
  oy 44 (.mv (.t 43)),
  oz 45 44 false (.mv (.t 3)),
  oz 46 44 false (.mv (.t 0)),
  oz 47 44 false (.nilCheck (.t 46)),
  oz 48 44 false (.addOff 1 (.t 47)),
  oz 49 44 false (.addOff 2 (.t 48)),
  oz 50 44 false (.load false 1 (.t 49)),
  oz 51 44 false (.bin .geq .int (.t 45) (.t 50)),
  oy 52 (.pick (.t 44) (.c (.bool true)) (.t 51))]
def n49_6 : ICode := .region l49_6
@[simp] def l49_9 : List IOper := [oy 53 (.mv (.t 0)),
  oy 54 (.call (.c (.func (.func 65) #[] #[])) [(.t 53), (.c (.int .i64 0))] false)]
def n49_9 : ICode := .region l49_9
def n49_10 : ICode := .ret
def n49_8 : ICode := .seq n49_9 n49_10
def n49_11 : ICode := .skip
def n49_7 : ICode := .cond (.t 52) n49_8 n49_11
def n49_5 : ICode := .seq n49_6 n49_7
@[simp] def l49_13 : List IOper := [oy 55 (.mv (.t 0)),
  oy 56 (.mv (.t 3)),
  oy 57 (.nilCheck (.t 55)),
  oy 58 (.addOff 7 (.t 57)),
  oy 59 (.addOff 12 (.t 58)),
  ox (.store 1 (.t 59) (.t 56))]
def n49_13 : ICode := .region l49_13
@[simp] def l49_14 : List IOper := [oy 60 (.mv (.t 0)),
  oy 61 (.call (.c (.func (.func 65) #[] #[])) [(.t 60), (.c (.int .i64 3))] false)]
def n49_14 : ICode := .region l49_14
def n49_12 : ICode := .seq n49_13 n49_14
def n49_4 : ICode := .seq n49_5 n49_12
def n49_2 : ICode := .seq n49_3 n49_4
def n49_0 : ICode := .seq n49_1 n49_2
theorem b49 : table.find 49 = some ⟨62, n49_0, []⟩ := by kernel_rfl
@[simp] theorem en49_1 : evCode C n49_1 R S = regK (runOps C l49_1 R S) := ev_plain rfl
@[simp] theorem en49_3 : evCode C n49_3 R S = regK (runOps C l49_3 R S) := ev_plain rfl
@[simp] theorem en49_6 : evCode C n49_6 R S = regK (runOps C l49_6 R S) := ev_plain rfl
@[simp] theorem en49_9 : evCode C n49_9 R S = regK (runOps C l49_9 R S) := ev_plain rfl
@[simp] theorem en49_10 : evCode C n49_10 R S = some (.ret, R, S) := (rfl)
@[simp] theorem en49_8 : evCode C n49_8 R S = seqK (evCode C n49_9 R S) fun R S => evCode C n49_10 R S := ev_seq
@[simp] theorem en49_11 : evCode C n49_11 R S = some (.norm, R, S) := (rfl)
@[simp] theorem en49_7 : evCode C n49_7 R S = condK (IV.ev R (.t 52)) (fun _ => evCode C n49_8 R S) fun _ => evCode C n49_11 R S := ev_cond
@[simp] theorem en49_5 : evCode C n49_5 R S = seqK (evCode C n49_6 R S) fun R S => evCode C n49_7 R S := ev_seq
@[simp] theorem en49_13 : evCode C n49_13 R S = regK (runOps C l49_13 R S) := ev_plain rfl
@[simp] theorem en49_14 : evCode C n49_14 R S = regK (runOps C l49_14 R S) := ev_plain rfl
@[simp] theorem en49_12 : evCode C n49_12 R S = seqK (evCode C n49_13 R S) fun R S => evCode C n49_14 R S := ev_seq
@[simp] theorem en49_4 : evCode C n49_4 R S = seqK (evCode C n49_5 R S) fun R S => evCode C n49_12 R S := ev_seq
@[simp] theorem en49_2 : evCode C n49_2 R S = seqK (evCode C n49_3 R S) fun R S => evCode C n49_4 R S := ev_seq
@[simp] theorem en49_0 : evCode C n49_0 R S = seqK (evCode C n49_1 R S) fun R S => evCode C n49_2 R S := ev_seq
theorem q49 {n : Nat} {args : List Value} {S : St} : calls table.find (n + 1) 49 args S = endK S [] (evCode (calls table.find n) n49_0 (args ++ List.replicate (62 - args.length) undef) S.enter) := call_enter b49

/-! (*wainscot/fast.step).take -/
@[simp] def l50_0 : List IOper := [oy 2 (.mv (.t 0)),
  oy 3 (.mv (.t 0)),
  oy 4 (.nilCheck (.t 3)),
  oy 5 (.addOff 7 (.t 4)),
  oy 6 (.addOff 12 (.t 5)),
  oy 7 (.load false 1 (.t 6)),
  oy 8 (.call (.c (.func (.func 68) #[] #[])) [(.t 2), (.t 7), (.c (.int .i64 0))] false)]
def n50_0 : ICode := .region l50_0
theorem b50 : table.find 50 = some ⟨9, n50_0, []⟩ := by kernel_rfl
@[simp] theorem en50_0 : evCode C n50_0 R S = regK (runOps C l50_0 R S) := ev_plain rfl
theorem q50 {n : Nat} {args : List Value} {S : St} : calls table.find (n + 1) 50 args S = endK S [] (evCode (calls table.find n) n50_0 (args ++ List.replicate (9 - args.length) undef) S.enter) := call_enter b50

/-! (*wainscot/fast.step).mine -/
@[simp] def l51_1 : List IOper := [oy 5 (.mv (.t 0)),
  oy 6 (.call (.c (.func (.func 66) #[] #[])) [(.t 5)] false),
  oy 4 (.mv (.t 6)),
  oy 7 (.extract (.t 4) 0),
  oy 8 (.extract (.t 4) 1),
  oy 2 (.mv (.t 7)),
  oy 3 (.mv (.t 8))]
def n51_1 : ICode := .region l51_1
@[simp] def l51_4 : List IOper := [oy 9 (.mv (.t 2)),
  oy 10 (.mv (.t 0)),
  oy 11 (.nilCheck (.t 10)),
  oy 12 (.addOff 7 (.t 11)),
  oy 13 (.addOff 5 (.t 12)),
  oy 14 (.load false 1 (.t 13)),
  oy 15 (.bin .neq .int (.t 9) (.t 14))]
def n51_4 : ICode := .region l51_4
@[simp] def l51_7 : List IOper := [oy 16 (.mv (.t 0)),
  oy 17 (.call (.c (.func (.func 65) #[] #[])) [(.t 16), (.c (.int .i64 50))] false)]
def n51_7 : ICode := .region l51_7
def n51_8 : ICode := .ret
def n51_6 : ICode := .seq n51_7 n51_8
def n51_9 : ICode := .skip
def n51_5 : ICode := .cond (.t 15) n51_6 n51_9
def n51_3 : ICode := .seq n51_4 n51_5
@[simp] def l51_11 : List IOper := [oy 18 (.mv (.t 0)),
  oy 19 (.mv (.t 3)),
  oy 20 (.nilCheck (.t 18)),
  oy 21 (.addOff 7 (.t 20)),
  oy 22 (.addOff 12 (.t 21)),
  ox (.store 1 (.t 22) (.t 19))]
def n51_11 : ICode := .region l51_11
@[simp] def l51_12 : List IOper := [oy 23 (.mv (.t 0)),
  oy 24 (.call (.c (.func (.func 65) #[] #[])) [(.t 23), (.c (.int .i64 12))] false)]
def n51_12 : ICode := .region l51_12
def n51_10 : ICode := .seq n51_11 n51_12
def n51_2 : ICode := .seq n51_3 n51_10
def n51_0 : ICode := .seq n51_1 n51_2
theorem b51 : table.find 51 = some ⟨25, n51_0, []⟩ := by kernel_rfl
@[simp] theorem en51_1 : evCode C n51_1 R S = regK (runOps C l51_1 R S) := ev_plain rfl
@[simp] theorem en51_4 : evCode C n51_4 R S = regK (runOps C l51_4 R S) := ev_plain rfl
@[simp] theorem en51_7 : evCode C n51_7 R S = regK (runOps C l51_7 R S) := ev_plain rfl
@[simp] theorem en51_8 : evCode C n51_8 R S = some (.ret, R, S) := (rfl)
@[simp] theorem en51_6 : evCode C n51_6 R S = seqK (evCode C n51_7 R S) fun R S => evCode C n51_8 R S := ev_seq
@[simp] theorem en51_9 : evCode C n51_9 R S = some (.norm, R, S) := (rfl)
@[simp] theorem en51_5 : evCode C n51_5 R S = condK (IV.ev R (.t 15)) (fun _ => evCode C n51_6 R S) fun _ => evCode C n51_9 R S := ev_cond
@[simp] theorem en51_3 : evCode C n51_3 R S = seqK (evCode C n51_4 R S) fun R S => evCode C n51_5 R S := ev_seq
@[simp] theorem en51_11 : evCode C n51_11 R S = regK (runOps C l51_11 R S) := ev_plain rfl
@[simp] theorem en51_12 : evCode C n51_12 R S = regK (runOps C l51_12 R S) := ev_plain rfl
@[simp] theorem en51_10 : evCode C n51_10 R S = seqK (evCode C n51_11 R S) fun R S => evCode C n51_12 R S := ev_seq
@[simp] theorem en51_2 : evCode C n51_2 R S = seqK (evCode C n51_3 R S) fun R S => evCode C n51_10 R S := ev_seq
@[simp] theorem en51_0 : evCode C n51_0 R S = seqK (evCode C n51_1 R S) fun R S => evCode C n51_2 R S := ev_seq
theorem q51 {n : Nat} {args : List Value} {S : St} : calls table.find (n + 1) 51 args S = endK S [] (evCode (calls table.find n) n51_0 (args ++ List.replicate (25 - args.length) undef) S.enter) := call_enter b51

/-! (*wainscot/fast.step).tie -/
@[simp] def l52_1 : List IOper := [oy 5 (.mv (.t 0)),
  oy 6 (.nilCheck (.t 5)),
  oy 7 (.addOff 7 (.t 6)),
  oy 8 (.addOff 12 (.t 7)),
  oy 9 (.load false 1 (.t 8)),
  oy 10 (.mv (.t 0)),
  oy 11 (.nilCheck (.t 10)),
  oy 12 (.addOff 1 (.t 11)),
  oy 13 (.load true 6 (.t 12)),
  oy 14 (.mv (.t 0)),
  oy 15 (.nilCheck (.t 14)),
  oy 16 (.addOff 7 (.t 15)),
  oy 17 (.addOff 5 (.t 16)),
  oy 18 (.load false 1 (.t 17)),
  oy 19 (.call (.c (.func (.func 17) #[] #[])) [(.t 13), (.t 18)] true),
  oy 20 (.mv (.t 0)),
  oy 21 (.nilCheck (.t 20)),
  oy 22 (.addOff 7 (.t 21)),
  oy 23 (.addOff 6 (.t 22)),
  oy 24 (.load false 1 (.t 23)),
  oy 25 (.call (.c (.func (.func 69) #[] #[])) [(.t 9), (.t 19), (.t 24)] true),
  oy 4 (.mv (.t 25)),
  oy 26 (.extract (.t 4) 0),
  oy 27 (.extract (.t 4) 1),
  oy 2 (.mv (.t 26)),
  oy 3 (.mv (.t 27))]
def n52_1 : ICode := .region l52_1
@[simp] def l52_3 : List IOper := [oy 28 (.mv (.t 0)),
  oy 29 (.mv (.t 3)),
  oy 30 (.bin .eql .int (.t 29) (.c (.int .i64 0))),
  oy 31 (.call (.c (.func (.func 70) #[] #[])) [(.t 28), (.t 30)] false)]
def n52_3 : ICode := .region l52_3
@[simp] def l52_6 : List IOper := [oy 32 (.mv (.t 0)),
  oy 33 (.nilCheck (.t 32)),
  oy 34 (.addOff 24 (.t 33)),
  oy 35 (.load false 1 (.t 34)),
  oy 36 (.un .not (.t 35))]
def n52_6 : ICode := .region l52_6
@[simp] def l52_8 : List IOper := [oy 37 (.mv (.t 0)),
  oy 38 (.mv (.t 0)),
  oy 39 (.nilCheck (.t 38)),
  oy 40 (.addOff 1 (.t 39)),
  oy 41 (.load true 6 (.t 40)),
  oy 42 (.mv (.t 0)),
  oy 43 (.nilCheck (.t 42)),
  oy 44 (.addOff 7 (.t 43)),
  oy 45 (.addOff 5 (.t 44)),
  oy 46 (.load false 1 (.t 45)),
  oy 47 (.mv (.t 0)),
  oy 48 (.nilCheck (.t 47)),
  oy 49 (.addOff 7 (.t 48)),
  oy 50 (.addOff 6 (.t 49)),
  oy 51 (.load false 1 (.t 50)),
  oy 52 (.call (.c (.func (.func 18) #[] #[])) [(.t 41), (.t 46), (.t 51)] true),
  oy 53 (.mv (.t 2)),
  oy 54 (.call (.c (.func (.func 71) #[] #[])) [(.t 37), (.t 52), (.t 53)] false)]
def n52_8 : ICode := .region l52_8
def n52_9 : ICode := .skip
def n52_7 : ICode := .cond (.t 36) n52_8 n52_9
def n52_5 : ICode := .seq n52_6 n52_7
@[simp] def l52_10 : List IOper := [oy 55 (.mv (.t 0)),
  oy 56 (.call (.c (.func (.func 65) #[] #[])) [(.t 55), (.c (.int .i64 13))] false)]
def n52_10 : ICode := .region l52_10
def n52_4 : ICode := .seq n52_5 n52_10
def n52_2 : ICode := .seq n52_3 n52_4
def n52_0 : ICode := .seq n52_1 n52_2
theorem b52 : table.find 52 = some ⟨57, n52_0, []⟩ := by kernel_rfl
@[simp] theorem en52_1 : evCode C n52_1 R S = regK (runOps C l52_1 R S) := ev_plain rfl
@[simp] theorem en52_3 : evCode C n52_3 R S = regK (runOps C l52_3 R S) := ev_plain rfl
@[simp] theorem en52_6 : evCode C n52_6 R S = regK (runOps C l52_6 R S) := ev_plain rfl
@[simp] theorem en52_8 : evCode C n52_8 R S = regK (runOps C l52_8 R S) := ev_plain rfl
@[simp] theorem en52_9 : evCode C n52_9 R S = some (.norm, R, S) := (rfl)
@[simp] theorem en52_7 : evCode C n52_7 R S = condK (IV.ev R (.t 36)) (fun _ => evCode C n52_8 R S) fun _ => evCode C n52_9 R S := ev_cond
@[simp] theorem en52_5 : evCode C n52_5 R S = seqK (evCode C n52_6 R S) fun R S => evCode C n52_7 R S := ev_seq
@[simp] theorem en52_10 : evCode C n52_10 R S = regK (runOps C l52_10 R S) := ev_plain rfl
@[simp] theorem en52_4 : evCode C n52_4 R S = seqK (evCode C n52_5 R S) fun R S => evCode C n52_10 R S := ev_seq
@[simp] theorem en52_2 : evCode C n52_2 R S = seqK (evCode C n52_3 R S) fun R S => evCode C n52_4 R S := ev_seq
@[simp] theorem en52_0 : evCode C n52_0 R S = seqK (evCode C n52_1 R S) fun R S => evCode C n52_2 R S := ev_seq
theorem q52 {n : Nat} {args : List Value} {S : St} : calls table.find (n + 1) 52 args S = endK S [] (evCode (calls table.find n) n52_0 (args ++ List.replicate (57 - args.length) undef) S.enter) := call_enter b52

/-! (*wainscot/fast.step).give -/
@[simp] def l53_0 : List IOper := [oy 2 (.mv (.t 0)),
  oy 3 (.mv (.t 0)),
  oy 4 (.nilCheck (.t 3)),
  oy 5 (.addOff 7 (.t 4)),
  oy 6 (.addOff 6 (.t 5)),
  oy 7 (.load false 1 (.t 6)),
  oy 8 (.call (.c (.func (.func 68) #[] #[])) [(.t 2), (.t 7), (.c (.int .i64 10))] false)]
def n53_0 : ICode := .region l53_0
theorem b53 : table.find 53 = some ⟨9, n53_0, []⟩ := by kernel_rfl
@[simp] theorem en53_0 : evCode C n53_0 R S = regK (runOps C l53_0 R S) := ev_plain rfl
theorem q53 {n : Nat} {args : List Value} {S : St} : calls table.find (n + 1) 53 args S = endK S [] (evCode (calls table.find n) n53_0 (args ++ List.replicate (9 - args.length) undef) S.enter) := call_enter b53

/-! (*wainscot/fast.step).load -/
@[simp] def l63_1 : List IOper := [oy 4 (.mv (.c (.int .u64 0)))]
def n63_1 : ICode := .region l63_1
@[simp] def l63_3 : List IOper := [oy 8 (.mv (.t 0)),
  oy 9 (.nilCheck (.t 8)),
  oy 10 (.addOff 0 (.t 9)),
  oy 11 (.load false 1 (.t 10)),
  oy 12 (.mv (.t 1)),
  oy 13 (.call (.c (.func (.func 77) #[] #[])) [(.t 11), (.t 12)] false),
  oy 7 (.mv (.t 13)),
  oy 14 (.extract (.t 7) 0),
  oy 15 (.extract (.t 7) 1),
  oy 5 (.mv (.t 14)),
  oy 6 (.mv (.t 15))]
def n63_3 : ICode := .region l63_3
@[simp] def l63_5 : List IOper := [oy 16 (.mv (.t 0)),
  oy 17 (.mv (.t 6)),
  oy 18 (.bin .eql .int (.t 17) (.c (.int .i64 0))),
  oy 19 (.call (.c (.func (.func 70) #[] #[])) [(.t 16), (.t 18)] false)]
def n63_5 : ICode := .region l63_5
@[simp] def l63_7 : List IOper := [oy 20 (.mv (.t 5)),
  oy 4 (.mv (.t 20))]
def n63_7 : ICode := .region l63_7
def n63_8 : ICode := .ret
def n63_6 : ICode := .seq n63_7 n63_8
def n63_4 : ICode := .seq n63_5 n63_6
def n63_2 : ICode := .seq n63_3 n63_4
def n63_0 : ICode := .seq n63_1 n63_2
theorem b63 : table.find 63 = some ⟨21, n63_0, [.tmp 4]⟩ := by kernel_rfl
@[simp] theorem en63_1 : evCode C n63_1 R S = regK (runOps C l63_1 R S) := ev_plain rfl
@[simp] theorem en63_3 : evCode C n63_3 R S = regK (runOps C l63_3 R S) := ev_plain rfl
@[simp] theorem en63_5 : evCode C n63_5 R S = regK (runOps C l63_5 R S) := ev_plain rfl
@[simp] theorem en63_7 : evCode C n63_7 R S = regK (runOps C l63_7 R S) := ev_plain rfl
@[simp] theorem en63_8 : evCode C n63_8 R S = some (.ret, R, S) := (rfl)
@[simp] theorem en63_6 : evCode C n63_6 R S = seqK (evCode C n63_7 R S) fun R S => evCode C n63_8 R S := ev_seq
@[simp] theorem en63_4 : evCode C n63_4 R S = seqK (evCode C n63_5 R S) fun R S => evCode C n63_6 R S := ev_seq
@[simp] theorem en63_2 : evCode C n63_2 R S = seqK (evCode C n63_3 R S) fun R S => evCode C n63_4 R S := ev_seq
@[simp] theorem en63_0 : evCode C n63_0 R S = seqK (evCode C n63_1 R S) fun R S => evCode C n63_2 R S := ev_seq
theorem q63 {n : Nat} {args : List Value} {S : St} : calls table.find (n + 1) 63 args S = endK S [.tmp 4] (evCode (calls table.find n) n63_0 (args ++ List.replicate (21 - args.length) undef) S.enter) := call_enter b63

/-! wainscot/fast.behind -/
@[simp] def l64_1 : List IOper := [oy 2 (.mv (.c (.int .i64 0)))]
def n64_1 : ICode := .region l64_1
@[simp] def l64_4 : List IOper := [oy 3 (.mv (.t 0)),
  oy 4 (.bin .lss .int (.t 3) (.c (.int .i64 0)))]
def n64_4 : ICode := .region l64_4
@[simp] def l64_7 : List IOper := [oy 5 (.mv (.t 0)),
  oy 2 (.mv (.t 5))]
def n64_7 : ICode := .region l64_7
def n64_8 : ICode := .ret
def n64_6 : ICode := .seq n64_7 n64_8
def n64_9 : ICode := .skip
def n64_5 : ICode := .cond (.t 4) n64_6 n64_9
def n64_3 : ICode := .seq n64_4 n64_5
@[simp] def l64_11 : List IOper := [oy 6 (.mv (.t 0)),
  oy 7 (.bin .add .int (.t 6) (.c (.int .i64 1))),
  oy 2 (.mv (.t 7))]
def n64_11 : ICode := .region l64_11
def n64_12 : ICode := .ret
def n64_10 : ICode := .seq n64_11 n64_12
def n64_2 : ICode := .seq n64_3 n64_10
def n64_0 : ICode := .seq n64_1 n64_2
theorem b64 : table.find 64 = some ⟨8, n64_0, [.tmp 2]⟩ := by kernel_rfl
@[simp] theorem en64_1 : evCode C n64_1 R S = regK (runOps C l64_1 R S) := ev_plain rfl
@[simp] theorem en64_4 : evCode C n64_4 R S = regK (runOps C l64_4 R S) := ev_plain rfl
@[simp] theorem en64_7 : evCode C n64_7 R S = regK (runOps C l64_7 R S) := ev_plain rfl
@[simp] theorem en64_8 : evCode C n64_8 R S = some (.ret, R, S) := (rfl)
@[simp] theorem en64_6 : evCode C n64_6 R S = seqK (evCode C n64_7 R S) fun R S => evCode C n64_8 R S := ev_seq
@[simp] theorem en64_9 : evCode C n64_9 R S = some (.norm, R, S) := (rfl)
@[simp] theorem en64_5 : evCode C n64_5 R S = condK (IV.ev R (.t 4)) (fun _ => evCode C n64_6 R S) fun _ => evCode C n64_9 R S := ev_cond
@[simp] theorem en64_3 : evCode C n64_3 R S = seqK (evCode C n64_4 R S) fun R S => evCode C n64_5 R S := ev_seq
@[simp] theorem en64_11 : evCode C n64_11 R S = regK (runOps C l64_11 R S) := ev_plain rfl
@[simp] theorem en64_12 : evCode C n64_12 R S = some (.ret, R, S) := (rfl)
@[simp] theorem en64_10 : evCode C n64_10 R S = seqK (evCode C n64_11 R S) fun R S => evCode C n64_12 R S := ev_seq
@[simp] theorem en64_2 : evCode C n64_2 R S = seqK (evCode C n64_3 R S) fun R S => evCode C n64_10 R S := ev_seq
@[simp] theorem en64_0 : evCode C n64_0 R S = seqK (evCode C n64_1 R S) fun R S => evCode C n64_2 R S := ev_seq
theorem q64 {n : Nat} {args : List Value} {S : St} : calls table.find (n + 1) 64 args S = endK S [.tmp 2] (evCode (calls table.find n) n64_0 (args ++ List.replicate (8 - args.length) undef) S.enter) := call_enter b64

/-! (*wainscot/fast.step).to -/
@[simp] def l65_0 : List IOper := [oy 4 (.mv (.t 0)),
  oy 5 (.mv (.t 1)),
  oy 6 (.nilCheck (.t 4)),
  oy 7 (.addOff 7 (.t 6)),
  oy 8 (.addOff 2 (.t 7)),
  ox (.store 1 (.t 8) (.t 5))]
def n65_0 : ICode := .region l65_0
theorem b65 : table.find 65 = some ⟨9, n65_0, []⟩ := by kernel_rfl
@[simp] theorem en65_0 : evCode C n65_0 R S = regK (runOps C l65_0 R S) := ev_plain rfl
theorem q65 {n : Nat} {args : List Value} {S : St} : calls table.find (n + 1) 65 args S = endK S [] (evCode (calls table.find n) n65_0 (args ++ List.replicate (9 - args.length) undef) S.enter) := call_enter b65

/-! (*wainscot/fast.step).head -/
@[simp] def l66_1 : List IOper := [oy 2 (.mv (.c (.int .i64 0))),
  oy 3 (.mv (.c (.int .i64 0)))]
def n66_1 : ICode := .region l66_1
@[simp] def l66_3 : List IOper := [oy 5 (.mv (.t 0)),
  oy 6 (.mv (.t 0)),
  oy 7 (.mv (.t 0)),
  oy 8 (.nilCheck (.t 7)),
  oy 9 (.addOff 1 (.t 8)),
  oy 10 (.load true 6 (.t 9)),
  oy 11 (.mv (.t 0)),
  oy 12 (.nilCheck (.t 11)),
  oy 13 (.addOff 7 (.t 12)),
  oy 14 (.addOff 1 (.t 13)),
  oy 15 (.load false 1 (.t 14)),
  oy 16 (.call (.c (.func (.func 13) #[] #[])) [(.t 10), (.t 15)] true),
  oy 17 (.call (.c (.func (.func 63) #[] #[])) [(.t 6), (.t 16)] false),
  oy 18 (.nilCheck (.t 5)),
  oy 19 (.addOff 7 (.t 18)),
  oy 20 (.addOff 7 (.t 19)),
  ox (.store 1 (.t 20) (.t 17))]
def n66_3 : ICode := .region l66_3
@[simp] def l66_5 : List IOper := [oy 22 (.mv (.t 0)),
  oy 23 (.nilCheck (.t 22)),
  oy 24 (.addOff 7 (.t 23)),
  oy 25 (.addOff 7 (.t 24)),
  oy 26 (.load false 1 (.t 25)),
  oy 27 (.call (.c (.func (.func 57) #[] #[])) [(.t 26)] true),
  oy 21 (.mv (.t 27)),
  oy 28 (.extract (.t 21) 0),
  oy 29 (.extract (.t 21) 1),
  oy 30 (.extract (.t 21) 2),
  oy 2 (.mv (.t 28)),
  oy 3 (.mv (.t 29)),
  oy 4 (.mv (.t 30))]
def n66_5 : ICode := .region l66_5
@[simp] def l66_7 : List IOper := [oy 31 (.mv (.t 0)),
  oy 32 (.mv (.t 4)),
  oy 33 (.mv (.t 32)),
  oz 34 33 true (.mv (.t 2)),
  oz 35 33 true (.mv (.t 0)),
  oz 36 33 true (.nilCheck (.t 35)),
  oz 37 33 true (.addOff 1 (.t 36)),
  oz 38 33 true (.addOff 1 (.t 37)),
  oz 39 33 true (.load false 1 (.t 38)),
  oz 40 33 true (.bin .lss .int (.t 34) (.t 39)),
  oy 41 (.pick (.t 33) (.t 40) (.c (.bool false))),
  oy 42 (.mv (.t 41)),
  oz 43 42 true (.mv (.t 3)),
  oz 44 42 true (.mv (.t 0)),
  oz 45 42 true (.nilCheck (.t 44)),
  oz 46 42 true (.addOff 1 (.t 45)),
  oz 47 42 true (.addOff 2 (.t 46)),
  oz 48 42 true (.load false 1 (.t 47)),
  oz 49 42 true (.bin .lss .int (.t 43) (.t 48)),
  oy 50 (.pick (.t 42) (.t 49) (.c (.bool false))),
  oy 51 (.call (.c (.func (.func 70) #[] #[])) [(.t 31), (.t 50)] false)]
def n66_7 : ICode := .region l66_7
@[simp] def l66_9 : List IOper := [oy 52 (.mv (.t 2)),
  oy 53 (.mv (.t 3)),
  oy 2 (.mv (.t 52)),
  oy 3 (.mv (.t 53))]
def n66_9 : ICode := .region l66_9
def n66_10 : ICode := .ret
def n66_8 : ICode := .seq n66_9 n66_10
def n66_6 : ICode := .seq n66_7 n66_8
def n66_4 : ICode := .seq n66_5 n66_6
def n66_2 : ICode := .seq n66_3 n66_4
def n66_0 : ICode := .seq n66_1 n66_2
theorem b66 : table.find 66 = some ⟨54, n66_0, [.tmp 2, .tmp 3]⟩ := by kernel_rfl
@[simp] theorem en66_1 : evCode C n66_1 R S = regK (runOps C l66_1 R S) := ev_plain rfl
@[simp] theorem en66_3 : evCode C n66_3 R S = regK (runOps C l66_3 R S) := ev_plain rfl
@[simp] theorem en66_5 : evCode C n66_5 R S = regK (runOps C l66_5 R S) := ev_plain rfl
@[simp] theorem en66_7 : evCode C n66_7 R S = regK (runOps C l66_7 R S) := ev_plain rfl
@[simp] theorem en66_9 : evCode C n66_9 R S = regK (runOps C l66_9 R S) := ev_plain rfl
@[simp] theorem en66_10 : evCode C n66_10 R S = some (.ret, R, S) := (rfl)
@[simp] theorem en66_8 : evCode C n66_8 R S = seqK (evCode C n66_9 R S) fun R S => evCode C n66_10 R S := ev_seq
@[simp] theorem en66_6 : evCode C n66_6 R S = seqK (evCode C n66_7 R S) fun R S => evCode C n66_8 R S := ev_seq
@[simp] theorem en66_4 : evCode C n66_4 R S = seqK (evCode C n66_5 R S) fun R S => evCode C n66_6 R S := ev_seq
@[simp] theorem en66_2 : evCode C n66_2 R S = seqK (evCode C n66_3 R S) fun R S => evCode C n66_4 R S := ev_seq
@[simp] theorem en66_0 : evCode C n66_0 R S = seqK (evCode C n66_1 R S) fun R S => evCode C n66_2 R S := ev_seq
theorem q66 {n : Nat} {args : List Value} {S : St} : calls table.find (n + 1) 66 args S = endK S [.tmp 2, .tmp 3] (evCode (calls table.find n) n66_0 (args ++ List.replicate (54 - args.length) undef) S.enter) := call_enter b66

/-! (*wainscot/fast.step).swap -/
@[simp] def l68_1 : List IOper := [oy 9 (.mv (.t 0)),
  oy 10 (.nilCheck (.t 9)),
  oy 11 (.addOff 7 (.t 10)),
  oy 12 (.addOff 5 (.t 11)),
  oy 13 (.load false 1 (.t 12)),
  oy 14 (.mv (.t 1)),
  oy 15 (.call (.c (.func (.func 19) #[] #[])) [(.t 13), (.t 14)] true),
  oy 8 (.mv (.t 15)),
  oy 16 (.extract (.t 8) 0),
  oy 17 (.extract (.t 8) 1),
  oy 6 (.mv (.t 16)),
  oy 7 (.mv (.t 17))]
def n68_1 : ICode := .region l68_1
@[simp] def l68_3 : List IOper := [oy 18 (.mv (.t 0)),
  oy 19 (.mv (.t 7)),
  oy 20 (.bin .eql .int (.t 19) (.c (.int .i64 0))),
  oy 21 (.call (.c (.func (.func 70) #[] #[])) [(.t 18), (.t 20)] false)]
def n68_3 : ICode := .region l68_3
@[simp] def l68_6 : List IOper := [oy 22 (.mv (.t 0)),
  oy 23 (.nilCheck (.t 22)),
  oy 24 (.addOff 24 (.t 23)),
  oy 25 (.load false 1 (.t 24))]
def n68_6 : ICode := .region l68_6
def n68_8 : ICode := .ret
def n68_9 : ICode := .skip
def n68_7 : ICode := .cond (.t 25) n68_8 n68_9
def n68_5 : ICode := .seq n68_6 n68_7
@[simp] def l68_12 : List IOper := [oy 26 (.mv (.t 0)),
  oy 27 (.mv (.t 0)),
  oy 28 (.nilCheck (.t 27)),
  oy 29 (.addOff 1 (.t 28)),
  oy 30 (.load true 6 (.t 29)),
  oy 31 (.mv (.t 0)),
  oy 32 (.nilCheck (.t 31)),
  oy 33 (.addOff 7 (.t 32)),
  oy 34 (.addOff 1 (.t 33)),
  oy 35 (.load false 1 (.t 34)),
  oy 36 (.call (.c (.func (.func 13) #[] #[])) [(.t 30), (.t 35)] true),
  oy 37 (.mv (.t 0)),
  oy 38 (.nilCheck (.t 37)),
  oy 39 (.addOff 7 (.t 38)),
  oy 40 (.addOff 7 (.t 39)),
  oy 41 (.load false 1 (.t 40)),
  oy 42 (.mv (.t 0)),
  oy 43 (.nilCheck (.t 42)),
  oy 44 (.addOff 7 (.t 43)),
  oy 45 (.addOff 8 (.t 44)),
  oy 46 (.load false 1 (.t 45)),
  oy 47 (.mv (.t 6)),
  oy 48 (.mv (.t 0)),
  oy 49 (.nilCheck (.t 48)),
  oy 50 (.addOff 7 (.t 49)),
  oy 51 (.addOff 8 (.t 50)),
  oy 52 (.load false 1 (.t 51)),
  oy 53 (.bin .add .int (.t 52) (.c (.int .u64 1))),
  oy 54 (.call (.c (.func (.func 79) #[] #[])) [(.t 26), (.t 36), (.t 41), (.t 46), (.t 47), (.t 53)] false)]
def n68_12 : ICode := .region l68_12
@[simp] def l68_15 : List IOper := [oy 55 (.mv (.t 0)),
  oy 56 (.nilCheck (.t 55)),
  oy 57 (.addOff 7 (.t 56)),
  oy 58 (.addOff 3 (.t 57)),
  ox (.store 1 (.t 58) (.c (.int .i64 1)))]
def n68_15 : ICode := .region l68_15
def n68_16 : ICode := .ret
def n68_14 : ICode := .seq n68_15 n68_16
def n68_17 : ICode := .skip
def n68_13 : ICode := .cond (.t 54) n68_14 n68_17
def n68_11 : ICode := .seq n68_12 n68_13
@[simp] def l68_18 : List IOper := [oy 59 (.mv (.t 0)),
  oy 60 (.mv (.t 2)),
  oy 61 (.call (.c (.func (.func 65) #[] #[])) [(.t 59), (.t 60)] false)]
def n68_18 : ICode := .region l68_18
def n68_10 : ICode := .seq n68_11 n68_18
def n68_4 : ICode := .seq n68_5 n68_10
def n68_2 : ICode := .seq n68_3 n68_4
def n68_0 : ICode := .seq n68_1 n68_2
theorem b68 : table.find 68 = some ⟨62, n68_0, []⟩ := by kernel_rfl
@[simp] theorem en68_1 : evCode C n68_1 R S = regK (runOps C l68_1 R S) := ev_plain rfl
@[simp] theorem en68_3 : evCode C n68_3 R S = regK (runOps C l68_3 R S) := ev_plain rfl
@[simp] theorem en68_6 : evCode C n68_6 R S = regK (runOps C l68_6 R S) := ev_plain rfl
@[simp] theorem en68_8 : evCode C n68_8 R S = some (.ret, R, S) := (rfl)
@[simp] theorem en68_9 : evCode C n68_9 R S = some (.norm, R, S) := (rfl)
@[simp] theorem en68_7 : evCode C n68_7 R S = condK (IV.ev R (.t 25)) (fun _ => evCode C n68_8 R S) fun _ => evCode C n68_9 R S := ev_cond
@[simp] theorem en68_5 : evCode C n68_5 R S = seqK (evCode C n68_6 R S) fun R S => evCode C n68_7 R S := ev_seq
@[simp] theorem en68_12 : evCode C n68_12 R S = regK (runOps C l68_12 R S) := ev_plain rfl
@[simp] theorem en68_15 : evCode C n68_15 R S = regK (runOps C l68_15 R S) := ev_plain rfl
@[simp] theorem en68_16 : evCode C n68_16 R S = some (.ret, R, S) := (rfl)
@[simp] theorem en68_14 : evCode C n68_14 R S = seqK (evCode C n68_15 R S) fun R S => evCode C n68_16 R S := ev_seq
@[simp] theorem en68_17 : evCode C n68_17 R S = some (.norm, R, S) := (rfl)
@[simp] theorem en68_13 : evCode C n68_13 R S = condK (IV.ev R (.t 54)) (fun _ => evCode C n68_14 R S) fun _ => evCode C n68_17 R S := ev_cond
@[simp] theorem en68_11 : evCode C n68_11 R S = seqK (evCode C n68_12 R S) fun R S => evCode C n68_13 R S := ev_seq
@[simp] theorem en68_18 : evCode C n68_18 R S = regK (runOps C l68_18 R S) := ev_plain rfl
@[simp] theorem en68_10 : evCode C n68_10 R S = seqK (evCode C n68_11 R S) fun R S => evCode C n68_18 R S := ev_seq
@[simp] theorem en68_4 : evCode C n68_4 R S = seqK (evCode C n68_5 R S) fun R S => evCode C n68_10 R S := ev_seq
@[simp] theorem en68_2 : evCode C n68_2 R S = seqK (evCode C n68_3 R S) fun R S => evCode C n68_4 R S := ev_seq
@[simp] theorem en68_0 : evCode C n68_0 R S = seqK (evCode C n68_1 R S) fun R S => evCode C n68_2 R S := ev_seq
theorem q68 {n : Nat} {args : List Value} {S : St} : calls table.find (n + 1) 68 args S = endK S [] (evCode (calls table.find n) n68_0 (args ++ List.replicate (62 - args.length) undef) S.enter) := call_enter b68

/-! wainscot/link.Hide -/
@[simp] def l69_1 : List IOper := [oy 6 (.mv (.c (.int .u64 0))),
  oy 7 (.mv (.c (.int .i64 0)))]
def n69_1 : ICode := .region l69_1
@[simp] def l69_4 : List IOper := [oy 8 (.mv (.t 0)),
  oy 9 (.bin .neq .int (.t 8) (.c (.int .i64 (-1)))),
  oy 10 (.mv (.t 9)),
  oz 11 10 true (.mv (.t 0)),
  oz 12 10 true (.call (.c (.func (.func 78) #[] #[])) [(.t 11)] true),
  oz 13 10 true (.un .not (.t 12)),
  oy 14 (.pick (.t 10) (.t 13) (.c (.bool false))),
  oy 15 (.mv (.t 14)),
  oz 16 15 false (.mv (.t 2)),
  oz 17 15 false (.call (.c (.func (.func 78) #[] #[])) [(.t 16)] true),
  oz 18 15 false (.un .not (.t 17)),
  oy 19 (.pick (.t 15) (.c (.bool true)) (.t 18))]
def n69_4 : ICode := .region l69_4
@[simp] def l69_7 : List IOper := [oy 6 (.mv (.c (.int .u64 0))),
  oy 7 (.mv (.c (.int .i64 2)))]
def n69_7 : ICode := .region l69_7
def n69_8 : ICode := .ret
def n69_6 : ICode := .seq n69_7 n69_8
def n69_9 : ICode := .skip
def n69_5 : ICode := .cond (.t 19) n69_6 n69_9
def n69_3 : ICode := .seq n69_4 n69_5
@[simp] def l69_11 : List IOper := [oy 20 (.mv (.t 0)),
  oy 21 (.bin .add .int (.t 20) (.c (.int .i64 1))),
  oy 22 (.conv .u64 (.t 21)),
  oy 23 (.mv (.t 1)),
  oy 24 (.mv (.t 2)),
  oy 25 (.call (.c (.func (.func 33) #[] #[])) [(.t 23), (.t 24)] true),
  oy 26 (.bin .xor .int (.t 22) (.t 25)),
  oy 6 (.mv (.t 26)),
  oy 7 (.mv (.c (.int .i64 0)))]
def n69_11 : ICode := .region l69_11
def n69_12 : ICode := .ret
def n69_10 : ICode := .seq n69_11 n69_12
def n69_2 : ICode := .seq n69_3 n69_10
def n69_0 : ICode := .seq n69_1 n69_2
theorem b69 : table.find 69 = some ⟨27, n69_0, [.tmp 6, .tmp 7]⟩ := by kernel_rfl
@[simp] theorem en69_1 : evCode C n69_1 R S = regK (runOps C l69_1 R S) := ev_plain rfl
@[simp] theorem en69_4 : evCode C n69_4 R S = regK (runOps C l69_4 R S) := ev_plain rfl
@[simp] theorem en69_7 : evCode C n69_7 R S = regK (runOps C l69_7 R S) := ev_plain rfl
@[simp] theorem en69_8 : evCode C n69_8 R S = some (.ret, R, S) := (rfl)
@[simp] theorem en69_6 : evCode C n69_6 R S = seqK (evCode C n69_7 R S) fun R S => evCode C n69_8 R S := ev_seq
@[simp] theorem en69_9 : evCode C n69_9 R S = some (.norm, R, S) := (rfl)
@[simp] theorem en69_5 : evCode C n69_5 R S = condK (IV.ev R (.t 19)) (fun _ => evCode C n69_6 R S) fun _ => evCode C n69_9 R S := ev_cond
@[simp] theorem en69_3 : evCode C n69_3 R S = seqK (evCode C n69_4 R S) fun R S => evCode C n69_5 R S := ev_seq
@[simp] theorem en69_11 : evCode C n69_11 R S = regK (runOps C l69_11 R S) := ev_plain rfl
@[simp] theorem en69_12 : evCode C n69_12 R S = some (.ret, R, S) := (rfl)
@[simp] theorem en69_10 : evCode C n69_10 R S = seqK (evCode C n69_11 R S) fun R S => evCode C n69_12 R S := ev_seq
@[simp] theorem en69_2 : evCode C n69_2 R S = seqK (evCode C n69_3 R S) fun R S => evCode C n69_10 R S := ev_seq
@[simp] theorem en69_0 : evCode C n69_0 R S = seqK (evCode C n69_1 R S) fun R S => evCode C n69_2 R S := ev_seq
theorem q69 {n : Nat} {args : List Value} {S : St} : calls table.find (n + 1) 69 args S = endK S [.tmp 6, .tmp 7] (evCode (calls table.find n) n69_0 (args ++ List.replicate (27 - args.length) undef) S.enter) := call_enter b69

/-! (*wainscot/fast.step).must -/
@[simp] def l70_0 : List IOper := [oy 4 (.mv (.t 0)),
  oy 5 (.mv (.t 0)),
  oy 6 (.nilCheck (.t 5)),
  oy 7 (.addOff 24 (.t 6)),
  oy 8 (.load false 1 (.t 7)),
  oy 9 (.mv (.t 8)),
  oz 10 9 false (.mv (.t 1)),
  oz 11 9 false (.un .not (.t 10)),
  oy 12 (.pick (.t 9) (.c (.bool true)) (.t 11)),
  oy 13 (.nilCheck (.t 4)),
  oy 14 (.addOff 24 (.t 13)),
  ox (.store 1 (.t 14) (.t 12))]
def n70_0 : ICode := .region l70_0
theorem b70 : table.find 70 = some ⟨15, n70_0, []⟩ := by kernel_rfl
@[simp] theorem en70_0 : evCode C n70_0 R S = regK (runOps C l70_0 R S) := ev_plain rfl
theorem q70 {n : Nat} {args : List Value} {S : St} : calls table.find (n + 1) 70 args S = endK S [] (evCode (calls table.find n) n70_0 (args ++ List.replicate (15 - args.length) undef) S.enter) := call_enter b70

/-! (*wainscot/fast.step).store -/
@[simp] def l71_0 : List IOper := [oy 6 (.mv (.t 0)),
  oy 7 (.mv (.t 0)),
  oy 8 (.nilCheck (.t 7)),
  oy 9 (.addOff 0 (.t 8)),
  oy 10 (.load false 1 (.t 9)),
  oy 11 (.mv (.t 1)),
  oy 12 (.mv (.t 2)),
  oy 13 (.call (.c (.func (.func 12) #[] #[])) [(.t 10), (.t 11), (.t 12)] false),
  oy 14 (.bin .eql .int (.t 13) (.c (.int .i64 0))),
  oy 15 (.call (.c (.func (.func 70) #[] #[])) [(.t 6), (.t 14)] false)]
def n71_0 : ICode := .region l71_0
theorem b71 : table.find 71 = some ⟨16, n71_0, []⟩ := by kernel_rfl
@[simp] theorem en71_0 : evCode C n71_0 R S = regK (runOps C l71_0 R S) := ev_plain rfl
theorem q71 {n : Nat} {args : List Value} {S : St} : calls table.find (n + 1) 71 args S = endK S [] (evCode (calls table.find n) n71_0 (args ++ List.replicate (16 - args.length) undef) S.enter) := call_enter b71

/-! (*wainscot/mem.Mem).Load -/
@[simp] def l77_1 : List IOper := [oy 4 (.new 22 [(.int .u64 0)]),
  oy 5 (.mv (.c (.int .i64 0)))]
def n77_1 : ICode := .region l77_1
@[simp] def l77_3 : List IOper := [oy 6 (.mv (.t 0)),
  oy 7 (.mv (.t 1)),
  oy 8 (.mkFunc 82 [] [(.t 4)]),
  oy 9 (.call (.c (.func (.func 28) #[] #[])) [(.t 6), (.t 7), (.c (.int .i64 1)), (.t 8)] false),
  oy 5 (.mv (.t 9))]
def n77_3 : ICode := .region l77_3
@[simp] def l77_5 : List IOper := [oy 10 (.load false 1 (.t 4)),
  oy 11 (.mv (.t 5)),
  ox (.store 1 (.t 4) (.t 10)),
  oy 5 (.mv (.t 11))]
def n77_5 : ICode := .region l77_5
def n77_6 : ICode := .ret
def n77_4 : ICode := .seq n77_5 n77_6
def n77_2 : ICode := .seq n77_3 n77_4
def n77_0 : ICode := .seq n77_1 n77_2
theorem b77 : table.find 77 = some ⟨12, n77_0, [.cell 4 false 1, .tmp 5]⟩ := by kernel_rfl
@[simp] theorem en77_1 : evCode C n77_1 R S = regK (runOps C l77_1 R S) := ev_plain rfl
@[simp] theorem en77_3 : evCode C n77_3 R S = regK (runOps C l77_3 R S) := ev_plain rfl
@[simp] theorem en77_5 : evCode C n77_5 R S = regK (runOps C l77_5 R S) := ev_plain rfl
@[simp] theorem en77_6 : evCode C n77_6 R S = some (.ret, R, S) := (rfl)
@[simp] theorem en77_4 : evCode C n77_4 R S = seqK (evCode C n77_5 R S) fun R S => evCode C n77_6 R S := ev_seq
@[simp] theorem en77_2 : evCode C n77_2 R S = seqK (evCode C n77_3 R S) fun R S => evCode C n77_4 R S := ev_seq
@[simp] theorem en77_0 : evCode C n77_0 R S = seqK (evCode C n77_1 R S) fun R S => evCode C n77_2 R S := ev_seq
theorem q77 {n : Nat} {args : List Value} {S : St} : calls table.find (n + 1) 77 args S = endK S [.cell 4 false 1, .tmp 5] (evCode (calls table.find n) n77_0 (args ++ List.replicate (12 - args.length) undef) S.enter) := call_enter b77

/-! (*wainscot/fast.step).cas2 -/
@[simp] def l79_1 : List IOper := [oy 12 (.mv (.c (.bool false)))]
def n79_1 : ICode := .region l79_1
@[simp] def l79_3 : List IOper := [oy 16 (.mv (.t 0)),
  oy 17 (.nilCheck (.t 16)),
  oy 18 (.addOff 0 (.t 17)),
  oy 19 (.load false 1 (.t 18)),
  oy 20 (.mv (.t 1)),
  oy 21 (.mv (.t 2)),
  oy 22 (.mv (.t 3)),
  oy 23 (.mv (.t 4)),
  oy 24 (.mv (.t 5)),
  oy 25 (.call (.c (.func (.func 83) #[] #[])) [(.t 19), (.t 20), (.t 21), (.t 22), (.t 23), (.t 24)] false),
  oy 15 (.mv (.t 25)),
  oy 26 (.extract (.t 15) 0),
  oy 27 (.extract (.t 15) 1),
  oy 13 (.mv (.t 26)),
  oy 14 (.mv (.t 27))]
def n79_3 : ICode := .region l79_3
@[simp] def l79_5 : List IOper := [oy 28 (.mv (.t 0)),
  oy 29 (.mv (.t 14)),
  oy 30 (.bin .eql .int (.t 29) (.c (.int .i64 0))),
  oy 31 (.call (.c (.func (.func 70) #[] #[])) [(.t 28), (.t 30)] false)]
def n79_5 : ICode := .region l79_5
@[simp] def l79_7 : List IOper := [oy 32 (.mv (.t 13)),
  oy 12 (.mv (.t 32))]
def n79_7 : ICode := .region l79_7
def n79_8 : ICode := .ret
def n79_6 : ICode := .seq n79_7 n79_8
def n79_4 : ICode := .seq n79_5 n79_6
def n79_2 : ICode := .seq n79_3 n79_4
def n79_0 : ICode := .seq n79_1 n79_2
theorem b79 : table.find 79 = some ⟨33, n79_0, [.tmp 12]⟩ := by kernel_rfl
@[simp] theorem en79_1 : evCode C n79_1 R S = regK (runOps C l79_1 R S) := ev_plain rfl
@[simp] theorem en79_3 : evCode C n79_3 R S = regK (runOps C l79_3 R S) := ev_plain rfl
@[simp] theorem en79_5 : evCode C n79_5 R S = regK (runOps C l79_5 R S) := ev_plain rfl
@[simp] theorem en79_7 : evCode C n79_7 R S = regK (runOps C l79_7 R S) := ev_plain rfl
@[simp] theorem en79_8 : evCode C n79_8 R S = some (.ret, R, S) := (rfl)
@[simp] theorem en79_6 : evCode C n79_6 R S = seqK (evCode C n79_7 R S) fun R S => evCode C n79_8 R S := ev_seq
@[simp] theorem en79_4 : evCode C n79_4 R S = seqK (evCode C n79_5 R S) fun R S => evCode C n79_6 R S := ev_seq
@[simp] theorem en79_2 : evCode C n79_2 R S = seqK (evCode C n79_3 R S) fun R S => evCode C n79_4 R S := ev_seq
@[simp] theorem en79_0 : evCode C n79_0 R S = seqK (evCode C n79_1 R S) fun R S => evCode C n79_2 R S := ev_seq
theorem q79 {n : Nat} {args : List Value} {S : St} : calls table.find (n + 1) 79 args S = endK S [.tmp 12] (evCode (calls table.find n) n79_0 (args ++ List.replicate (33 - args.length) undef) S.enter) := call_enter b79

/-! (*wainscot/mem.Mem).Load$1 -/
@[simp] def l82_0 : List IOper := [oy 3 (.mv (.t 0)),
  oy 4 (.idxS 1 (.t 3) (.c (.int .i64 0))),
  oy 5 (.load false 1 (.t 4)),
  ox (.store 1 (.t 1) (.t 5))]
def n82_0 : ICode := .region l82_0
theorem b82 : table.find 82 = some ⟨6, n82_0, []⟩ := by kernel_rfl
@[simp] theorem en82_0 : evCode C n82_0 R S = regK (runOps C l82_0 R S) := ev_plain rfl
theorem q82 {n : Nat} {args : List Value} {S : St} : calls table.find (n + 1) 82 args S = endK S [] (evCode (calls table.find n) n82_0 (args ++ List.replicate (6 - args.length) undef) S.enter) := call_enter b82

/-! (*wainscot/mem.Mem).Cas2 -/
@[simp] def l83_1 : List IOper := [oy 8 (.box 22 1 (.t 2)),
  oy 9 (.box 22 1 (.t 3)),
  oy 10 (.box 22 1 (.t 4)),
  oy 11 (.box 22 1 (.t 5)),
  oy 12 (.new 4 [(.bool false)]),
  oy 13 (.mv (.c (.int .i64 0)))]
def n83_1 : ICode := .region l83_1
@[simp] def l83_3 : List IOper := [oy 14 (.mv (.t 0)),
  oy 15 (.mv (.t 1)),
  oy 16 (.mkFunc 84 [] [(.t 8), (.t 9), (.t 12), (.t 10), (.t 11)]),
  oy 17 (.call (.c (.func (.func 28) #[] #[])) [(.t 14), (.t 15), (.c (.int .i64 2)), (.t 16)] false),
  oy 13 (.mv (.t 17))]
def n83_3 : ICode := .region l83_3
@[simp] def l83_5 : List IOper := [oy 18 (.load false 1 (.t 12)),
  oy 19 (.mv (.t 13)),
  ox (.store 1 (.t 12) (.t 18)),
  oy 13 (.mv (.t 19))]
def n83_5 : ICode := .region l83_5
def n83_6 : ICode := .ret
def n83_4 : ICode := .seq n83_5 n83_6
def n83_2 : ICode := .seq n83_3 n83_4
def n83_0 : ICode := .seq n83_1 n83_2
theorem b83 : table.find 83 = some ⟨20, n83_0, [.cell 12 false 1, .tmp 13]⟩ := by kernel_rfl
@[simp] theorem en83_1 : evCode C n83_1 R S = regK (runOps C l83_1 R S) := ev_plain rfl
@[simp] theorem en83_3 : evCode C n83_3 R S = regK (runOps C l83_3 R S) := ev_plain rfl
@[simp] theorem en83_5 : evCode C n83_5 R S = regK (runOps C l83_5 R S) := ev_plain rfl
@[simp] theorem en83_6 : evCode C n83_6 R S = some (.ret, R, S) := (rfl)
@[simp] theorem en83_4 : evCode C n83_4 R S = seqK (evCode C n83_5 R S) fun R S => evCode C n83_6 R S := ev_seq
@[simp] theorem en83_2 : evCode C n83_2 R S = seqK (evCode C n83_3 R S) fun R S => evCode C n83_4 R S := ev_seq
@[simp] theorem en83_0 : evCode C n83_0 R S = seqK (evCode C n83_1 R S) fun R S => evCode C n83_2 R S := ev_seq
theorem q83 {n : Nat} {args : List Value} {S : St} : calls table.find (n + 1) 83 args S = endK S [.cell 12 false 1, .tmp 13] (evCode (calls table.find n) n83_0 (args ++ List.replicate (20 - args.length) undef) S.enter) := call_enter b83

/-! (*wainscot/mem.Mem).Cas2$1 -/
@[simp] def l84_1 : List IOper := [oy 7 (.mv (.t 0)),
  oy 8 (.idxS 1 (.t 7) (.c (.int .i64 0))),
  oy 9 (.load false 1 (.t 8)),
  oy 10 (.mv (.t 0)),
  oy 11 (.idxS 1 (.t 10) (.c (.int .i64 1))),
  oy 12 (.load false 1 (.t 11)),
  oy 13 (.build [(.int .u64 0), (.int .u64 0)] [(0, 1, (.t 9)), (1, 1, (.t 12))]),
  oy 14 (.load false 1 (.t 1)),
  oy 15 (.load false 1 (.t 2)),
  oy 16 (.build [(.int .u64 0), (.int .u64 0)] [(0, 1, (.t 14)), (1, 1, (.t 15))]),
  oy 17 (.bin .eql (.plain [(some .u64), (some .u64)]) (.t 13) (.t 16)),
  ox (.store 1 (.t 3) (.t 17))]
def n84_1 : ICode := .region l84_1
@[simp] def l84_3 : List IOper := [oy 18 (.load false 1 (.t 3))]
def n84_3 : ICode := .region l84_3
@[simp] def l84_5 : List IOper := [oy 19 (.mv (.t 0)),
  oy 20 (.mv (.t 0)),
  oy 21 (.load false 1 (.t 4)),
  oy 22 (.load false 1 (.t 5)),
  oy 23 (.idxS 1 (.t 19) (.c (.int .i64 0))),
  ⟨none, .store 1 (.t 23) (.t 21), none, [], [3], false⟩,
  oy 24 (.idxS 1 (.t 20) (.c (.int .i64 1))),
  ox (.store 1 (.t 24) (.t 22))]
def n84_5 : ICode := .region l84_5
def n84_6 : ICode := .skip
def n84_4 : ICode := .cond (.t 18) n84_5 n84_6
def n84_2 : ICode := .seq n84_3 n84_4
def n84_0 : ICode := .seq n84_1 n84_2
theorem b84 : table.find 84 = some ⟨25, n84_0, []⟩ := by kernel_rfl
@[simp] theorem en84_1 : evCode C n84_1 R S = regK (runOps C l84_1 R S) := ev_plain rfl
@[simp] theorem en84_3 : evCode C n84_3 R S = regK (runOps C l84_3 R S) := ev_plain rfl
@[simp] theorem en84_5 : evCode C n84_5 R S = regK (evOps C l84_5 l84_5 0 [] R S) := ev_region
@[simp] theorem en84_6 : evCode C n84_6 R S = some (.norm, R, S) := (rfl)
@[simp] theorem en84_4 : evCode C n84_4 R S = condK (IV.ev R (.t 18)) (fun _ => evCode C n84_5 R S) fun _ => evCode C n84_6 R S := ev_cond
@[simp] theorem en84_2 : evCode C n84_2 R S = seqK (evCode C n84_3 R S) fun R S => evCode C n84_4 R S := ev_seq
@[simp] theorem en84_0 : evCode C n84_0 R S = seqK (evCode C n84_1 R S) fun R S => evCode C n84_2 R S := ev_seq
theorem q84 {n : Nat} {args : List Value} {S : St} : calls table.find (n + 1) 84 args S = endK S [] (evCode (calls table.find n) n84_0 (args ++ List.replicate (25 - args.length) undef) S.enter) := call_enter b84

end Go.Proofs.Ytepddcemoofmlaa.Fast
