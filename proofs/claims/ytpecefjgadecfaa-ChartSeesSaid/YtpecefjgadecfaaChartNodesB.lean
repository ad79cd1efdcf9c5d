/- The pieces of the code, each with a name and a rule (written by program). -/
import Derived.Test.YtpecefjgadecfaaChartIr
import Derived.Test.YtpecefjgadecfaaAe33
namespace Go.Proofs.Ytpecefjgadecfaa.Chart
open Go Go.Proofs.Ytpecefjgadecfaa.AE
set_option maxRecDepth 100000
variable {C : CallS} {R : List Value} {S : St}

/-! wainscot/wainscotref21.Check -/
@[simp] def l18_1 : List IOper := [oy 1 (.box 24 6 (.t 0)),
  oy 2 (.mv (.c (.int .i64 0)))]
def n18_1 : ICode := .region l18_1
@[simp] def l18_4 : List IOper := [oy 3 (.addOff 0 (.t 1)),
  oy 4 (.load false 1 (.t 3)),
  oy 5 (.bin .sub .int (.t 4) (.c (.int .i64 1))),
  oy 6 (.call (.c (.func (.func 52) #[] #[])) [(.t 5), (.c (.int .i64 8))] true),
  oy 7 (.un .not (.t 6)),
  oy 8 (.mv (.t 7)),
  oz 9 8 false (.addOff 1 (.t 1)),
  oz 10 8 false (.load false 1 (.t 9)),
  oz 11 8 false (.bin .sub .int (.t 10) (.c (.int .i64 1))),
  oz 12 8 false (.call (.c (.func (.func 52) #[] #[])) [(.t 11), (.c (.int .i64 32))] true),
  oz 13 8 false (.un .not (.t 12)),
  oy 14 (.pick (.t 8) (.c (.bool true)) (.t 13)),
  oy 15 (.mv (.t 14)),
  oz 16 15 false (.addOff 2 (.t 1)),
  oz 17 15 false (.load false 1 (.t 16)),
  oz 18 15 false (.bin .sub .int (.t 17) (.c (.int .i64 1))),
  oz 19 15 false (.call (.c (.func (.func 52) #[] #[])) [(.t 18), (.c (.int .i64 16))] true),
  oz 20 15 false (.un .not (.t 19)),
  oy 21 (.pick (.t 15) (.c (.bool true)) (.t 20)),
  oy 22 (.mv (.t 21)),
  oz 23 22 false (.addOff 3 (.t 1)),
  oz 24 22 false (.load false 1 (.t 23)),
  oz 25 22 false (.call (.c (.func (.func 52) #[] #[])) [(.t 24), (.c (.int .i64 33))] true),
  oz 26 22 false (.un .not (.t 25)),
  oy 27 (.pick (.t 22) (.c (.bool true)) (.t 26)),
  oy 28 (.mv (.t 27)),
  oz 29 28 false (.addOff 4 (.t 1)),
  oz 30 28 false (.load false 1 (.t 29)),
  oz 31 28 false (.call (.c (.func (.func 52) #[] #[])) [(.t 30), (.c (.int .i64 33))] true),
  oz 32 28 false (.un .not (.t 31)),
  oy 33 (.pick (.t 28) (.c (.bool true)) (.t 32))]
def n18_4 : ICode := .region l18_4
@[simp] def l18_7 : List IOper := [oy 2 (.mv (.c (.int .i64 2)))]
def n18_7 : ICode := .region l18_7
def n18_8 : ICode := .ret
def n18_6 : ICode := .seq n18_7 n18_8
def n18_9 : ICode := .skip
def n18_5 : ICode := .cond (.t 33) n18_6 n18_9
def n18_3 : ICode := .seq n18_4 n18_5
@[simp] def l18_11 : List IOper := [oy 2 (.mv (.c (.int .i64 0)))]
def n18_11 : ICode := .region l18_11
def n18_12 : ICode := .ret
def n18_10 : ICode := .seq n18_11 n18_12
def n18_2 : ICode := .seq n18_3 n18_10
def n18_0 : ICode := .seq n18_1 n18_2
theorem b18 : table.find 18 = some ⟨34, n18_0, [.tmp 2]⟩ := by kernel_rfl
@[simp] theorem en18_1 : evCode C n18_1 R S = regK (runOps C l18_1 R S) := ev_plain rfl
@[simp] theorem en18_4 : evCode C n18_4 R S = regK (runOps C l18_4 R S) := ev_plain rfl
@[simp] theorem en18_7 : evCode C n18_7 R S = regK (runOps C l18_7 R S) := ev_plain rfl
@[simp] theorem en18_8 : evCode C n18_8 R S = some (.ret, R, S) := (rfl)
@[simp] theorem en18_6 : evCode C n18_6 R S = seqK (evCode C n18_7 R S) fun R S => evCode C n18_8 R S := ev_seq
@[simp] theorem en18_9 : evCode C n18_9 R S = some (.norm, R, S) := (rfl)
@[simp] theorem en18_5 : evCode C n18_5 R S = condK (IV.ev R (.t 33)) (fun _ => evCode C n18_6 R S) fun _ => evCode C n18_9 R S := ev_cond
@[simp] theorem en18_3 : evCode C n18_3 R S = seqK (evCode C n18_4 R S) fun R S => evCode C n18_5 R S := ev_seq
@[simp] theorem en18_11 : evCode C n18_11 R S = regK (runOps C l18_11 R S) := ev_plain rfl
@[simp] theorem en18_12 : evCode C n18_12 R S = some (.ret, R, S) := (rfl)
@[simp] theorem en18_10 : evCode C n18_10 R S = seqK (evCode C n18_11 R S) fun R S => evCode C n18_12 R S := ev_seq
@[simp] theorem en18_2 : evCode C n18_2 R S = seqK (evCode C n18_3 R S) fun R S => evCode C n18_10 R S := ev_seq
@[simp] theorem en18_0 : evCode C n18_0 R S = seqK (evCode C n18_1 R S) fun R S => evCode C n18_2 R S := ev_seq
theorem q18 {n : Nat} {args : List Value} {S : St} : calls table.find (n + 1) 18 args S = endK S [.tmp 2] (evCode (calls table.find n) n18_0 (args ++ List.replicate (34 - args.length) undef) S.enter) := call_enter b18

/-! wainscot/wainscotref21.Words -/
@[simp] def l19_1 : List IOper := [oy 1 (.box 24 6 (.t 0)),
  oy 2 (.mv (.c (.int .i64 0)))]
def n19_1 : ICode := .region l19_1
@[simp] def l19_3 : List IOper := [oy 3 (.load true 6 (.t 1)),
  oy 4 (.addOff 0 (.t 1)),
  oy 5 (.load false 1 (.t 4)),
  oy 6 (.bin .mul .int (.c (.int .i64 4)) (.t 5)),
  oy 7 (.bin .add .int (.t 6) (.c (.int .i64 4))),
  oy 8 (.addOff 1 (.t 1)),
  oy 9 (.load false 1 (.t 8)),
  oy 10 (.bin .mul .int (.c (.int .i64 4)) (.t 9)),
  oy 11 (.bin .add .int (.t 7) (.t 10)),
  oy 12 (.addOff 1 (.t 1)),
  oy 13 (.load false 1 (.t 12)),
  oy 14 (.addOff 2 (.t 1)),
  oy 15 (.load false 1 (.t 14)),
  oy 16 (.bin .mul .int (.t 13) (.t 15)),
  oy 17 (.bin .add .int (.t 11) (.t 16)),
  oy 18 (.call (.c (.func (.func 53) #[] #[])) [(.t 3), (.c (.bool true)), (.t 17)] true),
  oy 19 (.minmax true (.t 18) [(.c (.int .i64 0))]),
  oy 2 (.mv (.t 19))]
def n19_3 : ICode := .region l19_3
def n19_4 : ICode := .ret
def n19_2 : ICode := .seq n19_3 n19_4
def n19_0 : ICode := .seq n19_1 n19_2
theorem b19 : table.find 19 = some ⟨20, n19_0, [.tmp 2]⟩ := by kernel_rfl
@[simp] theorem en19_1 : evCode C n19_1 R S = regK (runOps C l19_1 R S) := ev_plain rfl
@[simp] theorem en19_3 : evCode C n19_3 R S = regK (runOps C l19_3 R S) := ev_plain rfl
@[simp] theorem en19_4 : evCode C n19_4 R S = some (.ret, R, S) := (rfl)
@[simp] theorem en19_2 : evCode C n19_2 R S = seqK (evCode C n19_3 R S) fun R S => evCode C n19_4 R S := ev_seq
@[simp] theorem en19_0 : evCode C n19_0 R S = seqK (evCode C n19_1 R S) fun R S => evCode C n19_2 R S := ev_seq
theorem q19 {n : Nat} {args : List Value} {S : St} : calls table.find (n + 1) 19 args S = endK S [.tmp 2] (evCode (calls table.find n) n19_0 (args ++ List.replicate (20 - args.length) undef) S.enter) := call_enter b19

/-! wainscot/wainscotref21.Head -/
@[simp] def l20_1 : List IOper := [oy 2 (.box 24 6 (.t 0)),
  oy 4 (.mv (.c (.int .i64 0)))]
def n20_1 : ICode := .region l20_1
@[simp] def l20_3 : List IOper := [oy 5 (.load true 6 (.t 2)),
  oy 6 (.mv (.t 1)),
  oy 7 (.addOff 0 (.t 2)),
  oy 8 (.load false 1 (.t 7)),
  oy 9 (.call (.c (.func (.func 52) #[] #[])) [(.t 6), (.t 8)] true),
  oy 10 (.mv (.t 1)),
  oy 11 (.bin .mul .int (.c (.int .i64 4)) (.t 10)),
  oy 12 (.call (.c (.func (.func 53) #[] #[])) [(.t 5), (.t 9), (.t 11)] true),
  oy 4 (.mv (.t 12))]
def n20_3 : ICode := .region l20_3
def n20_4 : ICode := .ret
def n20_2 : ICode := .seq n20_3 n20_4
def n20_0 : ICode := .seq n20_1 n20_2
theorem b20 : table.find 20 = some ⟨13, n20_0, [.tmp 4]⟩ := by kernel_rfl
@[simp] theorem en20_1 : evCode C n20_1 R S = regK (runOps C l20_1 R S) := ev_plain rfl
@[simp] theorem en20_3 : evCode C n20_3 R S = regK (runOps C l20_3 R S) := ev_plain rfl
@[simp] theorem en20_4 : evCode C n20_4 R S = some (.ret, R, S) := (rfl)
@[simp] theorem en20_2 : evCode C n20_2 R S = seqK (evCode C n20_3 R S) fun R S => evCode C n20_4 R S := ev_seq
@[simp] theorem en20_0 : evCode C n20_0 R S = seqK (evCode C n20_1 R S) fun R S => evCode C n20_2 R S := ev_seq
theorem q20 {n : Nat} {args : List Value} {S : St} : calls table.find (n + 1) 20 args S = endK S [.tmp 4] (evCode (calls table.find n) n20_0 (args ++ List.replicate (13 - args.length) undef) S.enter) := call_enter b20

/-! wainscot/wainscotref21.Part -/
@[simp] def l21_1 : List IOper := [oy 2 (.box 24 6 (.t 0)),
  oy 4 (.mv (.c (.int .i64 0)))]
def n21_1 : ICode := .region l21_1
@[simp] def l21_3 : List IOper := [oy 5 (.load true 6 (.t 2)),
  oy 6 (.mv (.t 1)),
  oy 7 (.addOff 0 (.t 2)),
  oy 8 (.load false 1 (.t 7)),
  oy 9 (.call (.c (.func (.func 52) #[] #[])) [(.t 6), (.t 8)] true),
  oy 10 (.mv (.t 1)),
  oy 11 (.bin .mul .int (.c (.int .i64 4)) (.t 10)),
  oy 12 (.bin .add .int (.t 11) (.c (.int .i64 2))),
  oy 13 (.call (.c (.func (.func 53) #[] #[])) [(.t 5), (.t 9), (.t 12)] true),
  oy 4 (.mv (.t 13))]
def n21_3 : ICode := .region l21_3
def n21_4 : ICode := .ret
def n21_2 : ICode := .seq n21_3 n21_4
def n21_0 : ICode := .seq n21_1 n21_2
theorem b21 : table.find 21 = some ⟨14, n21_0, [.tmp 4]⟩ := by kernel_rfl
@[simp] theorem en21_1 : evCode C n21_1 R S = regK (runOps C l21_1 R S) := ev_plain rfl
@[simp] theorem en21_3 : evCode C n21_3 R S = regK (runOps C l21_3 R S) := ev_plain rfl
@[simp] theorem en21_4 : evCode C n21_4 R S = some (.ret, R, S) := (rfl)
@[simp] theorem en21_2 : evCode C n21_2 R S = seqK (evCode C n21_3 R S) fun R S => evCode C n21_4 R S := ev_seq
@[simp] theorem en21_0 : evCode C n21_0 R S = seqK (evCode C n21_1 R S) fun R S => evCode C n21_2 R S := ev_seq
theorem q21 {n : Nat} {args : List Value} {S : St} : calls table.find (n + 1) 21 args S = endK S [.tmp 4] (evCode (calls table.find n) n21_0 (args ++ List.replicate (14 - args.length) undef) S.enter) := call_enter b21

/-! wainscot/wainscotref21.Lock -/
@[simp] def l22_1 : List IOper := [oy 1 (.box 24 6 (.t 0)),
  oy 2 (.mv (.c (.int .i64 0)))]
def n22_1 : ICode := .region l22_1
@[simp] def l22_3 : List IOper := [oy 3 (.load true 6 (.t 1)),
  oy 4 (.addOff 0 (.t 1)),
  oy 5 (.load false 1 (.t 4)),
  oy 6 (.bin .mul .int (.c (.int .i64 4)) (.t 5)),
  oy 7 (.call (.c (.func (.func 53) #[] #[])) [(.t 3), (.c (.bool true)), (.t 6)] true),
  oy 2 (.mv (.t 7))]
def n22_3 : ICode := .region l22_3
def n22_4 : ICode := .ret
def n22_2 : ICode := .seq n22_3 n22_4
def n22_0 : ICode := .seq n22_1 n22_2
theorem b22 : table.find 22 = some ⟨8, n22_0, [.tmp 2]⟩ := by kernel_rfl
@[simp] theorem en22_1 : evCode C n22_1 R S = regK (runOps C l22_1 R S) := ev_plain rfl
@[simp] theorem en22_3 : evCode C n22_3 R S = regK (runOps C l22_3 R S) := ev_plain rfl
@[simp] theorem en22_4 : evCode C n22_4 R S = some (.ret, R, S) := (rfl)
@[simp] theorem en22_2 : evCode C n22_2 R S = seqK (evCode C n22_3 R S) fun R S => evCode C n22_4 R S := ev_seq
@[simp] theorem en22_0 : evCode C n22_0 R S = seqK (evCode C n22_1 R S) fun R S => evCode C n22_2 R S := ev_seq
theorem q22 {n : Nat} {args : List Value} {S : St} : calls table.find (n + 1) 22 args S = endK S [.tmp 2] (evCode (calls table.find n) n22_0 (args ++ List.replicate (8 - args.length) undef) S.enter) := call_enter b22

/-! wainscot/wainscotref21.Shelf -/
@[simp] def l23_1 : List IOper := [oy 1 (.box 24 6 (.t 0)),
  oy 2 (.mv (.c (.int .i64 0)))]
def n23_1 : ICode := .region l23_1
@[simp] def l23_3 : List IOper := [oy 3 (.load true 6 (.t 1)),
  oy 4 (.addOff 0 (.t 1)),
  oy 5 (.load false 1 (.t 4)),
  oy 6 (.bin .mul .int (.c (.int .i64 4)) (.t 5)),
  oy 7 (.bin .add .int (.t 6) (.c (.int .i64 1))),
  oy 8 (.call (.c (.func (.func 53) #[] #[])) [(.t 3), (.c (.bool true)), (.t 7)] true),
  oy 2 (.mv (.t 8))]
def n23_3 : ICode := .region l23_3
def n23_4 : ICode := .ret
def n23_2 : ICode := .seq n23_3 n23_4
def n23_0 : ICode := .seq n23_1 n23_2
theorem b23 : table.find 23 = some ⟨9, n23_0, [.tmp 2]⟩ := by kernel_rfl
@[simp] theorem en23_1 : evCode C n23_1 R S = regK (runOps C l23_1 R S) := ev_plain rfl
@[simp] theorem en23_3 : evCode C n23_3 R S = regK (runOps C l23_3 R S) := ev_plain rfl
@[simp] theorem en23_4 : evCode C n23_4 R S = some (.ret, R, S) := (rfl)
@[simp] theorem en23_2 : evCode C n23_2 R S = seqK (evCode C n23_3 R S) fun R S => evCode C n23_4 R S := ev_seq
@[simp] theorem en23_0 : evCode C n23_0 R S = seqK (evCode C n23_1 R S) fun R S => evCode C n23_2 R S := ev_seq
theorem q23 {n : Nat} {args : List Value} {S : St} : calls table.find (n + 1) 23 args S = endK S [.tmp 2] (evCode (calls table.find n) n23_0 (args ++ List.replicate (9 - args.length) undef) S.enter) := call_enter b23

/-! wainscot/wainscotref21.Held -/
@[simp] def l24_1 : List IOper := [oy 1 (.box 24 6 (.t 0)),
  oy 2 (.mv (.c (.int .i64 0)))]
def n24_1 : ICode := .region l24_1
@[simp] def l24_3 : List IOper := [oy 3 (.load true 6 (.t 1)),
  oy 4 (.addOff 0 (.t 1)),
  oy 5 (.load false 1 (.t 4)),
  oy 6 (.bin .mul .int (.c (.int .i64 4)) (.t 5)),
  oy 7 (.bin .add .int (.t 6) (.c (.int .i64 2))),
  oy 8 (.call (.c (.func (.func 53) #[] #[])) [(.t 3), (.c (.bool true)), (.t 7)] true),
  oy 2 (.mv (.t 8))]
def n24_3 : ICode := .region l24_3
def n24_4 : ICode := .ret
def n24_2 : ICode := .seq n24_3 n24_4
def n24_0 : ICode := .seq n24_1 n24_2
theorem b24 : table.find 24 = some ⟨9, n24_0, [.tmp 2]⟩ := by kernel_rfl
@[simp] theorem en24_1 : evCode C n24_1 R S = regK (runOps C l24_1 R S) := ev_plain rfl
@[simp] theorem en24_3 : evCode C n24_3 R S = regK (runOps C l24_3 R S) := ev_plain rfl
@[simp] theorem en24_4 : evCode C n24_4 R S = some (.ret, R, S) := (rfl)
@[simp] theorem en24_2 : evCode C n24_2 R S = seqK (evCode C n24_3 R S) fun R S => evCode C n24_4 R S := ev_seq
@[simp] theorem en24_0 : evCode C n24_0 R S = seqK (evCode C n24_1 R S) fun R S => evCode C n24_2 R S := ev_seq
theorem q24 {n : Nat} {args : List Value} {S : St} : calls table.find (n + 1) 24 args S = endK S [.tmp 2] (evCode (calls table.find n) n24_0 (args ++ List.replicate (9 - args.length) undef) S.enter) := call_enter b24

/-! wainscot/wainscotref21.First -/
@[simp] def l25_1 : List IOper := [oy 2 (.box 24 6 (.t 0)),
  oy 4 (.mv (.c (.int .i64 0)))]
def n25_1 : ICode := .region l25_1
@[simp] def l25_3 : List IOper := [oy 5 (.load true 6 (.t 2)),
  oy 6 (.mv (.t 1)),
  oy 7 (.addOff 1 (.t 2)),
  oy 8 (.load false 1 (.t 7)),
  oy 9 (.call (.c (.func (.func 52) #[] #[])) [(.t 6), (.t 8)] true),
  oy 10 (.addOff 0 (.t 2)),
  oy 11 (.load false 1 (.t 10)),
  oy 12 (.bin .mul .int (.c (.int .i64 4)) (.t 11)),
  oy 13 (.bin .add .int (.t 12) (.c (.int .i64 4))),
  oy 14 (.mv (.t 1)),
  oy 15 (.bin .mul .int (.c (.int .i64 4)) (.t 14)),
  oy 16 (.bin .add .int (.t 13) (.t 15)),
  oy 17 (.call (.c (.func (.func 53) #[] #[])) [(.t 5), (.t 9), (.t 16)] true),
  oy 4 (.mv (.t 17))]
def n25_3 : ICode := .region l25_3
def n25_4 : ICode := .ret
def n25_2 : ICode := .seq n25_3 n25_4
def n25_0 : ICode := .seq n25_1 n25_2
theorem b25 : table.find 25 = some ⟨18, n25_0, [.tmp 4]⟩ := by kernel_rfl
@[simp] theorem en25_1 : evCode C n25_1 R S = regK (runOps C l25_1 R S) := ev_plain rfl
@[simp] theorem en25_3 : evCode C n25_3 R S = regK (runOps C l25_3 R S) := ev_plain rfl
@[simp] theorem en25_4 : evCode C n25_4 R S = some (.ret, R, S) := (rfl)
@[simp] theorem en25_2 : evCode C n25_2 R S = seqK (evCode C n25_3 R S) fun R S => evCode C n25_4 R S := ev_seq
@[simp] theorem en25_0 : evCode C n25_0 R S = seqK (evCode C n25_1 R S) fun R S => evCode C n25_2 R S := ev_seq
theorem q25 {n : Nat} {args : List Value} {S : St} : calls table.find (n + 1) 25 args S = endK S [.tmp 4] (evCode (calls table.find n) n25_0 (args ++ List.replicate (18 - args.length) undef) S.enter) := call_enter b25

/-! wainscot/wainscotref21.Next -/
@[simp] def l26_1 : List IOper := [oy 2 (.box 24 6 (.t 0)),
  oy 4 (.mv (.c (.int .i64 0)))]
def n26_1 : ICode := .region l26_1
@[simp] def l26_3 : List IOper := [oy 5 (.load true 6 (.t 2)),
  oy 6 (.mv (.t 1)),
  oy 7 (.addOff 1 (.t 2)),
  oy 8 (.load false 1 (.t 7)),
  oy 9 (.call (.c (.func (.func 52) #[] #[])) [(.t 6), (.t 8)] true),
  oy 10 (.addOff 0 (.t 2)),
  oy 11 (.load false 1 (.t 10)),
  oy 12 (.bin .mul .int (.c (.int .i64 4)) (.t 11)),
  oy 13 (.bin .add .int (.t 12) (.c (.int .i64 4))),
  oy 14 (.mv (.t 1)),
  oy 15 (.bin .mul .int (.c (.int .i64 4)) (.t 14)),
  oy 16 (.bin .add .int (.t 13) (.t 15)),
  oy 17 (.bin .add .int (.t 16) (.c (.int .i64 2))),
  oy 18 (.call (.c (.func (.func 53) #[] #[])) [(.t 5), (.t 9), (.t 17)] true),
  oy 4 (.mv (.t 18))]
def n26_3 : ICode := .region l26_3
def n26_4 : ICode := .ret
def n26_2 : ICode := .seq n26_3 n26_4
def n26_0 : ICode := .seq n26_1 n26_2
theorem b26 : table.find 26 = some ⟨19, n26_0, [.tmp 4]⟩ := by kernel_rfl
@[simp] theorem en26_1 : evCode C n26_1 R S = regK (runOps C l26_1 R S) := ev_plain rfl
@[simp] theorem en26_3 : evCode C n26_3 R S = regK (runOps C l26_3 R S) := ev_plain rfl
@[simp] theorem en26_4 : evCode C n26_4 R S = some (.ret, R, S) := (rfl)
@[simp] theorem en26_2 : evCode C n26_2 R S = seqK (evCode C n26_3 R S) fun R S => evCode C n26_4 R S := ev_seq
@[simp] theorem en26_0 : evCode C n26_0 R S = seqK (evCode C n26_1 R S) fun R S => evCode C n26_2 R S := ev_seq
theorem q26 {n : Nat} {args : List Value} {S : St} : calls table.find (n + 1) 26 args S = endK S [.tmp 4] (evCode (calls table.find n) n26_0 (args ++ List.replicate (19 - args.length) undef) S.enter) := call_enter b26

/-! wainscot/wainscotref21.Link -/
@[simp] def l27_1 : List IOper := [oy 3 (.box 24 6 (.t 0)),
  oy 6 (.mv (.c (.int .i64 0)))]
def n27_1 : ICode := .region l27_1
@[simp] def l27_3 : List IOper := [oy 7 (.load true 6 (.t 3)),
  oy 8 (.mv (.t 1)),
  oy 9 (.addOff 1 (.t 3)),
  oy 10 (.load false 1 (.t 9)),
  oy 11 (.call (.c (.func (.func 52) #[] #[])) [(.t 8), (.t 10)] true),
  oy 12 (.mv (.t 11)),
  oz 13 12 true (.mv (.t 2)),
  oz 14 12 true (.addOff 2 (.t 3)),
  oz 15 12 true (.load false 1 (.t 14)),
  oz 16 12 true (.call (.c (.func (.func 52) #[] #[])) [(.t 13), (.t 15)] true),
  oy 17 (.pick (.t 12) (.t 16) (.c (.bool false))),
  oy 18 (.addOff 0 (.t 3)),
  oy 19 (.load false 1 (.t 18)),
  oy 20 (.bin .mul .int (.c (.int .i64 4)) (.t 19)),
  oy 21 (.bin .add .int (.t 20) (.c (.int .i64 4))),
  oy 22 (.addOff 1 (.t 3)),
  oy 23 (.load false 1 (.t 22)),
  oy 24 (.bin .mul .int (.c (.int .i64 4)) (.t 23)),
  oy 25 (.bin .add .int (.t 21) (.t 24)),
  oy 26 (.mv (.t 1)),
  oy 27 (.addOff 2 (.t 3)),
  oy 28 (.load false 1 (.t 27)),
  oy 29 (.bin .mul .int (.t 26) (.t 28)),
  oy 30 (.bin .add .int (.t 25) (.t 29)),
  oy 31 (.mv (.t 2)),
  oy 32 (.bin .add .int (.t 30) (.t 31)),
  oy 33 (.call (.c (.func (.func 53) #[] #[])) [(.t 7), (.t 17), (.t 32)] true),
  oy 6 (.mv (.t 33))]
def n27_3 : ICode := .region l27_3
def n27_4 : ICode := .ret
def n27_2 : ICode := .seq n27_3 n27_4
def n27_0 : ICode := .seq n27_1 n27_2
theorem b27 : table.find 27 = some ⟨34, n27_0, [.tmp 6]⟩ := by kernel_rfl
@[simp] theorem en27_1 : evCode C n27_1 R S = regK (runOps C l27_1 R S) := ev_plain rfl
@[simp] theorem en27_3 : evCode C n27_3 R S = regK (runOps C l27_3 R S) := ev_plain rfl
@[simp] theorem en27_4 : evCode C n27_4 R S = some (.ret, R, S) := (rfl)
@[simp] theorem en27_2 : evCode C n27_2 R S = seqK (evCode C n27_3 R S) fun R S => evCode C n27_4 R S := ev_seq
@[simp] theorem en27_0 : evCode C n27_0 R S = seqK (evCode C n27_1 R S) fun R S => evCode C n27_2 R S := ev_seq
theorem q27 {n : Nat} {args : List Value} {S : St} : calls table.find (n + 1) 27 args S = endK S [.tmp 6] (evCode (calls table.find n) n27_0 (args ++ List.replicate (34 - args.length) undef) S.enter) := call_enter b27

/-! wainscot/wainscotref21.Key -/
@[simp] def l30_1 : List IOper := [oy 2 (.box 24 6 (.t 0)),
  oy 4 (.mv (.c (.int .u64 0)))]
def n30_1 : ICode := .region l30_1
@[simp] def l30_3 : List IOper := [oy 5 (.addOff 5 (.t 2)),
  oy 6 (.load false 1 (.t 5)),
  oy 7 (.mv (.t 1)),
  oy 8 (.conv .u64 (.t 7)),
  oy 9 (.bin .mul .int (.t 8) (.c (.int .u64 11400714819323198485))),
  oy 10 (.bin .add .int (.t 6) (.t 9)),
  oy 4 (.mv (.t 10))]
def n30_3 : ICode := .region l30_3
def n30_4 : ICode := .ret
def n30_2 : ICode := .seq n30_3 n30_4
def n30_0 : ICode := .seq n30_1 n30_2
theorem b30 : table.find 30 = some ⟨11, n30_0, [.tmp 4]⟩ := by kernel_rfl
@[simp] theorem en30_1 : evCode C n30_1 R S = regK (runOps C l30_1 R S) := ev_plain rfl
@[simp] theorem en30_3 : evCode C n30_3 R S = regK (runOps C l30_3 R S) := ev_plain rfl
@[simp] theorem en30_4 : evCode C n30_4 R S = some (.ret, R, S) := (rfl)
@[simp] theorem en30_2 : evCode C n30_2 R S = seqK (evCode C n30_3 R S) fun R S => evCode C n30_4 R S := ev_seq
@[simp] theorem en30_0 : evCode C n30_0 R S = seqK (evCode C n30_1 R S) fun R S => evCode C n30_2 R S := ev_seq
theorem q30 {n : Nat} {args : List Value} {S : St} : calls table.find (n + 1) 30 args S = endK S [.tmp 4] (evCode (calls table.find n) n30_0 (args ++ List.replicate (11 - args.length) undef) S.enter) := call_enter b30

/-! wainscot/wainscotref21.See -/
@[simp] def l34_1 : List IOper := [oy 3 (.box 24 6 (.t 1)),
  oy 4 (.new 40 [(.slice none 0 0), (.slice none 0 0), (.bool false), (.slice none 0 0)]),
  oy 5 (.mv (.c (.int .i64 0)))]
def n34_1 : ICode := .region l34_1
@[simp] def l34_4 : List IOper := [oy 15 (.load true 6 (.t 3)),
  oy 16 (.call (.c (.func (.func 18) #[] #[])) [(.t 15)] true),
  oy 17 (.bin .neq .int (.t 16) (.c (.int .i64 0))),
  oy 18 (.mv (.t 17)),
  oz 19 18 false (.mv (.t 0)),
  oz 20 18 false (.lenS (.t 19)),
  oz 21 18 false (.load true 6 (.t 3)),
  oz 22 18 false (.call (.c (.func (.func 19) #[] #[])) [(.t 21)] true),
  oz 23 18 false (.bin .neq .int (.t 20) (.t 22)),
  oy 24 (.pick (.t 18) (.c (.bool true)) (.t 23))]
def n34_4 : ICode := .region l34_4
@[simp] def l34_7 : List IOper := [oy 25 (.build [(.slice none 0 0), (.slice none 0 0), (.bool false), (.slice none 0 0)] []),
  ox (.store 4 (.t 4) (.t 25)),
  oy 5 (.mv (.c (.int .i64 2)))]
def n34_7 : ICode := .region l34_7
def n34_8 : ICode := .ret
def n34_6 : ICode := .seq n34_7 n34_8
def n34_9 : ICode := .skip
def n34_5 : ICode := .cond (.t 24) n34_6 n34_9
def n34_3 : ICode := .seq n34_4 n34_5
@[simp] def l34_11 : List IOper := [oy 26 (.mv (.t 0)),
  oy 27 (.load true 6 (.t 3)),
  oy 28 (.call (.c (.func (.func 22) #[] #[])) [(.t 27)] true),
  oy 29 (.idxS 1 (.t 26) (.t 28)),
  oy 30 (.load false 1 (.t 29)),
  oy 31 (.bin .neq .int (.t 30) (.c (.int .u64 0))),
  oy 32 (.build [(.slice none 0 0), (.slice none 0 0), (.bool false), (.slice none 0 0)] [(2, 1, (.t 31))]),
  oy 6 (.new 40 [(.slice none 0 0), (.slice none 0 0), (.bool false), (.slice none 0 0)]),
  ox (.store 4 (.t 6) (.t 32))]
def n34_11 : ICode := .region l34_11
@[simp] def l34_14 : List IOper := [oy 7 (.mv (.c (.int .i64 0)))]
def n34_14 : ICode := .region l34_14
@[simp] def l34_18 : List IOper := [oy 33 (.mv (.t 7)),
  oy 34 (.addOff 0 (.t 3)),
  oy 35 (.load false 1 (.t 34)),
  oy 36 (.bin .lss .int (.t 33) (.t 35))]
def n34_18 : ICode := .region l34_18
def n34_20 : ICode := .skip
def n34_21 : ICode := .exit 0
def n34_19 : ICode := .cond (.t 36) n34_20 n34_21
def n34_17 : ICode := .seq n34_18 n34_19
@[simp] def l34_25 : List IOper := [oy 40 (.mv (.t 0)),
  oy 41 (.load true 6 (.t 3)),
  oy 42 (.mv (.t 7)),
  oy 43 (.call (.c (.func (.func 58) #[] #[])) [(.t 40), (.t 41), (.t 42)] true),
  oy 39 (.mv (.t 43)),
  oy 44 (.extract (.t 39) 0),
  oy 45 (.extract (.t 39) 1),
  oy 8 (.new 58 [(.int .i64 0), (.slice none 0 0), (.int .u64 0), (.slice none 0 0)]),
  ox (.store 4 (.t 8) (.t 44)),
  oy 9 (.mv (.t 45))]
def n34_25 : ICode := .region l34_25
@[simp] def l34_28 : List IOper := [oy 46 (.mv (.t 9)),
  oy 47 (.bin .neq .int (.t 46) (.c (.int .i64 0)))]
def n34_28 : ICode := .region l34_28
@[simp] def l34_31 : List IOper := [oy 48 (.build [(.slice none 0 0), (.slice none 0 0), (.bool false), (.slice none 0 0)] []),
  oy 49 (.mv (.t 9)),
  ox (.store 4 (.t 4) (.t 48)),
  oy 5 (.mv (.t 49))]
def n34_31 : ICode := .region l34_31
def n34_32 : ICode := .ret
def n34_30 : ICode := .seq n34_31 n34_32
def n34_33 : ICode := .skip
def n34_29 : ICode := .cond (.t 47) n34_30 n34_33
def n34_27 : ICode := .seq n34_28 n34_29
@[simp] def l34_34 : List IOper := [oy 50 (.addOff 0 (.t 6)),
  oy 51 (.load false 1 (.t 50)),
  oy 52 (.load true 4 (.t 8)),
  oy 53 (.buildSlice 58 [(.int .i64 0), (.slice none 0 0), (.int .u64 0), (.slice none 0 0)] 1 [(0, 4, (.t 52))]),
  oy 54 (.append 58 4 64 (.t 51) (.t 53)),
  oy 55 (.addOff 0 (.t 6)),
  ox (.store 1 (.t 55) (.t 54))]
def n34_34 : ICode := .region l34_34
def n34_26 : ICode := .seq n34_27 n34_34
def n34_24 : ICode := .seq n34_25 n34_26
def n34_23 : ICode := .block 1 n34_24
@[simp] def l34_35 : List IOper := [oy 37 (.mv (.t 7)),
  oy 38 (.bin .add .int (.t 37) (.c (.int .i64 1))),
  oy 7 (.mv (.t 38))]
def n34_35 : ICode := .region l34_35
def n34_22 : ICode := .seq n34_23 n34_35
def n34_16 : ICode := .seq n34_17 n34_22
def loop34_0 : ICode := .loop n34_16
def n34_15 : ICode := .block 0 loop34_0
def n34_13 : ICode := .seq n34_14 n34_15
@[simp] def l34_37 : List IOper := [oy 57 (.mv (.t 0)),
  oy 58 (.load true 6 (.t 3)),
  oy 59 (.call (.c (.func (.func 59) #[] #[])) [(.t 57), (.t 58)] true),
  oy 56 (.mv (.t 59)),
  oy 60 (.extract (.t 56) 0),
  oy 61 (.extract (.t 56) 1),
  oy 10 (.mv (.t 60)),
  oy 11 (.mv (.t 61))]
def n34_37 : ICode := .region l34_37
@[simp] def l34_40 : List IOper := [oy 62 (.mv (.t 11)),
  oy 63 (.bin .neq .int (.t 62) (.c (.int .i64 0)))]
def n34_40 : ICode := .region l34_40
@[simp] def l34_43 : List IOper := [oy 64 (.build [(.slice none 0 0), (.slice none 0 0), (.bool false), (.slice none 0 0)] []),
  oy 65 (.mv (.t 11)),
  ox (.store 4 (.t 4) (.t 64)),
  oy 5 (.mv (.t 65))]
def n34_43 : ICode := .region l34_43
def n34_44 : ICode := .ret
def n34_42 : ICode := .seq n34_43 n34_44
def n34_45 : ICode := .skip
def n34_41 : ICode := .cond (.t 63) n34_42 n34_45
def n34_39 : ICode := .seq n34_40 n34_41
@[simp] def l34_47 : List IOper := [oy 66 (.mv (.t 10)),
  oy 67 (.addOff 1 (.t 6)),
  ox (.store 1 (.t 67) (.t 66))]
def n34_47 : ICode := .region l34_47
@[simp] def l34_50 : List IOper := [oy 12 (.mv (.c (.int .i64 0)))]
def n34_50 : ICode := .region l34_50
@[simp] def l34_54 : List IOper := [oy 68 (.mv (.t 12)),
  oy 69 (.addOff 1 (.t 3)),
  oy 70 (.load false 1 (.t 69)),
  oy 71 (.bin .lss .int (.t 68) (.t 70))]
def n34_54 : ICode := .region l34_54
def n34_56 : ICode := .skip
def n34_57 : ICode := .exit 2
def n34_55 : ICode := .cond (.t 71) n34_56 n34_57
def n34_53 : ICode := .seq n34_54 n34_55
@[simp] def l34_61 : List IOper := [oy 75 (.mv (.t 0)),
  oy 76 (.load true 6 (.t 3)),
  oy 77 (.mv (.t 12)),
  oy 78 (.call (.c (.func (.func 60) #[] #[])) [(.t 75), (.t 76), (.t 77)] true),
  oy 74 (.mv (.t 78)),
  oy 79 (.extract (.t 74) 0),
  oy 80 (.extract (.t 74) 1),
  oy 13 (.new 62 [(.int .i64 0), (.int .i64 0), (.bool false), (.bool false), (.slice none 0 0)]),
  ox (.store 5 (.t 13) (.t 79)),
  oy 14 (.mv (.t 80))]
def n34_61 : ICode := .region l34_61
@[simp] def l34_64 : List IOper := [oy 81 (.mv (.t 14)),
  oy 82 (.bin .neq .int (.t 81) (.c (.int .i64 0)))]
def n34_64 : ICode := .region l34_64
@[simp] def l34_67 : List IOper := [oy 83 (.build [(.slice none 0 0), (.slice none 0 0), (.bool false), (.slice none 0 0)] []),
  oy 84 (.mv (.t 14)),
  ox (.store 4 (.t 4) (.t 83)),
  oy 5 (.mv (.t 84))]
def n34_67 : ICode := .region l34_67
def n34_68 : ICode := .ret
def n34_66 : ICode := .seq n34_67 n34_68
def n34_69 : ICode := .skip
def n34_65 : ICode := .cond (.t 82) n34_66 n34_69
def n34_63 : ICode := .seq n34_64 n34_65
@[simp] def l34_70 : List IOper := [oy 85 (.addOff 3 (.t 6)),
  oy 86 (.load false 1 (.t 85)),
  oy 87 (.load true 5 (.t 13)),
  oy 88 (.buildSlice 62 [(.int .i64 0), (.int .i64 0), (.bool false), (.bool false), (.slice none 0 0)] 1 [(0, 5, (.t 87))]),
  oy 89 (.append 62 5 48 (.t 86) (.t 88)),
  oy 90 (.addOff 3 (.t 6)),
  ox (.store 1 (.t 90) (.t 89))]
def n34_70 : ICode := .region l34_70
def n34_62 : ICode := .seq n34_63 n34_70
def n34_60 : ICode := .seq n34_61 n34_62
def n34_59 : ICode := .block 3 n34_60
@[simp] def l34_71 : List IOper := [oy 72 (.mv (.t 12)),
  oy 73 (.bin .add .int (.t 72) (.c (.int .i64 1))),
  oy 12 (.mv (.t 73))]
def n34_71 : ICode := .region l34_71
def n34_58 : ICode := .seq n34_59 n34_71
def n34_52 : ICode := .seq n34_53 n34_58
def loop34_1 : ICode := .loop n34_52
def n34_51 : ICode := .block 2 loop34_1
def n34_49 : ICode := .seq n34_50 n34_51
@[simp] def l34_73 : List IOper := [oy 91 (.load true 4 (.t 6)),
  ox (.store 4 (.t 4) (.t 91)),
  oy 5 (.mv (.c (.int .i64 0)))]
def n34_73 : ICode := .region l34_73
def n34_74 : ICode := .ret
def n34_72 : ICode := .seq n34_73 n34_74
def n34_48 : ICode := .seq n34_49 n34_72
def n34_46 : ICode := .seq n34_47 n34_48
def n34_38 : ICode := .seq n34_39 n34_46
def n34_36 : ICode := .seq n34_37 n34_38
def n34_12 : ICode := .seq n34_13 n34_36
def n34_10 : ICode := .seq n34_11 n34_12
def n34_2 : ICode := .seq n34_3 n34_10
def n34_0 : ICode := .seq n34_1 n34_2
theorem b34 : table.find 34 = some ⟨92, n34_0, [.cell 4 true 4, .tmp 5]⟩ := by kernel_rfl
@[simp] theorem en34_1 : evCode C n34_1 R S = regK (runOps C l34_1 R S) := ev_plain rfl
@[simp] theorem en34_4 : evCode C n34_4 R S = regK (runOps C l34_4 R S) := ev_plain rfl
@[simp] theorem en34_7 : evCode C n34_7 R S = regK (runOps C l34_7 R S) := ev_plain rfl
@[simp] theorem en34_8 : evCode C n34_8 R S = some (.ret, R, S) := (rfl)
@[simp] theorem en34_6 : evCode C n34_6 R S = seqK (evCode C n34_7 R S) fun R S => evCode C n34_8 R S := ev_seq
@[simp] theorem en34_9 : evCode C n34_9 R S = some (.norm, R, S) := (rfl)
@[simp] theorem en34_5 : evCode C n34_5 R S = condK (IV.ev R (.t 24)) (fun _ => evCode C n34_6 R S) fun _ => evCode C n34_9 R S := ev_cond
@[simp] theorem en34_3 : evCode C n34_3 R S = seqK (evCode C n34_4 R S) fun R S => evCode C n34_5 R S := ev_seq
@[simp] theorem en34_11 : evCode C n34_11 R S = regK (runOps C l34_11 R S) := ev_plain rfl
@[simp] theorem en34_14 : evCode C n34_14 R S = regK (runOps C l34_14 R S) := ev_plain rfl
@[simp] theorem en34_18 : evCode C n34_18 R S = regK (runOps C l34_18 R S) := ev_plain rfl
@[simp] theorem en34_20 : evCode C n34_20 R S = some (.norm, R, S) := (rfl)
@[simp] theorem en34_21 : evCode C n34_21 R S = some (.exit 0, R, S) := (rfl)
@[simp] theorem en34_19 : evCode C n34_19 R S = condK (IV.ev R (.t 36)) (fun _ => evCode C n34_20 R S) fun _ => evCode C n34_21 R S := ev_cond
@[simp] theorem en34_17 : evCode C n34_17 R S = seqK (evCode C n34_18 R S) fun R S => evCode C n34_19 R S := ev_seq
@[simp] theorem en34_25 : evCode C n34_25 R S = regK (runOps C l34_25 R S) := ev_plain rfl
@[simp] theorem en34_28 : evCode C n34_28 R S = regK (runOps C l34_28 R S) := ev_plain rfl
@[simp] theorem en34_31 : evCode C n34_31 R S = regK (runOps C l34_31 R S) := ev_plain rfl
@[simp] theorem en34_32 : evCode C n34_32 R S = some (.ret, R, S) := (rfl)
@[simp] theorem en34_30 : evCode C n34_30 R S = seqK (evCode C n34_31 R S) fun R S => evCode C n34_32 R S := ev_seq
@[simp] theorem en34_33 : evCode C n34_33 R S = some (.norm, R, S) := (rfl)
@[simp] theorem en34_29 : evCode C n34_29 R S = condK (IV.ev R (.t 47)) (fun _ => evCode C n34_30 R S) fun _ => evCode C n34_33 R S := ev_cond
@[simp] theorem en34_27 : evCode C n34_27 R S = seqK (evCode C n34_28 R S) fun R S => evCode C n34_29 R S := ev_seq
@[simp] theorem en34_34 : evCode C n34_34 R S = regK (runOps C l34_34 R S) := ev_plain rfl
@[simp] theorem en34_26 : evCode C n34_26 R S = seqK (evCode C n34_27 R S) fun R S => evCode C n34_34 R S := ev_seq
@[simp] theorem en34_24 : evCode C n34_24 R S = seqK (evCode C n34_25 R S) fun R S => evCode C n34_26 R S := ev_seq
@[simp] theorem en34_23 : evCode C n34_23 R S = blockK 1 (evCode C n34_24 R S) := ev_block
@[simp] theorem en34_35 : evCode C n34_35 R S = regK (runOps C l34_35 R S) := ev_plain rfl
@[simp] theorem en34_22 : evCode C n34_22 R S = seqK (evCode C n34_23 R S) fun R S => evCode C n34_35 R S := ev_seq
@[simp] theorem en34_16 : evCode C n34_16 R S = seqK (evCode C n34_17 R S) fun R S => evCode C n34_22 R S := ev_seq
theorem eloop34_0 : evCode C loop34_0 R S = iter (fun R S => evCode C n34_16 R S) rounds R S := (rfl)
@[simp] theorem en34_15 : evCode C n34_15 R S = blockK 0 (evCode C loop34_0 R S) := ev_block
@[simp] theorem en34_13 : evCode C n34_13 R S = seqK (evCode C n34_14 R S) fun R S => evCode C n34_15 R S := ev_seq
@[simp] theorem en34_37 : evCode C n34_37 R S = regK (runOps C l34_37 R S) := ev_plain rfl
@[simp] theorem en34_40 : evCode C n34_40 R S = regK (runOps C l34_40 R S) := ev_plain rfl
@[simp] theorem en34_43 : evCode C n34_43 R S = regK (runOps C l34_43 R S) := ev_plain rfl
@[simp] theorem en34_44 : evCode C n34_44 R S = some (.ret, R, S) := (rfl)
@[simp] theorem en34_42 : evCode C n34_42 R S = seqK (evCode C n34_43 R S) fun R S => evCode C n34_44 R S := ev_seq
@[simp] theorem en34_45 : evCode C n34_45 R S = some (.norm, R, S) := (rfl)
@[simp] theorem en34_41 : evCode C n34_41 R S = condK (IV.ev R (.t 63)) (fun _ => evCode C n34_42 R S) fun _ => evCode C n34_45 R S := ev_cond
@[simp] theorem en34_39 : evCode C n34_39 R S = seqK (evCode C n34_40 R S) fun R S => evCode C n34_41 R S := ev_seq
@[simp] theorem en34_47 : evCode C n34_47 R S = regK (runOps C l34_47 R S) := ev_plain rfl
@[simp] theorem en34_50 : evCode C n34_50 R S = regK (runOps C l34_50 R S) := ev_plain rfl
@[simp] theorem en34_54 : evCode C n34_54 R S = regK (runOps C l34_54 R S) := ev_plain rfl
@[simp] theorem en34_56 : evCode C n34_56 R S = some (.norm, R, S) := (rfl)
@[simp] theorem en34_57 : evCode C n34_57 R S = some (.exit 2, R, S) := (rfl)
@[simp] theorem en34_55 : evCode C n34_55 R S = condK (IV.ev R (.t 71)) (fun _ => evCode C n34_56 R S) fun _ => evCode C n34_57 R S := ev_cond
@[simp] theorem en34_53 : evCode C n34_53 R S = seqK (evCode C n34_54 R S) fun R S => evCode C n34_55 R S := ev_seq
@[simp] theorem en34_61 : evCode C n34_61 R S = regK (runOps C l34_61 R S) := ev_plain rfl
@[simp] theorem en34_64 : evCode C n34_64 R S = regK (runOps C l34_64 R S) := ev_plain rfl
@[simp] theorem en34_67 : evCode C n34_67 R S = regK (runOps C l34_67 R S) := ev_plain rfl
@[simp] theorem en34_68 : evCode C n34_68 R S = some (.ret, R, S) := (rfl)
@[simp] theorem en34_66 : evCode C n34_66 R S = seqK (evCode C n34_67 R S) fun R S => evCode C n34_68 R S := ev_seq
@[simp] theorem en34_69 : evCode C n34_69 R S = some (.norm, R, S) := (rfl)
@[simp] theorem en34_65 : evCode C n34_65 R S = condK (IV.ev R (.t 82)) (fun _ => evCode C n34_66 R S) fun _ => evCode C n34_69 R S := ev_cond
@[simp] theorem en34_63 : evCode C n34_63 R S = seqK (evCode C n34_64 R S) fun R S => evCode C n34_65 R S := ev_seq
@[simp] theorem en34_70 : evCode C n34_70 R S = regK (runOps C l34_70 R S) := ev_plain rfl
@[simp] theorem en34_62 : evCode C n34_62 R S = seqK (evCode C n34_63 R S) fun R S => evCode C n34_70 R S := ev_seq
@[simp] theorem en34_60 : evCode C n34_60 R S = seqK (evCode C n34_61 R S) fun R S => evCode C n34_62 R S := ev_seq
@[simp] theorem en34_59 : evCode C n34_59 R S = blockK 3 (evCode C n34_60 R S) := ev_block
@[simp] theorem en34_71 : evCode C n34_71 R S = regK (runOps C l34_71 R S) := ev_plain rfl
@[simp] theorem en34_58 : evCode C n34_58 R S = seqK (evCode C n34_59 R S) fun R S => evCode C n34_71 R S := ev_seq
@[simp] theorem en34_52 : evCode C n34_52 R S = seqK (evCode C n34_53 R S) fun R S => evCode C n34_58 R S := ev_seq
theorem eloop34_1 : evCode C loop34_1 R S = iter (fun R S => evCode C n34_52 R S) rounds R S := (rfl)
@[simp] theorem en34_51 : evCode C n34_51 R S = blockK 2 (evCode C loop34_1 R S) := ev_block
@[simp] theorem en34_49 : evCode C n34_49 R S = seqK (evCode C n34_50 R S) fun R S => evCode C n34_51 R S := ev_seq
@[simp] theorem en34_73 : evCode C n34_73 R S = regK (runOps C l34_73 R S) := ev_plain rfl
@[simp] theorem en34_74 : evCode C n34_74 R S = some (.ret, R, S) := (rfl)
@[simp] theorem en34_72 : evCode C n34_72 R S = seqK (evCode C n34_73 R S) fun R S => evCode C n34_74 R S := ev_seq
@[simp] theorem en34_48 : evCode C n34_48 R S = seqK (evCode C n34_49 R S) fun R S => evCode C n34_72 R S := ev_seq
@[simp] theorem en34_46 : evCode C n34_46 R S = seqK (evCode C n34_47 R S) fun R S => evCode C n34_48 R S := ev_seq
@[simp] theorem en34_38 : evCode C n34_38 R S = seqK (evCode C n34_39 R S) fun R S => evCode C n34_46 R S := ev_seq
@[simp] theorem en34_36 : evCode C n34_36 R S = seqK (evCode C n34_37 R S) fun R S => evCode C n34_38 R S := ev_seq
@[simp] theorem en34_12 : evCode C n34_12 R S = seqK (evCode C n34_13 R S) fun R S => evCode C n34_36 R S := ev_seq
@[simp] theorem en34_10 : evCode C n34_10 R S = seqK (evCode C n34_11 R S) fun R S => evCode C n34_12 R S := ev_seq
@[simp] theorem en34_2 : evCode C n34_2 R S = seqK (evCode C n34_3 R S) fun R S => evCode C n34_10 R S := ev_seq
@[simp] theorem en34_0 : evCode C n34_0 R S = seqK (evCode C n34_1 R S) fun R S => evCode C n34_2 R S := ev_seq
theorem q34 {n : Nat} {args : List Value} {S : St} : calls table.find (n + 1) 34 args S = endK S [.cell 4 true 4, .tmp 5] (evCode (calls table.find n) n34_0 (args ++ List.replicate (92 - args.length) undef) S.enter) := call_enter b34

/-! wainscot/wainscotref21.Same -/
@[simp] def l35_1 : List IOper := [oy 2 (.box 40 4 (.t 0)),
  oy 3 (.box 40 4 (.t 1)),
  oy 4 (.mv (.c (.bool false)))]
def n35_1 : ICode := .region l35_1
@[simp] def l35_4 : List IOper := [oy 9 (.addOff 0 (.t 2)),
  oy 10 (.load false 1 (.t 9)),
  oy 11 (.lenS (.t 10)),
  oy 12 (.addOff 0 (.t 3)),
  oy 13 (.load false 1 (.t 12)),
  oy 14 (.lenS (.t 13)),
  oy 15 (.bin .neq .int (.t 11) (.t 14)),
  oy 16 (.mv (.t 15)),
  oz 17 16 false (.addOff 3 (.t 2)),
  oz 18 16 false (.load false 1 (.t 17)),
  oz 19 16 false (.lenS (.t 18)),
  oz 20 16 false (.addOff 3 (.t 3)),
  oz 21 16 false (.load false 1 (.t 20)),
  oz 22 16 false (.lenS (.t 21)),
  oz 23 16 false (.bin .neq .int (.t 19) (.t 22)),
  oy 24 (.pick (.t 16) (.c (.bool true)) (.t 23)),
  oy 25 (.mv (.t 24)),
  oz 26 25 false (.addOff 1 (.t 2)),
  oz 27 25 false (.load false 1 (.t 26)),
  oz 28 25 false (.addOff 1 (.t 3)),
  oz 29 25 false (.load false 1 (.t 28)),
  oz 30 25 false (.call (.c (.func (.func 28) #[] #[])) [(.t 27), (.t 29)] true),
  oz 31 25 false (.un .not (.t 30)),
  oy 32 (.pick (.t 25) (.c (.bool true)) (.t 31)),
  oy 33 (.mv (.t 32)),
  oz 34 33 false (.addOff 2 (.t 2)),
  oz 35 33 false (.load false 1 (.t 34)),
  oz 36 33 false (.addOff 2 (.t 3)),
  oz 37 33 false (.load false 1 (.t 36)),
  oz 38 33 false (.bin .neq .bool (.t 35) (.t 37)),
  oy 39 (.pick (.t 33) (.c (.bool true)) (.t 38))]
def n35_4 : ICode := .region l35_4
@[simp] def l35_7 : List IOper := [oy 4 (.mv (.c (.bool false)))]
def n35_7 : ICode := .region l35_7
def n35_8 : ICode := .ret
def n35_6 : ICode := .seq n35_7 n35_8
def n35_9 : ICode := .skip
def n35_5 : ICode := .cond (.t 39) n35_6 n35_9
def n35_3 : ICode := .seq n35_4 n35_5
@[simp] def l35_12 : List IOper := [oy 5 (.mv (.c (.int .i64 0)))]
def n35_12 : ICode := .region l35_12
@[simp] def l35_16 : List IOper := [oy 40 (.mv (.t 5)),
  oy 41 (.addOff 0 (.t 2)),
  oy 42 (.load false 1 (.t 41)),
  oy 43 (.lenS (.t 42)),
  oy 44 (.bin .lss .int (.t 40) (.t 43))]
def n35_16 : ICode := .region l35_16
def n35_18 : ICode := .skip
def n35_19 : ICode := .exit 0
def n35_17 : ICode := .cond (.t 44) n35_18 n35_19
def n35_15 : ICode := .seq n35_16 n35_17
@[simp] def l35_23 : List IOper := [oy 47 (.addOff 0 (.t 2)),
  oy 48 (.load false 1 (.t 47)),
  oy 49 (.mv (.t 5)),
  oy 50 (.idxS 4 (.t 48) (.t 49)),
  oy 51 (.load true 4 (.t 50)),
  oy 52 (.addOff 0 (.t 3)),
  oy 53 (.load false 1 (.t 52)),
  oy 54 (.mv (.t 5)),
  oy 55 (.idxS 4 (.t 53) (.t 54)),
  oy 56 (.load true 4 (.t 55)),
  oy 6 (.new 58 [(.int .i64 0), (.slice none 0 0), (.int .u64 0), (.slice none 0 0)]),
  oy 7 (.new 58 [(.int .i64 0), (.slice none 0 0), (.int .u64 0), (.slice none 0 0)]),
  ⟨none, .store 4 (.t 6) (.t 51), none, [], [6, 9], false⟩,
  ox (.store 4 (.t 7) (.t 56))]
def n35_23 : ICode := .region l35_23
@[simp] def l35_25 : List IOper := [oy 57 (.addOff 0 (.t 6)),
  oy 58 (.load false 1 (.t 57)),
  oy 59 (.addOff 0 (.t 7)),
  oy 60 (.load false 1 (.t 59)),
  oy 61 (.bin .neq .int (.t 58) (.t 60)),
  oy 62 (.mv (.t 61)),
  oz 63 62 false (.addOff 2 (.t 6)),
  oz 64 62 false (.load false 1 (.t 63)),
  oz 65 62 false (.addOff 2 (.t 7)),
  oz 66 62 false (.load false 1 (.t 65)),
  oz 67 62 false (.bin .neq .int (.t 64) (.t 66)),
  oy 68 (.pick (.t 62) (.c (.bool true)) (.t 67)),
  oy 69 (.mv (.t 68)),
  oz 70 69 false (.addOff 1 (.t 6)),
  oz 71 69 false (.load false 1 (.t 70)),
  oz 72 69 false (.addOff 1 (.t 7)),
  oz 73 69 false (.load false 1 (.t 72)),
  oz 74 69 false (.call (.c (.func (.func 28) #[] #[])) [(.t 71), (.t 73)] true),
  oz 75 69 false (.un .not (.t 74)),
  oy 76 (.pick (.t 69) (.c (.bool true)) (.t 75)),
  oy 77 (.mv (.t 76)),
  oz 78 77 false (.addOff 3 (.t 6)),
  oz 79 77 false (.load false 1 (.t 78)),
  oz 80 77 false (.addOff 3 (.t 7)),
  oz 81 77 false (.load false 1 (.t 80)),
  oz 82 77 false (.call (.c (.func (.func 28) #[] #[])) [(.t 79), (.t 81)] true),
  oz 83 77 false (.un .not (.t 82)),
  oy 84 (.pick (.t 77) (.c (.bool true)) (.t 83))]
def n35_25 : ICode := .region l35_25
@[simp] def l35_28 : List IOper := [oy 4 (.mv (.c (.bool false)))]
def n35_28 : ICode := .region l35_28
def n35_29 : ICode := .ret
def n35_27 : ICode := .seq n35_28 n35_29
def n35_30 : ICode := .skip
def n35_26 : ICode := .cond (.t 84) n35_27 n35_30
def n35_24 : ICode := .seq n35_25 n35_26
def n35_22 : ICode := .seq n35_23 n35_24
def n35_21 : ICode := .block 1 n35_22
@[simp] def l35_31 : List IOper := [oy 45 (.mv (.t 5)),
  oy 46 (.bin .add .int (.t 45) (.c (.int .i64 1))),
  oy 5 (.mv (.t 46))]
def n35_31 : ICode := .region l35_31
def n35_20 : ICode := .seq n35_21 n35_31
def n35_14 : ICode := .seq n35_15 n35_20
def loop35_0 : ICode := .loop n35_14
def n35_13 : ICode := .block 0 loop35_0
def n35_11 : ICode := .seq n35_12 n35_13
@[simp] def l35_34 : List IOper := [oy 8 (.mv (.c (.int .i64 0)))]
def n35_34 : ICode := .region l35_34
@[simp] def l35_38 : List IOper := [oy 85 (.mv (.t 8)),
  oy 86 (.addOff 3 (.t 2)),
  oy 87 (.load false 1 (.t 86)),
  oy 88 (.lenS (.t 87)),
  oy 89 (.bin .lss .int (.t 85) (.t 88))]
def n35_38 : ICode := .region l35_38
def n35_40 : ICode := .skip
def n35_41 : ICode := .exit 2
def n35_39 : ICode := .cond (.t 89) n35_40 n35_41
def n35_37 : ICode := .seq n35_38 n35_39
@[simp] def l35_45 : List IOper := [oy 92 (.addOff 3 (.t 2)),
  oy 93 (.load false 1 (.t 92)),
  oy 94 (.mv (.t 8)),
  oy 95 (.idxS 5 (.t 93) (.t 94)),
  oy 96 (.addOff 0 (.t 95)),
  oy 97 (.load true 4 (.t 96)),
  oy 98 (.addOff 3 (.t 3)),
  oy 99 (.load false 1 (.t 98)),
  oy 100 (.mv (.t 8)),
  oy 101 (.idxS 5 (.t 99) (.t 100)),
  oy 102 (.addOff 0 (.t 101)),
  oy 103 (.load true 4 (.t 102)),
  oy 104 (.bin .neq (.plain [(some .i64), (some .i64), none, none]) (.t 97) (.t 103)),
  oy 105 (.mv (.t 104)),
  oz 106 105 false (.addOff 3 (.t 2)),
  oz 107 105 false (.load false 1 (.t 106)),
  oz 108 105 false (.mv (.t 8)),
  oz 109 105 false (.idxS 5 (.t 107) (.t 108)),
  oz 110 105 false (.addOff 4 (.t 109)),
  oz 111 105 false (.load false 1 (.t 110)),
  oz 112 105 false (.addOff 3 (.t 3)),
  oz 113 105 false (.load false 1 (.t 112)),
  oz 114 105 false (.mv (.t 8)),
  oz 115 105 false (.idxS 5 (.t 113) (.t 114)),
  oz 116 105 false (.addOff 4 (.t 115)),
  oz 117 105 false (.load false 1 (.t 116)),
  oz 118 105 false (.call (.c (.func (.func 28) #[] #[])) [(.t 111), (.t 117)] true),
  oz 119 105 false (.un .not (.t 118)),
  oy 120 (.pick (.t 105) (.c (.bool true)) (.t 119))]
def n35_45 : ICode := .region l35_45
@[simp] def l35_48 : List IOper := [oy 4 (.mv (.c (.bool false)))]
def n35_48 : ICode := .region l35_48
def n35_49 : ICode := .ret
def n35_47 : ICode := .seq n35_48 n35_49
def n35_50 : ICode := .skip
def n35_46 : ICode := .cond (.t 120) n35_47 n35_50
def n35_44 : ICode := .seq n35_45 n35_46
def n35_43 : ICode := .block 3 n35_44
@[simp] def l35_51 : List IOper := [oy 90 (.mv (.t 8)),
  oy 91 (.bin .add .int (.t 90) (.c (.int .i64 1))),
  oy 8 (.mv (.t 91))]
def n35_51 : ICode := .region l35_51
def n35_42 : ICode := .seq n35_43 n35_51
def n35_36 : ICode := .seq n35_37 n35_42
def loop35_1 : ICode := .loop n35_36
def n35_35 : ICode := .block 2 loop35_1
def n35_33 : ICode := .seq n35_34 n35_35
@[simp] def l35_53 : List IOper := [oy 4 (.mv (.c (.bool true)))]
def n35_53 : ICode := .region l35_53
def n35_54 : ICode := .ret
def n35_52 : ICode := .seq n35_53 n35_54
def n35_32 : ICode := .seq n35_33 n35_52
def n35_10 : ICode := .seq n35_11 n35_32
def n35_2 : ICode := .seq n35_3 n35_10
def n35_0 : ICode := .seq n35_1 n35_2
theorem b35 : table.find 35 = some ⟨121, n35_0, [.tmp 4]⟩ := by kernel_rfl
@[simp] theorem en35_1 : evCode C n35_1 R S = regK (runOps C l35_1 R S) := ev_plain rfl
@[simp] theorem en35_4 : evCode C n35_4 R S = regK (runOps C l35_4 R S) := ev_plain rfl
@[simp] theorem en35_7 : evCode C n35_7 R S = regK (runOps C l35_7 R S) := ev_plain rfl
@[simp] theorem en35_8 : evCode C n35_8 R S = some (.ret, R, S) := (rfl)
@[simp] theorem en35_6 : evCode C n35_6 R S = seqK (evCode C n35_7 R S) fun R S => evCode C n35_8 R S := ev_seq
@[simp] theorem en35_9 : evCode C n35_9 R S = some (.norm, R, S) := (rfl)
@[simp] theorem en35_5 : evCode C n35_5 R S = condK (IV.ev R (.t 39)) (fun _ => evCode C n35_6 R S) fun _ => evCode C n35_9 R S := ev_cond
@[simp] theorem en35_3 : evCode C n35_3 R S = seqK (evCode C n35_4 R S) fun R S => evCode C n35_5 R S := ev_seq
@[simp] theorem en35_12 : evCode C n35_12 R S = regK (runOps C l35_12 R S) := ev_plain rfl
@[simp] theorem en35_16 : evCode C n35_16 R S = regK (runOps C l35_16 R S) := ev_plain rfl
@[simp] theorem en35_18 : evCode C n35_18 R S = some (.norm, R, S) := (rfl)
@[simp] theorem en35_19 : evCode C n35_19 R S = some (.exit 0, R, S) := (rfl)
@[simp] theorem en35_17 : evCode C n35_17 R S = condK (IV.ev R (.t 44)) (fun _ => evCode C n35_18 R S) fun _ => evCode C n35_19 R S := ev_cond
@[simp] theorem en35_15 : evCode C n35_15 R S = seqK (evCode C n35_16 R S) fun R S => evCode C n35_17 R S := ev_seq
@[simp] theorem en35_23 : evCode C n35_23 R S = regK (evOps C l35_23 l35_23 0 [] R S) := ev_region
@[simp] theorem en35_25 : evCode C n35_25 R S = regK (runOps C l35_25 R S) := ev_plain rfl
@[simp] theorem en35_28 : evCode C n35_28 R S = regK (runOps C l35_28 R S) := ev_plain rfl
@[simp] theorem en35_29 : evCode C n35_29 R S = some (.ret, R, S) := (rfl)
@[simp] theorem en35_27 : evCode C n35_27 R S = seqK (evCode C n35_28 R S) fun R S => evCode C n35_29 R S := ev_seq
@[simp] theorem en35_30 : evCode C n35_30 R S = some (.norm, R, S) := (rfl)
@[simp] theorem en35_26 : evCode C n35_26 R S = condK (IV.ev R (.t 84)) (fun _ => evCode C n35_27 R S) fun _ => evCode C n35_30 R S := ev_cond
@[simp] theorem en35_24 : evCode C n35_24 R S = seqK (evCode C n35_25 R S) fun R S => evCode C n35_26 R S := ev_seq
@[simp] theorem en35_22 : evCode C n35_22 R S = seqK (evCode C n35_23 R S) fun R S => evCode C n35_24 R S := ev_seq
@[simp] theorem en35_21 : evCode C n35_21 R S = blockK 1 (evCode C n35_22 R S) := ev_block
@[simp] theorem en35_31 : evCode C n35_31 R S = regK (runOps C l35_31 R S) := ev_plain rfl
@[simp] theorem en35_20 : evCode C n35_20 R S = seqK (evCode C n35_21 R S) fun R S => evCode C n35_31 R S := ev_seq
@[simp] theorem en35_14 : evCode C n35_14 R S = seqK (evCode C n35_15 R S) fun R S => evCode C n35_20 R S := ev_seq
theorem eloop35_0 : evCode C loop35_0 R S = iter (fun R S => evCode C n35_14 R S) rounds R S := (rfl)
@[simp] theorem en35_13 : evCode C n35_13 R S = blockK 0 (evCode C loop35_0 R S) := ev_block
@[simp] theorem en35_11 : evCode C n35_11 R S = seqK (evCode C n35_12 R S) fun R S => evCode C n35_13 R S := ev_seq
@[simp] theorem en35_34 : evCode C n35_34 R S = regK (runOps C l35_34 R S) := ev_plain rfl
@[simp] theorem en35_38 : evCode C n35_38 R S = regK (runOps C l35_38 R S) := ev_plain rfl
@[simp] theorem en35_40 : evCode C n35_40 R S = some (.norm, R, S) := (rfl)
@[simp] theorem en35_41 : evCode C n35_41 R S = some (.exit 2, R, S) := (rfl)
@[simp] theorem en35_39 : evCode C n35_39 R S = condK (IV.ev R (.t 89)) (fun _ => evCode C n35_40 R S) fun _ => evCode C n35_41 R S := ev_cond
@[simp] theorem en35_37 : evCode C n35_37 R S = seqK (evCode C n35_38 R S) fun R S => evCode C n35_39 R S := ev_seq
@[simp] theorem en35_45 : evCode C n35_45 R S = regK (runOps C l35_45 R S) := ev_plain rfl
@[simp] theorem en35_48 : evCode C n35_48 R S = regK (runOps C l35_48 R S) := ev_plain rfl
@[simp] theorem en35_49 : evCode C n35_49 R S = some (.ret, R, S) := (rfl)
@[simp] theorem en35_47 : evCode C n35_47 R S = seqK (evCode C n35_48 R S) fun R S => evCode C n35_49 R S := ev_seq
@[simp] theorem en35_50 : evCode C n35_50 R S = some (.norm, R, S) := (rfl)
@[simp] theorem en35_46 : evCode C n35_46 R S = condK (IV.ev R (.t 120)) (fun _ => evCode C n35_47 R S) fun _ => evCode C n35_50 R S := ev_cond
@[simp] theorem en35_44 : evCode C n35_44 R S = seqK (evCode C n35_45 R S) fun R S => evCode C n35_46 R S := ev_seq
@[simp] theorem en35_43 : evCode C n35_43 R S = blockK 3 (evCode C n35_44 R S) := ev_block
@[simp] theorem en35_51 : evCode C n35_51 R S = regK (runOps C l35_51 R S) := ev_plain rfl
@[simp] theorem en35_42 : evCode C n35_42 R S = seqK (evCode C n35_43 R S) fun R S => evCode C n35_51 R S := ev_seq
@[simp] theorem en35_36 : evCode C n35_36 R S = seqK (evCode C n35_37 R S) fun R S => evCode C n35_42 R S := ev_seq
theorem eloop35_1 : evCode C loop35_1 R S = iter (fun R S => evCode C n35_36 R S) rounds R S := (rfl)
@[simp] theorem en35_35 : evCode C n35_35 R S = blockK 2 (evCode C loop35_1 R S) := ev_block
@[simp] theorem en35_33 : evCode C n35_33 R S = seqK (evCode C n35_34 R S) fun R S => evCode C n35_35 R S := ev_seq
@[simp] theorem en35_53 : evCode C n35_53 R S = regK (runOps C l35_53 R S) := ev_plain rfl
@[simp] theorem en35_54 : evCode C n35_54 R S = some (.ret, R, S) := (rfl)
@[simp] theorem en35_52 : evCode C n35_52 R S = seqK (evCode C n35_53 R S) fun R S => evCode C n35_54 R S := ev_seq
@[simp] theorem en35_32 : evCode C n35_32 R S = seqK (evCode C n35_33 R S) fun R S => evCode C n35_52 R S := ev_seq
@[simp] theorem en35_10 : evCode C n35_10 R S = seqK (evCode C n35_11 R S) fun R S => evCode C n35_32 R S := ev_seq
@[simp] theorem en35_2 : evCode C n35_2 R S = seqK (evCode C n35_3 R S) fun R S => evCode C n35_10 R S := ev_seq
@[simp] theorem en35_0 : evCode C n35_0 R S = seqK (evCode C n35_1 R S) fun R S => evCode C n35_2 R S := ev_seq
theorem q35 {n : Nat} {args : List Value} {S : St} : calls table.find (n + 1) 35 args S = endK S [.tmp 4] (evCode (calls table.find n) n35_0 (args ++ List.replicate (121 - args.length) undef) S.enter) := call_enter b35

/-! wainscot/wainscotref21.within -/
@[simp] def l52_1 : List IOper := [oy 4 (.mv (.c (.bool false)))]
def n52_1 : ICode := .region l52_1
@[simp] def l52_3 : List IOper := [oy 5 (.mv (.t 0)),
  oy 6 (.bin .geq .int (.t 5) (.c (.int .i64 0))),
  oy 7 (.mv (.t 6)),
  oz 8 7 true (.mv (.t 0)),
  oz 9 7 true (.mv (.t 1)),
  oz 10 7 true (.bin .lss .int (.t 8) (.t 9)),
  oy 11 (.pick (.t 7) (.t 10) (.c (.bool false))),
  oy 4 (.mv (.t 11))]
def n52_3 : ICode := .region l52_3
def n52_4 : ICode := .ret
def n52_2 : ICode := .seq n52_3 n52_4
def n52_0 : ICode := .seq n52_1 n52_2
theorem b52 : table.find 52 = some ⟨12, n52_0, [.tmp 4]⟩ := by kernel_rfl
@[simp] theorem en52_1 : evCode C n52_1 R S = regK (runOps C l52_1 R S) := ev_plain rfl
@[simp] theorem en52_3 : evCode C n52_3 R S = regK (runOps C l52_3 R S) := ev_plain rfl
@[simp] theorem en52_4 : evCode C n52_4 R S = some (.ret, R, S) := (rfl)
@[simp] theorem en52_2 : evCode C n52_2 R S = seqK (evCode C n52_3 R S) fun R S => evCode C n52_4 R S := ev_seq
@[simp] theorem en52_0 : evCode C n52_0 R S = seqK (evCode C n52_1 R S) fun R S => evCode C n52_2 R S := ev_seq
theorem q52 {n : Nat} {args : List Value} {S : St} : calls table.find (n + 1) 52 args S = endK S [.tmp 4] (evCode (calls table.find n) n52_0 (args ++ List.replicate (12 - args.length) undef) S.enter) := call_enter b52

/-! wainscot/wainscotref21.at -/
@[simp] def l53_1 : List IOper := [oy 3 (.box 24 6 (.t 0)),
  oy 6 (.mv (.c (.int .i64 0)))]
def n53_1 : ICode := .region l53_1
@[simp] def l53_4 : List IOper := [oy 7 (.load true 6 (.t 3)),
  oy 8 (.call (.c (.func (.func 18) #[] #[])) [(.t 7)] true),
  oy 9 (.bin .neq .int (.t 8) (.c (.int .i64 0))),
  oy 10 (.mv (.t 9)),
  oz 11 10 false (.mv (.t 1)),
  oz 12 10 false (.un .not (.t 11)),
  oy 13 (.pick (.t 10) (.c (.bool true)) (.t 12))]
def n53_4 : ICode := .region l53_4
@[simp] def l53_7 : List IOper := [oy 6 (.mv (.c (.int .i64 (-1))))]
def n53_7 : ICode := .region l53_7
def n53_8 : ICode := .ret
def n53_6 : ICode := .seq n53_7 n53_8
def n53_9 : ICode := .skip
def n53_5 : ICode := .cond (.t 13) n53_6 n53_9
def n53_3 : ICode := .seq n53_4 n53_5
@[simp] def l53_11 : List IOper := [oy 14 (.mv (.t 2)),
  oy 6 (.mv (.t 14))]
def n53_11 : ICode := .region l53_11
def n53_12 : ICode := .ret
def n53_10 : ICode := .seq n53_11 n53_12
def n53_2 : ICode := .seq n53_3 n53_10
def n53_0 : ICode := .seq n53_1 n53_2
theorem b53 : table.find 53 = some ⟨15, n53_0, [.tmp 6]⟩ := by kernel_rfl
@[simp] theorem en53_1 : evCode C n53_1 R S = regK (runOps C l53_1 R S) := ev_plain rfl
@[simp] theorem en53_4 : evCode C n53_4 R S = regK (runOps C l53_4 R S) := ev_plain rfl
@[simp] theorem en53_7 : evCode C n53_7 R S = regK (runOps C l53_7 R S) := ev_plain rfl
@[simp] theorem en53_8 : evCode C n53_8 R S = some (.ret, R, S) := (rfl)
@[simp] theorem en53_6 : evCode C n53_6 R S = seqK (evCode C n53_7 R S) fun R S => evCode C n53_8 R S := ev_seq
@[simp] theorem en53_9 : evCode C n53_9 R S = some (.norm, R, S) := (rfl)
@[simp] theorem en53_5 : evCode C n53_5 R S = condK (IV.ev R (.t 13)) (fun _ => evCode C n53_6 R S) fun _ => evCode C n53_9 R S := ev_cond
@[simp] theorem en53_3 : evCode C n53_3 R S = seqK (evCode C n53_4 R S) fun R S => evCode C n53_5 R S := ev_seq
@[simp] theorem en53_11 : evCode C n53_11 R S = regK (runOps C l53_11 R S) := ev_plain rfl
@[simp] theorem en53_12 : evCode C n53_12 R S = some (.ret, R, S) := (rfl)
@[simp] theorem en53_10 : evCode C n53_10 R S = seqK (evCode C n53_11 R S) fun R S => evCode C n53_12 R S := ev_seq
@[simp] theorem en53_2 : evCode C n53_2 R S = seqK (evCode C n53_3 R S) fun R S => evCode C n53_10 R S := ev_seq
@[simp] theorem en53_0 : evCode C n53_0 R S = seqK (evCode C n53_1 R S) fun R S => evCode C n53_2 R S := ev_seq
theorem q53 {n : Nat} {args : List Value} {S : St} : calls table.find (n + 1) 53 args S = endK S [.tmp 6] (evCode (calls table.find n) n53_0 (args ++ List.replicate (15 - args.length) undef) S.enter) := call_enter b53

/-! wainscot/wainscotref21.slot -/
@[simp] def l58_1 : List IOper := [oy 4 (.box 24 6 (.t 1)),
  oy 6 (.new 58 [(.int .i64 0), (.slice none 0 0), (.int .u64 0), (.slice none 0 0)]),
  oy 7 (.mv (.c (.int .i64 0)))]
def n58_1 : ICode := .region l58_1
@[simp] def l58_3 : List IOper := [oy 16 (.load true 6 (.t 4)),
  oy 17 (.mv (.t 2)),
  oy 18 (.call (.c (.func (.func 20) #[] #[])) [(.t 16), (.t 17)] true),
  oy 8 (.mv (.t 18))]
def n58_3 : ICode := .region l58_3
@[simp] def l58_5 : List IOper := [oy 20 (.mv (.t 0)),
  oy 21 (.mv (.t 8)),
  oy 22 (.idxS 1 (.t 20) (.t 21)),
  oy 23 (.load false 1 (.t 22)),
  oy 24 (.call (.c (.func (.func 66) #[] #[])) [(.t 23)] true),
  oy 19 (.mv (.t 24)),
  oy 25 (.extract (.t 19) 0),
  oy 26 (.extract (.t 19) 1),
  oy 27 (.extract (.t 19) 2),
  oy 9 (.mv (.t 25)),
  oy 10 (.mv (.t 26)),
  oy 11 (.mv (.t 27))]
def n58_5 : ICode := .region l58_5
@[simp] def l58_7 : List IOper := [oy 28 (.mv (.t 9)),
  oy 29 (.mv (.t 0)),
  oy 30 (.mv (.t 8)),
  oy 31 (.bin .add .int (.t 30) (.c (.int .i64 1))),
  oy 32 (.idxS 1 (.t 29) (.t 31)),
  oy 33 (.load false 1 (.t 32)),
  oy 34 (.build [(.int .i64 0), (.slice none 0 0), (.int .u64 0), (.slice none 0 0)] [(0, 1, (.t 28)), (2, 1, (.t 33))]),
  oy 12 (.new 58 [(.int .i64 0), (.slice none 0 0), (.int .u64 0), (.slice none 0 0)]),
  ox (.store 4 (.t 12) (.t 34))]
def n58_7 : ICode := .region l58_7
@[simp] def l58_10 : List IOper := [oy 35 (.mv (.t 11)),
  oy 36 (.un .not (.t 35))]
def n58_10 : ICode := .region l58_10
@[simp] def l58_13 : List IOper := [oy 37 (.build [(.int .i64 0), (.slice none 0 0), (.int .u64 0), (.slice none 0 0)] []),
  ox (.store 4 (.t 6) (.t 37)),
  oy 7 (.mv (.c (.int .i64 150)))]
def n58_13 : ICode := .region l58_13
def n58_14 : ICode := .ret
def n58_12 : ICode := .seq n58_13 n58_14
def n58_15 : ICode := .skip
def n58_11 : ICode := .cond (.t 36) n58_12 n58_15
def n58_9 : ICode := .seq n58_10 n58_11
@[simp] def l58_17 : List IOper := [oy 13 (.mv (.c (.int .i64 0)))]
def n58_17 : ICode := .region l58_17
@[simp] def l58_20 : List IOper := [oy 38 (.mv (.t 9)),
  oy 39 (.bin .geq .int (.t 38) (.c (.int .i64 0)))]
def n58_20 : ICode := .region l58_20
@[simp] def l58_22 : List IOper := [oy 41 (.mv (.t 0)),
  oy 42 (.load true 6 (.t 4)),
  oy 43 (.mv (.t 9)),
  oy 44 (.mv (.t 10)),
  oy 45 (.call (.c (.func (.func 67) #[] #[])) [(.t 41), (.t 42), (.t 43), (.t 44)] true),
  oy 40 (.mv (.t 45)),
  oy 46 (.extract (.t 40) 0),
  oy 47 (.extract (.t 40) 1),
  oy 48 (.addOff 1 (.t 12)),
  ox (.store 1 (.t 48) (.t 46)),
  oy 13 (.mv (.t 47))]
def n58_22 : ICode := .region l58_22
def n58_23 : ICode := .skip
def n58_21 : ICode := .cond (.t 39) n58_22 n58_23
def n58_19 : ICode := .seq n58_20 n58_21
@[simp] def l58_26 : List IOper := [oy 49 (.mv (.t 13)),
  oy 50 (.bin .neq .int (.t 49) (.c (.int .i64 0)))]
def n58_26 : ICode := .region l58_26
@[simp] def l58_29 : List IOper := [oy 51 (.build [(.int .i64 0), (.slice none 0 0), (.int .u64 0), (.slice none 0 0)] []),
  oy 52 (.mv (.t 13)),
  ox (.store 4 (.t 6) (.t 51)),
  oy 7 (.mv (.t 52))]
def n58_29 : ICode := .region l58_29
def n58_30 : ICode := .ret
def n58_28 : ICode := .seq n58_29 n58_30
def n58_31 : ICode := .skip
def n58_27 : ICode := .cond (.t 50) n58_28 n58_31
def n58_25 : ICode := .seq n58_26 n58_27
@[simp] def l58_33 : List IOper := [oy 54 (.mv (.t 0)),
  oy 55 (.load true 6 (.t 4)),
  oy 56 (.mv (.t 0)),
  oy 57 (.mv (.t 8)),
  oy 58 (.bin .add .int (.t 57) (.c (.int .i64 2))),
  oy 59 (.idxS 1 (.t 56) (.t 58)),
  oy 60 (.load false 1 (.t 59)),
  oy 61 (.call (.c (.func (.func 68) #[] #[])) [(.t 54), (.t 55), (.t 60)] true),
  oy 53 (.mv (.t 61)),
  oy 62 (.extract (.t 53) 0),
  oy 63 (.extract (.t 53) 1),
  oy 14 (.mv (.t 62)),
  oy 15 (.mv (.t 63))]
def n58_33 : ICode := .region l58_33
@[simp] def l58_36 : List IOper := [oy 64 (.mv (.t 15)),
  oy 65 (.bin .neq .int (.t 64) (.c (.int .i64 0)))]
def n58_36 : ICode := .region l58_36
@[simp] def l58_39 : List IOper := [oy 66 (.build [(.int .i64 0), (.slice none 0 0), (.int .u64 0), (.slice none 0 0)] []),
  oy 67 (.mv (.t 15)),
  ox (.store 4 (.t 6) (.t 66)),
  oy 7 (.mv (.t 67))]
def n58_39 : ICode := .region l58_39
def n58_40 : ICode := .ret
def n58_38 : ICode := .seq n58_39 n58_40
def n58_41 : ICode := .skip
def n58_37 : ICode := .cond (.t 65) n58_38 n58_41
def n58_35 : ICode := .seq n58_36 n58_37
@[simp] def l58_43 : List IOper := [oy 68 (.mv (.t 14)),
  oy 69 (.addOff 3 (.t 12)),
  ox (.store 1 (.t 69) (.t 68))]
def n58_43 : ICode := .region l58_43
@[simp] def l58_45 : List IOper := [oy 70 (.load true 4 (.t 12)),
  ox (.store 4 (.t 6) (.t 70)),
  oy 7 (.mv (.c (.int .i64 0)))]
def n58_45 : ICode := .region l58_45
def n58_46 : ICode := .ret
def n58_44 : ICode := .seq n58_45 n58_46
def n58_42 : ICode := .seq n58_43 n58_44
def n58_34 : ICode := .seq n58_35 n58_42
def n58_32 : ICode := .seq n58_33 n58_34
def n58_24 : ICode := .seq n58_25 n58_32
def n58_18 : ICode := .seq n58_19 n58_24
def n58_16 : ICode := .seq n58_17 n58_18
def n58_8 : ICode := .seq n58_9 n58_16
def n58_6 : ICode := .seq n58_7 n58_8
def n58_4 : ICode := .seq n58_5 n58_6
def n58_2 : ICode := .seq n58_3 n58_4
def n58_0 : ICode := .seq n58_1 n58_2
theorem b58 : table.find 58 = some ⟨71, n58_0, [.cell 6 true 4, .tmp 7]⟩ := by kernel_rfl
@[simp] theorem en58_1 : evCode C n58_1 R S = regK (runOps C l58_1 R S) := ev_plain rfl
@[simp] theorem en58_3 : evCode C n58_3 R S = regK (runOps C l58_3 R S) := ev_plain rfl
@[simp] theorem en58_5 : evCode C n58_5 R S = regK (runOps C l58_5 R S) := ev_plain rfl
@[simp] theorem en58_7 : evCode C n58_7 R S = regK (runOps C l58_7 R S) := ev_plain rfl
@[simp] theorem en58_10 : evCode C n58_10 R S = regK (runOps C l58_10 R S) := ev_plain rfl
@[simp] theorem en58_13 : evCode C n58_13 R S = regK (runOps C l58_13 R S) := ev_plain rfl
@[simp] theorem en58_14 : evCode C n58_14 R S = some (.ret, R, S) := (rfl)
@[simp] theorem en58_12 : evCode C n58_12 R S = seqK (evCode C n58_13 R S) fun R S => evCode C n58_14 R S := ev_seq
@[simp] theorem en58_15 : evCode C n58_15 R S = some (.norm, R, S) := (rfl)
@[simp] theorem en58_11 : evCode C n58_11 R S = condK (IV.ev R (.t 36)) (fun _ => evCode C n58_12 R S) fun _ => evCode C n58_15 R S := ev_cond
@[simp] theorem en58_9 : evCode C n58_9 R S = seqK (evCode C n58_10 R S) fun R S => evCode C n58_11 R S := ev_seq
@[simp] theorem en58_17 : evCode C n58_17 R S = regK (runOps C l58_17 R S) := ev_plain rfl
@[simp] theorem en58_20 : evCode C n58_20 R S = regK (runOps C l58_20 R S) := ev_plain rfl
@[simp] theorem en58_22 : evCode C n58_22 R S = regK (runOps C l58_22 R S) := ev_plain rfl
@[simp] theorem en58_23 : evCode C n58_23 R S = some (.norm, R, S) := (rfl)
@[simp] theorem en58_21 : evCode C n58_21 R S = condK (IV.ev R (.t 39)) (fun _ => evCode C n58_22 R S) fun _ => evCode C n58_23 R S := ev_cond
@[simp] theorem en58_19 : evCode C n58_19 R S = seqK (evCode C n58_20 R S) fun R S => evCode C n58_21 R S := ev_seq
@[simp] theorem en58_26 : evCode C n58_26 R S = regK (runOps C l58_26 R S) := ev_plain rfl
@[simp] theorem en58_29 : evCode C n58_29 R S = regK (runOps C l58_29 R S) := ev_plain rfl
@[simp] theorem en58_30 : evCode C n58_30 R S = some (.ret, R, S) := (rfl)
@[simp] theorem en58_28 : evCode C n58_28 R S = seqK (evCode C n58_29 R S) fun R S => evCode C n58_30 R S := ev_seq
@[simp] theorem en58_31 : evCode C n58_31 R S = some (.norm, R, S) := (rfl)
@[simp] theorem en58_27 : evCode C n58_27 R S = condK (IV.ev R (.t 50)) (fun _ => evCode C n58_28 R S) fun _ => evCode C n58_31 R S := ev_cond
@[simp] theorem en58_25 : evCode C n58_25 R S = seqK (evCode C n58_26 R S) fun R S => evCode C n58_27 R S := ev_seq
@[simp] theorem en58_33 : evCode C n58_33 R S = regK (runOps C l58_33 R S) := ev_plain rfl
@[simp] theorem en58_36 : evCode C n58_36 R S = regK (runOps C l58_36 R S) := ev_plain rfl
@[simp] theorem en58_39 : evCode C n58_39 R S = regK (runOps C l58_39 R S) := ev_plain rfl
@[simp] theorem en58_40 : evCode C n58_40 R S = some (.ret, R, S) := (rfl)
@[simp] theorem en58_38 : evCode C n58_38 R S = seqK (evCode C n58_39 R S) fun R S => evCode C n58_40 R S := ev_seq
@[simp] theorem en58_41 : evCode C n58_41 R S = some (.norm, R, S) := (rfl)
@[simp] theorem en58_37 : evCode C n58_37 R S = condK (IV.ev R (.t 65)) (fun _ => evCode C n58_38 R S) fun _ => evCode C n58_41 R S := ev_cond
@[simp] theorem en58_35 : evCode C n58_35 R S = seqK (evCode C n58_36 R S) fun R S => evCode C n58_37 R S := ev_seq
@[simp] theorem en58_43 : evCode C n58_43 R S = regK (runOps C l58_43 R S) := ev_plain rfl
@[simp] theorem en58_45 : evCode C n58_45 R S = regK (runOps C l58_45 R S) := ev_plain rfl
@[simp] theorem en58_46 : evCode C n58_46 R S = some (.ret, R, S) := (rfl)
@[simp] theorem en58_44 : evCode C n58_44 R S = seqK (evCode C n58_45 R S) fun R S => evCode C n58_46 R S := ev_seq
@[simp] theorem en58_42 : evCode C n58_42 R S = seqK (evCode C n58_43 R S) fun R S => evCode C n58_44 R S := ev_seq
@[simp] theorem en58_34 : evCode C n58_34 R S = seqK (evCode C n58_35 R S) fun R S => evCode C n58_42 R S := ev_seq
@[simp] theorem en58_32 : evCode C n58_32 R S = seqK (evCode C n58_33 R S) fun R S => evCode C n58_34 R S := ev_seq
@[simp] theorem en58_24 : evCode C n58_24 R S = seqK (evCode C n58_25 R S) fun R S => evCode C n58_32 R S := ev_seq
@[simp] theorem en58_18 : evCode C n58_18 R S = seqK (evCode C n58_19 R S) fun R S => evCode C n58_24 R S := ev_seq
@[simp] theorem en58_16 : evCode C n58_16 R S = seqK (evCode C n58_17 R S) fun R S => evCode C n58_18 R S := ev_seq
@[simp] theorem en58_8 : evCode C n58_8 R S = seqK (evCode C n58_9 R S) fun R S => evCode C n58_16 R S := ev_seq
@[simp] theorem en58_6 : evCode C n58_6 R S = seqK (evCode C n58_7 R S) fun R S => evCode C n58_8 R S := ev_seq
@[simp] theorem en58_4 : evCode C n58_4 R S = seqK (evCode C n58_5 R S) fun R S => evCode C n58_6 R S := ev_seq
@[simp] theorem en58_2 : evCode C n58_2 R S = seqK (evCode C n58_3 R S) fun R S => evCode C n58_4 R S := ev_seq
@[simp] theorem en58_0 : evCode C n58_0 R S = seqK (evCode C n58_1 R S) fun R S => evCode C n58_2 R S := ev_seq
theorem q58 {n : Nat} {args : List Value} {S : St} : calls table.find (n + 1) 58 args S = endK S [.cell 6 true 4, .tmp 7] (evCode (calls table.find n) n58_0 (args ++ List.replicate (71 - args.length) undef) S.enter) := call_enter b58

/-! wainscot/wainscotref21.shelf -/
@[simp] def l59_1 : List IOper := [oy 3 (.box 24 6 (.t 1)),
  oy 4 (.mv (.c (.slice none 0 0))),
  oy 5 (.mv (.c (.int .i64 0)))]
def n59_1 : ICode := .region l59_1
@[simp] def l59_3 : List IOper := [oy 6 (.mv (.c (.slice none 0 0)))]
def n59_3 : ICode := .region l59_3
@[simp] def l59_5 : List IOper := [oy 8 (.mv (.t 0)),
  oy 9 (.load true 6 (.t 3)),
  oy 10 (.call (.c (.func (.func 23) #[] #[])) [(.t 9)] true),
  oy 11 (.idxS 1 (.t 8) (.t 10)),
  oy 12 (.load false 1 (.t 11)),
  oy 7 (.mv (.t 12))]
def n59_5 : ICode := .region l59_5
@[simp] def l59_10 : List IOper := [oy 13 (.mv (.t 7)),
  oy 14 (.bin .neq .int (.t 13) (.c (.int .u64 0)))]
def n59_10 : ICode := .region l59_10
def n59_12 : ICode := .skip
def n59_13 : ICode := .exit 0
def n59_11 : ICode := .cond (.t 14) n59_12 n59_13
def n59_9 : ICode := .seq n59_10 n59_11
@[simp] def l59_17 : List IOper := [oy 15 (.mv (.t 7)),
  oy 16 (.addOff 1 (.t 3)),
  oy 17 (.load false 1 (.t 16)),
  oy 18 (.conv .u64 (.t 17)),
  oy 19 (.bin .gtr .int (.t 15) (.t 18)),
  oy 20 (.mv (.t 19)),
  oz 21 20 false (.mv (.t 6)),
  oz 22 20 false (.mv (.t 7)),
  oz 23 20 false (.conv .i64 (.t 22)),
  oz 24 20 false (.bin .sub .int (.t 23) (.c (.int .i64 1))),
  oz 25 20 false (.call (.c (.func (.func 69) #[] #[])) [(.t 21), (.t 24)] true),
  oy 26 (.pick (.t 20) (.c (.bool true)) (.t 25))]
def n59_17 : ICode := .region l59_17
@[simp] def l59_20 : List IOper := [oy 4 (.mv (.c (.slice none 0 0))),
  oy 5 (.mv (.c (.int .i64 150)))]
def n59_20 : ICode := .region l59_20
def n59_21 : ICode := .ret
def n59_19 : ICode := .seq n59_20 n59_21
def n59_22 : ICode := .skip
def n59_18 : ICode := .cond (.t 26) n59_19 n59_22
def n59_16 : ICode := .seq n59_17 n59_18
@[simp] def l59_24 : List IOper := [oy 27 (.mv (.t 6)),
  oy 28 (.mv (.t 7)),
  oy 29 (.conv .i64 (.t 28)),
  oy 30 (.bin .sub .int (.t 29) (.c (.int .i64 1))),
  oy 31 (.buildSlice 3 [(.int .i64 0)] 1 [(0, 1, (.t 30))]),
  oy 32 (.append 3 1 8 (.t 27) (.t 31)),
  oy 6 (.mv (.t 32))]
def n59_24 : ICode := .region l59_24
@[simp] def l59_25 : List IOper := [oy 33 (.mv (.t 0)),
  oy 34 (.load true 6 (.t 3)),
  oy 35 (.mv (.t 7)),
  oy 36 (.conv .i64 (.t 35)),
  oy 37 (.bin .sub .int (.t 36) (.c (.int .i64 1))),
  oy 38 (.call (.c (.func (.func 26) #[] #[])) [(.t 34), (.t 37)] true),
  oy 39 (.idxS 1 (.t 33) (.t 38)),
  oy 40 (.load false 1 (.t 39)),
  oy 7 (.mv (.t 40))]
def n59_25 : ICode := .region l59_25
def n59_23 : ICode := .seq n59_24 n59_25
def n59_15 : ICode := .seq n59_16 n59_23
def n59_14 : ICode := .block 1 n59_15
def n59_8 : ICode := .seq n59_9 n59_14
def loop59_0 : ICode := .loop n59_8
def n59_7 : ICode := .block 0 loop59_0
@[simp] def l59_27 : List IOper := [oy 41 (.mv (.t 6)),
  oy 4 (.mv (.t 41)),
  oy 5 (.mv (.c (.int .i64 0)))]
def n59_27 : ICode := .region l59_27
def n59_28 : ICode := .ret
def n59_26 : ICode := .seq n59_27 n59_28
def n59_6 : ICode := .seq n59_7 n59_26
def n59_4 : ICode := .seq n59_5 n59_6
def n59_2 : ICode := .seq n59_3 n59_4
def n59_0 : ICode := .seq n59_1 n59_2
theorem b59 : table.find 59 = some ⟨42, n59_0, [.tmp 4, .tmp 5]⟩ := by kernel_rfl
@[simp] theorem en59_1 : evCode C n59_1 R S = regK (runOps C l59_1 R S) := ev_plain rfl
@[simp] theorem en59_3 : evCode C n59_3 R S = regK (runOps C l59_3 R S) := ev_plain rfl
@[simp] theorem en59_5 : evCode C n59_5 R S = regK (runOps C l59_5 R S) := ev_plain rfl
@[simp] theorem en59_10 : evCode C n59_10 R S = regK (runOps C l59_10 R S) := ev_plain rfl
@[simp] theorem en59_12 : evCode C n59_12 R S = some (.norm, R, S) := (rfl)
@[simp] theorem en59_13 : evCode C n59_13 R S = some (.exit 0, R, S) := (rfl)
@[simp] theorem en59_11 : evCode C n59_11 R S = condK (IV.ev R (.t 14)) (fun _ => evCode C n59_12 R S) fun _ => evCode C n59_13 R S := ev_cond
@[simp] theorem en59_9 : evCode C n59_9 R S = seqK (evCode C n59_10 R S) fun R S => evCode C n59_11 R S := ev_seq
@[simp] theorem en59_17 : evCode C n59_17 R S = regK (runOps C l59_17 R S) := ev_plain rfl
@[simp] theorem en59_20 : evCode C n59_20 R S = regK (runOps C l59_20 R S) := ev_plain rfl
@[simp] theorem en59_21 : evCode C n59_21 R S = some (.ret, R, S) := (rfl)
@[simp] theorem en59_19 : evCode C n59_19 R S = seqK (evCode C n59_20 R S) fun R S => evCode C n59_21 R S := ev_seq
@[simp] theorem en59_22 : evCode C n59_22 R S = some (.norm, R, S) := (rfl)
@[simp] theorem en59_18 : evCode C n59_18 R S = condK (IV.ev R (.t 26)) (fun _ => evCode C n59_19 R S) fun _ => evCode C n59_22 R S := ev_cond
@[simp] theorem en59_16 : evCode C n59_16 R S = seqK (evCode C n59_17 R S) fun R S => evCode C n59_18 R S := ev_seq
@[simp] theorem en59_24 : evCode C n59_24 R S = regK (runOps C l59_24 R S) := ev_plain rfl
@[simp] theorem en59_25 : evCode C n59_25 R S = regK (runOps C l59_25 R S) := ev_plain rfl
@[simp] theorem en59_23 : evCode C n59_23 R S = seqK (evCode C n59_24 R S) fun R S => evCode C n59_25 R S := ev_seq
@[simp] theorem en59_15 : evCode C n59_15 R S = seqK (evCode C n59_16 R S) fun R S => evCode C n59_23 R S := ev_seq
@[simp] theorem en59_14 : evCode C n59_14 R S = blockK 1 (evCode C n59_15 R S) := ev_block
@[simp] theorem en59_8 : evCode C n59_8 R S = seqK (evCode C n59_9 R S) fun R S => evCode C n59_14 R S := ev_seq
theorem eloop59_0 : evCode C loop59_0 R S = iter (fun R S => evCode C n59_8 R S) rounds R S := (rfl)
@[simp] theorem en59_7 : evCode C n59_7 R S = blockK 0 (evCode C loop59_0 R S) := ev_block
@[simp] theorem en59_27 : evCode C n59_27 R S = regK (runOps C l59_27 R S) := ev_plain rfl
@[simp] theorem en59_28 : evCode C n59_28 R S = some (.ret, R, S) := (rfl)
@[simp] theorem en59_26 : evCode C n59_26 R S = seqK (evCode C n59_27 R S) fun R S => evCode C n59_28 R S := ev_seq
@[simp] theorem en59_6 : evCode C n59_6 R S = seqK (evCode C n59_7 R S) fun R S => evCode C n59_26 R S := ev_seq
@[simp] theorem en59_4 : evCode C n59_4 R S = seqK (evCode C n59_5 R S) fun R S => evCode C n59_6 R S := ev_seq
@[simp] theorem en59_2 : evCode C n59_2 R S = seqK (evCode C n59_3 R S) fun R S => evCode C n59_4 R S := ev_seq
@[simp] theorem en59_0 : evCode C n59_0 R S = seqK (evCode C n59_1 R S) fun R S => evCode C n59_2 R S := ev_seq
theorem q59 {n : Nat} {args : List Value} {S : St} : calls table.find (n + 1) 59 args S = endK S [.tmp 4, .tmp 5] (evCode (calls table.find n) n59_0 (args ++ List.replicate (42 - args.length) undef) S.enter) := call_enter b59

/-! wainscot/wainscotref21.slab -/
@[simp] def l60_1 : List IOper := [oy 4 (.box 24 6 (.t 1)),
  oy 6 (.new 62 [(.int .i64 0), (.int .i64 0), (.bool false), (.bool false), (.slice none 0 0)]),
  oy 7 (.mv (.c (.int .i64 0)))]
def n60_1 : ICode := .region l60_1
@[simp] def l60_3 : List IOper := [oy 13 (.load true 6 (.t 4)),
  oy 14 (.mv (.t 2)),
  oy 15 (.call (.c (.func (.func 25) #[] #[])) [(.t 13), (.t 14)] true),
  oy 8 (.mv (.t 15))]
def n60_3 : ICode := .region l60_3
@[simp] def l60_5 : List IOper := [oy 17 (.mv (.t 0)),
  oy 18 (.mv (.t 8)),
  oy 19 (.bin .add .int (.t 18) (.c (.int .i64 1))),
  oy 20 (.idxS 1 (.t 17) (.t 19)),
  oy 21 (.load false 1 (.t 20)),
  oy 22 (.call (.c (.func (.func 70) #[] #[])) [(.t 21)] true),
  oy 16 (.mv (.t 22)),
  oy 23 (.extract (.t 16) 0),
  oy 24 (.extract (.t 16) 1),
  oy 9 (.new 60 [(.int .i64 0), (.int .i64 0), (.bool false), (.bool false)]),
  ox (.store 4 (.t 9) (.t 23)),
  oy 10 (.mv (.t 24))]
def n60_5 : ICode := .region l60_5
@[simp] def l60_8 : List IOper := [oy 25 (.mv (.t 10)),
  oy 26 (.un .not (.t 25)),
  oy 27 (.mv (.t 26)),
  oz 28 27 false (.mv (.t 0)),
  oz 29 27 false (.mv (.t 8)),
  oz 30 27 false (.idxS 1 (.t 28) (.t 29)),
  oz 31 27 false (.load false 1 (.t 30)),
  oz 32 27 false (.addOff 2 (.t 4)),
  oz 33 27 false (.load false 1 (.t 32)),
  oz 34 27 false (.conv .u64 (.t 33)),
  oz 35 27 false (.bin .gtr .int (.t 31) (.t 34)),
  oy 36 (.pick (.t 27) (.c (.bool true)) (.t 35))]
def n60_8 : ICode := .region l60_8
@[simp] def l60_11 : List IOper := [oy 37 (.build [(.int .i64 0), (.int .i64 0), (.bool false), (.bool false), (.slice none 0 0)] []),
  ox (.store 5 (.t 6) (.t 37)),
  oy 7 (.mv (.c (.int .i64 150)))]
def n60_11 : ICode := .region l60_11
def n60_12 : ICode := .ret
def n60_10 : ICode := .seq n60_11 n60_12
def n60_13 : ICode := .skip
def n60_9 : ICode := .cond (.t 36) n60_10 n60_13
def n60_7 : ICode := .seq n60_8 n60_9
@[simp] def l60_15 : List IOper := [oy 39 (.mv (.t 0)),
  oy 40 (.load true 6 (.t 4)),
  oy 41 (.mv (.t 2)),
  oy 42 (.mv (.t 0)),
  oy 43 (.mv (.t 8)),
  oy 44 (.idxS 1 (.t 42) (.t 43)),
  oy 45 (.load false 1 (.t 44)),
  oy 46 (.conv .i64 (.t 45)),
  oy 47 (.bin .sub .int (.t 46) (.c (.int .i64 1))),
  oy 48 (.call (.c (.func (.func 67) #[] #[])) [(.t 39), (.t 40), (.t 41), (.t 47)] true),
  oy 38 (.mv (.t 48)),
  oy 49 (.extract (.t 38) 0),
  oy 50 (.extract (.t 38) 1),
  oy 11 (.mv (.t 49)),
  oy 12 (.mv (.t 50))]
def n60_15 : ICode := .region l60_15
@[simp] def l60_18 : List IOper := [oy 51 (.mv (.t 12)),
  oy 52 (.bin .neq .int (.t 51) (.c (.int .i64 0)))]
def n60_18 : ICode := .region l60_18
@[simp] def l60_21 : List IOper := [oy 53 (.build [(.int .i64 0), (.int .i64 0), (.bool false), (.bool false), (.slice none 0 0)] []),
  oy 54 (.mv (.t 12)),
  ox (.store 5 (.t 6) (.t 53)),
  oy 7 (.mv (.t 54))]
def n60_21 : ICode := .region l60_21
def n60_22 : ICode := .ret
def n60_20 : ICode := .seq n60_21 n60_22
def n60_23 : ICode := .skip
def n60_19 : ICode := .cond (.t 52) n60_20 n60_23
def n60_17 : ICode := .seq n60_18 n60_19
@[simp] def l60_25 : List IOper := [oy 55 (.load true 4 (.t 9)),
  oy 56 (.mv (.t 11)),
  oy 57 (.build [(.int .i64 0), (.int .i64 0), (.bool false), (.bool false), (.slice none 0 0)] [(0, 4, (.t 55)), (4, 1, (.t 56))]),
  ox (.store 5 (.t 6) (.t 57)),
  oy 7 (.mv (.c (.int .i64 0)))]
def n60_25 : ICode := .region l60_25
def n60_26 : ICode := .ret
def n60_24 : ICode := .seq n60_25 n60_26
def n60_16 : ICode := .seq n60_17 n60_24
def n60_14 : ICode := .seq n60_15 n60_16
def n60_6 : ICode := .seq n60_7 n60_14
def n60_4 : ICode := .seq n60_5 n60_6
def n60_2 : ICode := .seq n60_3 n60_4
def n60_0 : ICode := .seq n60_1 n60_2
theorem b60 : table.find 60 = some ⟨58, n60_0, [.cell 6 true 5, .tmp 7]⟩ := by kernel_rfl
@[simp] theorem en60_1 : evCode C n60_1 R S = regK (runOps C l60_1 R S) := ev_plain rfl
@[simp] theorem en60_3 : evCode C n60_3 R S = regK (runOps C l60_3 R S) := ev_plain rfl
@[simp] theorem en60_5 : evCode C n60_5 R S = regK (runOps C l60_5 R S) := ev_plain rfl
@[simp] theorem en60_8 : evCode C n60_8 R S = regK (runOps C l60_8 R S) := ev_plain rfl
@[simp] theorem en60_11 : evCode C n60_11 R S = regK (runOps C l60_11 R S) := ev_plain rfl
@[simp] theorem en60_12 : evCode C n60_12 R S = some (.ret, R, S) := (rfl)
@[simp] theorem en60_10 : evCode C n60_10 R S = seqK (evCode C n60_11 R S) fun R S => evCode C n60_12 R S := ev_seq
@[simp] theorem en60_13 : evCode C n60_13 R S = some (.norm, R, S) := (rfl)
@[simp] theorem en60_9 : evCode C n60_9 R S = condK (IV.ev R (.t 36)) (fun _ => evCode C n60_10 R S) fun _ => evCode C n60_13 R S := ev_cond
@[simp] theorem en60_7 : evCode C n60_7 R S = seqK (evCode C n60_8 R S) fun R S => evCode C n60_9 R S := ev_seq
@[simp] theorem en60_15 : evCode C n60_15 R S = regK (runOps C l60_15 R S) := ev_plain rfl
@[simp] theorem en60_18 : evCode C n60_18 R S = regK (runOps C l60_18 R S) := ev_plain rfl
@[simp] theorem en60_21 : evCode C n60_21 R S = regK (runOps C l60_21 R S) := ev_plain rfl
@[simp] theorem en60_22 : evCode C n60_22 R S = some (.ret, R, S) := (rfl)
@[simp] theorem en60_20 : evCode C n60_20 R S = seqK (evCode C n60_21 R S) fun R S => evCode C n60_22 R S := ev_seq
@[simp] theorem en60_23 : evCode C n60_23 R S = some (.norm, R, S) := (rfl)
@[simp] theorem en60_19 : evCode C n60_19 R S = condK (IV.ev R (.t 52)) (fun _ => evCode C n60_20 R S) fun _ => evCode C n60_23 R S := ev_cond
@[simp] theorem en60_17 : evCode C n60_17 R S = seqK (evCode C n60_18 R S) fun R S => evCode C n60_19 R S := ev_seq
@[simp] theorem en60_25 : evCode C n60_25 R S = regK (runOps C l60_25 R S) := ev_plain rfl
@[simp] theorem en60_26 : evCode C n60_26 R S = some (.ret, R, S) := (rfl)
@[simp] theorem en60_24 : evCode C n60_24 R S = seqK (evCode C n60_25 R S) fun R S => evCode C n60_26 R S := ev_seq
@[simp] theorem en60_16 : evCode C n60_16 R S = seqK (evCode C n60_17 R S) fun R S => evCode C n60_24 R S := ev_seq
@[simp] theorem en60_14 : evCode C n60_14 R S = seqK (evCode C n60_15 R S) fun R S => evCode C n60_16 R S := ev_seq
@[simp] theorem en60_6 : evCode C n60_6 R S = seqK (evCode C n60_7 R S) fun R S => evCode C n60_14 R S := ev_seq
@[simp] theorem en60_4 : evCode C n60_4 R S = seqK (evCode C n60_5 R S) fun R S => evCode C n60_6 R S := ev_seq
@[simp] theorem en60_2 : evCode C n60_2 R S = seqK (evCode C n60_3 R S) fun R S => evCode C n60_4 R S := ev_seq
@[simp] theorem en60_0 : evCode C n60_0 R S = seqK (evCode C n60_1 R S) fun R S => evCode C n60_2 R S := ev_seq
theorem q60 {n : Nat} {args : List Value} {S : St} : calls table.find (n + 1) 60 args S = endK S [.cell 6 true 5, .tmp 7] (evCode (calls table.find n) n60_0 (args ++ List.replicate (58 - args.length) undef) S.enter) := call_enter b60

/-! wainscot/wainscotref17.HeadOf -/
@[simp] def l66_1 : List IOper := [oy 2 (.mv (.c (.int .i64 0))),
  oy 3 (.mv (.c (.int .i64 0))),
  oy 4 (.mv (.c (.bool false)))]
def n66_1 : ICode := .region l66_1
@[simp] def l66_4 : List IOper := [oy 5 (.mv (.c (.int .i64 (-1))))]
def n66_4 : ICode := .region l66_4
@[simp] def l66_8 : List IOper := [oy 9 (.mv (.t 5)),
  oy 10 (.bin .lss .int (.t 9) (.c (.int .i64 32)))]
def n66_8 : ICode := .region l66_8
def n66_10 : ICode := .skip
def n66_11 : ICode := .exit 0
def n66_9 : ICode := .cond (.t 10) n66_10 n66_11
def n66_7 : ICode := .seq n66_8 n66_9
@[simp] def l66_15 : List IOper := [oy 6 (.mv (.c (.int .i64 (-1))))]
def n66_15 : ICode := .region l66_15
@[simp] def l66_19 : List IOper := [oy 13 (.mv (.t 6)),
  oy 14 (.bin .lss .int (.t 13) (.c (.int .i64 16)))]
def n66_19 : ICode := .region l66_19
def n66_21 : ICode := .skip
def n66_22 : ICode := .exit 2
def n66_20 : ICode := .cond (.t 14) n66_21 n66_22
def n66_18 : ICode := .seq n66_19 n66_20
@[simp] def l66_26 : List IOper := [oy 18 (.mv (.t 5)),
  oy 19 (.mv (.t 6)),
  oy 20 (.call (.c (.func (.func 77) #[] #[])) [(.t 18), (.t 19)] true),
  oy 17 (.mv (.t 20)),
  oy 21 (.extract (.t 17) 0),
  oy 22 (.extract (.t 17) 1),
  oy 7 (.mv (.t 21)),
  oy 8 (.mv (.t 22))]
def n66_26 : ICode := .region l66_26
@[simp] def l66_28 : List IOper := [oy 23 (.mv (.t 8)),
  oy 24 (.bin .eql .int (.t 23) (.c (.int .i64 0))),
  oy 25 (.mv (.t 24)),
  oz 26 25 true (.mv (.t 7)),
  oz 27 25 true (.mv (.t 0)),
  oz 28 25 true (.bin .eql .int (.t 26) (.t 27)),
  oy 29 (.pick (.t 25) (.t 28) (.c (.bool false)))]
def n66_28 : ICode := .region l66_28
@[simp] def l66_31 : List IOper := [oy 30 (.mv (.t 5)),
  oy 31 (.mv (.t 6)),
  oy 2 (.mv (.t 30)),
  oy 3 (.mv (.t 31)),
  oy 4 (.mv (.c (.bool true)))]
def n66_31 : ICode := .region l66_31
def n66_32 : ICode := .ret
def n66_30 : ICode := .seq n66_31 n66_32
def n66_33 : ICode := .skip
def n66_29 : ICode := .cond (.t 29) n66_30 n66_33
def n66_27 : ICode := .seq n66_28 n66_29
def n66_25 : ICode := .seq n66_26 n66_27
def n66_24 : ICode := .block 3 n66_25
@[simp] def l66_34 : List IOper := [oy 15 (.mv (.t 6)),
  oy 16 (.bin .add .int (.t 15) (.c (.int .i64 1))),
  oy 6 (.mv (.t 16))]
def n66_34 : ICode := .region l66_34
def n66_23 : ICode := .seq n66_24 n66_34
def n66_17 : ICode := .seq n66_18 n66_23
def loop66_1 : ICode := .loop n66_17
def n66_16 : ICode := .block 2 loop66_1
def n66_14 : ICode := .seq n66_15 n66_16
def n66_13 : ICode := .block 1 n66_14
@[simp] def l66_35 : List IOper := [oy 11 (.mv (.t 5)),
  oy 12 (.bin .add .int (.t 11) (.c (.int .i64 1))),
  oy 5 (.mv (.t 12))]
def n66_35 : ICode := .region l66_35
def n66_12 : ICode := .seq n66_13 n66_35
def n66_6 : ICode := .seq n66_7 n66_12
def loop66_0 : ICode := .loop n66_6
def n66_5 : ICode := .block 0 loop66_0
def n66_3 : ICode := .seq n66_4 n66_5
@[simp] def l66_37 : List IOper := [oy 2 (.mv (.c (.int .i64 (-1)))),
  oy 3 (.mv (.c (.int .i64 (-1)))),
  oy 4 (.mv (.c (.bool false)))]
def n66_37 : ICode := .region l66_37
def n66_38 : ICode := .ret
def n66_36 : ICode := .seq n66_37 n66_38
def n66_2 : ICode := .seq n66_3 n66_36
def n66_0 : ICode := .seq n66_1 n66_2
theorem b66 : table.find 66 = some ⟨32, n66_0, [.tmp 2, .tmp 3, .tmp 4]⟩ := by kernel_rfl
@[simp] theorem en66_1 : evCode C n66_1 R S = regK (runOps C l66_1 R S) := ev_plain rfl
@[simp] theorem en66_4 : evCode C n66_4 R S = regK (runOps C l66_4 R S) := ev_plain rfl
@[simp] theorem en66_8 : evCode C n66_8 R S = regK (runOps C l66_8 R S) := ev_plain rfl
@[simp] theorem en66_10 : evCode C n66_10 R S = some (.norm, R, S) := (rfl)
@[simp] theorem en66_11 : evCode C n66_11 R S = some (.exit 0, R, S) := (rfl)
@[simp] theorem en66_9 : evCode C n66_9 R S = condK (IV.ev R (.t 10)) (fun _ => evCode C n66_10 R S) fun _ => evCode C n66_11 R S := ev_cond
@[simp] theorem en66_7 : evCode C n66_7 R S = seqK (evCode C n66_8 R S) fun R S => evCode C n66_9 R S := ev_seq
@[simp] theorem en66_15 : evCode C n66_15 R S = regK (runOps C l66_15 R S) := ev_plain rfl
@[simp] theorem en66_19 : evCode C n66_19 R S = regK (runOps C l66_19 R S) := ev_plain rfl
@[simp] theorem en66_21 : evCode C n66_21 R S = some (.norm, R, S) := (rfl)
@[simp] theorem en66_22 : evCode C n66_22 R S = some (.exit 2, R, S) := (rfl)
@[simp] theorem en66_20 : evCode C n66_20 R S = condK (IV.ev R (.t 14)) (fun _ => evCode C n66_21 R S) fun _ => evCode C n66_22 R S := ev_cond
@[simp] theorem en66_18 : evCode C n66_18 R S = seqK (evCode C n66_19 R S) fun R S => evCode C n66_20 R S := ev_seq
@[simp] theorem en66_26 : evCode C n66_26 R S = regK (runOps C l66_26 R S) := ev_plain rfl
@[simp] theorem en66_28 : evCode C n66_28 R S = regK (runOps C l66_28 R S) := ev_plain rfl
@[simp] theorem en66_31 : evCode C n66_31 R S = regK (runOps C l66_31 R S) := ev_plain rfl
@[simp] theorem en66_32 : evCode C n66_32 R S = some (.ret, R, S) := (rfl)
@[simp] theorem en66_30 : evCode C n66_30 R S = seqK (evCode C n66_31 R S) fun R S => evCode C n66_32 R S := ev_seq
@[simp] theorem en66_33 : evCode C n66_33 R S = some (.norm, R, S) := (rfl)
@[simp] theorem en66_29 : evCode C n66_29 R S = condK (IV.ev R (.t 29)) (fun _ => evCode C n66_30 R S) fun _ => evCode C n66_33 R S := ev_cond
@[simp] theorem en66_27 : evCode C n66_27 R S = seqK (evCode C n66_28 R S) fun R S => evCode C n66_29 R S := ev_seq
@[simp] theorem en66_25 : evCode C n66_25 R S = seqK (evCode C n66_26 R S) fun R S => evCode C n66_27 R S := ev_seq
@[simp] theorem en66_24 : evCode C n66_24 R S = blockK 3 (evCode C n66_25 R S) := ev_block
@[simp] theorem en66_34 : evCode C n66_34 R S = regK (runOps C l66_34 R S) := ev_plain rfl
@[simp] theorem en66_23 : evCode C n66_23 R S = seqK (evCode C n66_24 R S) fun R S => evCode C n66_34 R S := ev_seq
@[simp] theorem en66_17 : evCode C n66_17 R S = seqK (evCode C n66_18 R S) fun R S => evCode C n66_23 R S := ev_seq
theorem eloop66_1 : evCode C loop66_1 R S = iter (fun R S => evCode C n66_17 R S) rounds R S := (rfl)
@[simp] theorem en66_16 : evCode C n66_16 R S = blockK 2 (evCode C loop66_1 R S) := ev_block
@[simp] theorem en66_14 : evCode C n66_14 R S = seqK (evCode C n66_15 R S) fun R S => evCode C n66_16 R S := ev_seq
@[simp] theorem en66_13 : evCode C n66_13 R S = blockK 1 (evCode C n66_14 R S) := ev_block
@[simp] theorem en66_35 : evCode C n66_35 R S = regK (runOps C l66_35 R S) := ev_plain rfl
@[simp] theorem en66_12 : evCode C n66_12 R S = seqK (evCode C n66_13 R S) fun R S => evCode C n66_35 R S := ev_seq
@[simp] theorem en66_6 : evCode C n66_6 R S = seqK (evCode C n66_7 R S) fun R S => evCode C n66_12 R S := ev_seq
theorem eloop66_0 : evCode C loop66_0 R S = iter (fun R S => evCode C n66_6 R S) rounds R S := (rfl)
@[simp] theorem en66_5 : evCode C n66_5 R S = blockK 0 (evCode C loop66_0 R S) := ev_block
@[simp] theorem en66_3 : evCode C n66_3 R S = seqK (evCode C n66_4 R S) fun R S => evCode C n66_5 R S := ev_seq
@[simp] theorem en66_37 : evCode C n66_37 R S = regK (runOps C l66_37 R S) := ev_plain rfl
@[simp] theorem en66_38 : evCode C n66_38 R S = some (.ret, R, S) := (rfl)
@[simp] theorem en66_36 : evCode C n66_36 R S = seqK (evCode C n66_37 R S) fun R S => evCode C n66_38 R S := ev_seq
@[simp] theorem en66_2 : evCode C n66_2 R S = seqK (evCode C n66_3 R S) fun R S => evCode C n66_36 R S := ev_seq
@[simp] theorem en66_0 : evCode C n66_0 R S = seqK (evCode C n66_1 R S) fun R S => evCode C n66_2 R S := ev_seq
theorem q66 {n : Nat} {args : List Value} {S : St} : calls table.find (n + 1) 66 args S = endK S [.tmp 2, .tmp 3, .tmp 4] (evCode (calls table.find n) n66_0 (args ++ List.replicate (32 - args.length) undef) S.enter) := call_enter b66

/-! wainscot/wainscotref21.list -/
@[simp] def l67_1 : List IOper := [oy 5 (.box 24 6 (.t 1)),
  oy 8 (.mv (.c (.slice none 0 0))),
  oy 9 (.mv (.c (.int .i64 0)))]
def n67_1 : ICode := .region l67_1
@[simp] def l67_4 : List IOper := [oy 13 (.mv (.t 2)),
  oy 14 (.bin .lss .int (.t 13) (.c (.int .i64 0))),
  oy 15 (.mv (.t 14)),
  oz 16 15 false (.mv (.t 2)),
  oz 17 15 false (.addOff 1 (.t 5)),
  oz 18 15 false (.load false 1 (.t 17)),
  oz 19 15 false (.bin .geq .int (.t 16) (.t 18)),
  oy 20 (.pick (.t 15) (.c (.bool true)) (.t 19)),
  oy 21 (.mv (.t 20)),
  oz 22 21 false (.mv (.t 3)),
  oz 23 21 false (.addOff 2 (.t 5)),
  oz 24 21 false (.load false 1 (.t 23)),
  oz 25 21 false (.bin .geq .int (.t 22) (.t 24)),
  oy 26 (.pick (.t 21) (.c (.bool true)) (.t 25))]
def n67_4 : ICode := .region l67_4
@[simp] def l67_7 : List IOper := [oy 8 (.mv (.c (.slice none 0 0))),
  oy 9 (.mv (.c (.int .i64 150)))]
def n67_7 : ICode := .region l67_7
def n67_8 : ICode := .ret
def n67_6 : ICode := .seq n67_7 n67_8
def n67_9 : ICode := .skip
def n67_5 : ICode := .cond (.t 26) n67_6 n67_9
def n67_3 : ICode := .seq n67_4 n67_5
@[simp] def l67_11 : List IOper := [oy 27 (.load true 6 (.t 5)),
  oy 28 (.mv (.t 2)),
  oy 29 (.call (.c (.func (.func 27) #[] #[])) [(.t 27), (.t 28), (.c (.int .i64 0))] true),
  oy 10 (.mv (.t 29))]
def n67_11 : ICode := .region l67_11
@[simp] def l67_13 : List IOper := [oy 31 (.mv (.t 0)),
  oy 32 (.mv (.t 10)),
  oy 33 (.mv (.t 10)),
  oy 34 (.addOff 2 (.t 5)),
  oy 35 (.load false 1 (.t 34)),
  oy 36 (.bin .add .int (.t 33) (.t 35)),
  oy 37 (.slice 22 (.t 31) (some (.t 32)) (some (.t 36)) none),
  oy 38 (.load true 6 (.t 5)),
  oy 39 (.mv (.t 2)),
  oy 40 (.call (.c (.func (.func 30) #[] #[])) [(.t 38), (.t 39)] true),
  oy 41 (.mv (.t 3)),
  oy 42 (.call (.c (.func (.func 78) #[] #[])) [(.t 37), (.t 40), (.t 41)] true),
  oy 30 (.mv (.t 42)),
  oy 43 (.extract (.t 30) 0),
  oy 44 (.extract (.t 30) 1),
  oy 11 (.mv (.t 43)),
  oy 12 (.mv (.t 44))]
def n67_13 : ICode := .region l67_13
@[simp] def l67_16 : List IOper := [oy 45 (.mv (.t 12)),
  oy 46 (.bin .neq .int (.t 45) (.c (.int .i64 0)))]
def n67_16 : ICode := .region l67_16
@[simp] def l67_19 : List IOper := [oy 8 (.mv (.c (.slice none 0 0))),
  oy 9 (.mv (.c (.int .i64 150)))]
def n67_19 : ICode := .region l67_19
def n67_20 : ICode := .ret
def n67_18 : ICode := .seq n67_19 n67_20
def n67_21 : ICode := .skip
def n67_17 : ICode := .cond (.t 46) n67_18 n67_21
def n67_15 : ICode := .seq n67_16 n67_17
@[simp] def l67_23 : List IOper := [oy 47 (.mv (.t 11)),
  oy 8 (.mv (.t 47)),
  oy 9 (.mv (.c (.int .i64 0)))]
def n67_23 : ICode := .region l67_23
def n67_24 : ICode := .ret
def n67_22 : ICode := .seq n67_23 n67_24
def n67_14 : ICode := .seq n67_15 n67_22
def n67_12 : ICode := .seq n67_13 n67_14
def n67_10 : ICode := .seq n67_11 n67_12
def n67_2 : ICode := .seq n67_3 n67_10
def n67_0 : ICode := .seq n67_1 n67_2
theorem b67 : table.find 67 = some ⟨48, n67_0, [.tmp 8, .tmp 9]⟩ := by kernel_rfl
@[simp] theorem en67_1 : evCode C n67_1 R S = regK (runOps C l67_1 R S) := ev_plain rfl
@[simp] theorem en67_4 : evCode C n67_4 R S = regK (runOps C l67_4 R S) := ev_plain rfl
@[simp] theorem en67_7 : evCode C n67_7 R S = regK (runOps C l67_7 R S) := ev_plain rfl
@[simp] theorem en67_8 : evCode C n67_8 R S = some (.ret, R, S) := (rfl)
@[simp] theorem en67_6 : evCode C n67_6 R S = seqK (evCode C n67_7 R S) fun R S => evCode C n67_8 R S := ev_seq
@[simp] theorem en67_9 : evCode C n67_9 R S = some (.norm, R, S) := (rfl)
@[simp] theorem en67_5 : evCode C n67_5 R S = condK (IV.ev R (.t 26)) (fun _ => evCode C n67_6 R S) fun _ => evCode C n67_9 R S := ev_cond
@[simp] theorem en67_3 : evCode C n67_3 R S = seqK (evCode C n67_4 R S) fun R S => evCode C n67_5 R S := ev_seq
@[simp] theorem en67_11 : evCode C n67_11 R S = regK (runOps C l67_11 R S) := ev_plain rfl
@[simp] theorem en67_13 : evCode C n67_13 R S = regK (runOps C l67_13 R S) := ev_plain rfl
@[simp] theorem en67_16 : evCode C n67_16 R S = regK (runOps C l67_16 R S) := ev_plain rfl
@[simp] theorem en67_19 : evCode C n67_19 R S = regK (runOps C l67_19 R S) := ev_plain rfl
@[simp] theorem en67_20 : evCode C n67_20 R S = some (.ret, R, S) := (rfl)
@[simp] theorem en67_18 : evCode C n67_18 R S = seqK (evCode C n67_19 R S) fun R S => evCode C n67_20 R S := ev_seq
@[simp] theorem en67_21 : evCode C n67_21 R S = some (.norm, R, S) := (rfl)
@[simp] theorem en67_17 : evCode C n67_17 R S = condK (IV.ev R (.t 46)) (fun _ => evCode C n67_18 R S) fun _ => evCode C n67_21 R S := ev_cond
@[simp] theorem en67_15 : evCode C n67_15 R S = seqK (evCode C n67_16 R S) fun R S => evCode C n67_17 R S := ev_seq
@[simp] theorem en67_23 : evCode C n67_23 R S = regK (runOps C l67_23 R S) := ev_plain rfl
@[simp] theorem en67_24 : evCode C n67_24 R S = some (.ret, R, S) := (rfl)
@[simp] theorem en67_22 : evCode C n67_22 R S = seqK (evCode C n67_23 R S) fun R S => evCode C n67_24 R S := ev_seq
@[simp] theorem en67_14 : evCode C n67_14 R S = seqK (evCode C n67_15 R S) fun R S => evCode C n67_22 R S := ev_seq
@[simp] theorem en67_12 : evCode C n67_12 R S = seqK (evCode C n67_13 R S) fun R S => evCode C n67_14 R S := ev_seq
@[simp] theorem en67_10 : evCode C n67_10 R S = seqK (evCode C n67_11 R S) fun R S => evCode C n67_12 R S := ev_seq
@[simp] theorem en67_2 : evCode C n67_2 R S = seqK (evCode C n67_3 R S) fun R S => evCode C n67_10 R S := ev_seq
@[simp] theorem en67_0 : evCode C n67_0 R S = seqK (evCode C n67_1 R S) fun R S => evCode C n67_2 R S := ev_seq
theorem q67 {n : Nat} {args : List Value} {S : St} : calls table.find (n + 1) 67 args S = endK S [.tmp 8, .tmp 9] (evCode (calls table.find n) n67_0 (args ++ List.replicate (48 - args.length) undef) S.enter) := call_enter b67

/-! wainscot/wainscotref21.parts -/
@[simp] def l68_1 : List IOper := [oy 4 (.box 24 6 (.t 1)),
  oy 6 (.mv (.c (.slice none 0 0))),
  oy 7 (.mv (.c (.int .i64 0)))]
def n68_1 : ICode := .region l68_1
@[simp] def l68_3 : List IOper := [oy 8 (.mv (.c (.slice none 0 0)))]
def n68_3 : ICode := .region l68_3
@[simp] def l68_7 : List IOper := [oy 13 (.mv (.t 2)),
  oy 14 (.call (.c (.func (.func 79) #[] #[])) [(.t 13)] true),
  oy 12 (.mv (.t 14)),
  oy 15 (.extract (.t 12) 0),
  oy 16 (.extract (.t 12) 1),
  oy 17 (.extract (.t 12) 2),
  oy 9 (.mv (.t 15)),
  oy 10 (.mv (.t 16)),
  oy 11 (.mv (.t 17))]
def n68_7 : ICode := .region l68_7
@[simp] def l68_10 : List IOper := [oy 18 (.mv (.t 11)),
  oy 19 (.un .not (.t 18)),
  oy 20 (.mv (.t 19)),
  oz 21 20 false (.mv (.t 9)),
  oz 22 20 false (.addOff 1 (.t 4)),
  oz 23 20 false (.load false 1 (.t 22)),
  oz 24 20 false (.bin .geq .int (.t 21) (.t 23)),
  oy 25 (.pick (.t 20) (.c (.bool true)) (.t 24)),
  oy 26 (.mv (.t 25)),
  oz 27 26 false (.mv (.t 8)),
  oz 28 26 false (.mv (.t 9)),
  oz 29 26 false (.call (.c (.func (.func 69) #[] #[])) [(.t 27), (.t 28)] true),
  oy 30 (.pick (.t 26) (.c (.bool true)) (.t 29))]
def n68_10 : ICode := .region l68_10
@[simp] def l68_13 : List IOper := [oy 6 (.mv (.c (.slice none 0 0))),
  oy 7 (.mv (.c (.int .i64 150)))]
def n68_13 : ICode := .region l68_13
def n68_14 : ICode := .ret
def n68_12 : ICode := .seq n68_13 n68_14
def n68_15 : ICode := .skip
def n68_11 : ICode := .cond (.t 30) n68_12 n68_15
def n68_9 : ICode := .seq n68_10 n68_11
@[simp] def l68_18 : List IOper := [oy 31 (.mv (.t 9)),
  oy 32 (.bin .lss .int (.t 31) (.c (.int .i64 0)))]
def n68_18 : ICode := .region l68_18
@[simp] def l68_21 : List IOper := [oy 33 (.mv (.t 8)),
  oy 6 (.mv (.t 33)),
  oy 7 (.mv (.c (.int .i64 0)))]
def n68_21 : ICode := .region l68_21
def n68_22 : ICode := .ret
def n68_20 : ICode := .seq n68_21 n68_22
def n68_23 : ICode := .skip
def n68_19 : ICode := .cond (.t 32) n68_20 n68_23
def n68_17 : ICode := .seq n68_18 n68_19
@[simp] def l68_25 : List IOper := [oy 34 (.mv (.t 8)),
  oy 35 (.mv (.t 9)),
  oy 36 (.buildSlice 3 [(.int .i64 0)] 1 [(0, 1, (.t 35))]),
  oy 37 (.append 3 1 8 (.t 34) (.t 36)),
  oy 8 (.mv (.t 37))]
def n68_25 : ICode := .region l68_25
@[simp] def l68_26 : List IOper := [oy 38 (.mv (.t 0)),
  oy 39 (.load true 6 (.t 4)),
  oy 40 (.mv (.t 9)),
  oy 41 (.call (.c (.func (.func 26) #[] #[])) [(.t 39), (.t 40)] true),
  oy 42 (.idxS 1 (.t 38) (.t 41)),
  oy 43 (.load false 1 (.t 42)),
  oy 2 (.mv (.t 43))]
def n68_26 : ICode := .region l68_26
def n68_24 : ICode := .seq n68_25 n68_26
def n68_16 : ICode := .seq n68_17 n68_24
def n68_8 : ICode := .seq n68_9 n68_16
def n68_6 : ICode := .seq n68_7 n68_8
def n68_5 : ICode := .block 1 n68_6
def loop68_0 : ICode := .loop n68_5
def n68_4 : ICode := .block 0 loop68_0
def n68_2 : ICode := .seq n68_3 n68_4
def n68_0 : ICode := .seq n68_1 n68_2
theorem b68 : table.find 68 = some ⟨44, n68_0, [.tmp 6, .tmp 7]⟩ := by kernel_rfl
@[simp] theorem en68_1 : evCode C n68_1 R S = regK (runOps C l68_1 R S) := ev_plain rfl
@[simp] theorem en68_3 : evCode C n68_3 R S = regK (runOps C l68_3 R S) := ev_plain rfl
@[simp] theorem en68_7 : evCode C n68_7 R S = regK (runOps C l68_7 R S) := ev_plain rfl
@[simp] theorem en68_10 : evCode C n68_10 R S = regK (runOps C l68_10 R S) := ev_plain rfl
@[simp] theorem en68_13 : evCode C n68_13 R S = regK (runOps C l68_13 R S) := ev_plain rfl
@[simp] theorem en68_14 : evCode C n68_14 R S = some (.ret, R, S) := (rfl)
@[simp] theorem en68_12 : evCode C n68_12 R S = seqK (evCode C n68_13 R S) fun R S => evCode C n68_14 R S := ev_seq
@[simp] theorem en68_15 : evCode C n68_15 R S = some (.norm, R, S) := (rfl)
@[simp] theorem en68_11 : evCode C n68_11 R S = condK (IV.ev R (.t 30)) (fun _ => evCode C n68_12 R S) fun _ => evCode C n68_15 R S := ev_cond
@[simp] theorem en68_9 : evCode C n68_9 R S = seqK (evCode C n68_10 R S) fun R S => evCode C n68_11 R S := ev_seq
@[simp] theorem en68_18 : evCode C n68_18 R S = regK (runOps C l68_18 R S) := ev_plain rfl
@[simp] theorem en68_21 : evCode C n68_21 R S = regK (runOps C l68_21 R S) := ev_plain rfl
@[simp] theorem en68_22 : evCode C n68_22 R S = some (.ret, R, S) := (rfl)
@[simp] theorem en68_20 : evCode C n68_20 R S = seqK (evCode C n68_21 R S) fun R S => evCode C n68_22 R S := ev_seq
@[simp] theorem en68_23 : evCode C n68_23 R S = some (.norm, R, S) := (rfl)
@[simp] theorem en68_19 : evCode C n68_19 R S = condK (IV.ev R (.t 32)) (fun _ => evCode C n68_20 R S) fun _ => evCode C n68_23 R S := ev_cond
@[simp] theorem en68_17 : evCode C n68_17 R S = seqK (evCode C n68_18 R S) fun R S => evCode C n68_19 R S := ev_seq
@[simp] theorem en68_25 : evCode C n68_25 R S = regK (runOps C l68_25 R S) := ev_plain rfl
@[simp] theorem en68_26 : evCode C n68_26 R S = regK (runOps C l68_26 R S) := ev_plain rfl
@[simp] theorem en68_24 : evCode C n68_24 R S = seqK (evCode C n68_25 R S) fun R S => evCode C n68_26 R S := ev_seq
@[simp] theorem en68_16 : evCode C n68_16 R S = seqK (evCode C n68_17 R S) fun R S => evCode C n68_24 R S := ev_seq
@[simp] theorem en68_8 : evCode C n68_8 R S = seqK (evCode C n68_9 R S) fun R S => evCode C n68_16 R S := ev_seq
@[simp] theorem en68_6 : evCode C n68_6 R S = seqK (evCode C n68_7 R S) fun R S => evCode C n68_8 R S := ev_seq
@[simp] theorem en68_5 : evCode C n68_5 R S = blockK 1 (evCode C n68_6 R S) := ev_block
theorem eloop68_0 : evCode C loop68_0 R S = iter (fun R S => evCode C n68_5 R S) rounds R S := (rfl)
@[simp] theorem en68_4 : evCode C n68_4 R S = blockK 0 (evCode C loop68_0 R S) := ev_block
@[simp] theorem en68_2 : evCode C n68_2 R S = seqK (evCode C n68_3 R S) fun R S => evCode C n68_4 R S := ev_seq
@[simp] theorem en68_0 : evCode C n68_0 R S = seqK (evCode C n68_1 R S) fun R S => evCode C n68_2 R S := ev_seq
theorem q68 {n : Nat} {args : List Value} {S : St} : calls table.find (n + 1) 68 args S = endK S [.tmp 6, .tmp 7] (evCode (calls table.find n) n68_0 (args ++ List.replicate (44 - args.length) undef) S.enter) := call_enter b68

/-! wainscot/wainscotref21.has -/
@[simp] def l69_1 : List IOper := [oy 4 (.mv (.c (.bool false)))]
def n69_1 : ICode := .region l69_1
@[simp] def l69_4 : List IOper := [oy 5 (.mv (.c (.int .i64 0)))]
def n69_4 : ICode := .region l69_4
@[simp] def l69_8 : List IOper := [oy 6 (.mv (.t 5)),
  oy 7 (.mv (.t 0)),
  oy 8 (.lenS (.t 7)),
  oy 9 (.bin .lss .int (.t 6) (.t 8))]
def n69_8 : ICode := .region l69_8
def n69_10 : ICode := .skip
def n69_11 : ICode := .exit 0
def n69_9 : ICode := .cond (.t 9) n69_10 n69_11
def n69_7 : ICode := .seq n69_8 n69_9
@[simp] def l69_15 : List IOper := [oy 12 (.mv (.t 0)),
  oy 13 (.mv (.t 5)),
  oy 14 (.idxS 1 (.t 12) (.t 13)),
  oy 15 (.load false 1 (.t 14)),
  oy 16 (.mv (.t 1)),
  oy 17 (.bin .eql .int (.t 15) (.t 16))]
def n69_15 : ICode := .region l69_15
@[simp] def l69_18 : List IOper := [oy 4 (.mv (.c (.bool true)))]
def n69_18 : ICode := .region l69_18
def n69_19 : ICode := .ret
def n69_17 : ICode := .seq n69_18 n69_19
def n69_20 : ICode := .skip
def n69_16 : ICode := .cond (.t 17) n69_17 n69_20
def n69_14 : ICode := .seq n69_15 n69_16
def n69_13 : ICode := .block 1 n69_14
@[simp] def l69_21 : List IOper := [oy 10 (.mv (.t 5)),
  oy 11 (.bin .add .int (.t 10) (.c (.int .i64 1))),
  oy 5 (.mv (.t 11))]
def n69_21 : ICode := .region l69_21
def n69_12 : ICode := .seq n69_13 n69_21
def n69_6 : ICode := .seq n69_7 n69_12
def loop69_0 : ICode := .loop n69_6
def n69_5 : ICode := .block 0 loop69_0
def n69_3 : ICode := .seq n69_4 n69_5
@[simp] def l69_23 : List IOper := [oy 4 (.mv (.c (.bool false)))]
def n69_23 : ICode := .region l69_23
def n69_24 : ICode := .ret
def n69_22 : ICode := .seq n69_23 n69_24
def n69_2 : ICode := .seq n69_3 n69_22
def n69_0 : ICode := .seq n69_1 n69_2
theorem b69 : table.find 69 = some ⟨18, n69_0, [.tmp 4]⟩ := by kernel_rfl
@[simp] theorem en69_1 : evCode C n69_1 R S = regK (runOps C l69_1 R S) := ev_plain rfl
@[simp] theorem en69_4 : evCode C n69_4 R S = regK (runOps C l69_4 R S) := ev_plain rfl
@[simp] theorem en69_8 : evCode C n69_8 R S = regK (runOps C l69_8 R S) := ev_plain rfl
@[simp] theorem en69_10 : evCode C n69_10 R S = some (.norm, R, S) := (rfl)
@[simp] theorem en69_11 : evCode C n69_11 R S = some (.exit 0, R, S) := (rfl)
@[simp] theorem en69_9 : evCode C n69_9 R S = condK (IV.ev R (.t 9)) (fun _ => evCode C n69_10 R S) fun _ => evCode C n69_11 R S := ev_cond
@[simp] theorem en69_7 : evCode C n69_7 R S = seqK (evCode C n69_8 R S) fun R S => evCode C n69_9 R S := ev_seq
@[simp] theorem en69_15 : evCode C n69_15 R S = regK (runOps C l69_15 R S) := ev_plain rfl
@[simp] theorem en69_18 : evCode C n69_18 R S = regK (runOps C l69_18 R S) := ev_plain rfl
@[simp] theorem en69_19 : evCode C n69_19 R S = some (.ret, R, S) := (rfl)
@[simp] theorem en69_17 : evCode C n69_17 R S = seqK (evCode C n69_18 R S) fun R S => evCode C n69_19 R S := ev_seq
@[simp] theorem en69_20 : evCode C n69_20 R S = some (.norm, R, S) := (rfl)
@[simp] theorem en69_16 : evCode C n69_16 R S = condK (IV.ev R (.t 17)) (fun _ => evCode C n69_17 R S) fun _ => evCode C n69_20 R S := ev_cond
@[simp] theorem en69_14 : evCode C n69_14 R S = seqK (evCode C n69_15 R S) fun R S => evCode C n69_16 R S := ev_seq
@[simp] theorem en69_13 : evCode C n69_13 R S = blockK 1 (evCode C n69_14 R S) := ev_block
@[simp] theorem en69_21 : evCode C n69_21 R S = regK (runOps C l69_21 R S) := ev_plain rfl
@[simp] theorem en69_12 : evCode C n69_12 R S = seqK (evCode C n69_13 R S) fun R S => evCode C n69_21 R S := ev_seq
@[simp] theorem en69_6 : evCode C n69_6 R S = seqK (evCode C n69_7 R S) fun R S => evCode C n69_12 R S := ev_seq
theorem eloop69_0 : evCode C loop69_0 R S = iter (fun R S => evCode C n69_6 R S) rounds R S := (rfl)
@[simp] theorem en69_5 : evCode C n69_5 R S = blockK 0 (evCode C loop69_0 R S) := ev_block
@[simp] theorem en69_3 : evCode C n69_3 R S = seqK (evCode C n69_4 R S) fun R S => evCode C n69_5 R S := ev_seq
@[simp] theorem en69_23 : evCode C n69_23 R S = regK (runOps C l69_23 R S) := ev_plain rfl
@[simp] theorem en69_24 : evCode C n69_24 R S = some (.ret, R, S) := (rfl)
@[simp] theorem en69_22 : evCode C n69_22 R S = seqK (evCode C n69_23 R S) fun R S => evCode C n69_24 R S := ev_seq
@[simp] theorem en69_2 : evCode C n69_2 R S = seqK (evCode C n69_3 R S) fun R S => evCode C n69_22 R S := ev_seq
@[simp] theorem en69_0 : evCode C n69_0 R S = seqK (evCode C n69_1 R S) fun R S => evCode C n69_2 R S := ev_seq
theorem q69 {n : Nat} {args : List Value} {S : St} : calls table.find (n + 1) 69 args S = endK S [.tmp 4] (evCode (calls table.find n) n69_0 (args ++ List.replicate (18 - args.length) undef) S.enter) := call_enter b69

/-! wainscot/wainscotref17.Counts -/
@[simp] def l70_1 : List IOper := [oy 2 (.new 60 [(.int .i64 0), (.int .i64 0), (.bool false), (.bool false)]),
  oy 3 (.mv (.c (.bool false)))]
def n70_1 : ICode := .region l70_1
@[simp] def l70_3 : List IOper := [oy 7 (.mv (.t 0)),
  oy 8 (.bin .rem .int (.t 7) (.c (.int .u64 256))),
  oy 9 (.conv .i64 (.t 8)),
  oy 10 (.mv (.t 0)),
  oy 11 (.bin .quo .int (.t 10) (.c (.int .u64 256))),
  oy 12 (.bin .rem .int (.t 11) (.c (.int .u64 256))),
  oy 13 (.conv .i64 (.t 12)),
  oy 14 (.mv (.t 0)),
  oy 15 (.bin .quo .int (.t 14) (.c (.int .u64 65536))),
  oy 16 (.bin .rem .int (.t 15) (.c (.int .u64 2))),
  oy 17 (.bin .eql .int (.t 16) (.c (.int .u64 1))),
  oy 18 (.mv (.t 0)),
  oy 19 (.bin .quo .int (.t 18) (.c (.int .u64 131072))),
  oy 20 (.bin .rem .int (.t 19) (.c (.int .u64 2))),
  oy 21 (.bin .eql .int (.t 20) (.c (.int .u64 1))),
  oy 22 (.build [(.int .i64 0), (.int .i64 0), (.bool false), (.bool false)] [(0, 1, (.t 9)), (1, 1, (.t 13)), (2, 1, (.t 17)), (3, 1, (.t 21))]),
  oy 4 (.new 60 [(.int .i64 0), (.int .i64 0), (.bool false), (.bool false)]),
  ox (.store 4 (.t 4) (.t 22))]
def n70_3 : ICode := .region l70_3
@[simp] def l70_5 : List IOper := [oy 24 (.load true 4 (.t 4)),
  oy 25 (.call (.c (.func (.func 80) #[] #[])) [(.t 24)] true),
  oy 23 (.mv (.t 25)),
  oy 26 (.extract (.t 23) 0),
  oy 27 (.extract (.t 23) 1),
  oy 5 (.mv (.t 26)),
  oy 6 (.mv (.t 27))]
def n70_5 : ICode := .region l70_5
@[simp] def l70_8 : List IOper := [oy 28 (.mv (.t 6)),
  oy 29 (.bin .neq .int (.t 28) (.c (.int .i64 0))),
  oy 30 (.mv (.t 29)),
  oz 31 30 false (.mv (.t 5)),
  oz 32 30 false (.mv (.t 0)),
  oz 33 30 false (.bin .neq .int (.t 31) (.t 32)),
  oy 34 (.pick (.t 30) (.c (.bool true)) (.t 33))]
def n70_8 : ICode := .region l70_8
@[simp] def l70_11 : List IOper := [oy 35 (.build [(.int .i64 0), (.int .i64 0), (.bool false), (.bool false)] []),
  ox (.store 4 (.t 2) (.t 35)),
  oy 3 (.mv (.c (.bool false)))]
def n70_11 : ICode := .region l70_11
def n70_12 : ICode := .ret
def n70_10 : ICode := .seq n70_11 n70_12
def n70_13 : ICode := .skip
def n70_9 : ICode := .cond (.t 34) n70_10 n70_13
def n70_7 : ICode := .seq n70_8 n70_9
@[simp] def l70_15 : List IOper := [oy 36 (.load true 4 (.t 4)),
  ox (.store 4 (.t 2) (.t 36)),
  oy 3 (.mv (.c (.bool true)))]
def n70_15 : ICode := .region l70_15
def n70_16 : ICode := .ret
def n70_14 : ICode := .seq n70_15 n70_16
def n70_6 : ICode := .seq n70_7 n70_14
def n70_4 : ICode := .seq n70_5 n70_6
def n70_2 : ICode := .seq n70_3 n70_4
def n70_0 : ICode := .seq n70_1 n70_2
theorem b70 : table.find 70 = some ⟨37, n70_0, [.cell 2 true 4, .tmp 3]⟩ := by kernel_rfl
@[simp] theorem en70_1 : evCode C n70_1 R S = regK (runOps C l70_1 R S) := ev_plain rfl
@[simp] theorem en70_3 : evCode C n70_3 R S = regK (runOps C l70_3 R S) := ev_plain rfl
@[simp] theorem en70_5 : evCode C n70_5 R S = regK (runOps C l70_5 R S) := ev_plain rfl
@[simp] theorem en70_8 : evCode C n70_8 R S = regK (runOps C l70_8 R S) := ev_plain rfl
@[simp] theorem en70_11 : evCode C n70_11 R S = regK (runOps C l70_11 R S) := ev_plain rfl
@[simp] theorem en70_12 : evCode C n70_12 R S = some (.ret, R, S) := (rfl)
@[simp] theorem en70_10 : evCode C n70_10 R S = seqK (evCode C n70_11 R S) fun R S => evCode C n70_12 R S := ev_seq
@[simp] theorem en70_13 : evCode C n70_13 R S = some (.norm, R, S) := (rfl)
@[simp] theorem en70_9 : evCode C n70_9 R S = condK (IV.ev R (.t 34)) (fun _ => evCode C n70_10 R S) fun _ => evCode C n70_13 R S := ev_cond
@[simp] theorem en70_7 : evCode C n70_7 R S = seqK (evCode C n70_8 R S) fun R S => evCode C n70_9 R S := ev_seq
@[simp] theorem en70_15 : evCode C n70_15 R S = regK (runOps C l70_15 R S) := ev_plain rfl
@[simp] theorem en70_16 : evCode C n70_16 R S = some (.ret, R, S) := (rfl)
@[simp] theorem en70_14 : evCode C n70_14 R S = seqK (evCode C n70_15 R S) fun R S => evCode C n70_16 R S := ev_seq
@[simp] theorem en70_6 : evCode C n70_6 R S = seqK (evCode C n70_7 R S) fun R S => evCode C n70_14 R S := ev_seq
@[simp] theorem en70_4 : evCode C n70_4 R S = seqK (evCode C n70_5 R S) fun R S => evCode C n70_6 R S := ev_seq
@[simp] theorem en70_2 : evCode C n70_2 R S = seqK (evCode C n70_3 R S) fun R S => evCode C n70_4 R S := ev_seq
@[simp] theorem en70_0 : evCode C n70_0 R S = seqK (evCode C n70_1 R S) fun R S => evCode C n70_2 R S := ev_seq
theorem q70 {n : Nat} {args : List Value} {S : St} : calls table.find (n + 1) 70 args S = endK S [.cell 2 true 4, .tmp 3] (evCode (calls table.find n) n70_0 (args ++ List.replicate (37 - args.length) undef) S.enter) := call_enter b70

/-! wainscot/wainscotref17.Head -/
@[simp] def l77_1 : List IOper := [oy 4 (.mv (.c (.int .u64 0))),
  oy 5 (.mv (.c (.int .i64 0)))]
def n77_1 : ICode := .region l77_1
@[simp] def l77_4 : List IOper := [oy 6 (.mv (.t 0)),
  oy 7 (.bin .eql .int (.t 6) (.c (.int .i64 (-1)))),
  oy 8 (.mv (.t 7)),
  oz 9 8 true (.mv (.t 1)),
  oz 10 8 true (.bin .eql .int (.t 9) (.c (.int .i64 (-1)))),
  oy 11 (.pick (.t 8) (.t 10) (.c (.bool false)))]
def n77_4 : ICode := .region l77_4
@[simp] def l77_7 : List IOper := [oy 4 (.mv (.c (.int .u64 0))),
  oy 5 (.mv (.c (.int .i64 0)))]
def n77_7 : ICode := .region l77_7
def n77_8 : ICode := .ret
def n77_6 : ICode := .seq n77_7 n77_8
def n77_9 : ICode := .skip
def n77_5 : ICode := .cond (.t 11) n77_6 n77_9
def n77_3 : ICode := .seq n77_4 n77_5
@[simp] def l77_12 : List IOper := [oy 12 (.mv (.t 0)),
  oy 13 (.bin .lss .int (.t 12) (.c (.int .i64 0))),
  oy 14 (.mv (.t 13)),
  oz 15 14 false (.mv (.t 0)),
  oz 16 14 false (.bin .geq .int (.t 15) (.c (.int .i64 32))),
  oy 17 (.pick (.t 14) (.c (.bool true)) (.t 16)),
  oy 18 (.mv (.t 17)),
  oz 19 18 false (.mv (.t 1)),
  oz 20 18 false (.bin .lss .int (.t 19) (.c (.int .i64 (-1)))),
  oy 21 (.pick (.t 18) (.c (.bool true)) (.t 20)),
  oy 22 (.mv (.t 21)),
  oz 23 22 false (.mv (.t 1)),
  oz 24 22 false (.bin .geq .int (.t 23) (.c (.int .i64 16))),
  oy 25 (.pick (.t 22) (.c (.bool true)) (.t 24))]
def n77_12 : ICode := .region l77_12
@[simp] def l77_15 : List IOper := [oy 4 (.mv (.c (.int .u64 0))),
  oy 5 (.mv (.c (.int .i64 2)))]
def n77_15 : ICode := .region l77_15
def n77_16 : ICode := .ret
def n77_14 : ICode := .seq n77_15 n77_16
def n77_17 : ICode := .skip
def n77_13 : ICode := .cond (.t 25) n77_14 n77_17
def n77_11 : ICode := .seq n77_12 n77_13
@[simp] def l77_19 : List IOper := [oy 26 (.mv (.t 0)),
  oy 27 (.bin .add .int (.t 26) (.c (.int .i64 1))),
  oy 28 (.bin .mul .int (.c (.int .i64 64)) (.t 27)),
  oy 29 (.mv (.t 1)),
  oy 30 (.bin .add .int (.t 28) (.t 29)),
  oy 31 (.bin .add .int (.t 30) (.c (.int .i64 1))),
  oy 32 (.conv .u64 (.t 31)),
  oy 4 (.mv (.t 32)),
  oy 5 (.mv (.c (.int .i64 0)))]
def n77_19 : ICode := .region l77_19
def n77_20 : ICode := .ret
def n77_18 : ICode := .seq n77_19 n77_20
def n77_10 : ICode := .seq n77_11 n77_18
def n77_2 : ICode := .seq n77_3 n77_10
def n77_0 : ICode := .seq n77_1 n77_2
theorem b77 : table.find 77 = some ⟨33, n77_0, [.tmp 4, .tmp 5]⟩ := by kernel_rfl
@[simp] theorem en77_1 : evCode C n77_1 R S = regK (runOps C l77_1 R S) := ev_plain rfl
@[simp] theorem en77_4 : evCode C n77_4 R S = regK (runOps C l77_4 R S) := ev_plain rfl
@[simp] theorem en77_7 : evCode C n77_7 R S = regK (runOps C l77_7 R S) := ev_plain rfl
@[simp] theorem en77_8 : evCode C n77_8 R S = some (.ret, R, S) := (rfl)
@[simp] theorem en77_6 : evCode C n77_6 R S = seqK (evCode C n77_7 R S) fun R S => evCode C n77_8 R S := ev_seq
@[simp] theorem en77_9 : evCode C n77_9 R S = some (.norm, R, S) := (rfl)
@[simp] theorem en77_5 : evCode C n77_5 R S = condK (IV.ev R (.t 11)) (fun _ => evCode C n77_6 R S) fun _ => evCode C n77_9 R S := ev_cond
@[simp] theorem en77_3 : evCode C n77_3 R S = seqK (evCode C n77_4 R S) fun R S => evCode C n77_5 R S := ev_seq
@[simp] theorem en77_12 : evCode C n77_12 R S = regK (runOps C l77_12 R S) := ev_plain rfl
@[simp] theorem en77_15 : evCode C n77_15 R S = regK (runOps C l77_15 R S) := ev_plain rfl
@[simp] theorem en77_16 : evCode C n77_16 R S = some (.ret, R, S) := (rfl)
@[simp] theorem en77_14 : evCode C n77_14 R S = seqK (evCode C n77_15 R S) fun R S => evCode C n77_16 R S := ev_seq
@[simp] theorem en77_17 : evCode C n77_17 R S = some (.norm, R, S) := (rfl)
@[simp] theorem en77_13 : evCode C n77_13 R S = condK (IV.ev R (.t 25)) (fun _ => evCode C n77_14 R S) fun _ => evCode C n77_17 R S := ev_cond
@[simp] theorem en77_11 : evCode C n77_11 R S = seqK (evCode C n77_12 R S) fun R S => evCode C n77_13 R S := ev_seq
@[simp] theorem en77_19 : evCode C n77_19 R S = regK (runOps C l77_19 R S) := ev_plain rfl
@[simp] theorem en77_20 : evCode C n77_20 R S = some (.ret, R, S) := (rfl)
@[simp] theorem en77_18 : evCode C n77_18 R S = seqK (evCode C n77_19 R S) fun R S => evCode C n77_20 R S := ev_seq
@[simp] theorem en77_10 : evCode C n77_10 R S = seqK (evCode C n77_11 R S) fun R S => evCode C n77_18 R S := ev_seq
@[simp] theorem en77_2 : evCode C n77_2 R S = seqK (evCode C n77_3 R S) fun R S => evCode C n77_10 R S := ev_seq
@[simp] theorem en77_0 : evCode C n77_0 R S = seqK (evCode C n77_1 R S) fun R S => evCode C n77_2 R S := ev_seq
theorem q77 {n : Nat} {args : List Value} {S : St} : calls table.find (n + 1) 77 args S = endK S [.tmp 4, .tmp 5] (evCode (calls table.find n) n77_0 (args ++ List.replicate (33 - args.length) undef) S.enter) := call_enter b77

/-! wainscot/wainscotref16.List -/
@[simp] def l78_1 : List IOper := [oy 6 (.mv (.c (.slice none 0 0))),
  oy 7 (.mv (.c (.int .i64 0)))]
def n78_1 : ICode := .region l78_1
@[simp] def l78_4 : List IOper := [oy 12 (.mv (.t 0)),
  oy 13 (.lenS (.t 12)),
  oy 14 (.bin .gtr .int (.t 13) (.c (.int .i64 16))),
  oy 15 (.mv (.t 14)),
  oz 16 15 false (.mv (.t 2)),
  oz 17 15 false (.bin .lss .int (.t 16) (.c (.int .i64 (-1)))),
  oy 18 (.pick (.t 15) (.c (.bool true)) (.t 17)),
  oy 19 (.mv (.t 18)),
  oz 20 19 false (.mv (.t 2)),
  oz 21 19 false (.mv (.t 0)),
  oz 22 19 false (.lenS (.t 21)),
  oz 23 19 false (.bin .geq .int (.t 20) (.t 22)),
  oy 24 (.pick (.t 19) (.c (.bool true)) (.t 23))]
def n78_4 : ICode := .region l78_4
@[simp] def l78_7 : List IOper := [oy 6 (.mv (.c (.slice none 0 0))),
  oy 7 (.mv (.c (.int .i64 2)))]
def n78_7 : ICode := .region l78_7
def n78_8 : ICode := .ret
def n78_6 : ICode := .seq n78_7 n78_8
def n78_9 : ICode := .skip
def n78_5 : ICode := .cond (.t 24) n78_6 n78_9
def n78_3 : ICode := .seq n78_4 n78_5
@[simp] def l78_11 : List IOper := [oy 8 (.mv (.c (.slice none 0 0)))]
def n78_11 : ICode := .region l78_11
@[simp] def l78_16 : List IOper := [oy 25 (.mv (.t 2)),
  oy 26 (.bin .geq .int (.t 25) (.c (.int .i64 0)))]
def n78_16 : ICode := .region l78_16
def n78_18 : ICode := .skip
def n78_19 : ICode := .exit 0
def n78_17 : ICode := .cond (.t 26) n78_18 n78_19
def n78_15 : ICode := .seq n78_16 n78_17
@[simp] def l78_23 : List IOper := [oy 9 (.mv (.c (.int .i64 0)))]
def n78_23 : ICode := .region l78_23
@[simp] def l78_27 : List IOper := [oy 27 (.mv (.t 9)),
  oy 28 (.mv (.t 8)),
  oy 29 (.lenS (.t 28)),
  oy 30 (.bin .lss .int (.t 27) (.t 29))]
def n78_27 : ICode := .region l78_27
def n78_29 : ICode := .skip
def n78_30 : ICode := .exit 2
def n78_28 : ICode := .cond (.t 30) n78_29 n78_30
def n78_26 : ICode := .seq n78_27 n78_28
@[simp] def l78_34 : List IOper := [oy 33 (.mv (.t 8)),
  oy 34 (.mv (.t 9)),
  oy 35 (.idxS 1 (.t 33) (.t 34)),
  oy 36 (.load false 1 (.t 35)),
  oy 37 (.mv (.t 2)),
  oy 38 (.bin .eql .int (.t 36) (.t 37))]
def n78_34 : ICode := .region l78_34
@[simp] def l78_37 : List IOper := [oy 6 (.mv (.c (.slice none 0 0))),
  oy 7 (.mv (.c (.int .i64 150)))]
def n78_37 : ICode := .region l78_37
def n78_38 : ICode := .ret
def n78_36 : ICode := .seq n78_37 n78_38
def n78_39 : ICode := .skip
def n78_35 : ICode := .cond (.t 38) n78_36 n78_39
def n78_33 : ICode := .seq n78_34 n78_35
def n78_32 : ICode := .block 3 n78_33
@[simp] def l78_40 : List IOper := [oy 31 (.mv (.t 9)),
  oy 32 (.bin .add .int (.t 31) (.c (.int .i64 1))),
  oy 9 (.mv (.t 32))]
def n78_40 : ICode := .region l78_40
def n78_31 : ICode := .seq n78_32 n78_40
def n78_25 : ICode := .seq n78_26 n78_31
def loop78_1 : ICode := .loop n78_25
def n78_24 : ICode := .block 2 loop78_1
def n78_22 : ICode := .seq n78_23 n78_24
@[simp] def l78_42 : List IOper := [oy 39 (.mv (.t 8)),
  oy 40 (.mv (.t 2)),
  oy 41 (.buildSlice 3 [(.int .i64 0)] 1 [(0, 1, (.t 40))]),
  oy 42 (.append 3 1 8 (.t 39) (.t 41)),
  oy 8 (.mv (.t 42))]
def n78_42 : ICode := .region l78_42
@[simp] def l78_44 : List IOper := [oy 44 (.mv (.t 0)),
  oy 45 (.mv (.t 2)),
  oy 46 (.idxS 1 (.t 44) (.t 45)),
  oy 47 (.load false 1 (.t 46)),
  oy 48 (.mv (.t 1)),
  oy 49 (.mv (.t 2)),
  oy 50 (.call (.c (.func (.func 85) #[] #[])) [(.t 47), (.t 48), (.t 49)] true),
  oy 43 (.mv (.t 50)),
  oy 51 (.extract (.t 43) 0),
  oy 52 (.extract (.t 43) 1),
  oy 10 (.mv (.t 51)),
  oy 11 (.mv (.t 52))]
def n78_44 : ICode := .region l78_44
@[simp] def l78_47 : List IOper := [oy 53 (.mv (.t 11)),
  oy 54 (.un .not (.t 53)),
  oy 55 (.mv (.t 54)),
  oz 56 55 false (.mv (.t 10)),
  oz 57 55 false (.mv (.t 0)),
  oz 58 55 false (.lenS (.t 57)),
  oz 59 55 false (.bin .geq .int (.t 56) (.t 58)),
  oy 60 (.pick (.t 55) (.c (.bool true)) (.t 59))]
def n78_47 : ICode := .region l78_47
@[simp] def l78_50 : List IOper := [oy 6 (.mv (.c (.slice none 0 0))),
  oy 7 (.mv (.c (.int .i64 150)))]
def n78_50 : ICode := .region l78_50
def n78_51 : ICode := .ret
def n78_49 : ICode := .seq n78_50 n78_51
def n78_52 : ICode := .skip
def n78_48 : ICode := .cond (.t 60) n78_49 n78_52
def n78_46 : ICode := .seq n78_47 n78_48
@[simp] def l78_53 : List IOper := [oy 61 (.mv (.t 10)),
  oy 2 (.mv (.t 61))]
def n78_53 : ICode := .region l78_53
def n78_45 : ICode := .seq n78_46 n78_53
def n78_43 : ICode := .seq n78_44 n78_45
def n78_41 : ICode := .seq n78_42 n78_43
def n78_21 : ICode := .seq n78_22 n78_41
def n78_20 : ICode := .block 1 n78_21
def n78_14 : ICode := .seq n78_15 n78_20
def loop78_0 : ICode := .loop n78_14
def n78_13 : ICode := .block 0 loop78_0
@[simp] def l78_55 : List IOper := [oy 62 (.mv (.t 8)),
  oy 6 (.mv (.t 62)),
  oy 7 (.mv (.c (.int .i64 0)))]
def n78_55 : ICode := .region l78_55
def n78_56 : ICode := .ret
def n78_54 : ICode := .seq n78_55 n78_56
def n78_12 : ICode := .seq n78_13 n78_54
def n78_10 : ICode := .seq n78_11 n78_12
def n78_2 : ICode := .seq n78_3 n78_10
def n78_0 : ICode := .seq n78_1 n78_2
theorem b78 : table.find 78 = some ⟨63, n78_0, [.tmp 6, .tmp 7]⟩ := by kernel_rfl
@[simp] theorem en78_1 : evCode C n78_1 R S = regK (runOps C l78_1 R S) := ev_plain rfl
@[simp] theorem en78_4 : evCode C n78_4 R S = regK (runOps C l78_4 R S) := ev_plain rfl
@[simp] theorem en78_7 : evCode C n78_7 R S = regK (runOps C l78_7 R S) := ev_plain rfl
@[simp] theorem en78_8 : evCode C n78_8 R S = some (.ret, R, S) := (rfl)
@[simp] theorem en78_6 : evCode C n78_6 R S = seqK (evCode C n78_7 R S) fun R S => evCode C n78_8 R S := ev_seq
@[simp] theorem en78_9 : evCode C n78_9 R S = some (.norm, R, S) := (rfl)
@[simp] theorem en78_5 : evCode C n78_5 R S = condK (IV.ev R (.t 24)) (fun _ => evCode C n78_6 R S) fun _ => evCode C n78_9 R S := ev_cond
@[simp] theorem en78_3 : evCode C n78_3 R S = seqK (evCode C n78_4 R S) fun R S => evCode C n78_5 R S := ev_seq
@[simp] theorem en78_11 : evCode C n78_11 R S = regK (runOps C l78_11 R S) := ev_plain rfl
@[simp] theorem en78_16 : evCode C n78_16 R S = regK (runOps C l78_16 R S) := ev_plain rfl
@[simp] theorem en78_18 : evCode C n78_18 R S = some (.norm, R, S) := (rfl)
@[simp] theorem en78_19 : evCode C n78_19 R S = some (.exit 0, R, S) := (rfl)
@[simp] theorem en78_17 : evCode C n78_17 R S = condK (IV.ev R (.t 26)) (fun _ => evCode C n78_18 R S) fun _ => evCode C n78_19 R S := ev_cond
@[simp] theorem en78_15 : evCode C n78_15 R S = seqK (evCode C n78_16 R S) fun R S => evCode C n78_17 R S := ev_seq
@[simp] theorem en78_23 : evCode C n78_23 R S = regK (runOps C l78_23 R S) := ev_plain rfl
@[simp] theorem en78_27 : evCode C n78_27 R S = regK (runOps C l78_27 R S) := ev_plain rfl
@[simp] theorem en78_29 : evCode C n78_29 R S = some (.norm, R, S) := (rfl)
@[simp] theorem en78_30 : evCode C n78_30 R S = some (.exit 2, R, S) := (rfl)
@[simp] theorem en78_28 : evCode C n78_28 R S = condK (IV.ev R (.t 30)) (fun _ => evCode C n78_29 R S) fun _ => evCode C n78_30 R S := ev_cond
@[simp] theorem en78_26 : evCode C n78_26 R S = seqK (evCode C n78_27 R S) fun R S => evCode C n78_28 R S := ev_seq
@[simp] theorem en78_34 : evCode C n78_34 R S = regK (runOps C l78_34 R S) := ev_plain rfl
@[simp] theorem en78_37 : evCode C n78_37 R S = regK (runOps C l78_37 R S) := ev_plain rfl
@[simp] theorem en78_38 : evCode C n78_38 R S = some (.ret, R, S) := (rfl)
@[simp] theorem en78_36 : evCode C n78_36 R S = seqK (evCode C n78_37 R S) fun R S => evCode C n78_38 R S := ev_seq
@[simp] theorem en78_39 : evCode C n78_39 R S = some (.norm, R, S) := (rfl)
@[simp] theorem en78_35 : evCode C n78_35 R S = condK (IV.ev R (.t 38)) (fun _ => evCode C n78_36 R S) fun _ => evCode C n78_39 R S := ev_cond
@[simp] theorem en78_33 : evCode C n78_33 R S = seqK (evCode C n78_34 R S) fun R S => evCode C n78_35 R S := ev_seq
@[simp] theorem en78_32 : evCode C n78_32 R S = blockK 3 (evCode C n78_33 R S) := ev_block
@[simp] theorem en78_40 : evCode C n78_40 R S = regK (runOps C l78_40 R S) := ev_plain rfl
@[simp] theorem en78_31 : evCode C n78_31 R S = seqK (evCode C n78_32 R S) fun R S => evCode C n78_40 R S := ev_seq
@[simp] theorem en78_25 : evCode C n78_25 R S = seqK (evCode C n78_26 R S) fun R S => evCode C n78_31 R S := ev_seq
theorem eloop78_1 : evCode C loop78_1 R S = iter (fun R S => evCode C n78_25 R S) rounds R S := (rfl)
@[simp] theorem en78_24 : evCode C n78_24 R S = blockK 2 (evCode C loop78_1 R S) := ev_block
@[simp] theorem en78_22 : evCode C n78_22 R S = seqK (evCode C n78_23 R S) fun R S => evCode C n78_24 R S := ev_seq
@[simp] theorem en78_42 : evCode C n78_42 R S = regK (runOps C l78_42 R S) := ev_plain rfl
@[simp] theorem en78_44 : evCode C n78_44 R S = regK (runOps C l78_44 R S) := ev_plain rfl
@[simp] theorem en78_47 : evCode C n78_47 R S = regK (runOps C l78_47 R S) := ev_plain rfl
@[simp] theorem en78_50 : evCode C n78_50 R S = regK (runOps C l78_50 R S) := ev_plain rfl
@[simp] theorem en78_51 : evCode C n78_51 R S = some (.ret, R, S) := (rfl)
@[simp] theorem en78_49 : evCode C n78_49 R S = seqK (evCode C n78_50 R S) fun R S => evCode C n78_51 R S := ev_seq
@[simp] theorem en78_52 : evCode C n78_52 R S = some (.norm, R, S) := (rfl)
@[simp] theorem en78_48 : evCode C n78_48 R S = condK (IV.ev R (.t 60)) (fun _ => evCode C n78_49 R S) fun _ => evCode C n78_52 R S := ev_cond
@[simp] theorem en78_46 : evCode C n78_46 R S = seqK (evCode C n78_47 R S) fun R S => evCode C n78_48 R S := ev_seq
@[simp] theorem en78_53 : evCode C n78_53 R S = regK (runOps C l78_53 R S) := ev_plain rfl
@[simp] theorem en78_45 : evCode C n78_45 R S = seqK (evCode C n78_46 R S) fun R S => evCode C n78_53 R S := ev_seq
@[simp] theorem en78_43 : evCode C n78_43 R S = seqK (evCode C n78_44 R S) fun R S => evCode C n78_45 R S := ev_seq
@[simp] theorem en78_41 : evCode C n78_41 R S = seqK (evCode C n78_42 R S) fun R S => evCode C n78_43 R S := ev_seq
@[simp] theorem en78_21 : evCode C n78_21 R S = seqK (evCode C n78_22 R S) fun R S => evCode C n78_41 R S := ev_seq
@[simp] theorem en78_20 : evCode C n78_20 R S = blockK 1 (evCode C n78_21 R S) := ev_block
@[simp] theorem en78_14 : evCode C n78_14 R S = seqK (evCode C n78_15 R S) fun R S => evCode C n78_20 R S := ev_seq
theorem eloop78_0 : evCode C loop78_0 R S = iter (fun R S => evCode C n78_14 R S) rounds R S := (rfl)
@[simp] theorem en78_13 : evCode C n78_13 R S = blockK 0 (evCode C loop78_0 R S) := ev_block
@[simp] theorem en78_55 : evCode C n78_55 R S = regK (runOps C l78_55 R S) := ev_plain rfl
@[simp] theorem en78_56 : evCode C n78_56 R S = some (.ret, R, S) := (rfl)
@[simp] theorem en78_54 : evCode C n78_54 R S = seqK (evCode C n78_55 R S) fun R S => evCode C n78_56 R S := ev_seq
@[simp] theorem en78_12 : evCode C n78_12 R S = seqK (evCode C n78_13 R S) fun R S => evCode C n78_54 R S := ev_seq
@[simp] theorem en78_10 : evCode C n78_10 R S = seqK (evCode C n78_11 R S) fun R S => evCode C n78_12 R S := ev_seq
@[simp] theorem en78_2 : evCode C n78_2 R S = seqK (evCode C n78_3 R S) fun R S => evCode C n78_10 R S := ev_seq
@[simp] theorem en78_0 : evCode C n78_0 R S = seqK (evCode C n78_1 R S) fun R S => evCode C n78_2 R S := ev_seq
theorem q78 {n : Nat} {args : List Value} {S : St} : calls table.find (n + 1) 78 args S = endK S [.tmp 6, .tmp 7] (evCode (calls table.find n) n78_0 (args ++ List.replicate (63 - args.length) undef) S.enter) := call_enter b78

/-! wainscot/wainscotref17.PartOf -/
@[simp] def l79_1 : List IOper := [oy 2 (.mv (.c (.int .i64 0))),
  oy 3 (.mv (.c (.int .i64 0))),
  oy 4 (.mv (.c (.bool false)))]
def n79_1 : ICode := .region l79_1
@[simp] def l79_4 : List IOper := [oy 9 (.mv (.t 0)),
  oy 10 (.bin .eql .int (.t 9) (.c (.int .u64 0)))]
def n79_4 : ICode := .region l79_4
@[simp] def l79_7 : List IOper := [oy 2 (.mv (.c (.int .i64 (-1)))),
  oy 3 (.mv (.c (.int .i64 0))),
  oy 4 (.mv (.c (.bool true)))]
def n79_7 : ICode := .region l79_7
def n79_8 : ICode := .ret
def n79_6 : ICode := .seq n79_7 n79_8
def n79_9 : ICode := .skip
def n79_5 : ICode := .cond (.t 10) n79_6 n79_9
def n79_3 : ICode := .seq n79_4 n79_5
@[simp] def l79_11 : List IOper := [oy 11 (.mv (.t 0)),
  oy 12 (.bin .rem .int (.t 11) (.c (.int .u64 64))),
  oy 13 (.conv .i64 (.t 12)),
  oy 14 (.bin .sub .int (.t 13) (.c (.int .i64 1))),
  oy 15 (.mv (.t 0)),
  oy 16 (.bin .quo .int (.t 15) (.c (.int .u64 64))),
  oy 17 (.bin .rem .int (.t 16) (.c (.int .u64 64))),
  oy 18 (.conv .i64 (.t 17)),
  oy 5 (.mv (.t 14)),
  oy 6 (.mv (.t 18))]
def n79_11 : ICode := .region l79_11
@[simp] def l79_13 : List IOper := [oy 20 (.mv (.t 5)),
  oy 21 (.mv (.t 6)),
  oy 22 (.call (.c (.func (.func 86) #[] #[])) [(.t 20), (.t 21)] true),
  oy 19 (.mv (.t 22)),
  oy 23 (.extract (.t 19) 0),
  oy 24 (.extract (.t 19) 1),
  oy 7 (.mv (.t 23)),
  oy 8 (.mv (.t 24))]
def n79_13 : ICode := .region l79_13
@[simp] def l79_16 : List IOper := [oy 25 (.mv (.t 8)),
  oy 26 (.bin .neq .int (.t 25) (.c (.int .i64 0))),
  oy 27 (.mv (.t 26)),
  oz 28 27 false (.mv (.t 7)),
  oz 29 27 false (.mv (.t 0)),
  oz 30 27 false (.bin .neq .int (.t 28) (.t 29)),
  oy 31 (.pick (.t 27) (.c (.bool true)) (.t 30))]
def n79_16 : ICode := .region l79_16
@[simp] def l79_19 : List IOper := [oy 2 (.mv (.c (.int .i64 (-1)))),
  oy 3 (.mv (.c (.int .i64 0))),
  oy 4 (.mv (.c (.bool false)))]
def n79_19 : ICode := .region l79_19
def n79_20 : ICode := .ret
def n79_18 : ICode := .seq n79_19 n79_20
def n79_21 : ICode := .skip
def n79_17 : ICode := .cond (.t 31) n79_18 n79_21
def n79_15 : ICode := .seq n79_16 n79_17
@[simp] def l79_23 : List IOper := [oy 32 (.mv (.t 5)),
  oy 33 (.mv (.t 6)),
  oy 2 (.mv (.t 32)),
  oy 3 (.mv (.t 33)),
  oy 4 (.mv (.c (.bool true)))]
def n79_23 : ICode := .region l79_23
def n79_24 : ICode := .ret
def n79_22 : ICode := .seq n79_23 n79_24
def n79_14 : ICode := .seq n79_15 n79_22
def n79_12 : ICode := .seq n79_13 n79_14
def n79_10 : ICode := .seq n79_11 n79_12
def n79_2 : ICode := .seq n79_3 n79_10
def n79_0 : ICode := .seq n79_1 n79_2
theorem b79 : table.find 79 = some ⟨34, n79_0, [.tmp 2, .tmp 3, .tmp 4]⟩ := by kernel_rfl
@[simp] theorem en79_1 : evCode C n79_1 R S = regK (runOps C l79_1 R S) := ev_plain rfl
@[simp] theorem en79_4 : evCode C n79_4 R S = regK (runOps C l79_4 R S) := ev_plain rfl
@[simp] theorem en79_7 : evCode C n79_7 R S = regK (runOps C l79_7 R S) := ev_plain rfl
@[simp] theorem en79_8 : evCode C n79_8 R S = some (.ret, R, S) := (rfl)
@[simp] theorem en79_6 : evCode C n79_6 R S = seqK (evCode C n79_7 R S) fun R S => evCode C n79_8 R S := ev_seq
@[simp] theorem en79_9 : evCode C n79_9 R S = some (.norm, R, S) := (rfl)
@[simp] theorem en79_5 : evCode C n79_5 R S = condK (IV.ev R (.t 10)) (fun _ => evCode C n79_6 R S) fun _ => evCode C n79_9 R S := ev_cond
@[simp] theorem en79_3 : evCode C n79_3 R S = seqK (evCode C n79_4 R S) fun R S => evCode C n79_5 R S := ev_seq
@[simp] theorem en79_11 : evCode C n79_11 R S = regK (runOps C l79_11 R S) := ev_plain rfl
@[simp] theorem en79_13 : evCode C n79_13 R S = regK (runOps C l79_13 R S) := ev_plain rfl
@[simp] theorem en79_16 : evCode C n79_16 R S = regK (runOps C l79_16 R S) := ev_plain rfl
@[simp] theorem en79_19 : evCode C n79_19 R S = regK (runOps C l79_19 R S) := ev_plain rfl
@[simp] theorem en79_20 : evCode C n79_20 R S = some (.ret, R, S) := (rfl)
@[simp] theorem en79_18 : evCode C n79_18 R S = seqK (evCode C n79_19 R S) fun R S => evCode C n79_20 R S := ev_seq
@[simp] theorem en79_21 : evCode C n79_21 R S = some (.norm, R, S) := (rfl)
@[simp] theorem en79_17 : evCode C n79_17 R S = condK (IV.ev R (.t 31)) (fun _ => evCode C n79_18 R S) fun _ => evCode C n79_21 R S := ev_cond
@[simp] theorem en79_15 : evCode C n79_15 R S = seqK (evCode C n79_16 R S) fun R S => evCode C n79_17 R S := ev_seq
@[simp] theorem en79_23 : evCode C n79_23 R S = regK (runOps C l79_23 R S) := ev_plain rfl
@[simp] theorem en79_24 : evCode C n79_24 R S = some (.ret, R, S) := (rfl)
@[simp] theorem en79_22 : evCode C n79_22 R S = seqK (evCode C n79_23 R S) fun R S => evCode C n79_24 R S := ev_seq
@[simp] theorem en79_14 : evCode C n79_14 R S = seqK (evCode C n79_15 R S) fun R S => evCode C n79_22 R S := ev_seq
@[simp] theorem en79_12 : evCode C n79_12 R S = seqK (evCode C n79_13 R S) fun R S => evCode C n79_14 R S := ev_seq
@[simp] theorem en79_10 : evCode C n79_10 R S = seqK (evCode C n79_11 R S) fun R S => evCode C n79_12 R S := ev_seq
@[simp] theorem en79_2 : evCode C n79_2 R S = seqK (evCode C n79_3 R S) fun R S => evCode C n79_10 R S := ev_seq
@[simp] theorem en79_0 : evCode C n79_0 R S = seqK (evCode C n79_1 R S) fun R S => evCode C n79_2 R S := ev_seq
theorem q79 {n : Nat} {args : List Value} {S : St} : calls table.find (n + 1) 79 args S = endK S [.tmp 2, .tmp 3, .tmp 4] (evCode (calls table.find n) n79_0 (args ++ List.replicate (34 - args.length) undef) S.enter) := call_enter b79

/-! wainscot/wainscotref17.Pack -/
@[simp] def l80_1 : List IOper := [oy 1 (.box 60 4 (.t 0)),
  oy 2 (.mv (.c (.int .u64 0))),
  oy 3 (.mv (.c (.int .i64 0)))]
def n80_1 : ICode := .region l80_1
@[simp] def l80_4 : List IOper := [oy 5 (.load true 4 (.t 1)),
  oy 6 (.call (.c (.func (.func 87) #[] #[])) [(.t 5)] true),
  oy 7 (.un .not (.t 6))]
def n80_4 : ICode := .region l80_4
@[simp] def l80_7 : List IOper := [oy 2 (.mv (.c (.int .u64 0))),
  oy 3 (.mv (.c (.int .i64 2)))]
def n80_7 : ICode := .region l80_7
def n80_8 : ICode := .ret
def n80_6 : ICode := .seq n80_7 n80_8
def n80_9 : ICode := .skip
def n80_5 : ICode := .cond (.t 7) n80_6 n80_9
def n80_3 : ICode := .seq n80_4 n80_5
@[simp] def l80_11 : List IOper := [oy 8 (.addOff 0 (.t 1)),
  oy 9 (.load false 1 (.t 8)),
  oy 10 (.conv .u64 (.t 9)),
  oy 11 (.addOff 1 (.t 1)),
  oy 12 (.load false 1 (.t 11)),
  oy 13 (.conv .u64 (.t 12)),
  oy 14 (.bin .mul .int (.c (.int .u64 256)) (.t 13)),
  oy 15 (.bin .add .int (.t 10) (.t 14)),
  oy 4 (.mv (.t 15))]
def n80_11 : ICode := .region l80_11
@[simp] def l80_14 : List IOper := [oy 16 (.addOff 2 (.t 1)),
  oy 17 (.load false 1 (.t 16))]
def n80_14 : ICode := .region l80_14
@[simp] def l80_16 : List IOper := [oy 18 (.mv (.t 4)),
  oy 19 (.bin .add .int (.t 18) (.c (.int .u64 65536))),
  oy 4 (.mv (.t 19))]
def n80_16 : ICode := .region l80_16
def n80_17 : ICode := .skip
def n80_15 : ICode := .cond (.t 17) n80_16 n80_17
def n80_13 : ICode := .seq n80_14 n80_15
@[simp] def l80_20 : List IOper := [oy 20 (.addOff 3 (.t 1)),
  oy 21 (.load false 1 (.t 20))]
def n80_20 : ICode := .region l80_20
@[simp] def l80_22 : List IOper := [oy 22 (.mv (.t 4)),
  oy 23 (.bin .add .int (.t 22) (.c (.int .u64 131072))),
  oy 4 (.mv (.t 23))]
def n80_22 : ICode := .region l80_22
def n80_23 : ICode := .skip
def n80_21 : ICode := .cond (.t 21) n80_22 n80_23
def n80_19 : ICode := .seq n80_20 n80_21
@[simp] def l80_25 : List IOper := [oy 24 (.mv (.t 4)),
  oy 2 (.mv (.t 24)),
  oy 3 (.mv (.c (.int .i64 0)))]
def n80_25 : ICode := .region l80_25
def n80_26 : ICode := .ret
def n80_24 : ICode := .seq n80_25 n80_26
def n80_18 : ICode := .seq n80_19 n80_24
def n80_12 : ICode := .seq n80_13 n80_18
def n80_10 : ICode := .seq n80_11 n80_12
def n80_2 : ICode := .seq n80_3 n80_10
def n80_0 : ICode := .seq n80_1 n80_2
theorem b80 : table.find 80 = some ⟨25, n80_0, [.tmp 2, .tmp 3]⟩ := by kernel_rfl
@[simp] theorem en80_1 : evCode C n80_1 R S = regK (runOps C l80_1 R S) := ev_plain rfl
@[simp] theorem en80_4 : evCode C n80_4 R S = regK (runOps C l80_4 R S) := ev_plain rfl
@[simp] theorem en80_7 : evCode C n80_7 R S = regK (runOps C l80_7 R S) := ev_plain rfl
@[simp] theorem en80_8 : evCode C n80_8 R S = some (.ret, R, S) := (rfl)
@[simp] theorem en80_6 : evCode C n80_6 R S = seqK (evCode C n80_7 R S) fun R S => evCode C n80_8 R S := ev_seq
@[simp] theorem en80_9 : evCode C n80_9 R S = some (.norm, R, S) := (rfl)
@[simp] theorem en80_5 : evCode C n80_5 R S = condK (IV.ev R (.t 7)) (fun _ => evCode C n80_6 R S) fun _ => evCode C n80_9 R S := ev_cond
@[simp] theorem en80_3 : evCode C n80_3 R S = seqK (evCode C n80_4 R S) fun R S => evCode C n80_5 R S := ev_seq
@[simp] theorem en80_11 : evCode C n80_11 R S = regK (runOps C l80_11 R S) := ev_plain rfl
@[simp] theorem en80_14 : evCode C n80_14 R S = regK (runOps C l80_14 R S) := ev_plain rfl
@[simp] theorem en80_16 : evCode C n80_16 R S = regK (runOps C l80_16 R S) := ev_plain rfl
@[simp] theorem en80_17 : evCode C n80_17 R S = some (.norm, R, S) := (rfl)
@[simp] theorem en80_15 : evCode C n80_15 R S = condK (IV.ev R (.t 17)) (fun _ => evCode C n80_16 R S) fun _ => evCode C n80_17 R S := ev_cond
@[simp] theorem en80_13 : evCode C n80_13 R S = seqK (evCode C n80_14 R S) fun R S => evCode C n80_15 R S := ev_seq
@[simp] theorem en80_20 : evCode C n80_20 R S = regK (runOps C l80_20 R S) := ev_plain rfl
@[simp] theorem en80_22 : evCode C n80_22 R S = regK (runOps C l80_22 R S) := ev_plain rfl
@[simp] theorem en80_23 : evCode C n80_23 R S = some (.norm, R, S) := (rfl)
@[simp] theorem en80_21 : evCode C n80_21 R S = condK (IV.ev R (.t 21)) (fun _ => evCode C n80_22 R S) fun _ => evCode C n80_23 R S := ev_cond
@[simp] theorem en80_19 : evCode C n80_19 R S = seqK (evCode C n80_20 R S) fun R S => evCode C n80_21 R S := ev_seq
@[simp] theorem en80_25 : evCode C n80_25 R S = regK (runOps C l80_25 R S) := ev_plain rfl
@[simp] theorem en80_26 : evCode C n80_26 R S = some (.ret, R, S) := (rfl)
@[simp] theorem en80_24 : evCode C n80_24 R S = seqK (evCode C n80_25 R S) fun R S => evCode C n80_26 R S := ev_seq
@[simp] theorem en80_18 : evCode C n80_18 R S = seqK (evCode C n80_19 R S) fun R S => evCode C n80_24 R S := ev_seq
@[simp] theorem en80_12 : evCode C n80_12 R S = seqK (evCode C n80_13 R S) fun R S => evCode C n80_18 R S := ev_seq
@[simp] theorem en80_10 : evCode C n80_10 R S = seqK (evCode C n80_11 R S) fun R S => evCode C n80_12 R S := ev_seq
@[simp] theorem en80_2 : evCode C n80_2 R S = seqK (evCode C n80_3 R S) fun R S => evCode C n80_10 R S := ev_seq
@[simp] theorem en80_0 : evCode C n80_0 R S = seqK (evCode C n80_1 R S) fun R S => evCode C n80_2 R S := ev_seq
theorem q80 {n : Nat} {args : List Value} {S : St} : calls table.find (n + 1) 80 args S = endK S [.tmp 2, .tmp 3] (evCode (calls table.find n) n80_0 (args ++ List.replicate (25 - args.length) undef) S.enter) := call_enter b80

/-! wainscot/wainscotref16.Show -/
@[simp] def l85_1 : List IOper := [oy 6 (.mv (.c (.int .i64 0))),
  oy 7 (.mv (.c (.bool false)))]
def n85_1 : ICode := .region l85_1
@[simp] def l85_4 : List IOper := [oy 9 (.mv (.t 2)),
  oy 10 (.bin .lss .int (.t 9) (.c (.int .i64 0))),
  oy 11 (.mv (.t 10)),
  oz 12 11 false (.mv (.t 2)),
  oz 13 11 false (.bin .geq .int (.t 12) (.c (.int .i64 16))),
  oy 14 (.pick (.t 11) (.c (.bool true)) (.t 13))]
def n85_4 : ICode := .region l85_4
@[simp] def l85_7 : List IOper := [oy 6 (.mv (.c (.int .i64 0))),
  oy 7 (.mv (.c (.bool false)))]
def n85_7 : ICode := .region l85_7
def n85_8 : ICode := .ret
def n85_6 : ICode := .seq n85_7 n85_8
def n85_9 : ICode := .skip
def n85_5 : ICode := .cond (.t 14) n85_6 n85_9
def n85_3 : ICode := .seq n85_4 n85_5
@[simp] def l85_11 : List IOper := [oy 15 (.mv (.t 0)),
  oy 16 (.mv (.t 1)),
  oy 17 (.mv (.t 2)),
  oy 18 (.call (.c (.func (.func 90) #[] #[])) [(.t 16), (.t 17)] true),
  oy 19 (.bin .xor .int (.t 15) (.t 18)),
  oy 8 (.mv (.t 19))]
def n85_11 : ICode := .region l85_11
@[simp] def l85_14 : List IOper := [oy 20 (.mv (.t 8)),
  oy 21 (.bin .gtr .int (.t 20) (.c (.int .u64 16)))]
def n85_14 : ICode := .region l85_14
@[simp] def l85_17 : List IOper := [oy 6 (.mv (.c (.int .i64 0))),
  oy 7 (.mv (.c (.bool false)))]
def n85_17 : ICode := .region l85_17
def n85_18 : ICode := .ret
def n85_16 : ICode := .seq n85_17 n85_18
def n85_19 : ICode := .skip
def n85_15 : ICode := .cond (.t 21) n85_16 n85_19
def n85_13 : ICode := .seq n85_14 n85_15
@[simp] def l85_21 : List IOper := [oy 22 (.mv (.t 8)),
  oy 23 (.conv .i64 (.t 22)),
  oy 24 (.bin .sub .int (.t 23) (.c (.int .i64 1))),
  oy 6 (.mv (.t 24)),
  oy 7 (.mv (.c (.bool true)))]
def n85_21 : ICode := .region l85_21
def n85_22 : ICode := .ret
def n85_20 : ICode := .seq n85_21 n85_22
def n85_12 : ICode := .seq n85_13 n85_20
def n85_10 : ICode := .seq n85_11 n85_12
def n85_2 : ICode := .seq n85_3 n85_10
def n85_0 : ICode := .seq n85_1 n85_2
theorem b85 : table.find 85 = some ⟨25, n85_0, [.tmp 6, .tmp 7]⟩ := by kernel_rfl
@[simp] theorem en85_1 : evCode C n85_1 R S = regK (runOps C l85_1 R S) := ev_plain rfl
@[simp] theorem en85_4 : evCode C n85_4 R S = regK (runOps C l85_4 R S) := ev_plain rfl
@[simp] theorem en85_7 : evCode C n85_7 R S = regK (runOps C l85_7 R S) := ev_plain rfl
@[simp] theorem en85_8 : evCode C n85_8 R S = some (.ret, R, S) := (rfl)
@[simp] theorem en85_6 : evCode C n85_6 R S = seqK (evCode C n85_7 R S) fun R S => evCode C n85_8 R S := ev_seq
@[simp] theorem en85_9 : evCode C n85_9 R S = some (.norm, R, S) := (rfl)
@[simp] theorem en85_5 : evCode C n85_5 R S = condK (IV.ev R (.t 14)) (fun _ => evCode C n85_6 R S) fun _ => evCode C n85_9 R S := ev_cond
@[simp] theorem en85_3 : evCode C n85_3 R S = seqK (evCode C n85_4 R S) fun R S => evCode C n85_5 R S := ev_seq
@[simp] theorem en85_11 : evCode C n85_11 R S = regK (runOps C l85_11 R S) := ev_plain rfl
@[simp] theorem en85_14 : evCode C n85_14 R S = regK (runOps C l85_14 R S) := ev_plain rfl
@[simp] theorem en85_17 : evCode C n85_17 R S = regK (runOps C l85_17 R S) := ev_plain rfl
@[simp] theorem en85_18 : evCode C n85_18 R S = some (.ret, R, S) := (rfl)
@[simp] theorem en85_16 : evCode C n85_16 R S = seqK (evCode C n85_17 R S) fun R S => evCode C n85_18 R S := ev_seq
@[simp] theorem en85_19 : evCode C n85_19 R S = some (.norm, R, S) := (rfl)
@[simp] theorem en85_15 : evCode C n85_15 R S = condK (IV.ev R (.t 21)) (fun _ => evCode C n85_16 R S) fun _ => evCode C n85_19 R S := ev_cond
@[simp] theorem en85_13 : evCode C n85_13 R S = seqK (evCode C n85_14 R S) fun R S => evCode C n85_15 R S := ev_seq
@[simp] theorem en85_21 : evCode C n85_21 R S = regK (runOps C l85_21 R S) := ev_plain rfl
@[simp] theorem en85_22 : evCode C n85_22 R S = some (.ret, R, S) := (rfl)
@[simp] theorem en85_20 : evCode C n85_20 R S = seqK (evCode C n85_21 R S) fun R S => evCode C n85_22 R S := ev_seq
@[simp] theorem en85_12 : evCode C n85_12 R S = seqK (evCode C n85_13 R S) fun R S => evCode C n85_20 R S := ev_seq
@[simp] theorem en85_10 : evCode C n85_10 R S = seqK (evCode C n85_11 R S) fun R S => evCode C n85_12 R S := ev_seq
@[simp] theorem en85_2 : evCode C n85_2 R S = seqK (evCode C n85_3 R S) fun R S => evCode C n85_10 R S := ev_seq
@[simp] theorem en85_0 : evCode C n85_0 R S = seqK (evCode C n85_1 R S) fun R S => evCode C n85_2 R S := ev_seq
theorem q85 {n : Nat} {args : List Value} {S : St} : calls table.find (n + 1) 85 args S = endK S [.tmp 6, .tmp 7] (evCode (calls table.find n) n85_0 (args ++ List.replicate (25 - args.length) undef) S.enter) := call_enter b85

/-! wainscot/wainscotref17.Part -/
@[simp] def l86_1 : List IOper := [oy 4 (.mv (.c (.int .u64 0))),
  oy 5 (.mv (.c (.int .i64 0)))]
def n86_1 : ICode := .region l86_1
@[simp] def l86_4 : List IOper := [oy 6 (.mv (.t 0)),
  oy 7 (.bin .eql .int (.t 6) (.c (.int .i64 (-1)))),
  oy 8 (.mv (.t 7)),
  oz 9 8 true (.mv (.t 1)),
  oz 10 8 true (.bin .eql .int (.t 9) (.c (.int .i64 0))),
  oy 11 (.pick (.t 8) (.t 10) (.c (.bool false)))]
def n86_4 : ICode := .region l86_4
@[simp] def l86_7 : List IOper := [oy 4 (.mv (.c (.int .u64 0))),
  oy 5 (.mv (.c (.int .i64 0)))]
def n86_7 : ICode := .region l86_7
def n86_8 : ICode := .ret
def n86_6 : ICode := .seq n86_7 n86_8
def n86_9 : ICode := .skip
def n86_5 : ICode := .cond (.t 11) n86_6 n86_9
def n86_3 : ICode := .seq n86_4 n86_5
@[simp] def l86_12 : List IOper := [oy 12 (.mv (.t 0)),
  oy 13 (.bin .lss .int (.t 12) (.c (.int .i64 0))),
  oy 14 (.mv (.t 13)),
  oz 15 14 false (.mv (.t 0)),
  oz 16 14 false (.bin .geq .int (.t 15) (.c (.int .i64 32))),
  oy 17 (.pick (.t 14) (.c (.bool true)) (.t 16)),
  oy 18 (.mv (.t 17)),
  oz 19 18 false (.mv (.t 1)),
  oz 20 18 false (.bin .lss .int (.t 19) (.c (.int .i64 1))),
  oy 21 (.pick (.t 18) (.c (.bool true)) (.t 20)),
  oy 22 (.mv (.t 21)),
  oz 23 22 false (.mv (.t 1)),
  oz 24 22 false (.bin .gtr .int (.t 23) (.c (.int .i64 63))),
  oy 25 (.pick (.t 22) (.c (.bool true)) (.t 24))]
def n86_12 : ICode := .region l86_12
@[simp] def l86_15 : List IOper := [oy 4 (.mv (.c (.int .u64 0))),
  oy 5 (.mv (.c (.int .i64 2)))]
def n86_15 : ICode := .region l86_15
def n86_16 : ICode := .ret
def n86_14 : ICode := .seq n86_15 n86_16
def n86_17 : ICode := .skip
def n86_13 : ICode := .cond (.t 25) n86_14 n86_17
def n86_11 : ICode := .seq n86_12 n86_13
@[simp] def l86_19 : List IOper := [oy 26 (.mv (.t 0)),
  oy 27 (.bin .add .int (.t 26) (.c (.int .i64 1))),
  oy 28 (.mv (.t 1)),
  oy 29 (.bin .mul .int (.c (.int .i64 64)) (.t 28)),
  oy 30 (.bin .add .int (.t 27) (.t 29)),
  oy 31 (.conv .u64 (.t 30)),
  oy 4 (.mv (.t 31)),
  oy 5 (.mv (.c (.int .i64 0)))]
def n86_19 : ICode := .region l86_19
def n86_20 : ICode := .ret
def n86_18 : ICode := .seq n86_19 n86_20
def n86_10 : ICode := .seq n86_11 n86_18
def n86_2 : ICode := .seq n86_3 n86_10
def n86_0 : ICode := .seq n86_1 n86_2
theorem b86 : table.find 86 = some ⟨32, n86_0, [.tmp 4, .tmp 5]⟩ := by kernel_rfl
@[simp] theorem en86_1 : evCode C n86_1 R S = regK (runOps C l86_1 R S) := ev_plain rfl
@[simp] theorem en86_4 : evCode C n86_4 R S = regK (runOps C l86_4 R S) := ev_plain rfl
@[simp] theorem en86_7 : evCode C n86_7 R S = regK (runOps C l86_7 R S) := ev_plain rfl
@[simp] theorem en86_8 : evCode C n86_8 R S = some (.ret, R, S) := (rfl)
@[simp] theorem en86_6 : evCode C n86_6 R S = seqK (evCode C n86_7 R S) fun R S => evCode C n86_8 R S := ev_seq
@[simp] theorem en86_9 : evCode C n86_9 R S = some (.norm, R, S) := (rfl)
@[simp] theorem en86_5 : evCode C n86_5 R S = condK (IV.ev R (.t 11)) (fun _ => evCode C n86_6 R S) fun _ => evCode C n86_9 R S := ev_cond
@[simp] theorem en86_3 : evCode C n86_3 R S = seqK (evCode C n86_4 R S) fun R S => evCode C n86_5 R S := ev_seq
@[simp] theorem en86_12 : evCode C n86_12 R S = regK (runOps C l86_12 R S) := ev_plain rfl
@[simp] theorem en86_15 : evCode C n86_15 R S = regK (runOps C l86_15 R S) := ev_plain rfl
@[simp] theorem en86_16 : evCode C n86_16 R S = some (.ret, R, S) := (rfl)
@[simp] theorem en86_14 : evCode C n86_14 R S = seqK (evCode C n86_15 R S) fun R S => evCode C n86_16 R S := ev_seq
@[simp] theorem en86_17 : evCode C n86_17 R S = some (.norm, R, S) := (rfl)
@[simp] theorem en86_13 : evCode C n86_13 R S = condK (IV.ev R (.t 25)) (fun _ => evCode C n86_14 R S) fun _ => evCode C n86_17 R S := ev_cond
@[simp] theorem en86_11 : evCode C n86_11 R S = seqK (evCode C n86_12 R S) fun R S => evCode C n86_13 R S := ev_seq
@[simp] theorem en86_19 : evCode C n86_19 R S = regK (runOps C l86_19 R S) := ev_plain rfl
@[simp] theorem en86_20 : evCode C n86_20 R S = some (.ret, R, S) := (rfl)
@[simp] theorem en86_18 : evCode C n86_18 R S = seqK (evCode C n86_19 R S) fun R S => evCode C n86_20 R S := ev_seq
@[simp] theorem en86_10 : evCode C n86_10 R S = seqK (evCode C n86_11 R S) fun R S => evCode C n86_18 R S := ev_seq
@[simp] theorem en86_2 : evCode C n86_2 R S = seqK (evCode C n86_3 R S) fun R S => evCode C n86_10 R S := ev_seq
@[simp] theorem en86_0 : evCode C n86_0 R S = seqK (evCode C n86_1 R S) fun R S => evCode C n86_2 R S := ev_seq
theorem q86 {n : Nat} {args : List Value} {S : St} : calls table.find (n + 1) 86 args S = endK S [.tmp 4, .tmp 5] (evCode (calls table.find n) n86_0 (args ++ List.replicate (32 - args.length) undef) S.enter) := call_enter b86

/-! wainscot/wainscotref17.may -/
@[simp] def l87_1 : List IOper := [oy 1 (.box 60 4 (.t 0)),
  oy 2 (.mv (.c (.bool false)))]
def n87_1 : ICode := .region l87_1
@[simp] def l87_3 : List IOper := [oy 3 (.load true 4 (.t 1)),
  oy 4 (.build [(.int .i64 0), (.int .i64 0), (.bool false), (.bool false)] []),
  oy 5 (.bin .eql (.plain [(some .i64), (some .i64), none, none]) (.t 3) (.t 4)),
  oy 6 (.mv (.t 5)),
  oz 7 6 false (.addOff 3 (.t 1)),
  oz 8 6 false (.load false 1 (.t 7)),
  oz 9 6 false (.mv (.t 8)),
  oz 10 9 true (.addOff 1 (.t 1)),
  oz 11 9 true (.load false 1 (.t 10)),
  oz 12 9 true (.bin .geq .int (.t 11) (.c (.int .i64 1))),
  oz 13 6 false (.pick (.t 9) (.t 12) (.c (.bool false))),
  oz 14 6 false (.mv (.t 13)),
  oz 15 14 true (.addOff 1 (.t 1)),
  oz 16 14 true (.load false 1 (.t 15)),
  oz 17 14 true (.bin .leq .int (.t 16) (.c (.int .i64 16))),
  oz 18 6 false (.pick (.t 14) (.t 17) (.c (.bool false))),
  oz 19 6 false (.mv (.t 18)),
  oz 20 19 true (.addOff 0 (.t 1)),
  oz 21 19 true (.load false 1 (.t 20)),
  oz 22 19 true (.bin .geq .int (.t 21) (.c (.int .i64 0))),
  oz 23 6 false (.pick (.t 19) (.t 22) (.c (.bool false))),
  oz 24 6 false (.mv (.t 23)),
  oz 25 24 true (.addOff 0 (.t 1)),
  oz 26 24 true (.load false 1 (.t 25)),
  oz 27 24 true (.addOff 1 (.t 1)),
  oz 28 24 true (.load false 1 (.t 27)),
  oz 29 24 true (.bin .leq .int (.t 26) (.t 28)),
  oz 30 6 false (.pick (.t 24) (.t 29) (.c (.bool false))),
  oy 31 (.pick (.t 6) (.c (.bool true)) (.t 30)),
  oy 2 (.mv (.t 31))]
def n87_3 : ICode := .region l87_3
def n87_4 : ICode := .ret
def n87_2 : ICode := .seq n87_3 n87_4
def n87_0 : ICode := .seq n87_1 n87_2
theorem b87 : table.find 87 = some ⟨32, n87_0, [.tmp 2]⟩ := by kernel_rfl
@[simp] theorem en87_1 : evCode C n87_1 R S = regK (runOps C l87_1 R S) := ev_plain rfl
@[simp] theorem en87_3 : evCode C n87_3 R S = regK (runOps C l87_3 R S) := ev_plain rfl
@[simp] theorem en87_4 : evCode C n87_4 R S = some (.ret, R, S) := (rfl)
@[simp] theorem en87_2 : evCode C n87_2 R S = seqK (evCode C n87_3 R S) fun R S => evCode C n87_4 R S := ev_seq
@[simp] theorem en87_0 : evCode C n87_0 R S = seqK (evCode C n87_1 R S) fun R S => evCode C n87_2 R S := ev_seq
theorem q87 {n : Nat} {args : List Value} {S : St} : calls table.find (n + 1) 87 args S = endK S [.tmp 2] (evCode (calls table.find n) n87_0 (args ++ List.replicate (32 - args.length) undef) S.enter) := call_enter b87

/-! wainscot/wainscotref16.turned -/
@[simp] def l90_1 : List IOper := [oy 4 (.mv (.c (.int .u64 0)))]
def n90_1 : ICode := .region l90_1
@[simp] def l90_3 : List IOper := [oy 8 (.mv (.t 0)),
  oy 5 (.mv (.t 8))]
def n90_3 : ICode := .region l90_3
@[simp] def l90_6 : List IOper := [oy 6 (.mv (.c (.int .i64 0)))]
def n90_6 : ICode := .region l90_6
@[simp] def l90_10 : List IOper := [oy 9 (.mv (.t 6)),
  oy 10 (.mv (.t 1)),
  oy 11 (.bin .mul .int (.c (.int .i64 5)) (.t 10)),
  oy 12 (.bin .lss .int (.t 9) (.t 11))]
def n90_10 : ICode := .region l90_10
def n90_12 : ICode := .skip
def n90_13 : ICode := .exit 0
def n90_11 : ICode := .cond (.t 12) n90_12 n90_13
def n90_9 : ICode := .seq n90_10 n90_11
@[simp] def l90_16 : List IOper := [oy 15 (.mv (.t 5)),
  oy 16 (.bin .shl .int (.t 15) (.c (.int .u64 1))),
  oy 17 (.mv (.t 5)),
  oy 18 (.bin .shr .int (.t 17) (.c (.int .u64 63))),
  oy 19 (.bin .or .int (.t 16) (.t 18)),
  oy 5 (.mv (.t 19))]
def n90_16 : ICode := .region l90_16
def n90_15 : ICode := .block 1 n90_16
@[simp] def l90_17 : List IOper := [oy 13 (.mv (.t 6)),
  oy 14 (.bin .add .int (.t 13) (.c (.int .i64 1))),
  oy 6 (.mv (.t 14))]
def n90_17 : ICode := .region l90_17
def n90_14 : ICode := .seq n90_15 n90_17
def n90_8 : ICode := .seq n90_9 n90_14
def loop90_0 : ICode := .loop n90_8
def n90_7 : ICode := .block 0 loop90_0
def n90_5 : ICode := .seq n90_6 n90_7
@[simp] def l90_20 : List IOper := [oy 7 (.mv (.c (.int .i64 0)))]
def n90_20 : ICode := .region l90_20
@[simp] def l90_24 : List IOper := [oy 20 (.mv (.t 7)),
  oy 21 (.mv (.t 1)),
  oy 22 (.bin .lss .int (.t 20) (.t 21))]
def n90_24 : ICode := .region l90_24
def n90_26 : ICode := .skip
def n90_27 : ICode := .exit 2
def n90_25 : ICode := .cond (.t 22) n90_26 n90_27
def n90_23 : ICode := .seq n90_24 n90_25
@[simp] def l90_30 : List IOper := [oy 25 (.mv (.t 5)),
  oy 26 (.bin .add .int (.t 25) (.c (.int .u64 2654435769))),
  oy 5 (.mv (.t 26))]
def n90_30 : ICode := .region l90_30
def n90_29 : ICode := .block 3 n90_30
@[simp] def l90_31 : List IOper := [oy 23 (.mv (.t 7)),
  oy 24 (.bin .add .int (.t 23) (.c (.int .i64 1))),
  oy 7 (.mv (.t 24))]
def n90_31 : ICode := .region l90_31
def n90_28 : ICode := .seq n90_29 n90_31
def n90_22 : ICode := .seq n90_23 n90_28
def loop90_1 : ICode := .loop n90_22
def n90_21 : ICode := .block 2 loop90_1
def n90_19 : ICode := .seq n90_20 n90_21
@[simp] def l90_33 : List IOper := [oy 27 (.mv (.t 5)),
  oy 4 (.mv (.t 27))]
def n90_33 : ICode := .region l90_33
def n90_34 : ICode := .ret
def n90_32 : ICode := .seq n90_33 n90_34
def n90_18 : ICode := .seq n90_19 n90_32
def n90_4 : ICode := .seq n90_5 n90_18
def n90_2 : ICode := .seq n90_3 n90_4
def n90_0 : ICode := .seq n90_1 n90_2
theorem b90 : table.find 90 = some ⟨28, n90_0, [.tmp 4]⟩ := by kernel_rfl
@[simp] theorem en90_1 : evCode C n90_1 R S = regK (runOps C l90_1 R S) := ev_plain rfl
@[simp] theorem en90_3 : evCode C n90_3 R S = regK (runOps C l90_3 R S) := ev_plain rfl
@[simp] theorem en90_6 : evCode C n90_6 R S = regK (runOps C l90_6 R S) := ev_plain rfl
@[simp] theorem en90_10 : evCode C n90_10 R S = regK (runOps C l90_10 R S) := ev_plain rfl
@[simp] theorem en90_12 : evCode C n90_12 R S = some (.norm, R, S) := (rfl)
@[simp] theorem en90_13 : evCode C n90_13 R S = some (.exit 0, R, S) := (rfl)
@[simp] theorem en90_11 : evCode C n90_11 R S = condK (IV.ev R (.t 12)) (fun _ => evCode C n90_12 R S) fun _ => evCode C n90_13 R S := ev_cond
@[simp] theorem en90_9 : evCode C n90_9 R S = seqK (evCode C n90_10 R S) fun R S => evCode C n90_11 R S := ev_seq
@[simp] theorem en90_16 : evCode C n90_16 R S = regK (runOps C l90_16 R S) := ev_plain rfl
@[simp] theorem en90_15 : evCode C n90_15 R S = blockK 1 (evCode C n90_16 R S) := ev_block
@[simp] theorem en90_17 : evCode C n90_17 R S = regK (runOps C l90_17 R S) := ev_plain rfl
@[simp] theorem en90_14 : evCode C n90_14 R S = seqK (evCode C n90_15 R S) fun R S => evCode C n90_17 R S := ev_seq
@[simp] theorem en90_8 : evCode C n90_8 R S = seqK (evCode C n90_9 R S) fun R S => evCode C n90_14 R S := ev_seq
theorem eloop90_0 : evCode C loop90_0 R S = iter (fun R S => evCode C n90_8 R S) rounds R S := (rfl)
@[simp] theorem en90_7 : evCode C n90_7 R S = blockK 0 (evCode C loop90_0 R S) := ev_block
@[simp] theorem en90_5 : evCode C n90_5 R S = seqK (evCode C n90_6 R S) fun R S => evCode C n90_7 R S := ev_seq
@[simp] theorem en90_20 : evCode C n90_20 R S = regK (runOps C l90_20 R S) := ev_plain rfl
@[simp] theorem en90_24 : evCode C n90_24 R S = regK (runOps C l90_24 R S) := ev_plain rfl
@[simp] theorem en90_26 : evCode C n90_26 R S = some (.norm, R, S) := (rfl)
@[simp] theorem en90_27 : evCode C n90_27 R S = some (.exit 2, R, S) := (rfl)
@[simp] theorem en90_25 : evCode C n90_25 R S = condK (IV.ev R (.t 22)) (fun _ => evCode C n90_26 R S) fun _ => evCode C n90_27 R S := ev_cond
@[simp] theorem en90_23 : evCode C n90_23 R S = seqK (evCode C n90_24 R S) fun R S => evCode C n90_25 R S := ev_seq
@[simp] theorem en90_30 : evCode C n90_30 R S = regK (runOps C l90_30 R S) := ev_plain rfl
@[simp] theorem en90_29 : evCode C n90_29 R S = blockK 3 (evCode C n90_30 R S) := ev_block
@[simp] theorem en90_31 : evCode C n90_31 R S = regK (runOps C l90_31 R S) := ev_plain rfl
@[simp] theorem en90_28 : evCode C n90_28 R S = seqK (evCode C n90_29 R S) fun R S => evCode C n90_31 R S := ev_seq
@[simp] theorem en90_22 : evCode C n90_22 R S = seqK (evCode C n90_23 R S) fun R S => evCode C n90_28 R S := ev_seq
theorem eloop90_1 : evCode C loop90_1 R S = iter (fun R S => evCode C n90_22 R S) rounds R S := (rfl)
@[simp] theorem en90_21 : evCode C n90_21 R S = blockK 2 (evCode C loop90_1 R S) := ev_block
@[simp] theorem en90_19 : evCode C n90_19 R S = seqK (evCode C n90_20 R S) fun R S => evCode C n90_21 R S := ev_seq
@[simp] theorem en90_33 : evCode C n90_33 R S = regK (runOps C l90_33 R S) := ev_plain rfl
@[simp] theorem en90_34 : evCode C n90_34 R S = some (.ret, R, S) := (rfl)
@[simp] theorem en90_32 : evCode C n90_32 R S = seqK (evCode C n90_33 R S) fun R S => evCode C n90_34 R S := ev_seq
@[simp] theorem en90_18 : evCode C n90_18 R S = seqK (evCode C n90_19 R S) fun R S => evCode C n90_32 R S := ev_seq
@[simp] theorem en90_4 : evCode C n90_4 R S = seqK (evCode C n90_5 R S) fun R S => evCode C n90_18 R S := ev_seq
@[simp] theorem en90_2 : evCode C n90_2 R S = seqK (evCode C n90_3 R S) fun R S => evCode C n90_4 R S := ev_seq
@[simp] theorem en90_0 : evCode C n90_0 R S = seqK (evCode C n90_1 R S) fun R S => evCode C n90_2 R S := ev_seq
theorem q90 {n : Nat} {args : List Value} {S : St} : calls table.find (n + 1) 90 args S = endK S [.tmp 4] (evCode (calls table.find n) n90_0 (args ++ List.replicate (28 - args.length) undef) S.enter) := call_enter b90

end Go.Proofs.Ytpecefjgadecfaa.Chart
