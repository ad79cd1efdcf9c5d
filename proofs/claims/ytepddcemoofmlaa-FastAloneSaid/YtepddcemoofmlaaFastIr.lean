/- The compact form of the functions that are reached (written by program), and that it is theirs. -/
import Derived.Test.YtepddcemoofmlaaAe28
import Derived.Test.YtepddcemoofmlaaProg
import Derived.KernelRfl
set_option linter.unusedSimpArgs false
set_option linter.unusedVariables false
namespace Go.Proofs.Ytepddcemoofmlaa.Fast
open Go Go.Proofs.Ytepddcemoofmlaa.AE
set_option maxRecDepth 100000
set_option linter.unusedVariables false

def quiet : FuncId → Bool := fun f => [6, 13, 14, 15, 16, 17, 18, 19, 20, 21, 22, 23, 24, 25, 26, 27, 30, 32, 33, 35, 36, 37, 39, 40, 41, 42, 43, 44, 45, 46, 54, 55, 57, 58, 59, 60, 62, 64, 67, 69, 72, 74, 75, 78, 81].contains f

def y (d : Nat) (op : IOp) : IOper := ⟨some d, op, none, [], [], false⟩
def x (op : IOp) : IOper := ⟨none, op, none, [], [], false⟩

/-- wainscot/wainscotlaw22.FastAlone -/
def i3 : IFun := ⟨143,
  (.seq
   (.region [
     y 6 (.mv (.c (.bool false)))])
  (.seq
   (.region [
     y 23 (.mv (.t 0)),
     y 24 (.call (.c (.func (.func 6) #[] #[])) [(.t 23), (.c (.int .i64 16))] true),
     y 25 (.bin .add .int (.c (.int .i64 1)) (.t 24)),
     y 7 (.mv (.t 25))])
  (.seq
   (.region [
     y 27 (.mv (.t 7)),
     y 28 (.mv (.t 1)),
     y 29 (.mv (.t 0)),
     y 30 (.conv .u64 (.t 29)),
     y 31 (.call (.c (.func (.func 7) #[] #[])) [(.t 27), (.c (.int .i64 16)), (.t 28), (.t 30)] false),
     y 26 (.mv (.t 31)),
     y 32 (.extract (.t 26) 0),
     y 33 (.extract (.t 26) 1),
     y 9 (.new 26 [(.int .i64 0), (.int .i64 0), (.int .i64 0), (.int .i64 0), (.int .i64 0), (.int .u64 0)]),
     y 8 (.mv (.t 32)),
     x (.store 6 (.t 9) (.t 33))])
  (.seq
   (.seq
    (.region [
      y 34 (.mv (.t 8)),
      y 35 (.bin .eql .ptr (.t 34) (.c (.pointer none)))])
   (.cond (.t 35)
    (.seq
     (.region [
       y 6 (.mv (.c (.bool false)))])
    .ret)
    .skip))
  (.seq
   (.region [
     y 36 (.mv (.t 2)),
     y 37 (.mv (.t 7)),
     y 38 (.call (.c (.func (.func 6) #[] #[])) [(.t 36), (.t 37)] true),
     y 39 (.bin .add .int (.c (.int .i64 1)) (.t 38)),
     y 10 (.mv (.t 39))])
  (.seq
   (.seq
    (.region [
      y 11 (.mv (.c (.int .i64 0)))])
   (.block 0
    (.loop
     (.seq
      (.seq
       (.region [
         y 40 (.mv (.t 11)),
         y 41 (.mv (.t 10)),
         y 42 (.bin .lss .int (.t 40) (.t 41))])
      (.cond (.t 42)
       .skip
       (.exit 0)))
     (.seq
      (.block 1
       (.seq
        (.region [
          y 46 (.mv (.t 8)),
          y 47 (.load true 6 (.t 9)),
          y 48 (.build [(.int .i64 0), (.int .i64 0), (.int .i64 0), (.int .i64 0), (.int .i64 0), (.int .i64 0), (.int .i64 0), (.int .u64 0), (.int .u64 0), (.int .u64 0), (.int .u64 0), (.int .u64 0), (.int .i64 0), (.int .i64 0), (.int .i64 0), (.int .i64 0), (.int .i64 0)] [(0, 1, (.c (.int .i64 1)))]),
          y 49 (.call (.c (.func (.func 8) #[] #[])) [(.t 46), (.t 47), (.t 48), (.c (.int .i64 9))] false),
          y 45 (.mv (.t 49)),
          y 50 (.extract (.t 45) 0),
          y 51 (.extract (.t 45) 1),
          y 12 (.new 30 [(.int .i64 0), (.int .i64 0), (.int .i64 0), (.int .i64 0), (.int .i64 0), (.int .i64 0), (.int .i64 0), (.int .u64 0), (.int .u64 0), (.int .u64 0), (.int .u64 0), (.int .u64 0), (.int .i64 0), (.int .i64 0), (.int .i64 0), (.int .i64 0), (.int .i64 0)]),
          x (.store 17 (.t 12) (.t 50)),
          y 13 (.mv (.t 51))])
       (.seq
        (.region [
          y 53 (.mv (.t 8)),
          y 54 (.load true 6 (.t 9)),
          y 55 (.call (.c (.func (.func 9) #[] #[])) [(.t 53), (.t 54)] false),
          y 52 (.mv (.t 55)),
          y 56 (.extract (.t 52) 0),
          y 57 (.extract (.t 52) 1),
          y 58 (.extract (.t 52) 2),
          y 14 (.mv (.t 56)),
          y 15 (.mv (.t 57)),
          y 16 (.mv (.t 58))])
       (.seq
        (.region [
          y 59 (.addOff 3 (.t 12)),
          y 60 (.load false 1 (.t 59)),
          y 61 (.bin .neq .int (.t 60) (.c (.int .i64 1))),
          y 62 (.mv (.t 61)),
          ⟨(some 63), .mv (.t 13), (some (62, false)), [], [], false⟩,
          ⟨(some 64), .bin .neq .int (.t 63) (.c (.int .i64 4)), (some (62, false)), [], [], false⟩,
          y 65 (.pick (.t 62) (.c (.bool true)) (.t 64)),
          y 66 (.mv (.t 65)),
          ⟨(some 67), .addOff 6 (.t 12), (some (66, false)), [], [], false⟩,
          ⟨(some 68), .load false 1 (.t 67), (some (66, false)), [], [], false⟩,
          ⟨(some 69), .mv (.t 11), (some (66, false)), [], [], false⟩,
          ⟨(some 70), .bin .neq .int (.t 68) (.t 69), (some (66, false)), [], [], false⟩,
          y 71 (.pick (.t 66) (.c (.bool true)) (.t 70)),
          y 72 (.mv (.t 71)),
          ⟨(some 73), .mv (.t 16), (some (72, false)), [], [], false⟩,
          ⟨(some 74), .un .not (.t 73), (some (72, false)), [], [], false⟩,
          y 75 (.pick (.t 72) (.c (.bool true)) (.t 74)),
          y 76 (.mv (.t 75)),
          ⟨(some 77), .mv (.t 14), (some (76, false)), [], [], false⟩,
          ⟨(some 78), .lenS (.t 77), (some (76, false)), [], [], false⟩,
          ⟨(some 79), .mv (.t 7), (some (76, false)), [], [], false⟩,
          ⟨(some 80), .mv (.t 11), (some (76, false)), [], [], false⟩,
          ⟨(some 81), .bin .sub .int (.t 79) (.t 80), (some (76, false)), [], [], false⟩,
          ⟨(some 82), .bin .sub .int (.t 81) (.c (.int .i64 1)), (some (76, false)), [], [], false⟩,
          ⟨(some 83), .bin .neq .int (.t 78) (.t 82), (some (76, false)), [], [], false⟩,
          y 84 (.pick (.t 76) (.c (.bool true)) (.t 83)),
          y 85 (.mv (.t 84)),
          ⟨(some 86), .mv (.t 15), (some (85, false)), [], [], false⟩,
          ⟨(some 87), .mv (.t 0), (some (85, false)), [], [], false⟩,
          ⟨(some 88), .conv .u64 (.t 87), (some (85, false)), [], [], false⟩,
          ⟨(some 89), .mv (.t 11), (some (85, false)), [], [], false⟩,
          ⟨(some 90), .conv .u64 (.t 89), (some (85, false)), [], [], false⟩,
          ⟨(some 91), .bin .add .int (.t 88) (.t 90), (some (85, false)), [], [], false⟩,
          ⟨(some 92), .bin .add .int (.t 91) (.c (.int .u64 1)), (some (85, false)), [], [], false⟩,
          ⟨(some 93), .bin .neq .int (.t 86) (.t 92), (some (85, false)), [], [], false⟩,
          y 94 (.pick (.t 85) (.c (.bool true)) (.t 93))])
       (.cond (.t 94)
        (.seq
         (.region [
           y 6 (.mv (.c (.bool false)))])
        .ret)
        .skip)))))
     (.region [
       y 43 (.mv (.t 11)),
       y 44 (.bin .add .int (.t 43) (.c (.int .i64 1))),
       y 11 (.mv (.t 44))]))))))
  (.seq
   (.seq
    (.region [
      y 95 (.mv (.t 10)),
      y 96 (.bin .sub .int (.t 95) (.c (.int .i64 1))),
      y 17 (.mv (.t 96))])
   (.block 2
    (.loop
     (.seq
      (.seq
       (.region [
         y 97 (.mv (.t 17)),
         y 98 (.bin .geq .int (.t 97) (.c (.int .i64 0)))])
      (.cond (.t 98)
       .skip
       (.exit 2)))
     (.seq
      (.block 3
       (.seq
        (.region [
          y 102 (.mv (.t 8)),
          y 103 (.load true 6 (.t 9)),
          y 104 (.mv (.t 17)),
          y 105 (.build [(.int .i64 0), (.int .i64 0), (.int .i64 0), (.int .i64 0), (.int .i64 0), (.int .i64 0), (.int .i64 0), (.int .u64 0), (.int .u64 0), (.int .u64 0), (.int .u64 0), (.int .u64 0), (.int .i64 0), (.int .i64 0), (.int .i64 0), (.int .i64 0), (.int .i64 0)] [(0, 1, (.c (.int .i64 2))), (2, 1, (.c (.int .i64 10))), (6, 1, (.t 104))]),
          y 106 (.call (.c (.func (.func 8) #[] #[])) [(.t 102), (.t 103), (.t 105), (.c (.int .i64 9))] false),
          y 101 (.mv (.t 106)),
          y 107 (.extract (.t 101) 0),
          y 108 (.extract (.t 101) 1),
          y 18 (.new 30 [(.int .i64 0), (.int .i64 0), (.int .i64 0), (.int .i64 0), (.int .i64 0), (.int .i64 0), (.int .i64 0), (.int .u64 0), (.int .u64 0), (.int .u64 0), (.int .u64 0), (.int .u64 0), (.int .i64 0), (.int .i64 0), (.int .i64 0), (.int .i64 0), (.int .i64 0)]),
          x (.store 17 (.t 18) (.t 107)),
          y 19 (.mv (.t 108))])
       (.seq
        (.region [
          y 110 (.mv (.t 8)),
          y 111 (.load true 6 (.t 9)),
          y 112 (.call (.c (.func (.func 9) #[] #[])) [(.t 110), (.t 111)] false),
          y 109 (.mv (.t 112)),
          y 113 (.extract (.t 109) 0),
          y 114 (.extract (.t 109) 1),
          y 115 (.extract (.t 109) 2),
          y 20 (.mv (.t 113)),
          y 21 (.mv (.t 114)),
          y 22 (.mv (.t 115))])
       (.seq
        (.region [
          y 116 (.addOff 3 (.t 18)),
          y 117 (.load false 1 (.t 116)),
          y 118 (.bin .neq .int (.t 117) (.c (.int .i64 1))),
          y 119 (.mv (.t 118)),
          ⟨(some 120), .mv (.t 19), (some (119, false)), [], [], false⟩,
          ⟨(some 121), .bin .neq .int (.t 120) (.c (.int .i64 4)), (some (119, false)), [], [], false⟩,
          y 122 (.pick (.t 119) (.c (.bool true)) (.t 121)),
          y 123 (.mv (.t 122)),
          ⟨(some 124), .mv (.t 22), (some (123, false)), [], [], false⟩,
          ⟨(some 125), .un .not (.t 124), (some (123, false)), [], [], false⟩,
          y 126 (.pick (.t 123) (.c (.bool true)) (.t 125)),
          y 127 (.mv (.t 126)),
          ⟨(some 128), .mv (.t 20), (some (127, false)), [], [], false⟩,
          ⟨(some 129), .lenS (.t 128), (some (127, false)), [], [], false⟩,
          ⟨(some 130), .mv (.t 7), (some (127, false)), [], [], false⟩,
          ⟨(some 131), .mv (.t 17), (some (127, false)), [], [], false⟩,
          ⟨(some 132), .bin .sub .int (.t 130) (.t 131), (some (127, false)), [], [], false⟩,
          ⟨(some 133), .bin .neq .int (.t 129) (.t 132), (some (127, false)), [], [], false⟩,
          y 134 (.pick (.t 127) (.c (.bool true)) (.t 133)),
          y 135 (.mv (.t 134)),
          ⟨(some 136), .mv (.t 20), (some (135, false)), [], [], false⟩,
          ⟨(some 137), .idxS 1 (.t 136) (.c (.int .i64 0)), (some (135, false)), [], [], false⟩,
          ⟨(some 138), .load false 1 (.t 137), (some (135, false)), [], [], false⟩,
          ⟨(some 139), .mv (.t 17), (some (135, false)), [], [], false⟩,
          ⟨(some 140), .bin .neq .int (.t 138) (.t 139), (some (135, false)), [], [], false⟩,
          y 141 (.pick (.t 135) (.c (.bool true)) (.t 140))])
       (.cond (.t 141)
        (.seq
         (.region [
           y 6 (.mv (.c (.bool false)))])
        .ret)
        .skip)))))
     (.region [
       y 99 (.mv (.t 17)),
       y 100 (.bin .sub .int (.t 99) (.c (.int .i64 1))),
       y 17 (.mv (.t 100))]))))))
  (.seq
   (.region [
     y 142 (.call (.c (.func (.func 10) #[] #[])) [] false),
     y 6 (.mv (.t 142))])
  .ret)))))))),
  [.tmp 6]⟩

/-- wainscot/wainscotlaw22.FastApart -/
def i4 : IFun := ⟨169,
  (.seq
   (.region [
     y 6 (.mv (.c (.bool false)))])
  (.seq
   (.region [
     y 23 (.mv (.t 0)),
     y 24 (.call (.c (.func (.func 6) #[] #[])) [(.t 23), (.c (.int .i64 9))] true),
     y 7 (.mv (.t 24))])
  (.seq
   (.region [
     y 26 (.mv (.t 7)),
     y 27 (.mv (.t 0)),
     y 28 (.conv .u64 (.t 27)),
     y 29 (.bin .mul .int (.t 28) (.c (.int .u64 77))),
     y 30 (.call (.c (.func (.func 7) #[] #[])) [(.t 26), (.c (.int .i64 10)), (.t 29), (.c (.int .u64 3))] false),
     y 25 (.mv (.t 30)),
     y 31 (.extract (.t 25) 0),
     y 32 (.extract (.t 25) 1),
     y 9 (.new 26 [(.int .i64 0), (.int .i64 0), (.int .i64 0), (.int .i64 0), (.int .i64 0), (.int .u64 0)]),
     y 8 (.mv (.t 31)),
     x (.store 6 (.t 9) (.t 32))])
  (.seq
   (.seq
    (.region [
      y 33 (.mv (.t 8)),
      y 34 (.bin .eql .ptr (.t 33) (.c (.pointer none)))])
   (.cond (.t 34)
    (.seq
     (.region [
       y 6 (.mv (.c (.bool false)))])
    .ret)
    .skip))
  (.seq
   (.region [
     y 35 (.build [(.int .i64 0), (.int .i64 0), (.int .i64 0), (.int .i64 0), (.int .i64 0), (.int .i64 0), (.int .i64 0), (.int .u64 0), (.int .u64 0), (.int .u64 0), (.int .u64 0), (.int .u64 0), (.int .i64 0), (.int .i64 0), (.int .i64 0), (.int .i64 0), (.int .i64 0)] [(0, 1, (.c (.int .i64 1)))]),
     y 36 (.build [(.int .i64 0), (.int .i64 0), (.int .i64 0), (.int .i64 0), (.int .i64 0), (.int .i64 0), (.int .i64 0), (.int .u64 0), (.int .u64 0), (.int .u64 0), (.int .u64 0), (.int .u64 0), (.int .i64 0), (.int .i64 0), (.int .i64 0), (.int .i64 0), (.int .i64 0)] [(0, 1, (.c (.int .i64 1)))]),
     y 37 (.build [(.int .i64 0), (.int .i64 0), (.int .i64 0), (.int .i64 0), (.int .i64 0), (.int .i64 0), (.int .i64 0), (.int .u64 0), (.int .u64 0), (.int .u64 0), (.int .u64 0), (.int .u64 0), (.int .i64 0), (.int .i64 0), (.int .i64 0), (.int .i64 0), (.int .i64 0), (.int .i64 0), (.int .i64 0), (.int .i64 0), (.int .i64 0), (.int .i64 0), (.int .i64 0), (.int .i64 0), (.int .u64 0), (.int .u64 0), (.int .u64 0), (.int .u64 0), (.int .u64 0), (.int .i64 0), (.int .i64 0), (.int .i64 0), (.int .i64 0), (.int .i64 0)] [(0, 17, (.t 35)), (17, 17, (.t 36))]),
     y 10 (.new 39 [(.int .i64 0), (.int .i64 0), (.int .i64 0), (.int .i64 0), (.int .i64 0), (.int .i64 0), (.int .i64 0), (.int .u64 0), (.int .u64 0), (.int .u64 0), (.int .u64 0), (.int .u64 0), (.int .i64 0), (.int .i64 0), (.int .i64 0), (.int .i64 0), (.int .i64 0), (.int .i64 0), (.int .i64 0), (.int .i64 0), (.int .i64 0), (.int .i64 0), (.int .i64 0), (.int .i64 0), (.int .u64 0), (.int .u64 0), (.int .u64 0), (.int .u64 0), (.int .u64 0), (.int .i64 0), (.int .i64 0), (.int .i64 0), (.int .i64 0), (.int .i64 0)]),
     x (.store 34 (.t 10) (.t 37))])
  (.seq
   (.seq
    (.region [
      y 38 (.mv (.t 1))])
   (.cond (.t 38)
    (.region [
      y 39 (.build [(.int .i64 0), (.int .i64 0), (.int .i64 0), (.int .i64 0), (.int .i64 0), (.int .i64 0), (.int .i64 0), (.int .u64 0), (.int .u64 0), (.int .u64 0), (.int .u64 0), (.int .u64 0), (.int .i64 0), (.int .i64 0), (.int .i64 0), (.int .i64 0), (.int .i64 0)] [(0, 1, (.c (.int .i64 2))), (2, 1, (.c (.int .i64 10))), (6, 1, (.c (.int .i64 9)))]),
      y 40 (.idxA 2 17 (.t 10) (.c (.int .i64 1))),
      x (.store 17 (.t 40) (.t 39))])
    .skip))
  (.seq
   (.seq
    (.region [
      y 11 (.mv (.c (.int .i64 0)))])
   (.block 0
    (.loop
     (.seq
      (.seq
       (.region [
         y 41 (.mv (.t 11)),
         y 42 (.bin .lss .int (.t 41) (.c (.int .i64 60)))])
      (.cond (.t 42)
       .skip
       (.exit 0)))
     (.seq
      (.block 1
       (.seq
        (.region [
          y 12 (.mv (.c (.int .i64 0)))])
       (.seq
        (.seq
         (.region [
           y 45 (.mv (.t 11)),
           y 46 (.bin .lss .int (.t 45) (.c (.int .i64 28))),
           y 47 (.mv (.t 46)),
           ⟨(some 48), .mv (.t 11), (some (47, true)), [], [], false⟩,
           ⟨(some 49), .mv (.t 2), (some (47, true)), [], [], false⟩,
           ⟨(some 50), .lenS (.t 49), (some (47, true)), [], [], false⟩,
           ⟨(some 51), .bin .lss .int (.t 48) (.t 50), (some (47, true)), [], [], false⟩,
           y 52 (.pick (.t 47) (.t 51) (.c (.bool false))),
           y 53 (.mv (.t 52)),
           ⟨(some 54), .mv (.t 2), (some (53, true)), [], [], false⟩,
           ⟨(some 55), .mv (.t 11), (some (53, true)), [], [], false⟩,
           ⟨(some 56), .idxS 1 (.t 54) (.t 55), (some (53, true)), [], [], false⟩,
           ⟨(some 57), .load false 1 (.t 56), (some (53, true)), [], [], false⟩,
           y 58 (.pick (.t 53) (.t 57) (.c (.bool false))),
           y 59 (.mv (.t 58)),
           ⟨(some 60), .mv (.t 11), (some (59, false)), [], [], false⟩,
           ⟨(some 61), .bin .geq .int (.t 60) (.c (.int .i64 28)), (some (59, false)), [], [], false⟩,
           ⟨(some 62), .mv (.t 61), (some (59, false)), [], [], false⟩,
           ⟨(some 63), .mv (.t 11), (some (62, false)), [], [], false⟩,
           ⟨(some 64), .mv (.t 2), (some (62, false)), [], [], false⟩,
           ⟨(some 65), .lenS (.t 64), (some (62, false)), [], [], false⟩,
           ⟨(some 66), .bin .geq .int (.t 63) (.t 65), (some (62, false)), [], [], false⟩,
           ⟨(some 67), .pick (.t 62) (.c (.bool true)) (.t 66), (some (59, false)), [], [], false⟩,
           ⟨(some 68), .mv (.t 67), (some (59, false)), [], [], false⟩,
           ⟨(some 69), .mv (.t 11), (some (68, true)), [], [], false⟩,
           ⟨(some 70), .bin .rem .int (.t 69) (.c (.int .i64 2)), (some (68, true)), [], [], false⟩,
           ⟨(some 71), .bin .eql .int (.t 70) (.c (.int .i64 1)), (some (68, true)), [], [], false⟩,
           ⟨(some 72), .pick (.t 68) (.t 71) (.c (.bool false)), (some (59, false)), [], [], false⟩,
           y 73 (.pick (.t 59) (.c (.bool true)) (.t 72))])
        (.cond (.t 73)
         (.region [
           y 12 (.mv (.c (.int .i64 1)))])
         .skip))
       (.seq
        (.region [
          y 75 (.mv (.t 8)),
          y 76 (.load true 6 (.t 9)),
          y 77 (.mv (.t 12)),
          y 78 (.idxA 2 17 (.t 10) (.t 77)),
          y 79 (.load true 17 (.t 78)),
          y 80 (.call (.c (.func (.func 11) #[] #[])) [(.t 75), (.t 76), (.t 79)] false),
          y 74 (.mv (.t 80)),
          y 81 (.extract (.t 74) 0),
          y 82 (.extract (.t 74) 1),
          y 13 (.new 30 [(.int .i64 0), (.int .i64 0), (.int .i64 0), (.int .i64 0), (.int .i64 0), (.int .i64 0), (.int .i64 0), (.int .u64 0), (.int .u64 0), (.int .u64 0), (.int .u64 0), (.int .u64 0), (.int .i64 0), (.int .i64 0), (.int .i64 0), (.int .i64 0), (.int .i64 0)]),
          x (.store 17 (.t 13) (.t 81)),
          y 14 (.mv (.t 82))])
       (.seq
        (.region [
          y 83 (.mv (.t 14)),
          y 84 (.bin .eql .int (.t 83) (.c (.int .i64 0)))])
       (.cond (.t 84)
        (.region [
          y 85 (.mv (.t 12)),
          y 86 (.load true 17 (.t 13)),
          y 87 (.idxA 2 17 (.t 10) (.t 85)),
          x (.store 17 (.t 87) (.t 86))])
        .skip))))))
     (.region [
       y 43 (.mv (.t 11)),
       y 44 (.bin .add .int (.t 43) (.c (.int .i64 1))),
       y 11 (.mv (.t 44))]))))))
  (.seq
   (.region [
     y 89 (.mv (.t 8)),
     y 90 (.load true 6 (.t 9)),
     y 91 (.call (.c (.func (.func 9) #[] #[])) [(.t 89), (.t 90)] false),
     y 88 (.mv (.t 91)),
     y 92 (.extract (.t 88) 0),
     y 93 (.extract (.t 88) 1),
     y 94 (.extract (.t 88) 2),
     y 15 (.mv (.t 92)),
     y 16 (.mv (.t 93)),
     y 17 (.mv (.t 94))])
  (.seq
   (.seq
    (.region [
      y 95 (.mv (.t 17)),
      y 96 (.un .not (.t 95))])
   (.cond (.t 96)
    (.seq
     (.region [
       y 6 (.mv (.c (.bool false)))])
    .ret)
    .skip))
  (.seq
   (.region [
     y 18 (.new 43 [(.int .i64 0), (.int .i64 0), (.int .i64 0), (.int .i64 0), (.int .i64 0), (.int .i64 0), (.int .i64 0), (.int .i64 0), (.int .i64 0), (.int .i64 0)])])
  (.seq
   (.seq
    (.region [
      y 19 (.mv (.c (.int .i64 0)))])
   (.block 2
    (.loop
     (.seq
      (.seq
       (.region [
         y 97 (.mv (.t 19)),
         y 98 (.mv (.t 15)),
         y 99 (.lenS (.t 98)),
         y 100 (.bin .lss .int (.t 97) (.t 99))])
      (.cond (.t 100)
       .skip
       (.exit 2)))
     (.seq
      (.block 3
       (.region [
         y 103 (.mv (.t 15)),
         y 104 (.mv (.t 19)),
         y 105 (.idxS 1 (.t 103) (.t 104)),
         y 106 (.load false 1 (.t 105)),
         y 107 (.call (.c (.func (.func 6) #[] #[])) [(.t 106), (.c (.int .i64 10))] true),
         y 108 (.idxA 10 1 (.t 18) (.t 107)),
         y 109 (.load false 1 (.t 108)),
         y 110 (.bin .add .int (.t 109) (.c (.int .i64 1))),
         y 111 (.idxA 10 1 (.t 18) (.t 107)),
         x (.store 1 (.t 111) (.t 110))]))
     (.region [
       y 101 (.mv (.t 19)),
       y 102 (.bin .add .int (.t 101) (.c (.int .i64 1))),
       y 19 (.mv (.t 102))]))))))
  (.seq
   (.seq
    (.region [
      y 20 (.mv (.c (.int .i64 0)))])
   (.block 4
    (.loop
     (.seq
      (.seq
       (.region [
         y 112 (.mv (.t 20)),
         y 113 (.bin .lss .int (.t 112) (.c (.int .i64 2)))])
      (.cond (.t 113)
       .skip
       (.exit 4)))
     (.seq
      (.block 5
       (.seq
        (.seq
         (.region [
           y 116 (.mv (.t 20)),
           y 117 (.idxA 2 17 (.t 10) (.t 116)),
           y 118 (.addOff 3 (.t 117)),
           y 119 (.load false 1 (.t 118)),
           y 120 (.bin .eql .int (.t 119) (.c (.int .i64 1))),
           y 121 (.mv (.t 120)),
           ⟨(some 122), .mv (.t 20), (some (121, true)), [], [], false⟩,
           ⟨(some 123), .idxA 2 17 (.t 10) (.t 122), (some (121, true)), [], [], false⟩,
           ⟨(some 124), .addOff 0 (.t 123), (some (121, true)), [], [], false⟩,
           ⟨(some 125), .load false 1 (.t 124), (some (121, true)), [], [], false⟩,
           ⟨(some 126), .bin .eql .int (.t 125) (.c (.int .i64 1)), (some (121, true)), [], [], false⟩,
           y 127 (.pick (.t 121) (.t 126) (.c (.bool false)))])
        (.cond (.t 127)
         (.region [
           y 128 (.mv (.t 20)),
           y 129 (.idxA 2 17 (.t 10) (.t 128)),
           y 130 (.addOff 6 (.t 129)),
           y 131 (.load false 1 (.t 130)),
           y 132 (.call (.c (.func (.func 6) #[] #[])) [(.t 131), (.c (.int .i64 10))] true),
           y 133 (.idxA 10 1 (.t 18) (.t 132)),
           y 134 (.load false 1 (.t 133)),
           y 135 (.bin .add .int (.t 134) (.c (.int .i64 1))),
           y 136 (.idxA 10 1 (.t 18) (.t 132)),
           x (.store 1 (.t 136) (.t 135))])
         .skip))
       (.seq
        (.region [
          y 137 (.mv (.t 20)),
          y 138 (.idxA 2 17 (.t 10) (.t 137)),
          y 139 (.addOff 3 (.t 138)),
          y 140 (.load false 1 (.t 139)),
          y 141 (.bin .neq .int (.t 140) (.c (.int .i64 1))),
          y 142 (.mv (.t 141)),
          ⟨(some 143), .mv (.t 20), (some (142, true)), [], [], false⟩,
          ⟨(some 144), .idxA 2 17 (.t 10) (.t 143), (some (142, true)), [], [], false⟩,
          ⟨(some 145), .addOff 2 (.t 144), (some (142, true)), [], [], false⟩,
          ⟨(some 146), .load false 1 (.t 145), (some (142, true)), [], [], false⟩,
          ⟨(some 147), .bin .neq .int (.t 146) (.c (.int .i64 20)), (some (142, true)), [], [], false⟩,
          y 148 (.pick (.t 142) (.t 147) (.c (.bool false)))])
       (.cond (.t 148)
        (.seq
         (.region [
           y 6 (.mv (.c (.bool false)))])
        .ret)
        .skip))))
     (.region [
       y 114 (.mv (.t 20)),
       y 115 (.bin .add .int (.t 114) (.c (.int .i64 1))),
       y 20 (.mv (.t 115))]))))))
  (.seq
   (.seq
    (.region [
      y 21 (.mv (.c (.int .i64 0)))])
   (.block 6
    (.loop
     (.seq
      (.seq
       (.region [
         y 149 (.mv (.t 21)),
         y 150 (.bin .lss .int (.t 149) (.c (.int .i64 10)))])
      (.cond (.t 150)
       .skip
       (.exit 6)))
     (.seq
      (.block 7
       (.seq
        (.region [
          y 22 (.mv (.c (.int .i64 0)))])
       (.seq
        (.seq
         (.region [
           y 153 (.mv (.t 21)),
           y 154 (.mv (.t 7)),
           y 155 (.bin .lss .int (.t 153) (.t 154)),
           y 156 (.mv (.t 155)),
           ⟨(some 157), .mv (.t 21), (some (156, false)), [], [], false⟩,
           ⟨(some 158), .bin .eql .int (.t 157) (.c (.int .i64 9)), (some (156, false)), [], [], false⟩,
           ⟨(some 159), .mv (.t 158), (some (156, false)), [], [], false⟩,
           ⟨(some 160), .mv (.t 1), (some (159, true)), [], [], false⟩,
           ⟨(some 161), .pick (.t 159) (.t 160) (.c (.bool false)), (some (156, false)), [], [], false⟩,
           y 162 (.pick (.t 156) (.c (.bool true)) (.t 161))])
        (.cond (.t 162)
         (.region [
           y 22 (.mv (.c (.int .i64 1)))])
         .skip))
       (.seq
        (.region [
          y 163 (.mv (.t 21)),
          y 164 (.idxA 10 1 (.t 18) (.t 163)),
          y 165 (.load false 1 (.t 164)),
          y 166 (.mv (.t 22)),
          y 167 (.bin .neq .int (.t 165) (.t 166))])
       (.cond (.t 167)
        (.seq
         (.region [
           y 6 (.mv (.c (.bool false)))])
        .ret)
        .skip)))))
     (.region [
       y 151 (.mv (.t 21)),
       y 152 (.bin .add .int (.t 151) (.c (.int .i64 1))),
       y 21 (.mv (.t 152))]))))))
  (.seq
   (.region [
     y 168 (.call (.c (.func (.func 10) #[] #[])) [] false),
     y 6 (.mv (.t 168))])
  .ret)))))))))))))),
  [.tmp 6]⟩

/-- wainscot/wainscotref00.Bring -/
def i6 : IFun := ⟨14,
  (.seq
   (.region [
     y 4 (.mv (.c (.int .i64 0)))])
  (.seq
   (.region [
     y 5 (.mv (.t 0)),
     y 6 (.mv (.t 1)),
     y 7 (.bin .rem .int (.t 5) (.t 6)),
     y 0 (.mv (.t 7))])
  (.seq
   (.seq
    (.region [
      y 8 (.mv (.t 0)),
      y 9 (.bin .lss .int (.t 8) (.c (.int .i64 0)))])
   (.cond (.t 9)
    (.region [
      y 10 (.mv (.t 0)),
      y 11 (.mv (.t 1)),
      y 12 (.bin .add .int (.t 10) (.t 11)),
      y 0 (.mv (.t 12))])
    .skip))
  (.seq
   (.region [
     y 13 (.mv (.t 0)),
     y 4 (.mv (.t 13))])
  .ret)))),
  [.tmp 4]⟩

/-- wainscot/wainscotlaw22.stocked -/
def i7 : IFun := ⟨99,
  (.seq
   (.region [
     y 8 (.mv (.c (.pointer none))),
     y 9 (.new 26 [(.int .i64 0), (.int .i64 0), (.int .i64 0), (.int .i64 0), (.int .i64 0), (.int .u64 0)])])
  (.seq
   (.region [
     y 21 (.mv (.t 1)),
     y 22 (.mv (.t 2)),
     y 23 (.build [(.int .i64 0), (.int .i64 0), (.int .i64 0), (.int .i64 0), (.int .i64 0), (.int .u64 0)] [(0, 1, (.c (.int .i64 1))), (1, 1, (.c (.int .i64 1))), (2, 1, (.t 21)), (5, 1, (.t 22))]),
     y 10 (.new 26 [(.int .i64 0), (.int .i64 0), (.int .i64 0), (.int .i64 0), (.int .i64 0), (.int .u64 0)]),
     x (.store 6 (.t 10) (.t 23))])
  (.seq
   (.region [
     y 25 (.load true 6 (.t 10)),
     y 26 (.call (.c (.func (.func 15) #[] #[])) [(.t 25)] true),
     y 27 (.minmax true (.t 26) [(.c (.int .i64 1))]),
     y 28 (.call (.c (.func (.func 14) #[] #[])) [(.t 27)] true),
     y 24 (.mv (.t 28)),
     y 29 (.extract (.t 24) 0),
     y 30 (.extract (.t 24) 1),
     y 11 (.mv (.t 29)),
     y 12 (.mv (.t 30))])
  (.seq
   (.seq
    (.region [
      y 31 (.mv (.t 12)),
      y 32 (.bin .neq .int (.t 31) (.c (.int .i64 0))),
      y 33 (.mv (.t 32)),
      ⟨(some 34), .mv (.t 11), (some (33, false)), [], [], false⟩,
      ⟨(some 35), .bin .eql .ptr (.t 34) (.c (.pointer none)), (some (33, false)), [], [], false⟩,
      y 36 (.pick (.t 33) (.c (.bool true)) (.t 35))])
   (.cond (.t 36)
    (.seq
     (.region [
       y 37 (.load true 6 (.t 10)),
       y 8 (.mv (.c (.pointer none))),
       x (.store 6 (.t 9) (.t 37))])
    .ret)
    .skip))
  (.seq
   (.region [
     y 39 (.mv (.t 0)),
     y 40 (.minmax true (.t 39) [(.c (.int .i64 1))]),
     y 41 (.load true 6 (.t 10)),
     y 42 (.call (.c (.func (.func 17) #[] #[])) [(.t 41), (.c (.int .i64 0))] true),
     y 43 (.call (.c (.func (.func 16) #[] #[])) [(.t 40), (.t 42)] true),
     y 38 (.mv (.t 43)),
     y 44 (.extract (.t 38) 0),
     y 45 (.extract (.t 38) 1),
     y 13 (.mv (.t 44)),
     y 14 (.mv (.t 45))])
  (.seq
   (.seq
    (.region [
      y 15 (.mv (.c (.int .i64 0)))])
   (.block 0
    (.loop
     (.seq
      (.seq
       (.region [
         y 46 (.mv (.t 15)),
         y 47 (.mv (.t 0)),
         y 48 (.bin .lss .int (.t 46) (.t 47)),
         y 49 (.mv (.t 48)),
         ⟨(some 50), .mv (.t 15), (some (49, true)), [], [], false⟩,
         ⟨(some 51), .mv (.t 13), (some (49, true)), [], [], false⟩,
         ⟨(some 52), .lenS (.t 51), (some (49, true)), [], [], false⟩,
         ⟨(some 53), .bin .lss .int (.t 50) (.t 52), (some (49, true)), [], [], false⟩,
         y 54 (.pick (.t 49) (.t 53) (.c (.bool false)))])
      (.cond (.t 54)
       .skip
       (.exit 0)))
     (.seq
      (.block 1
       (.region [
         y 57 (.mv (.t 11)),
         y 58 (.load true 6 (.t 10)),
         y 59 (.mv (.t 15)),
         y 60 (.call (.c (.func (.func 18) #[] #[])) [(.t 58), (.c (.int .i64 0)), (.t 59)] true),
         y 61 (.mv (.t 13)),
         y 62 (.mv (.t 15)),
         y 63 (.idxS 1 (.t 61) (.t 62)),
         y 64 (.load false 1 (.t 63)),
         y 65 (.call (.c (.func (.func 12) #[] #[])) [(.t 57), (.t 60), (.t 64)] false)]))
     (.region [
       y 55 (.mv (.t 15)),
       y 56 (.bin .add .int (.t 55) (.c (.int .i64 1))),
       y 15 (.mv (.t 56))]))))))
  (.seq
   (.region [
     y 16 (.mv (.c (.int .i64 0)))])
  (.seq
   (.seq
    (.region [
      y 66 (.mv (.t 0)),
      y 67 (.bin .eql .int (.t 66) (.c (.int .i64 0)))])
   (.cond (.t 67)
    (.region [
      y 16 (.mv (.c (.int .i64 (-1))))])
    .skip))
  (.seq
   (.region [
     y 69 (.mv (.t 16)),
     y 70 (.call (.c (.func (.func 19) #[] #[])) [(.c (.int .i64 0)), (.t 69)] true),
     y 68 (.mv (.t 70)),
     y 71 (.extract (.t 68) 0),
     y 72 (.extract (.t 68) 1),
     y 17 (.mv (.t 71)),
     y 18 (.mv (.t 72))])
  (.seq
   (.region [
     y 74 (.mv (.t 1)),
     y 75 (.mv (.t 1)),
     y 76 (.build [(.int .i64 0), (.int .i64 0), (.bool false), (.bool false)] [(0, 1, (.t 74)), (1, 1, (.t 75)), (2, 1, (.c (.bool true))), (3, 1, (.c (.bool true)))]),
     y 77 (.call (.c (.func (.func 20) #[] #[])) [(.t 76)] true),
     y 73 (.mv (.t 77)),
     y 78 (.extract (.t 73) 0),
     y 79 (.extract (.t 73) 1),
     y 19 (.mv (.t 78)),
     y 20 (.mv (.t 79))])
  (.seq
   (.region [
     y 80 (.mv (.t 11)),
     y 81 (.load true 6 (.t 10)),
     y 82 (.call (.c (.func (.func 13) #[] #[])) [(.t 81), (.c (.int .i64 0))] true),
     y 83 (.mv (.t 17)),
     y 84 (.call (.c (.func (.func 12) #[] #[])) [(.t 80), (.t 82), (.t 83)] false)])
  (.seq
   (.region [
     y 85 (.mv (.t 11)),
     y 86 (.load true 6 (.t 10)),
     y 87 (.call (.c (.func (.func 13) #[] #[])) [(.t 86), (.c (.int .i64 0))] true),
     y 88 (.bin .add .int (.t 87) (.c (.int .i64 1))),
     y 89 (.mv (.t 3)),
     y 90 (.call (.c (.func (.func 12) #[] #[])) [(.t 85), (.t 88), (.t 89)] false)])
  (.seq
   (.region [
     y 91 (.mv (.t 11)),
     y 92 (.load true 6 (.t 10)),
     y 93 (.call (.c (.func (.func 21) #[] #[])) [(.t 92), (.c (.int .i64 0))] true),
     y 94 (.bin .add .int (.t 93) (.c (.int .i64 1))),
     y 95 (.mv (.t 19)),
     y 96 (.call (.c (.func (.func 12) #[] #[])) [(.t 91), (.t 94), (.t 95)] false)])
  (.seq
   (.region [
     y 97 (.mv (.t 11)),
     y 98 (.load true 6 (.t 10)),
     y 8 (.mv (.t 97)),
     x (.store 6 (.t 9) (.t 98))])
  .ret)))))))))))))),
  [.tmp 8, .cell 9 true 6]⟩

/-- wainscot/wainscotlaw22.through -/
def i8 : IFun := ⟨38,
  (.seq
   (.region [
     y 5 (.box 26 6 (.t 1)),
     y 6 (.box 30 17 (.t 2)),
     y 8 (.new 30 [(.int .i64 0), (.int .i64 0), (.int .i64 0), (.int .i64 0), (.int .i64 0), (.int .i64 0), (.int .i64 0), (.int .u64 0), (.int .u64 0), (.int .u64 0), (.int .u64 0), (.int .u64 0), (.int .i64 0), (.int .i64 0), (.int .i64 0), (.int .i64 0), (.int .i64 0)]),
     y 9 (.mv (.c (.int .i64 0)))])
  (.seq
   (.seq
    (.region [
      y 10 (.mv (.c (.int .i64 0)))])
   (.block 0
    (.loop
     (.seq
      (.seq
       (.region [
         y 13 (.mv (.t 10)),
         y 14 (.mv (.t 3)),
         y 15 (.bin .lss .int (.t 13) (.t 14))])
      (.cond (.t 15)
       .skip
       (.exit 0)))
     (.seq
      (.block 1
       (.seq
        (.region [
          y 19 (.mv (.t 0)),
          y 20 (.load true 6 (.t 5)),
          y 21 (.load true 17 (.t 6)),
          y 22 (.call (.c (.func (.func 11) #[] #[])) [(.t 19), (.t 20), (.t 21)] false),
          y 18 (.mv (.t 22)),
          y 23 (.extract (.t 18) 0),
          y 24 (.extract (.t 18) 1),
          y 11 (.new 30 [(.int .i64 0), (.int .i64 0), (.int .i64 0), (.int .i64 0), (.int .i64 0), (.int .i64 0), (.int .i64 0), (.int .u64 0), (.int .u64 0), (.int .u64 0), (.int .u64 0), (.int .u64 0), (.int .i64 0), (.int .i64 0), (.int .i64 0), (.int .i64 0), (.int .i64 0)]),
          x (.store 17 (.t 11) (.t 23)),
          y 12 (.mv (.t 24))])
       (.seq
        (.seq
         (.region [
           y 25 (.mv (.t 12)),
           y 26 (.bin .neq .int (.t 25) (.c (.int .i64 0)))])
        (.cond (.t 26)
         (.seq
          (.region [
            y 27 (.load true 17 (.t 6)),
            y 28 (.mv (.t 10)),
            x (.store 17 (.t 8) (.t 27)),
            y 9 (.mv (.t 28))])
         .ret)
         .skip))
       (.seq
        (.region [
          y 29 (.load true 17 (.t 11)),
          x (.store 17 (.t 6) (.t 29))])
       (.seq
        (.region [
          y 30 (.addOff 3 (.t 6)),
          y 31 (.load false 1 (.t 30)),
          y 32 (.bin .neq .int (.t 31) (.c (.int .i64 0)))])
       (.cond (.t 32)
        (.seq
         (.region [
           y 33 (.load true 17 (.t 6)),
           y 34 (.mv (.t 10)),
           y 35 (.bin .add .int (.t 34) (.c (.int .i64 1))),
           x (.store 17 (.t 8) (.t 33)),
           y 9 (.mv (.t 35))])
        .ret)
        .skip))))))
     (.region [
       y 16 (.mv (.t 10)),
       y 17 (.bin .add .int (.t 16) (.c (.int .i64 1))),
       y 10 (.mv (.t 17))]))))))
  (.seq
   (.region [
     y 36 (.load true 17 (.t 6)),
     y 37 (.mv (.t 3)),
     x (.store 17 (.t 8) (.t 36)),
     y 9 (.mv (.t 37))])
  .ret))),
  [.cell 8 true 17, .tmp 9]⟩

/-- wainscot/wainscotlaw22.listed -/
def i9 : IFun := ⟨42,
  (.seq
   (.region [
     y 3 (.box 26 6 (.t 1)),
     y 4 (.mv (.c (.slice none 0 0))),
     y 5 (.mv (.c (.int .u64 0))),
     y 6 (.mv (.c (.bool false)))])
  (.seq
   (.region [
     y 10 (.mv (.t 0)),
     y 11 (.call (.c (.func (.func 23) #[] #[])) [(.t 10)] true),
     y 12 (.load true 6 (.t 3)),
     y 13 (.call (.c (.func (.func 22) #[] #[])) [(.t 11), (.t 12)] true),
     y 9 (.mv (.t 13)),
     y 14 (.extract (.t 9) 0),
     y 15 (.extract (.t 9) 1),
     y 7 (.new 66 [(.slice none 0 0), (.slice none 0 0), (.bool false), (.slice none 0 0)]),
     x (.store 4 (.t 7) (.t 14)),
     y 8 (.mv (.t 15))])
  (.seq
   (.seq
    (.region [
      y 16 (.mv (.t 8)),
      y 17 (.bin .neq .int (.t 16) (.c (.int .i64 0))),
      y 18 (.mv (.t 17)),
      ⟨(some 19), .addOff 0 (.t 7), (some (18, false)), [], [], false⟩,
      ⟨(some 20), .load false 1 (.t 19), (some (18, false)), [], [], false⟩,
      ⟨(some 21), .lenS (.t 20), (some (18, false)), [], [], false⟩,
      ⟨(some 22), .bin .neq .int (.t 21) (.c (.int .i64 1)), (some (18, false)), [], [], false⟩,
      y 23 (.pick (.t 18) (.c (.bool true)) (.t 22)),
      y 24 (.mv (.t 23)),
      ⟨(some 25), .addOff 0 (.t 7), (some (24, false)), [], [], false⟩,
      ⟨(some 26), .load false 1 (.t 25), (some (24, false)), [], [], false⟩,
      ⟨(some 27), .idxS 4 (.t 26) (.c (.int .i64 0)), (some (24, false)), [], [], false⟩,
      ⟨(some 28), .addOff 0 (.t 27), (some (24, false)), [], [], false⟩,
      ⟨(some 29), .load false 1 (.t 28), (some (24, false)), [], [], false⟩,
      ⟨(some 30), .bin .neq .int (.t 29) (.c (.int .i64 0)), (some (24, false)), [], [], false⟩,
      y 31 (.pick (.t 24) (.c (.bool true)) (.t 30))])
   (.cond (.t 31)
    (.seq
     (.region [
       y 4 (.mv (.c (.slice none 0 0))),
       y 5 (.mv (.c (.int .u64 0))),
       y 6 (.mv (.c (.bool false)))])
    .ret)
    .skip))
  (.seq
   (.region [
     y 32 (.addOff 0 (.t 7)),
     y 33 (.load false 1 (.t 32)),
     y 34 (.idxS 4 (.t 33) (.c (.int .i64 0))),
     y 35 (.addOff 1 (.t 34)),
     y 36 (.load false 1 (.t 35)),
     y 37 (.addOff 0 (.t 7)),
     y 38 (.load false 1 (.t 37)),
     y 39 (.idxS 4 (.t 38) (.c (.int .i64 0))),
     y 40 (.addOff 2 (.t 39)),
     y 41 (.load false 1 (.t 40)),
     y 4 (.mv (.t 36)),
     y 5 (.mv (.t 41)),
     y 6 (.mv (.c (.bool true)))])
  .ret)))),
  [.tmp 4, .tmp 5, .tmp 6]⟩

/-- wainscot/wainscotlaw22.works -/
def i10 : IFun := ⟨101,
  (.seq
   (.region [
     y 0 (.mv (.c (.bool false)))])
  (.seq
   (.region [
     y 14 (.call (.c (.func (.func 7) #[] #[])) [(.c (.int .i64 3)), (.c (.int .i64 3)), (.c (.int .u64 0)), (.c (.int .u64 5))] false),
     y 13 (.mv (.t 14)),
     y 15 (.extract (.t 13) 0),
     y 16 (.extract (.t 13) 1),
     y 2 (.new 26 [(.int .i64 0), (.int .i64 0), (.int .i64 0), (.int .i64 0), (.int .i64 0), (.int .u64 0)]),
     y 1 (.mv (.t 15)),
     x (.store 6 (.t 2) (.t 16))])
  (.seq
   (.seq
    (.region [
      y 17 (.mv (.t 1)),
      y 18 (.bin .eql .ptr (.t 17) (.c (.pointer none)))])
   (.cond (.t 18)
    (.seq
     (.region [
       y 0 (.mv (.c (.bool false)))])
    .ret)
    .skip))
  (.seq
   (.region [
     y 20 (.mv (.t 1)),
     y 21 (.load true 6 (.t 2)),
     y 22 (.build [(.int .i64 0), (.int .i64 0), (.int .i64 0), (.int .i64 0), (.int .i64 0), (.int .i64 0), (.int .i64 0), (.int .u64 0), (.int .u64 0), (.int .u64 0), (.int .u64 0), (.int .u64 0), (.int .i64 0), (.int .i64 0), (.int .i64 0), (.int .i64 0), (.int .i64 0)] [(0, 1, (.c (.int .i64 1)))]),
     y 23 (.call (.c (.func (.func 8) #[] #[])) [(.t 20), (.t 21), (.t 22), (.c (.int .i64 9))] false),
     y 19 (.mv (.t 23)),
     y 24 (.extract (.t 19) 0),
     y 25 (.extract (.t 19) 1),
     y 3 (.new 30 [(.int .i64 0), (.int .i64 0), (.int .i64 0), (.int .i64 0), (.int .i64 0), (.int .i64 0), (.int .i64 0), (.int .u64 0), (.int .u64 0), (.int .u64 0), (.int .u64 0), (.int .u64 0), (.int .i64 0), (.int .i64 0), (.int .i64 0), (.int .i64 0), (.int .i64 0)]),
     x (.store 17 (.t 3) (.t 24)),
     y 4 (.mv (.t 25))])
  (.seq
   (.region [
     y 27 (.mv (.t 1)),
     y 28 (.load true 6 (.t 2)),
     y 29 (.call (.c (.func (.func 9) #[] #[])) [(.t 27), (.t 28)] false),
     y 26 (.mv (.t 29)),
     y 30 (.extract (.t 26) 0),
     y 31 (.extract (.t 26) 1),
     y 32 (.extract (.t 26) 2),
     y 5 (.mv (.t 30)),
     y 6 (.mv (.t 31)),
     y 7 (.mv (.t 32))])
  (.seq
   (.region [
     y 34 (.mv (.t 1)),
     y 35 (.load true 6 (.t 2)),
     y 36 (.addOff 5 (.t 3)),
     y 37 (.load false 1 (.t 36)),
     y 38 (.addOff 6 (.t 3)),
     y 39 (.load false 1 (.t 38)),
     y 40 (.build [(.int .i64 0), (.int .i64 0), (.int .i64 0), (.int .i64 0), (.int .i64 0), (.int .i64 0), (.int .i64 0), (.int .u64 0), (.int .u64 0), (.int .u64 0), (.int .u64 0), (.int .u64 0), (.int .i64 0), (.int .i64 0), (.int .i64 0), (.int .i64 0), (.int .i64 0)] [(0, 1, (.c (.int .i64 2))), (2, 1, (.c (.int .i64 10))), (5, 1, (.t 37)), (6, 1, (.t 39))]),
     y 41 (.call (.c (.func (.func 8) #[] #[])) [(.t 34), (.t 35), (.t 40), (.c (.int .i64 9))] false),
     y 33 (.mv (.t 41)),
     y 42 (.extract (.t 33) 0),
     y 43 (.extract (.t 33) 1),
     y 8 (.new 30 [(.int .i64 0), (.int .i64 0), (.int .i64 0), (.int .i64 0), (.int .i64 0), (.int .i64 0), (.int .i64 0), (.int .u64 0), (.int .u64 0), (.int .u64 0), (.int .u64 0), (.int .u64 0), (.int .i64 0), (.int .i64 0), (.int .i64 0), (.int .i64 0), (.int .i64 0)]),
     x (.store 17 (.t 8) (.t 42)),
     y 9 (.mv (.t 43))])
  (.seq
   (.region [
     y 45 (.mv (.t 1)),
     y 46 (.load true 6 (.t 2)),
     y 47 (.call (.c (.func (.func 9) #[] #[])) [(.t 45), (.t 46)] false),
     y 44 (.mv (.t 47)),
     y 48 (.extract (.t 44) 0),
     y 49 (.extract (.t 44) 1),
     y 50 (.extract (.t 44) 2),
     y 10 (.mv (.t 48)),
     y 11 (.mv (.t 49)),
     y 12 (.mv (.t 50))])
  (.seq
   (.region [
     y 51 (.mv (.t 4)),
     y 52 (.bin .eql .int (.t 51) (.c (.int .i64 4))),
     y 53 (.mv (.t 52)),
     ⟨(some 54), .addOff 3 (.t 3), (some (53, true)), [], [], false⟩,
     ⟨(some 55), .load false 1 (.t 54), (some (53, true)), [], [], false⟩,
     ⟨(some 56), .bin .eql .int (.t 55) (.c (.int .i64 1)), (some (53, true)), [], [], false⟩,
     y 57 (.pick (.t 53) (.t 56) (.c (.bool false))),
     y 58 (.mv (.t 57)),
     ⟨(some 59), .addOff 5 (.t 3), (some (58, true)), [], [], false⟩,
     ⟨(some 60), .load false 1 (.t 59), (some (58, true)), [], [], false⟩,
     ⟨(some 61), .bin .eql .int (.t 60) (.c (.int .i64 0)), (some (58, true)), [], [], false⟩,
     y 62 (.pick (.t 58) (.t 61) (.c (.bool false))),
     y 63 (.mv (.t 62)),
     ⟨(some 64), .addOff 6 (.t 3), (some (63, true)), [], [], false⟩,
     ⟨(some 65), .load false 1 (.t 64), (some (63, true)), [], [], false⟩,
     ⟨(some 66), .bin .eql .int (.t 65) (.c (.int .i64 0)), (some (63, true)), [], [], false⟩,
     y 67 (.pick (.t 63) (.t 66) (.c (.bool false))),
     y 68 (.mv (.t 67)),
     ⟨(some 69), .mv (.t 7), (some (68, true)), [], [], false⟩,
     y 70 (.pick (.t 68) (.t 69) (.c (.bool false))),
     y 71 (.mv (.t 70)),
     ⟨(some 72), .mv (.t 5), (some (71, true)), [], [], false⟩,
     ⟨(some 73), .buildSlice 3 [(.int .i64 0), (.int .i64 0)] 2 [(0, 1, (.c (.int .i64 1))), (1, 1, (.c (.int .i64 2)))], (some (71, true)), [], [], false⟩,
     ⟨(some 74), .call (.c (.func (.func 24) #[] #[])) [(.t 72), (.t 73)] true, (some (71, true)), [], [], false⟩,
     y 75 (.pick (.t 71) (.t 74) (.c (.bool false))),
     y 76 (.mv (.t 75)),
     ⟨(some 77), .mv (.t 6), (some (76, true)), [], [], false⟩,
     ⟨(some 78), .bin .eql .int (.t 77) (.c (.int .u64 6)), (some (76, true)), [], [], false⟩,
     y 79 (.pick (.t 76) (.t 78) (.c (.bool false))),
     y 80 (.mv (.t 79)),
     ⟨(some 81), .mv (.t 9), (some (80, true)), [], [], false⟩,
     ⟨(some 82), .bin .eql .int (.t 81) (.c (.int .i64 4)), (some (80, true)), [], [], false⟩,
     y 83 (.pick (.t 80) (.t 82) (.c (.bool false))),
     y 84 (.mv (.t 83)),
     ⟨(some 85), .addOff 3 (.t 8), (some (84, true)), [], [], false⟩,
     ⟨(some 86), .load false 1 (.t 85), (some (84, true)), [], [], false⟩,
     ⟨(some 87), .bin .eql .int (.t 86) (.c (.int .i64 1)), (some (84, true)), [], [], false⟩,
     y 88 (.pick (.t 84) (.t 87) (.c (.bool false))),
     y 89 (.mv (.t 88)),
     ⟨(some 90), .mv (.t 12), (some (89, true)), [], [], false⟩,
     y 91 (.pick (.t 89) (.t 90) (.c (.bool false))),
     y 92 (.mv (.t 91)),
     ⟨(some 93), .mv (.t 10), (some (92, true)), [], [], false⟩,
     ⟨(some 94), .buildSlice 3 [(.int .i64 0), (.int .i64 0), (.int .i64 0)] 3 [(0, 1, (.c (.int .i64 0))), (1, 1, (.c (.int .i64 1))), (2, 1, (.c (.int .i64 2)))], (some (92, true)), [], [], false⟩,
     ⟨(some 95), .call (.c (.func (.func 24) #[] #[])) [(.t 93), (.t 94)] true, (some (92, true)), [], [], false⟩,
     y 96 (.pick (.t 92) (.t 95) (.c (.bool false))),
     y 97 (.mv (.t 96)),
     ⟨(some 98), .mv (.t 11), (some (97, true)), [], [], false⟩,
     ⟨(some 99), .bin .eql .int (.t 98) (.c (.int .u64 7)), (some (97, true)), [], [], false⟩,
     y 100 (.pick (.t 97) (.t 99) (.c (.bool false))),
     y 0 (.mv (.t 100))])
  .ret)))))))),
  [.tmp 0]⟩

/-- wainscot/fast.Step -/
def i11 : IFun := ⟨59,
  (.seq
   (.region [
     y 4 (.box 26 6 (.t 1)),
     y 5 (.box 30 17 (.t 2)),
     y 6 (.new 30 [(.int .i64 0), (.int .i64 0), (.int .i64 0), (.int .i64 0), (.int .i64 0), (.int .i64 0), (.int .i64 0), (.int .u64 0), (.int .u64 0), (.int .u64 0), (.int .u64 0), (.int .u64 0), (.int .i64 0), (.int .i64 0), (.int .i64 0), (.int .i64 0), (.int .i64 0)]),
     y 7 (.mv (.c (.int .i64 0)))])
  (.seq
   (.block 0
    (.seq
     (.region [
       y 12 (.mv (.t 0)),
       y 13 (.call (.c (.func (.func 25) #[] #[])) [(.t 12)] true),
       y 14 (.bin .eql .int (.t 13) (.c (.int .i64 0))),
       y 11 (.mv (.t 14))])
    (.cond (.t 11)
     (.seq
      (.region [
        y 15 (.build [(.int .i64 0), (.int .i64 0), (.int .i64 0), (.int .i64 0), (.int .i64 0), (.int .i64 0), (.int .i64 0), (.int .u64 0), (.int .u64 0), (.int .u64 0), (.int .u64 0), (.int .u64 0), (.int .i64 0), (.int .i64 0), (.int .i64 0), (.int .i64 0), (.int .i64 0)] []),
        x (.store 17 (.t 6) (.t 15)),
        y 7 (.mv (.c (.int .i64 1)))])
     .ret)
     (.seq
      (.region [
        y 17 (.load true 6 (.t 4)),
        y 18 (.call (.c (.func (.func 26) #[] #[])) [(.t 17)] true),
        y 19 (.bin .neq .int (.t 18) (.c (.int .i64 0))),
        y 16 (.mv (.t 19))])
     (.cond (.t 16)
      (.seq
       (.region [
         y 20 (.build [(.int .i64 0), (.int .i64 0), (.int .i64 0), (.int .i64 0), (.int .i64 0), (.int .i64 0), (.int .i64 0), (.int .u64 0), (.int .u64 0), (.int .u64 0), (.int .u64 0), (.int .u64 0), (.int .i64 0), (.int .i64 0), (.int .i64 0), (.int .i64 0), (.int .i64 0)] []),
         x (.store 17 (.t 6) (.t 20)),
         y 7 (.mv (.c (.int .i64 2)))])
      .ret)
      .skip)))))
  (.seq
   (.region [
     y 22 (.call (.c (.func (.func 27) #[] #[])) [] true),
     y 23 (.addOff 2 (.t 5)),
     y 24 (.load false 1 (.t 23)),
     y 25 (.lookup .nilFunc true (.t 22) (.t 24)),
     y 21 (.mv (.t 25)),
     y 26 (.extract (.t 21) 0),
     y 27 (.extract (.t 21) 1),
     y 8 (.mv (.t 26)),
     y 9 (.mv (.t 27))])
  (.seq
   (.seq
    (.region [
      y 28 (.mv (.t 9)),
      y 29 (.un .not (.t 28)),
      y 30 (.mv (.t 29)),
      ⟨(some 31), .addOff 3 (.t 5), (some (30, false)), [], [], false⟩,
      ⟨(some 32), .load false 1 (.t 31), (some (30, false)), [], [], false⟩,
      ⟨(some 33), .bin .neq .int (.t 32) (.c (.int .i64 0)), (some (30, false)), [], [], false⟩,
      y 34 (.pick (.t 30) (.c (.bool true)) (.t 33)),
      y 35 (.mv (.t 34)),
      ⟨(some 36), .addOff 4 (.t 5), (some (35, false)), [], [], false⟩,
      ⟨(some 37), .load false 1 (.t 36), (some (35, false)), [], [], false⟩,
      ⟨(some 38), .bin .neq .int (.t 37) (.c (.int .i64 0)), (some (35, false)), [], [], false⟩,
      y 39 (.pick (.t 35) (.c (.bool true)) (.t 38))])
   (.cond (.t 39)
    (.seq
     (.region [
       y 40 (.build [(.int .i64 0), (.int .i64 0), (.int .i64 0), (.int .i64 0), (.int .i64 0), (.int .i64 0), (.int .i64 0), (.int .u64 0), (.int .u64 0), (.int .u64 0), (.int .u64 0), (.int .u64 0), (.int .i64 0), (.int .i64 0), (.int .i64 0), (.int .i64 0), (.int .i64 0)] []),
       x (.store 17 (.t 6) (.t 40)),
       y 7 (.mv (.c (.int .i64 292)))])
    .ret)
    .skip))
  (.seq
   (.region [
     y 41 (.mv (.t 0)),
     y 42 (.load true 6 (.t 4)),
     y 43 (.load true 17 (.t 5)),
     y 44 (.build [(.pointer none), (.int .i64 0), (.int .i64 0), (.int .i64 0), (.int .i64 0), (.int .i64 0), (.int .u64 0), (.int .i64 0), (.int .i64 0), (.int .i64 0), (.int .i64 0), (.int .i64 0), (.int .i64 0), (.int .i64 0), (.int .u64 0), (.int .u64 0), (.int .u64 0), (.int .u64 0), (.int .u64 0), (.int .i64 0), (.int .i64 0), (.int .i64 0), (.int .i64 0), (.int .i64 0), (.bool false)] [(0, 1, (.t 41)), (1, 6, (.t 42)), (7, 17, (.t 43))]),
     y 45 (.box 81 25 (.t 44)),
     y 10 (.mv (.t 45))])
  (.seq
   (.seq
    (.region [
      y 46 (.mv (.t 8)),
      y 47 (.mv (.t 10)),
      y 48 (.call (.t 46) [(.t 47)] false)])
   (.seq
    (.region [
      y 49 (.mv (.t 10)),
      y 50 (.nilCheck (.t 49)),
      y 51 (.addOff 24 (.t 50)),
      y 52 (.load false 1 (.t 51))])
   (.cond (.t 52)
    (.seq
     (.region [
       y 53 (.addOff 3 (.t 5)),
       x (.store 1 (.t 53) (.c (.int .i64 3)))])
    (.seq
     (.region [
       y 54 (.load true 17 (.t 5)),
       x (.store 17 (.t 6) (.t 54)),
       y 7 (.mv (.c (.int .i64 0)))])
    .ret))
    .skip)))
  (.seq
   (.region [
     y 55 (.mv (.t 10)),
     y 56 (.nilCheck (.t 55)),
     y 57 (.addOff 7 (.t 56)),
     y 58 (.load true 17 (.t 57)),
     x (.store 17 (.t 6) (.t 58)),
     y 7 (.mv (.c (.int .i64 0)))])
  .ret))))))),
  [.cell 6 true 17, .tmp 7]⟩

/-- (*wainscot/mem.Mem).Store -/
def i12 : IFun := ⟨11,
  (.seq
   (.region [
     y 5 (.box 22 1 (.t 2)),
     y 6 (.mv (.c (.int .i64 0)))])
  (.seq
   (.region [
     y 7 (.mv (.t 0)),
     y 8 (.mv (.t 1)),
     y 9 (.mkFunc 29 [] [(.t 5)]),
     y 10 (.call (.c (.func (.func 28) #[] #[])) [(.t 7), (.t 8), (.c (.int .i64 1)), (.t 9)] false),
     y 6 (.mv (.t 10))])
  .ret)),
  [.tmp 6]⟩

/-- wainscot/chart.Head -/
def i13 : IFun := ⟨11,
  (.seq
   (.region [
     y 2 (.box 26 6 (.t 0)),
     y 3 (.box 3 1 (.t 1)),
     y 4 (.mv (.c (.int .i64 0)))])
  (.seq
   (.region [
     y 5 (.load true 6 (.t 2)),
     y 6 (.load false 1 (.t 3)),
     y 7 (.addOff 0 (.t 2)),
     y 8 (.load false 1 (.t 7)),
     y 9 (.mkFunc 31 [] [(.t 3)]),
     y 10 (.call (.c (.func (.func 30) #[] #[])) [(.t 5), (.t 6), (.t 8), (.t 9)] true),
     y 4 (.mv (.t 10))])
  .ret)),
  [.tmp 4]⟩

/-- wainscot/mem.New -/
def i14 : IFun := ⟨14,
  (.seq
   (.region [
     y 2 (.mv (.c (.pointer none))),
     y 3 (.mv (.c (.int .i64 0)))])
  (.seq
   (.seq
    (.region [
      y 4 (.mv (.t 0)),
      y 5 (.bin .lss .int (.t 4) (.c (.int .i64 1))),
      y 6 (.mv (.t 5)),
      ⟨(some 7), .mv (.t 0), (some (6, false)), [], [], false⟩,
      ⟨(some 8), .bin .gtr .int (.t 7) (.c (.int .i64 4096)), (some (6, false)), [], [], false⟩,
      y 9 (.pick (.t 6) (.c (.bool true)) (.t 8))])
   (.cond (.t 9)
    (.seq
     (.region [
       y 2 (.mv (.c (.pointer none))),
       y 3 (.mv (.c (.int .i64 9)))])
    .ret)
    .skip))
  (.seq
   (.region [
     y 10 (.mv (.t 0)),
     y 11 (.mkSlice 22 (.int .u64 0) 8 (.t 10) (.t 10)),
     y 12 (.build [(.slice none 0 0), (.int .i64 0)] [(0, 1, (.t 11))]),
     y 13 (.box 47 2 (.t 12)),
     y 2 (.mv (.t 13)),
     y 3 (.mv (.c (.int .i64 0)))])
  .ret))),
  [.tmp 2, .tmp 3]⟩

/-- wainscot/chart.Words -/
def i15 : IFun := ⟨14,
  (.seq
   (.region [
     y 1 (.box 26 6 (.t 0)),
     y 2 (.mv (.c (.int .i64 0)))])
  (.seq
   (.seq
    (.region [
      y 3 (.load true 6 (.t 1)),
      y 4 (.call (.c (.func (.func 26) #[] #[])) [(.t 3)] true),
      y 5 (.bin .neq .int (.t 4) (.c (.int .i64 0)))])
   (.cond (.t 5)
    (.seq
     (.region [
       y 2 (.mv (.c (.int .i64 0)))])
    .ret)
    .skip))
  (.seq
   (.region [
     y 6 (.load true 6 (.t 1)),
     y 7 (.call (.c (.func (.func 32) #[] #[])) [(.t 6)] true),
     y 8 (.addOff 1 (.t 1)),
     y 9 (.load false 1 (.t 8)),
     y 10 (.addOff 2 (.t 1)),
     y 11 (.load false 1 (.t 10)),
     y 12 (.bin .mul .int (.t 9) (.t 11)),
     y 13 (.bin .add .int (.t 7) (.t 12)),
     y 2 (.mv (.t 13))])
  .ret))),
  [.tmp 2]⟩

/-- wainscot/link.Fresh -/
def i16 : IFun := ⟨41,
  (.seq
   (.region [
     y 4 (.mv (.c (.slice none 0 0))),
     y 5 (.mv (.c (.int .i64 0)))])
  (.seq
   (.seq
    (.region [
      y 8 (.mv (.t 0)),
      y 9 (.bin .lss .int (.t 8) (.c (.int .i64 1))),
      y 10 (.mv (.t 9)),
      ⟨(some 11), .mv (.t 0), (some (10, false)), [], [], false⟩,
      ⟨(some 12), .bin .gtr .int (.t 11) (.c (.int .i64 16)), (some (10, false)), [], [], false⟩,
      y 13 (.pick (.t 10) (.c (.bool true)) (.t 12))])
   (.cond (.t 13)
    (.seq
     (.region [
       y 4 (.mv (.c (.slice none 0 0))),
       y 5 (.mv (.c (.int .i64 2)))])
    .ret)
    .skip))
  (.seq
   (.region [
     y 14 (.mv (.t 0)),
     y 15 (.mkSlice 22 (.int .u64 0) 8 (.t 14) (.t 14)),
     y 6 (.mv (.t 15))])
  (.seq
   (.seq
    (.region [
      y 16 (.mv (.t 6)),
      y 17 (.lenS (.t 16)),
      y 18 (.mv (.c (.int .i64 0)))])
   (.block 0
    (.loop
     (.seq
      (.region [
        y 19 (.bin .lss .int (.t 18) (.t 17))])
     (.seq
      (.cond (.t 19)
       .skip
       (.exit 0))
     (.seq
      (.block 1
       (.seq
        (.region [
          y 20 (.mv (.t 18)),
          y 7 (.mv (.t 20))])
       (.region [
         y 21 (.mv (.t 6)),
         y 22 (.mv (.t 7)),
         y 23 (.mv (.t 7)),
         y 24 (.bin .add .int (.t 23) (.c (.int .i64 2))),
         y 25 (.conv .u64 (.t 24)),
         y 26 (.mv (.t 1)),
         y 27 (.mv (.t 7)),
         y 28 (.call (.c (.func (.func 33) #[] #[])) [(.t 26), (.t 27)] true),
         y 29 (.bin .xor .int (.t 25) (.t 28)),
         y 30 (.idxS 1 (.t 21) (.t 22)),
         x (.store 1 (.t 30) (.t 29))])))
     (.region [
       y 31 (.bin .add .int (.t 18) (.c (.int .i64 1))),
       y 18 (.mv (.t 31))])))))))
  (.seq
   (.region [
     y 32 (.mv (.t 6)),
     y 33 (.mv (.t 0)),
     y 34 (.bin .sub .int (.t 33) (.c (.int .i64 1))),
     y 35 (.mv (.t 1)),
     y 36 (.mv (.t 0)),
     y 37 (.bin .sub .int (.t 36) (.c (.int .i64 1))),
     y 38 (.call (.c (.func (.func 33) #[] #[])) [(.t 35), (.t 37)] true),
     y 39 (.idxS 1 (.t 32) (.t 34)),
     x (.store 1 (.t 39) (.t 38))])
  (.seq
   (.region [
     y 40 (.mv (.t 6)),
     y 4 (.mv (.t 40)),
     y 5 (.mv (.c (.int .i64 0)))])
  .ret)))))),
  [.tmp 4, .tmp 5]⟩

/-- wainscot/chart.Key -/
def i17 : IFun := ⟨11,
  (.seq
   (.region [
     y 2 (.box 26 6 (.t 0)),
     y 4 (.mv (.c (.int .u64 0)))])
  (.seq
   (.region [
     y 5 (.addOff 5 (.t 2)),
     y 6 (.load false 1 (.t 5)),
     y 7 (.mv (.t 1)),
     y 8 (.conv .u64 (.t 7)),
     y 9 (.bin .mul .int (.t 8) (.c (.int .u64 11400714819323198485))),
     y 10 (.bin .add .int (.t 6) (.t 9)),
     y 4 (.mv (.t 10))])
  .ret)),
  [.tmp 4]⟩

/-- wainscot/chart.Link -/
def i18 : IFun := ⟨21,
  (.seq
   (.region [
     y 3 (.box 26 6 (.t 0)),
     y 4 (.box 3 1 (.t 1)),
     y 5 (.box 3 1 (.t 2)),
     y 6 (.mv (.c (.int .i64 0)))])
  (.seq
   (.seq
    (.region [
      y 7 (.load false 1 (.t 4)),
      y 8 (.bin .lss .int (.t 7) (.c (.int .i64 0))),
      y 9 (.mv (.t 8)),
      ⟨(some 10), .load false 1 (.t 4), (some (9, false)), [], [], false⟩,
      ⟨(some 11), .addOff 1 (.t 3), (some (9, false)), [], [], false⟩,
      ⟨(some 12), .load false 1 (.t 11), (some (9, false)), [], [], false⟩,
      ⟨(some 13), .bin .geq .int (.t 10) (.t 12), (some (9, false)), [], [], false⟩,
      y 14 (.pick (.t 9) (.c (.bool true)) (.t 13))])
   (.cond (.t 14)
    (.seq
     (.region [
       y 6 (.mv (.c (.int .i64 (-1))))])
    .ret)
    .skip))
  (.seq
   (.region [
     y 15 (.load true 6 (.t 3)),
     y 16 (.load false 1 (.t 5)),
     y 17 (.addOff 2 (.t 3)),
     y 18 (.load false 1 (.t 17)),
     y 19 (.mkFunc 34 [] [(.t 3), (.t 4), (.t 5)]),
     y 20 (.call (.c (.func (.func 30) #[] #[])) [(.t 15), (.t 16), (.t 18), (.t 19)] true),
     y 6 (.mv (.t 20))])
  .ret))),
  [.tmp 6]⟩

/-- wainscot/count.Head -/
def i19 : IFun := ⟨33,
  (.seq
   (.region [
     y 4 (.mv (.c (.int .u64 0))),
     y 5 (.mv (.c (.int .i64 0)))])
  (.seq
   (.block 0
    (.seq
     (.region [
       y 7 (.mv (.t 0)),
       y 8 (.bin .eql .int (.t 7) (.c (.int .i64 (-1)))),
       y 9 (.mv (.t 8)),
       ⟨(some 10), .mv (.t 1), (some (9, true)), [], [], false⟩,
       ⟨(some 11), .bin .eql .int (.t 10) (.c (.int .i64 (-1))), (some (9, true)), [], [], false⟩,
       y 12 (.pick (.t 9) (.t 11) (.c (.bool false))),
       y 6 (.mv (.t 12))])
    (.cond (.t 6)
     (.seq
      (.region [
        y 4 (.mv (.c (.int .u64 0))),
        y 5 (.mv (.c (.int .i64 0)))])
     .ret)
     (.seq
      (.region [
        y 14 (.mv (.t 0)),
        y 15 (.call (.c (.func (.func 35) #[] #[])) [(.t 14)] true),
        y 16 (.un .not (.t 15)),
        y 17 (.mv (.t 16)),
        ⟨(some 18), .mv (.t 1), (some (17, false)), [], [], false⟩,
        ⟨(some 19), .bin .lss .int (.t 18) (.c (.int .i64 (-1))), (some (17, false)), [], [], false⟩,
        y 20 (.pick (.t 17) (.c (.bool true)) (.t 19)),
        y 21 (.mv (.t 20)),
        ⟨(some 22), .mv (.t 1), (some (21, false)), [], [], false⟩,
        ⟨(some 23), .bin .geq .int (.t 22) (.c (.int .i64 16)), (some (21, false)), [], [], false⟩,
        y 24 (.pick (.t 21) (.c (.bool true)) (.t 23)),
        y 13 (.mv (.t 24))])
     (.cond (.t 13)
      (.seq
       (.region [
         y 4 (.mv (.c (.int .u64 0))),
         y 5 (.mv (.c (.int .i64 2)))])
      .ret)
      .skip)))))
  (.seq
   (.region [
     y 25 (.mv (.t 0)),
     y 26 (.bin .add .int (.t 25) (.c (.int .i64 1))),
     y 27 (.conv .u64 (.t 26)),
     y 28 (.bin .shl .int (.t 27) (.c (.int .u64 6))),
     y 29 (.mv (.t 1)),
     y 30 (.bin .add .int (.t 29) (.c (.int .i64 1))),
     y 31 (.conv .u64 (.t 30)),
     y 32 (.bin .or .int (.t 28) (.t 31)),
     y 4 (.mv (.t 32)),
     y 5 (.mv (.c (.int .i64 0)))])
  .ret))),
  [.tmp 4, .tmp 5]⟩

/-- wainscot/count.Pack -/
def i20 : IFun := ⟨23,
  (.seq
   (.region [
     y 1 (.box 62 4 (.t 0)),
     y 2 (.mv (.c (.int .u64 0))),
     y 3 (.mv (.c (.int .i64 0)))])
  (.seq
   (.seq
    (.region [
      y 4 (.load true 4 (.t 1)),
      y 5 (.call (.c (.func (.func 36) #[] #[])) [(.t 4)] true),
      y 6 (.un .not (.t 5))])
   (.cond (.t 6)
    (.seq
     (.region [
       y 2 (.mv (.c (.int .u64 0))),
       y 3 (.mv (.c (.int .i64 2)))])
    .ret)
    .skip))
  (.seq
   (.region [
     y 7 (.addOff 0 (.t 1)),
     y 8 (.load false 1 (.t 7)),
     y 9 (.conv .u64 (.t 8)),
     y 10 (.addOff 1 (.t 1)),
     y 11 (.load false 1 (.t 10)),
     y 12 (.conv .u64 (.t 11)),
     y 13 (.bin .shl .int (.t 12) (.c (.int .u64 8))),
     y 14 (.bin .or .int (.t 9) (.t 13)),
     y 15 (.addOff 2 (.t 1)),
     y 16 (.load false 1 (.t 15)),
     y 17 (.call (.c (.func (.func 37) #[] #[])) [(.t 16), (.c (.int .u64 65536))] true),
     y 18 (.bin .or .int (.t 14) (.t 17)),
     y 19 (.addOff 3 (.t 1)),
     y 20 (.load false 1 (.t 19)),
     y 21 (.call (.c (.func (.func 37) #[] #[])) [(.t 20), (.c (.int .u64 131072))] true),
     y 22 (.bin .or .int (.t 18) (.t 21)),
     y 2 (.mv (.t 22)),
     y 3 (.mv (.c (.int .i64 0)))])
  .ret))),
  [.tmp 2, .tmp 3]⟩

/-- wainscot/chart.First -/
def i21 : IFun := ⟨11,
  (.seq
   (.region [
     y 2 (.box 26 6 (.t 0)),
     y 3 (.box 3 1 (.t 1)),
     y 4 (.mv (.c (.int .i64 0)))])
  (.seq
   (.region [
     y 5 (.load true 6 (.t 2)),
     y 6 (.load false 1 (.t 3)),
     y 7 (.addOff 1 (.t 2)),
     y 8 (.load false 1 (.t 7)),
     y 9 (.mkFunc 38 [] [(.t 2), (.t 3)]),
     y 10 (.call (.c (.func (.func 30) #[] #[])) [(.t 5), (.t 6), (.t 8), (.t 9)] true),
     y 4 (.mv (.t 10))])
  .ret)),
  [.tmp 4]⟩

/-- wainscot/chart.See -/
def i22 : IFun := ⟨95,
  (.seq
   (.region [
     y 3 (.box 26 6 (.t 1)),
     y 4 (.new 66 [(.slice none 0 0), (.slice none 0 0), (.bool false), (.slice none 0 0)]),
     y 5 (.mv (.c (.int .i64 0)))])
  (.seq
   (.seq
    (.region [
      y 16 (.load true 6 (.t 3)),
      y 17 (.call (.c (.func (.func 26) #[] #[])) [(.t 16)] true),
      y 18 (.bin .neq .int (.t 17) (.c (.int .i64 0))),
      y 19 (.mv (.t 18)),
      ⟨(some 20), .mv (.t 0), (some (19, false)), [], [], false⟩,
      ⟨(some 21), .lenS (.t 20), (some (19, false)), [], [], false⟩,
      ⟨(some 22), .load true 6 (.t 3), (some (19, false)), [], [], false⟩,
      ⟨(some 23), .call (.c (.func (.func 15) #[] #[])) [(.t 22)] true, (some (19, false)), [], [], false⟩,
      ⟨(some 24), .bin .neq .int (.t 21) (.t 23), (some (19, false)), [], [], false⟩,
      y 25 (.pick (.t 19) (.c (.bool true)) (.t 24))])
   (.cond (.t 25)
    (.seq
     (.region [
       y 26 (.build [(.slice none 0 0), (.slice none 0 0), (.bool false), (.slice none 0 0)] []),
       x (.store 4 (.t 4) (.t 26)),
       y 5 (.mv (.c (.int .i64 2)))])
    .ret)
    .skip))
  (.seq
   (.region [
     y 27 (.mv (.t 0)),
     y 28 (.load true 6 (.t 3)),
     y 29 (.build [(.slice none 0 0), (.int .i64 0), (.int .i64 0), (.int .i64 0), (.int .i64 0), (.int .i64 0), (.int .u64 0)] [(0, 1, (.t 27)), (1, 6, (.t 28))]),
     y 6 (.new 91 [(.slice none 0 0), (.int .i64 0), (.int .i64 0), (.int .i64 0), (.int .i64 0), (.int .i64 0), (.int .u64 0)]),
     x (.store 7 (.t 6) (.t 29))])
  (.seq
   (.region [
     y 30 (.mv (.t 0)),
     y 31 (.load true 6 (.t 3)),
     y 32 (.call (.c (.func (.func 40) #[] #[])) [(.t 31)] true),
     y 33 (.idxS 1 (.t 30) (.t 32)),
     y 34 (.load false 1 (.t 33)),
     y 35 (.bin .neq .int (.t 34) (.c (.int .u64 0))),
     y 36 (.build [(.slice none 0 0), (.slice none 0 0), (.bool false), (.slice none 0 0)] [(2, 1, (.t 35))]),
     y 7 (.new 66 [(.slice none 0 0), (.slice none 0 0), (.bool false), (.slice none 0 0)]),
     x (.store 4 (.t 7) (.t 36))])
  (.seq
   (.seq
    (.region [
      y 37 (.addOff 0 (.t 3)),
      y 38 (.load false 1 (.t 37)),
      y 39 (.mv (.c (.int .i64 0)))])
   (.block 0
    (.loop
     (.seq
      (.region [
        y 40 (.bin .lss .int (.t 39) (.t 38))])
     (.seq
      (.cond (.t 40)
       .skip
       (.exit 0))
     (.seq
      (.block 1
       (.seq
        (.region [
          y 41 (.mv (.t 39)),
          y 8 (.mv (.t 41))])
       (.seq
        (.region [
          y 43 (.load true 7 (.t 6)),
          y 44 (.mv (.t 8)),
          y 45 (.call (.c (.func (.func 41) #[] #[])) [(.t 43), (.t 44)] true),
          y 42 (.mv (.t 45)),
          y 46 (.extract (.t 42) 0),
          y 47 (.extract (.t 42) 1),
          y 9 (.new 71 [(.int .i64 0), (.slice none 0 0), (.int .u64 0), (.slice none 0 0)]),
          x (.store 4 (.t 9) (.t 46)),
          y 10 (.mv (.t 47))])
       (.seq
        (.seq
         (.region [
           y 48 (.mv (.t 10)),
           y 49 (.un .not (.t 48))])
        (.cond (.t 49)
         (.seq
          (.region [
            y 50 (.build [(.slice none 0 0), (.slice none 0 0), (.bool false), (.slice none 0 0)] []),
            x (.store 4 (.t 4) (.t 50)),
            y 5 (.mv (.c (.int .i64 150)))])
         .ret)
         .skip))
       (.region [
         y 51 (.addOff 0 (.t 7)),
         y 52 (.load false 1 (.t 51)),
         y 53 (.load true 4 (.t 9)),
         y 54 (.buildSlice 71 [(.int .i64 0), (.slice none 0 0), (.int .u64 0), (.slice none 0 0)] 1 [(0, 4, (.t 53))]),
         y 55 (.append 71 4 64 (.t 52) (.t 54)),
         y 56 (.addOff 0 (.t 7)),
         x (.store 1 (.t 56) (.t 55))])))))
     (.region [
       y 57 (.bin .add .int (.t 39) (.c (.int .i64 1))),
       y 39 (.mv (.t 57))])))))))
  (.seq
   (.region [
     y 59 (.load true 7 (.t 6)),
     y 60 (.mv (.t 0)),
     y 61 (.load true 6 (.t 3)),
     y 62 (.call (.c (.func (.func 43) #[] #[])) [(.t 61)] true),
     y 63 (.idxS 1 (.t 60) (.t 62)),
     y 64 (.load false 1 (.t 63)),
     y 65 (.call (.c (.func (.func 42) #[] #[])) [(.t 59), (.t 64), (.c (.func (.func 44) #[] #[]))] true),
     y 58 (.mv (.t 65)),
     y 66 (.extract (.t 58) 0),
     y 67 (.extract (.t 58) 1),
     y 11 (.mv (.t 66)),
     y 12 (.mv (.t 67))])
  (.seq
   (.seq
    (.region [
      y 68 (.mv (.t 12)),
      y 69 (.un .not (.t 68))])
   (.cond (.t 69)
    (.seq
     (.region [
       y 70 (.build [(.slice none 0 0), (.slice none 0 0), (.bool false), (.slice none 0 0)] []),
       x (.store 4 (.t 4) (.t 70)),
       y 5 (.mv (.c (.int .i64 150)))])
    .ret)
    .skip))
  (.seq
   (.region [
     y 71 (.mv (.t 11)),
     y 72 (.addOff 1 (.t 7)),
     x (.store 1 (.t 72) (.t 71))])
  (.seq
   (.seq
    (.region [
      y 73 (.addOff 1 (.t 3)),
      y 74 (.load false 1 (.t 73)),
      y 75 (.mv (.c (.int .i64 0)))])
   (.block 2
    (.loop
     (.seq
      (.region [
        y 76 (.bin .lss .int (.t 75) (.t 74))])
     (.seq
      (.cond (.t 76)
       .skip
       (.exit 2))
     (.seq
      (.block 3
       (.seq
        (.region [
          y 77 (.mv (.t 75)),
          y 13 (.mv (.t 77))])
       (.seq
        (.region [
          y 79 (.load true 7 (.t 6)),
          y 80 (.mv (.t 13)),
          y 81 (.call (.c (.func (.func 45) #[] #[])) [(.t 79), (.t 80)] true),
          y 78 (.mv (.t 81)),
          y 82 (.extract (.t 78) 0),
          y 83 (.extract (.t 78) 1),
          y 14 (.new 98 [(.int .i64 0), (.int .i64 0), (.bool false), (.bool false), (.slice none 0 0)]),
          x (.store 5 (.t 14) (.t 82)),
          y 15 (.mv (.t 83))])
       (.seq
        (.seq
         (.region [
           y 84 (.mv (.t 15)),
           y 85 (.un .not (.t 84))])
        (.cond (.t 85)
         (.seq
          (.region [
            y 86 (.build [(.slice none 0 0), (.slice none 0 0), (.bool false), (.slice none 0 0)] []),
            x (.store 4 (.t 4) (.t 86)),
            y 5 (.mv (.c (.int .i64 150)))])
         .ret)
         .skip))
       (.region [
         y 87 (.addOff 3 (.t 7)),
         y 88 (.load false 1 (.t 87)),
         y 89 (.load true 5 (.t 14)),
         y 90 (.buildSlice 98 [(.int .i64 0), (.int .i64 0), (.bool false), (.bool false), (.slice none 0 0)] 1 [(0, 5, (.t 89))]),
         y 91 (.append 98 5 48 (.t 88) (.t 90)),
         y 92 (.addOff 3 (.t 7)),
         x (.store 1 (.t 92) (.t 91))])))))
     (.region [
       y 93 (.bin .add .int (.t 75) (.c (.int .i64 1))),
       y 75 (.mv (.t 93))])))))))
  (.seq
   (.region [
     y 94 (.load true 4 (.t 7)),
     x (.store 4 (.t 4) (.t 94)),
     y 5 (.mv (.c (.int .i64 0)))])
  .ret)))))))))),
  [.cell 4 true 4, .tmp 5]⟩

/-- (*wainscot/mem.Mem).Words -/
def i23 : IFun := ⟨10,
  (.seq
   (.region [
     y 2 (.mv (.c (.slice none 0 0)))])
  (.seq
   (.seq
    (.region [
      y 3 (.mv (.t 0)),
      y 4 (.bin .eql .ptr (.t 3) (.c (.pointer none)))])
   (.cond (.t 4)
    (.seq
     (.region [
       y 2 (.mv (.c (.slice none 0 0)))])
    .ret)
    .skip))
  (.seq
   (.region [
     y 5 (.mv (.t 0)),
     y 6 (.nilCheck (.t 5)),
     y 7 (.addOff 0 (.t 6)),
     y 8 (.load false 1 (.t 7)),
     y 9 (.call (.c (.func (.func 46) #[] #[])) [(.t 8)] true),
     y 2 (.mv (.t 9))])
  .ret))),
  [.tmp 2]⟩

/-- wainscot/wainscotref00.EqInts -/
def i24 : IFun := ⟨26,
  (.seq
   (.region [
     y 4 (.mv (.c (.bool false)))])
  (.seq
   (.seq
    (.region [
      y 6 (.mv (.t 0)),
      y 7 (.lenS (.t 6)),
      y 8 (.mv (.t 1)),
      y 9 (.lenS (.t 8)),
      y 10 (.bin .neq .int (.t 7) (.t 9))])
   (.cond (.t 10)
    (.seq
     (.region [
       y 4 (.mv (.c (.bool false)))])
    .ret)
    .skip))
  (.seq
   (.seq
    (.region [
      y 5 (.mv (.c (.int .i64 0)))])
   (.block 0
    (.loop
     (.seq
      (.seq
       (.region [
         y 11 (.mv (.t 5)),
         y 12 (.mv (.t 0)),
         y 13 (.lenS (.t 12)),
         y 14 (.bin .lss .int (.t 11) (.t 13))])
      (.cond (.t 14)
       .skip
       (.exit 0)))
     (.seq
      (.block 1
       (.seq
        (.region [
          y 17 (.mv (.t 0)),
          y 18 (.mv (.t 5)),
          y 19 (.idxS 1 (.t 17) (.t 18)),
          y 20 (.load false 1 (.t 19)),
          y 21 (.mv (.t 1)),
          y 22 (.mv (.t 5)),
          y 23 (.idxS 1 (.t 21) (.t 22)),
          y 24 (.load false 1 (.t 23)),
          y 25 (.bin .neq .int (.t 20) (.t 24))])
       (.cond (.t 25)
        (.seq
         (.region [
           y 4 (.mv (.c (.bool false)))])
        .ret)
        .skip)))
     (.region [
       y 15 (.mv (.t 5)),
       y 16 (.bin .add .int (.t 15) (.c (.int .i64 1))),
       y 5 (.mv (.t 16))]))))))
  (.seq
   (.region [
     y 4 (.mv (.c (.bool true)))])
  .ret)))),
  [.tmp 4]⟩

/-- (*wainscot/mem.Mem).Len -/
def i25 : IFun := ⟨10,
  (.seq
   (.region [
     y 2 (.mv (.c (.int .i64 0)))])
  (.seq
   (.seq
    (.region [
      y 3 (.mv (.t 0)),
      y 4 (.bin .eql .ptr (.t 3) (.c (.pointer none)))])
   (.cond (.t 4)
    (.seq
     (.region [
       y 2 (.mv (.c (.int .i64 0)))])
    .ret)
    .skip))
  (.seq
   (.region [
     y 5 (.mv (.t 0)),
     y 6 (.nilCheck (.t 5)),
     y 7 (.addOff 0 (.t 6)),
     y 8 (.load false 1 (.t 7)),
     y 9 (.lenS (.t 8)),
     y 2 (.mv (.t 9))])
  .ret))),
  [.tmp 2]⟩

/-- wainscot/chart.Check -/
def i26 : IFun := ⟨35,
  (.seq
   (.region [
     y 1 (.box 26 6 (.t 0)),
     y 2 (.mv (.c (.int .i64 0)))])
  (.seq
   (.block 0
    (.seq
     (.seq
      (.region [
        y 4 (.addOff 0 (.t 1)),
        y 5 (.load false 1 (.t 4)),
        y 6 (.bin .lss .int (.t 5) (.c (.int .i64 1))),
        y 3 (.mv (.t 6))])
     (.cond (.t 3)
      .skip
      (.seq
       (.region [
         y 7 (.addOff 0 (.t 1)),
         y 8 (.load false 1 (.t 7)),
         y 9 (.bin .gtr .int (.t 8) (.c (.int .i64 8))),
         y 3 (.mv (.t 9))])
      (.cond (.t 3)
       .skip
       (.seq
        (.region [
          y 10 (.addOff 1 (.t 1)),
          y 11 (.load false 1 (.t 10)),
          y 12 (.bin .lss .int (.t 11) (.c (.int .i64 1))),
          y 3 (.mv (.t 12))])
       (.cond (.t 3)
        .skip
        (.seq
         (.region [
           y 13 (.addOff 1 (.t 1)),
           y 14 (.load false 1 (.t 13)),
           y 15 (.bin .gtr .int (.t 14) (.c (.int .i64 32))),
           y 3 (.mv (.t 15))])
        (.cond (.t 3)
         .skip
         (.seq
          (.region [
            y 16 (.addOff 2 (.t 1)),
            y 17 (.load false 1 (.t 16)),
            y 18 (.bin .lss .int (.t 17) (.c (.int .i64 1))),
            y 3 (.mv (.t 18))])
         (.cond (.t 3)
          .skip
          (.region [
            y 19 (.addOff 2 (.t 1)),
            y 20 (.load false 1 (.t 19)),
            y 21 (.bin .gtr .int (.t 20) (.c (.int .i64 16))),
            y 3 (.mv (.t 21))])))))))))))
    (.cond (.t 3)
     (.seq
      (.region [
        y 2 (.mv (.c (.int .i64 2)))])
     .ret)
     (.seq
      (.seq
       (.region [
         y 23 (.addOff 3 (.t 1)),
         y 24 (.load false 1 (.t 23)),
         y 25 (.bin .lss .int (.t 24) (.c (.int .i64 0))),
         y 22 (.mv (.t 25))])
      (.cond (.t 22)
       .skip
       (.seq
        (.region [
          y 26 (.addOff 3 (.t 1)),
          y 27 (.load false 1 (.t 26)),
          y 28 (.bin .gtr .int (.t 27) (.c (.int .i64 32))),
          y 22 (.mv (.t 28))])
       (.cond (.t 22)
        .skip
        (.seq
         (.region [
           y 29 (.addOff 4 (.t 1)),
           y 30 (.load false 1 (.t 29)),
           y 31 (.bin .lss .int (.t 30) (.c (.int .i64 0))),
           y 22 (.mv (.t 31))])
        (.cond (.t 22)
         .skip
         (.region [
           y 32 (.addOff 4 (.t 1)),
           y 33 (.load false 1 (.t 32)),
           y 34 (.bin .gtr .int (.t 33) (.c (.int .i64 32))),
           y 22 (.mv (.t 34))])))))))
     (.cond (.t 22)
      (.seq
       (.region [
         y 2 (.mv (.c (.int .i64 2)))])
      .ret)
      .skip)))))
  (.seq
   (.region [
     y 2 (.mv (.c (.int .i64 0)))])
  .ret))),
  [.tmp 2]⟩

/-- wainscot/fast.program -/
def i27 : IFun := ⟨3,
  (.seq
   (.region [
     y 0 (.mv (.c (.map none)))])
  (.seq
   (.region [
     y 1 (.mkMap),
     x (.mapSet (.t 1) (.c (.int .i64 0)) (.c (.func (.func 47) #[] #[]))),
     x (.mapSet (.t 1) (.c (.int .i64 1)) (.c (.func (.func 48) #[] #[]))),
     x (.mapSet (.t 1) (.c (.int .i64 2)) (.c (.func (.func 49) #[] #[]))),
     x (.mapSet (.t 1) (.c (.int .i64 3)) (.c (.func (.func 50) #[] #[]))),
     x (.mapSet (.t 1) (.c (.int .i64 10)) (.c (.func (.func 47) #[] #[]))),
     x (.mapSet (.t 1) (.c (.int .i64 11)) (.c (.func (.func 51) #[] #[]))),
     x (.mapSet (.t 1) (.c (.int .i64 12)) (.c (.func (.func 52) #[] #[]))),
     x (.mapSet (.t 1) (.c (.int .i64 13)) (.c (.func (.func 53) #[] #[]))),
     y 2 (.mv (.t 1)),
     y 0 (.mv (.t 2))])
  .ret)),
  [.tmp 0]⟩

/-- (*wainscot/mem.Mem).access -/
def i28 : IFun := ⟨51,
  (.seq
   (.region [
     y 8 (.mv (.c (.int .i64 0)))])
  (.seq
   (.block 0
    (.seq
     (.region [
       y 10 (.mv (.t 0)),
       y 11 (.bin .eql .ptr (.t 10) (.c (.pointer none))),
       y 12 (.mv (.t 11)),
       ⟨(some 13), .mv (.t 0), (some (12, false)), [], [], false⟩,
       ⟨(some 14), .nilCheck (.t 13), (some (12, false)), [], [], false⟩,
       ⟨(some 15), .addOff 0 (.t 14), (some (12, false)), [], [], false⟩,
       ⟨(some 16), .load false 1 (.t 15), (some (12, false)), [], [], false⟩,
       ⟨(some 17), .bin .eql .slice (.t 16) (.c (.slice none 0 0)), (some (12, false)), [], [], false⟩,
       y 18 (.pick (.t 12) (.c (.bool true)) (.t 17)),
       y 9 (.mv (.t 18))])
    (.cond (.t 9)
     (.seq
      (.region [
        y 8 (.mv (.c (.int .i64 1)))])
     .ret)
     (.seq
      (.region [
        y 20 (.mv (.t 1)),
        y 21 (.bin .lss .int (.t 20) (.c (.int .i64 0))),
        y 22 (.mv (.t 21)),
        ⟨(some 23), .mv (.t 1), (some (22, false)), [], [], false⟩,
        ⟨(some 24), .mv (.t 0), (some (22, false)), [], [], false⟩,
        ⟨(some 25), .nilCheck (.t 24), (some (22, false)), [], [], false⟩,
        ⟨(some 26), .addOff 0 (.t 25), (some (22, false)), [], [], false⟩,
        ⟨(some 27), .load false 1 (.t 26), (some (22, false)), [], [], false⟩,
        ⟨(some 28), .lenS (.t 27), (some (22, false)), [], [], false⟩,
        ⟨(some 29), .mv (.t 2), (some (22, false)), [], [], false⟩,
        ⟨(some 30), .bin .sub .int (.t 28) (.t 29), (some (22, false)), [], [], false⟩,
        ⟨(some 31), .bin .gtr .int (.t 23) (.t 30), (some (22, false)), [], [], false⟩,
        y 32 (.pick (.t 22) (.c (.bool true)) (.t 31)),
        y 19 (.mv (.t 32))])
     (.cond (.t 19)
      (.seq
       (.region [
         y 8 (.mv (.c (.int .i64 9)))])
      .ret)
      .skip)))))
  (.seq
   (.region [
     y 33 (.mv (.t 0)),
     y 34 (.nilCheck (.t 33)),
     y 35 (.addOff 1 (.t 34)),
     y 36 (.load false 1 (.t 35)),
     y 37 (.bin .add .int (.t 36) (.c (.int .i64 1))),
     y 38 (.nilCheck (.t 33)),
     y 39 (.addOff 1 (.t 38)),
     x (.store 1 (.t 39) (.t 37))])
  (.seq
   (.region [
     y 40 (.mv (.t 3)),
     y 41 (.mv (.t 0)),
     y 42 (.nilCheck (.t 41)),
     y 43 (.addOff 0 (.t 42)),
     y 44 (.load false 1 (.t 43)),
     y 45 (.mv (.t 1)),
     y 46 (.mv (.t 1)),
     y 47 (.mv (.t 2)),
     y 48 (.bin .add .int (.t 46) (.t 47)),
     y 49 (.slice 22 (.t 44) (some (.t 45)) (some (.t 48)) none),
     y 50 (.call (.t 40) [(.t 49)] false)])
  (.seq
   (.region [
     y 8 (.mv (.c (.int .i64 0)))])
  .ret))))),
  [.tmp 8]⟩

/-- (*wainscot/mem.Mem).Store$1 -/
def i29 : IFun := ⟨6,
  (.region [
    y 3 (.mv (.t 0)),
    y 4 (.load false 1 (.t 1)),
    y 5 (.idxS 1 (.t 3) (.c (.int .i64 0))),
    x (.store 1 (.t 5) (.t 4))]),
  []⟩

/-- wainscot/chart.guarded -/
def i30 : IFun := ⟨23,
  (.seq
   (.region [
     y 4 (.box 26 6 (.t 0)),
     y 8 (.mv (.c (.int .i64 0)))])
  (.seq
   (.seq
    (.region [
      y 9 (.load true 6 (.t 4)),
      y 10 (.call (.c (.func (.func 26) #[] #[])) [(.t 9)] true),
      y 11 (.bin .neq .int (.t 10) (.c (.int .i64 0))),
      y 12 (.mv (.t 11)),
      ⟨(some 13), .mv (.t 1), (some (12, false)), [], [], false⟩,
      ⟨(some 14), .bin .lss .int (.t 13) (.c (.int .i64 0)), (some (12, false)), [], [], false⟩,
      y 15 (.pick (.t 12) (.c (.bool true)) (.t 14)),
      y 16 (.mv (.t 15)),
      ⟨(some 17), .mv (.t 1), (some (16, false)), [], [], false⟩,
      ⟨(some 18), .mv (.t 2), (some (16, false)), [], [], false⟩,
      ⟨(some 19), .bin .geq .int (.t 17) (.t 18), (some (16, false)), [], [], false⟩,
      y 20 (.pick (.t 16) (.c (.bool true)) (.t 19))])
   (.cond (.t 20)
    (.seq
     (.region [
       y 8 (.mv (.c (.int .i64 (-1))))])
    .ret)
    .skip))
  (.seq
   (.region [
     y 21 (.mv (.t 3)),
     y 22 (.call (.t 21) [] false),
     y 8 (.mv (.t 22))])
  .ret))),
  [.tmp 8]⟩

/-- wainscot/chart.Head$1 -/
def i31 : IFun := ⟨4,
  (.seq
   (.region [
     y 1 (.mv (.c (.int .i64 0)))])
  (.seq
   (.region [
     y 2 (.load false 1 (.t 0)),
     y 3 (.bin .mul .int (.c (.int .i64 4)) (.t 2)),
     y 1 (.mv (.t 3))])
  .ret)),
  [.tmp 1]⟩

/-- wainscot/chart.links -/
def i32 : IFun := ⟨9,
  (.seq
   (.region [
     y 1 (.box 26 6 (.t 0)),
     y 2 (.mv (.c (.int .i64 0)))])
  (.seq
   (.region [
     y 3 (.load true 6 (.t 1)),
     y 4 (.call (.c (.func (.func 39) #[] #[])) [(.t 3)] true),
     y 5 (.addOff 1 (.t 1)),
     y 6 (.load false 1 (.t 5)),
     y 7 (.bin .mul .int (.c (.int .i64 4)) (.t 6)),
     y 8 (.bin .add .int (.t 4) (.t 7)),
     y 2 (.mv (.t 8))])
  .ret)),
  [.tmp 2]⟩

/-- wainscot/link.turned -/
def i33 : IFun := ⟨13,
  (.seq
   (.region [
     y 4 (.mv (.c (.int .u64 0)))])
  (.seq
   (.region [
     y 5 (.mv (.t 0)),
     y 6 (.mv (.t 1)),
     y 7 (.bin .mul .int (.c (.int .i64 5)) (.t 6)),
     y 8 (.call (.c (.func (.func 54) #[] #[])) [(.t 5), (.t 7)] true),
     y 9 (.mv (.t 1)),
     y 10 (.conv .u64 (.t 9)),
     y 11 (.bin .mul .int (.t 10) (.c (.int .u64 2654435769))),
     y 12 (.bin .add .int (.t 8) (.t 11)),
     y 4 (.mv (.t 12))])
  .ret)),
  [.tmp 4]⟩

/-- wainscot/chart.Link$1 -/
def i34 : IFun := ⟨13,
  (.seq
   (.region [
     y 3 (.mv (.c (.int .i64 0)))])
  (.seq
   (.region [
     y 4 (.load true 6 (.t 0)),
     y 5 (.call (.c (.func (.func 32) #[] #[])) [(.t 4)] true),
     y 6 (.load false 1 (.t 1)),
     y 7 (.addOff 2 (.t 0)),
     y 8 (.load false 1 (.t 7)),
     y 9 (.bin .mul .int (.t 6) (.t 8)),
     y 10 (.bin .add .int (.t 5) (.t 9)),
     y 11 (.load false 1 (.t 2)),
     y 12 (.bin .add .int (.t 10) (.t 11)),
     y 3 (.mv (.t 12))])
  .ret)),
  [.tmp 3]⟩

/-- wainscot/count.slabMay -/
def i35 : IFun := ⟨9,
  (.seq
   (.region [
     y 2 (.mv (.c (.bool false)))])
  (.seq
   (.region [
     y 3 (.mv (.t 0)),
     y 4 (.bin .leq .int (.c (.int .i64 0)) (.t 3)),
     y 5 (.mv (.t 4)),
     ⟨(some 6), .mv (.t 0), (some (5, true)), [], [], false⟩,
     ⟨(some 7), .bin .lss .int (.t 6) (.c (.int .i64 32)), (some (5, true)), [], [], false⟩,
     y 8 (.pick (.t 5) (.t 7) (.c (.bool false))),
     y 2 (.mv (.t 8))])
  .ret)),
  [.tmp 2]⟩

/-- wainscot/count.may -/
def i36 : IFun := ⟨32,
  (.seq
   (.region [
     y 1 (.box 62 4 (.t 0)),
     y 2 (.mv (.c (.bool false)))])
  (.seq
   (.region [
     y 3 (.addOff 3 (.t 1)),
     y 4 (.load false 1 (.t 3)),
     y 5 (.mv (.t 4)),
     ⟨(some 6), .addOff 1 (.t 1), (some (5, true)), [], [], false⟩,
     ⟨(some 7), .load false 1 (.t 6), (some (5, true)), [], [], false⟩,
     ⟨(some 8), .bin .leq .int (.c (.int .i64 1)) (.t 7), (some (5, true)), [], [], false⟩,
     y 9 (.pick (.t 5) (.t 8) (.c (.bool false))),
     y 10 (.mv (.t 9)),
     ⟨(some 11), .addOff 1 (.t 1), (some (10, true)), [], [], false⟩,
     ⟨(some 12), .load false 1 (.t 11), (some (10, true)), [], [], false⟩,
     ⟨(some 13), .bin .leq .int (.t 12) (.c (.int .i64 16)), (some (10, true)), [], [], false⟩,
     y 14 (.pick (.t 10) (.t 13) (.c (.bool false))),
     y 15 (.mv (.t 14)),
     ⟨(some 16), .addOff 0 (.t 1), (some (15, true)), [], [], false⟩,
     ⟨(some 17), .load false 1 (.t 16), (some (15, true)), [], [], false⟩,
     ⟨(some 18), .bin .leq .int (.c (.int .i64 0)) (.t 17), (some (15, true)), [], [], false⟩,
     y 19 (.pick (.t 15) (.t 18) (.c (.bool false))),
     y 20 (.mv (.t 19)),
     ⟨(some 21), .addOff 0 (.t 1), (some (20, true)), [], [], false⟩,
     ⟨(some 22), .load false 1 (.t 21), (some (20, true)), [], [], false⟩,
     ⟨(some 23), .addOff 1 (.t 1), (some (20, true)), [], [], false⟩,
     ⟨(some 24), .load false 1 (.t 23), (some (20, true)), [], [], false⟩,
     ⟨(some 25), .bin .leq .int (.t 22) (.t 24), (some (20, true)), [], [], false⟩,
     y 26 (.pick (.t 20) (.t 25) (.c (.bool false))),
     y 27 (.mv (.t 26)),
     ⟨(some 28), .load true 4 (.t 1), (some (27, false)), [], [], false⟩,
     ⟨(some 29), .build [(.int .i64 0), (.int .i64 0), (.bool false), (.bool false)] [], (some (27, false)), [], [], false⟩,
     ⟨(some 30), .bin .eql (.plain [(some .i64), (some .i64), none, none]) (.t 28) (.t 29), (some (27, false)), [], [], false⟩,
     y 31 (.pick (.t 27) (.c (.bool true)) (.t 30)),
     y 2 (.mv (.t 31))])
  .ret)),
  [.tmp 2]⟩

/-- wainscot/count.flag -/
def i37 : IFun := ⟨7,
  (.seq
   (.region [
     y 4 (.mv (.c (.int .u64 0)))])
  (.seq
   (.seq
    (.region [
      y 5 (.mv (.t 0))])
   (.cond (.t 5)
    (.seq
     (.region [
       y 6 (.mv (.t 1)),
       y 4 (.mv (.t 6))])
    .ret)
    .skip))
  (.seq
   (.region [
     y 4 (.mv (.c (.int .u64 0)))])
  .ret))),
  [.tmp 4]⟩

/-- wainscot/chart.First$1 -/
def i38 : IFun := ⟨8,
  (.seq
   (.region [
     y 2 (.mv (.c (.int .i64 0)))])
  (.seq
   (.region [
     y 3 (.load true 6 (.t 0)),
     y 4 (.call (.c (.func (.func 39) #[] #[])) [(.t 3)] true),
     y 5 (.load false 1 (.t 1)),
     y 6 (.bin .mul .int (.c (.int .i64 4)) (.t 5)),
     y 7 (.bin .add .int (.t 4) (.t 6)),
     y 2 (.mv (.t 7))])
  .ret)),
  [.tmp 2]⟩

/-- wainscot/chart.slabs -/
def i39 : IFun := ⟨6,
  (.seq
   (.region [
     y 1 (.box 26 6 (.t 0)),
     y 2 (.mv (.c (.int .i64 0)))])
  (.seq
   (.region [
     y 3 (.load true 6 (.t 1)),
     y 4 (.call (.c (.func (.func 55) #[] #[])) [(.t 3)] true),
     y 5 (.bin .add .int (.t 4) (.c (.int .i64 4))),
     y 2 (.mv (.t 5))])
  .ret)),
  [.tmp 2]⟩

/-- wainscot/chart.Lock -/
def i40 : IFun := ⟨6,
  (.seq
   (.region [
     y 1 (.box 26 6 (.t 0)),
     y 2 (.mv (.c (.int .i64 0)))])
  (.seq
   (.region [
     y 3 (.load true 6 (.t 1)),
     y 4 (.mkFunc 56 [] [(.t 1)]),
     y 5 (.call (.c (.func (.func 30) #[] #[])) [(.t 3), (.c (.int .i64 0)), (.c (.int .i64 1)), (.t 4)] true),
     y 2 (.mv (.t 5))])
  .ret)),
  [.tmp 2]⟩

/-- (wainscot/chart.reader).slot -/
def i41 : IFun := ⟨71,
  (.seq
   (.region [
     y 2 (.box 91 7 (.t 0)),
     y 4 (.new 71 [(.int .i64 0), (.slice none 0 0), (.int .u64 0), (.slice none 0 0)]),
     y 5 (.mv (.c (.bool false)))])
  (.seq
   (.region [
     y 10 (.addOff 1 (.t 2)),
     y 11 (.load true 6 (.t 10)),
     y 12 (.mv (.t 1)),
     y 13 (.call (.c (.func (.func 13) #[] #[])) [(.t 11), (.t 12)] true),
     y 6 (.mv (.t 13))])
  (.seq
   (.region [
     y 15 (.addOff 0 (.t 2)),
     y 16 (.load false 1 (.t 15)),
     y 17 (.mv (.t 6)),
     y 18 (.idxS 1 (.t 16) (.t 17)),
     y 19 (.load false 1 (.t 18)),
     y 20 (.call (.c (.func (.func 57) #[] #[])) [(.t 19)] true),
     y 14 (.mv (.t 20)),
     y 21 (.extract (.t 14) 0),
     y 22 (.extract (.t 14) 1),
     y 23 (.extract (.t 14) 2),
     y 7 (.mv (.t 21)),
     y 8 (.mv (.t 22)),
     y 9 (.mv (.t 23))])
  (.seq
   (.seq
    (.region [
      y 24 (.mv (.t 9)),
      y 25 (.un .not (.t 24)),
      y 26 (.mv (.t 25)),
      ⟨(some 27), .mv (.t 7), (some (26, false)), [], [], false⟩,
      ⟨(some 28), .addOff 1 (.t 2), (some (26, false)), [], [], false⟩,
      ⟨(some 29), .addOff 1 (.t 28), (some (26, false)), [], [], false⟩,
      ⟨(some 30), .load false 1 (.t 29), (some (26, false)), [], [], false⟩,
      ⟨(some 31), .bin .geq .int (.t 27) (.t 30), (some (26, false)), [], [], false⟩,
      y 32 (.pick (.t 26) (.c (.bool true)) (.t 31))])
   (.cond (.t 32)
    (.seq
     (.region [
       y 33 (.build [(.int .i64 0), (.slice none 0 0), (.int .u64 0), (.slice none 0 0)] []),
       x (.store 4 (.t 4) (.t 33)),
       y 5 (.mv (.c (.bool false)))])
    .ret)
    .skip))
  (.seq
   (.region [
     y 34 (.mv (.t 7)),
     y 35 (.addOff 0 (.t 2)),
     y 36 (.load false 1 (.t 35)),
     y 37 (.mv (.t 6)),
     y 38 (.bin .add .int (.t 37) (.c (.int .i64 1))),
     y 39 (.idxS 1 (.t 36) (.t 38)),
     y 40 (.load false 1 (.t 39)),
     y 41 (.build [(.int .i64 0), (.slice none 0 0), (.int .u64 0), (.slice none 0 0)] [(0, 1, (.t 34)), (2, 1, (.t 40))]),
     x (.store 4 (.t 4) (.t 41))])
  (.seq
   (.seq
    (.region [
      y 42 (.mv (.t 7)),
      y 43 (.bin .neq .int (.t 42) (.c (.int .i64 (-1))))])
   (.cond (.t 43)
    (.seq
     (.region [
       y 45 (.load true 7 (.t 2)),
       y 46 (.mv (.t 7)),
       y 47 (.mv (.t 8)),
       y 48 (.call (.c (.func (.func 58) #[] #[])) [(.t 45), (.t 46), (.t 47)] true),
       y 44 (.mv (.t 48)),
       y 49 (.extract (.t 44) 0),
       y 50 (.extract (.t 44) 1),
       y 51 (.addOff 1 (.t 4)),
       x (.store 1 (.t 51) (.t 49)),
       y 5 (.mv (.t 50))])
    (.seq
     (.region [
       y 52 (.mv (.t 5)),
       y 53 (.un .not (.t 52))])
    (.cond (.t 53)
     (.seq
      (.region [
        y 54 (.build [(.int .i64 0), (.slice none 0 0), (.int .u64 0), (.slice none 0 0)] []),
        x (.store 4 (.t 4) (.t 54)),
        y 5 (.mv (.c (.bool false)))])
     .ret)
     .skip)))
    .skip))
  (.seq
   (.seq
    (.region [
      y 56 (.load true 7 (.t 2)),
      y 57 (.addOff 0 (.t 2)),
      y 58 (.load false 1 (.t 57)),
      y 59 (.mv (.t 6)),
      y 60 (.bin .add .int (.t 59) (.c (.int .i64 2))),
      y 61 (.idxS 1 (.t 58) (.t 60)),
      y 62 (.load false 1 (.t 61)),
      y 63 (.call (.c (.func (.func 42) #[] #[])) [(.t 56), (.t 62), (.c (.func (.func 59) #[] #[]))] true),
      y 55 (.mv (.t 63)),
      y 64 (.extract (.t 55) 0),
      y 65 (.extract (.t 55) 1),
      y 66 (.addOff 3 (.t 4)),
      x (.store 1 (.t 66) (.t 64)),
      y 5 (.mv (.t 65))])
   (.seq
    (.region [
      y 67 (.mv (.t 5)),
      y 68 (.un .not (.t 67))])
   (.cond (.t 68)
    (.seq
     (.region [
       y 69 (.build [(.int .i64 0), (.slice none 0 0), (.int .u64 0), (.slice none 0 0)] []),
       x (.store 4 (.t 4) (.t 69)),
       y 5 (.mv (.c (.bool false)))])
    .ret)
    .skip)))
  (.seq
   (.region [
     y 70 (.load true 4 (.t 4)),
     x (.store 4 (.t 4) (.t 70)),
     y 5 (.mv (.c (.bool true)))])
  .ret)))))))),
  [.cell 4 true 4, .tmp 5]⟩

/-- (wainscot/chart.reader).chain -/
def i42 : IFun := ⟨48,
  (.seq
   (.region [
     y 3 (.box 91 7 (.t 0)),
     y 6 (.mv (.c (.slice none 0 0))),
     y 7 (.mv (.c (.bool false)))])
  (.seq
   (.region [
     y 11 (.mkMap),
     y 8 (.mv (.t 11))])
  (.block 0
   (.loop
    (.block 1
     (.seq
      (.region [
        y 13 (.mv (.t 2)),
        y 14 (.mv (.t 1)),
        y 15 (.call (.t 13) [(.t 14)] false),
        y 12 (.mv (.t 15)),
        y 16 (.extract (.t 12) 0),
        y 17 (.extract (.t 12) 1),
        y 9 (.mv (.t 16)),
        y 10 (.mv (.t 17))])
     (.seq
      (.block 2
       (.seq
        (.seq
         (.region [
           y 19 (.mv (.t 10)),
           y 20 (.un .not (.t 19)),
           y 18 (.mv (.t 20))])
        (.cond (.t 18)
         .skip
         (.seq
          (.region [
            y 21 (.mv (.t 9)),
            y 22 (.addOff 1 (.t 3)),
            y 23 (.addOff 1 (.t 22)),
            y 24 (.load false 1 (.t 23)),
            y 25 (.bin .geq .int (.t 21) (.t 24)),
            y 18 (.mv (.t 25))])
         (.cond (.t 18)
          .skip
          (.region [
            y 26 (.mv (.t 8)),
            y 27 (.mv (.t 9)),
            y 28 (.lookup (.int .i64 0) false (.t 26) (.t 27)),
            y 29 (.bin .gtr .int (.t 28) (.c (.int .i64 0))),
            y 18 (.mv (.t 29))])))))
       (.cond (.t 18)
        (.seq
         (.region [
           y 6 (.mv (.c (.slice none 0 0))),
           y 7 (.mv (.c (.bool false)))])
        .ret)
        (.seq
         (.region [
           y 31 (.mv (.t 9)),
           y 32 (.bin .eql .int (.t 31) (.c (.int .i64 (-1)))),
           y 30 (.mv (.t 32))])
        (.cond (.t 30)
         (.seq
          (.region [
            y 33 (.mv (.t 6)),
            y 6 (.mv (.t 33)),
            y 7 (.mv (.c (.bool true)))])
         .ret)
         .skip)))))
     (.seq
      (.region [
        y 34 (.mv (.t 8)),
        y 35 (.mv (.t 9)),
        x (.mapSet (.t 34) (.t 35) (.c (.int .i64 1)))])
     (.seq
      (.region [
        y 36 (.mv (.t 6)),
        y 37 (.mv (.t 9)),
        y 38 (.buildSlice 3 [(.int .i64 0)] 1 [(0, 1, (.t 37))]),
        y 39 (.append 3 1 8 (.t 36) (.t 38)),
        y 6 (.mv (.t 39))])
     (.region [
       y 40 (.addOff 0 (.t 3)),
       y 41 (.load false 1 (.t 40)),
       y 42 (.addOff 1 (.t 3)),
       y 43 (.load true 6 (.t 42)),
       y 44 (.mv (.t 9)),
       y 45 (.call (.c (.func (.func 60) #[] #[])) [(.t 43), (.t 44)] true),
       y 46 (.idxS 1 (.t 41) (.t 45)),
       y 47 (.load false 1 (.t 46)),
       y 1 (.mv (.t 47))])))))))))),
  [.tmp 6, .tmp 7]⟩

/-- wainscot/chart.Shelf -/
def i43 : IFun := ⟨6,
  (.seq
   (.region [
     y 1 (.box 26 6 (.t 0)),
     y 2 (.mv (.c (.int .i64 0)))])
  (.seq
   (.region [
     y 3 (.load true 6 (.t 1)),
     y 4 (.mkFunc 61 [] [(.t 1)]),
     y 5 (.call (.c (.func (.func 30) #[] #[])) [(.t 3), (.c (.int .i64 0)), (.c (.int .i64 1)), (.t 4)] true),
     y 2 (.mv (.t 5))])
  .ret)),
  [.tmp 2]⟩

/-- wainscot/chart.shelfOf -/
def i44 : IFun := ⟨9,
  (.seq
   (.region [
     y 2 (.mv (.c (.int .i64 0))),
     y 3 (.mv (.c (.bool false)))])
  (.seq
   (.region [
     y 4 (.mv (.t 0)),
     y 5 (.conv .i64 (.t 4)),
     y 6 (.bin .sub .int (.t 5) (.c (.int .i64 1))),
     y 7 (.mv (.t 0)),
     y 8 (.bin .leq .int (.t 7) (.c (.int .u64 32))),
     y 2 (.mv (.t 6)),
     y 3 (.mv (.t 8))])
  .ret)),
  [.tmp 2, .tmp 3]⟩

/-- (wainscot/chart.reader).slab -/
def i45 : IFun := ⟨53,
  (.seq
   (.region [
     y 2 (.box 91 7 (.t 0)),
     y 4 (.new 98 [(.int .i64 0), (.int .i64 0), (.bool false), (.bool false), (.slice none 0 0)]),
     y 5 (.mv (.c (.bool false)))])
  (.seq
   (.region [
     y 8 (.addOff 1 (.t 2)),
     y 9 (.load true 6 (.t 8)),
     y 10 (.mv (.t 1)),
     y 11 (.call (.c (.func (.func 21) #[] #[])) [(.t 9), (.t 10)] true),
     y 6 (.mv (.t 11))])
  (.seq
   (.region [
     y 12 (.addOff 0 (.t 2)),
     y 13 (.load false 1 (.t 12)),
     y 14 (.mv (.t 6)),
     y 15 (.idxS 1 (.t 13) (.t 14)),
     y 16 (.load false 1 (.t 15)),
     y 7 (.mv (.t 16))])
  (.seq
   (.seq
    (.region [
      y 18 (.addOff 0 (.t 2)),
      y 19 (.load false 1 (.t 18)),
      y 20 (.mv (.t 6)),
      y 21 (.bin .add .int (.t 20) (.c (.int .i64 1))),
      y 22 (.idxS 1 (.t 19) (.t 21)),
      y 23 (.load false 1 (.t 22)),
      y 24 (.call (.c (.func (.func 62) #[] #[])) [(.t 23)] true),
      y 17 (.mv (.t 24)),
      y 25 (.extract (.t 17) 0),
      y 26 (.extract (.t 17) 1),
      y 27 (.addOff 0 (.t 4)),
      x (.store 4 (.t 27) (.t 25)),
      y 5 (.mv (.t 26))])
   (.seq
    (.region [
      y 28 (.mv (.t 5)),
      y 29 (.un .not (.t 28)),
      y 30 (.mv (.t 29)),
      ⟨(some 31), .mv (.t 7), (some (30, false)), [], [], false⟩,
      ⟨(some 32), .addOff 1 (.t 2), (some (30, false)), [], [], false⟩,
      ⟨(some 33), .addOff 2 (.t 32), (some (30, false)), [], [], false⟩,
      ⟨(some 34), .load false 1 (.t 33), (some (30, false)), [], [], false⟩,
      ⟨(some 35), .conv .u64 (.t 34), (some (30, false)), [], [], false⟩,
      ⟨(some 36), .bin .gtr .int (.t 31) (.t 35), (some (30, false)), [], [], false⟩,
      y 37 (.pick (.t 30) (.c (.bool true)) (.t 36))])
   (.cond (.t 37)
    (.seq
     (.region [
       y 38 (.build [(.int .i64 0), (.int .i64 0), (.bool false), (.bool false), (.slice none 0 0)] []),
       x (.store 5 (.t 4) (.t 38)),
       y 5 (.mv (.c (.bool false)))])
    .ret)
    .skip)))
  (.seq
   (.seq
    (.region [
      y 40 (.load true 7 (.t 2)),
      y 41 (.mv (.t 1)),
      y 42 (.mv (.t 7)),
      y 43 (.conv .i64 (.t 42)),
      y 44 (.bin .sub .int (.t 43) (.c (.int .i64 1))),
      y 45 (.call (.c (.func (.func 58) #[] #[])) [(.t 40), (.t 41), (.t 44)] true),
      y 39 (.mv (.t 45)),
      y 46 (.extract (.t 39) 0),
      y 47 (.extract (.t 39) 1),
      y 48 (.addOff 4 (.t 4)),
      x (.store 1 (.t 48) (.t 46)),
      y 5 (.mv (.t 47))])
   (.seq
    (.region [
      y 49 (.mv (.t 5)),
      y 50 (.un .not (.t 49))])
   (.cond (.t 50)
    (.seq
     (.region [
       y 51 (.build [(.int .i64 0), (.int .i64 0), (.bool false), (.bool false), (.slice none 0 0)] []),
       x (.store 5 (.t 4) (.t 51)),
       y 5 (.mv (.c (.bool false)))])
    .ret)
    .skip)))
  (.seq
   (.region [
     y 52 (.load true 5 (.t 4)),
     x (.store 5 (.t 4) (.t 52)),
     y 5 (.mv (.c (.bool true)))])
  .ret)))))),
  [.cell 4 true 5, .tmp 5]⟩

/-- slices.Clone[[]uint64,uint64] -/
def i46 : IFun := ⟨8,
  (.seq
   (.region [
     y 2 (.mv (.c (.slice none 0 0)))])
  (.seq
   (.seq
    (.region [
      y 3 (.mv (.t 0)),
      y 4 (.bin .eql .slice (.t 3) (.c (.slice none 0 0)))])
   (.cond (.t 4)
    (.seq
     (.region [
       y 2 (.mv (.c (.slice none 0 0)))])
    .ret)
    .skip))
  (.seq
   (.region [
     y 5 (.buildSlice 22 [] 0 []),
     y 6 (.mv (.t 0)),
     y 7 (.append 22 1 8 (.t 5) (.t 6)),
     y 2 (.mv (.t 7))])
  .ret))),
  [.tmp 2]⟩

/-- (*wainscot/fast.step).turn -/
def i47 : IFun := ⟨27,
  (.seq
   (.region [
     y 2 (.mv (.t 0)),
     y 3 (.mv (.t 0)),
     y 4 (.mv (.t 0)),
     y 5 (.nilCheck (.t 4)),
     y 6 (.addOff 1 (.t 5)),
     y 7 (.load true 6 (.t 6)),
     y 8 (.mv (.t 0)),
     y 9 (.nilCheck (.t 8)),
     y 10 (.addOff 7 (.t 9)),
     y 11 (.addOff 1 (.t 10)),
     y 12 (.load false 1 (.t 11)),
     y 13 (.call (.c (.func (.func 13) #[] #[])) [(.t 7), (.t 12)] true),
     y 14 (.call (.c (.func (.func 64) #[] #[])) [(.t 13)] true),
     y 15 (.call (.c (.func (.func 63) #[] #[])) [(.t 3), (.t 14)] false),
     y 16 (.nilCheck (.t 2)),
     y 17 (.addOff 7 (.t 16)),
     y 18 (.addOff 8 (.t 17)),
     x (.store 1 (.t 18) (.t 15))])
  (.region [
    y 19 (.mv (.t 0)),
    y 20 (.mv (.t 0)),
    y 21 (.nilCheck (.t 20)),
    y 22 (.addOff 7 (.t 21)),
    y 23 (.addOff 2 (.t 22)),
    y 24 (.load false 1 (.t 23)),
    y 25 (.bin .add .int (.t 24) (.c (.int .i64 1))),
    y 26 (.call (.c (.func (.func 65) #[] #[])) [(.t 19), (.t 25)] false)])),
  []⟩

/-- (*wainscot/fast.step).look -/
def i48 : IFun := ⟨35,
  (.seq
   (.region [
     y 3 (.mv (.t 0)),
     y 4 (.mv (.t 0)),
     y 5 (.mv (.t 0)),
     y 6 (.call (.c (.func (.func 66) #[] #[])) [(.t 5)] false),
     y 2 (.mv (.t 6)),
     y 7 (.extract (.t 2) 0),
     y 8 (.extract (.t 2) 1),
     y 9 (.nilCheck (.t 3)),
     y 10 (.addOff 7 (.t 9)),
     y 11 (.addOff 5 (.t 10)),
     x (.store 1 (.t 11) (.t 7)),
     y 12 (.nilCheck (.t 4)),
     y 13 (.addOff 7 (.t 12)),
     y 14 (.addOff 6 (.t 13)),
     x (.store 1 (.t 14) (.t 8))])
  (.block 0
   (.seq
    (.region [
      y 18 (.mv (.t 0)),
      y 19 (.nilCheck (.t 18)),
      y 20 (.addOff 7 (.t 19)),
      y 21 (.addOff 5 (.t 20)),
      y 22 (.load false 1 (.t 21)),
      y 23 (.bin .lss .int (.t 22) (.c (.int .i64 0))),
      y 17 (.mv (.t 23))])
   (.cond (.t 17)
    (.region [
      y 24 (.mv (.t 0)),
      y 25 (.call (.c (.func (.func 65) #[] #[])) [(.t 24), (.c (.int .i64 30))] false)])
    (.seq
     (.region [
       y 27 (.mv (.t 0)),
       y 28 (.nilCheck (.t 27)),
       y 29 (.addOff 7 (.t 28)),
       y 30 (.addOff 6 (.t 29)),
       y 31 (.load false 1 (.t 30)),
       y 32 (.bin .lss .int (.t 31) (.c (.int .i64 0))),
       y 26 (.mv (.t 32))])
    (.cond (.t 26)
     (.region [
       y 33 (.mv (.t 0)),
       y 34 (.call (.c (.func (.func 65) #[] #[])) [(.t 33), (.c (.int .i64 20))] false)])
     (.region [
       y 15 (.mv (.t 0)),
       y 16 (.call (.c (.func (.func 65) #[] #[])) [(.t 15), (.c (.int .i64 2))] false)]))))))),
  []⟩

/-- (*wainscot/fast.step).next -/
def i49 : IFun := ⟨62,
  (.seq
   (.region [
     y 5 (.mv (.t 0)),
     y 6 (.mv (.t 0)),
     y 7 (.nilCheck (.t 6)),
     y 8 (.addOff 1 (.t 7)),
     y 9 (.load true 6 (.t 8)),
     y 10 (.mv (.t 0)),
     y 11 (.nilCheck (.t 10)),
     y 12 (.addOff 7 (.t 11)),
     y 13 (.addOff 5 (.t 12)),
     y 14 (.load false 1 (.t 13)),
     y 15 (.mv (.t 0)),
     y 16 (.nilCheck (.t 15)),
     y 17 (.addOff 7 (.t 16)),
     y 18 (.addOff 6 (.t 17)),
     y 19 (.load false 1 (.t 18)),
     y 20 (.call (.c (.func (.func 18) #[] #[])) [(.t 9), (.t 14), (.t 19)] true),
     y 21 (.call (.c (.func (.func 63) #[] #[])) [(.t 5), (.t 20)] false),
     y 2 (.mv (.t 21))])
  (.seq
   (.region [
     y 23 (.mv (.t 2)),
     y 24 (.mv (.t 0)),
     y 25 (.nilCheck (.t 24)),
     y 26 (.addOff 1 (.t 25)),
     y 27 (.load true 6 (.t 26)),
     y 28 (.mv (.t 0)),
     y 29 (.nilCheck (.t 28)),
     y 30 (.addOff 7 (.t 29)),
     y 31 (.addOff 5 (.t 30)),
     y 32 (.load false 1 (.t 31)),
     y 33 (.call (.c (.func (.func 17) #[] #[])) [(.t 27), (.t 32)] true),
     y 34 (.mv (.t 0)),
     y 35 (.nilCheck (.t 34)),
     y 36 (.addOff 7 (.t 35)),
     y 37 (.addOff 6 (.t 36)),
     y 38 (.load false 1 (.t 37)),
     y 39 (.call (.c (.func (.func 67) #[] #[])) [(.t 23), (.t 33), (.t 38)] true),
     y 22 (.mv (.t 39)),
     y 40 (.extract (.t 22) 0),
     y 41 (.extract (.t 22) 1),
     y 3 (.mv (.t 40)),
     y 4 (.mv (.t 41))])
  (.seq
   (.seq
    (.region [
      y 42 (.mv (.t 4)),
      y 43 (.un .not (.t 42)),
      y 44 (.mv (.t 43)),
      ⟨(some 45), .mv (.t 3), (some (44, false)), [], [], false⟩,
      ⟨(some 46), .mv (.t 0), (some (44, false)), [], [], false⟩,
      ⟨(some 47), .nilCheck (.t 46), (some (44, false)), [], [], false⟩,
      ⟨(some 48), .addOff 1 (.t 47), (some (44, false)), [], [], false⟩,
      ⟨(some 49), .addOff 2 (.t 48), (some (44, false)), [], [], false⟩,
      ⟨(some 50), .load false 1 (.t 49), (some (44, false)), [], [], false⟩,
      ⟨(some 51), .bin .geq .int (.t 45) (.t 50), (some (44, false)), [], [], false⟩,
      y 52 (.pick (.t 44) (.c (.bool true)) (.t 51))])
   (.cond (.t 52)
    (.seq
     (.region [
       y 53 (.mv (.t 0)),
       y 54 (.call (.c (.func (.func 65) #[] #[])) [(.t 53), (.c (.int .i64 0))] false)])
    .ret)
    .skip))
  (.seq
   (.region [
     y 55 (.mv (.t 0)),
     y 56 (.mv (.t 3)),
     y 57 (.nilCheck (.t 55)),
     y 58 (.addOff 7 (.t 57)),
     y 59 (.addOff 12 (.t 58)),
     x (.store 1 (.t 59) (.t 56))])
  (.region [
    y 60 (.mv (.t 0)),
    y 61 (.call (.c (.func (.func 65) #[] #[])) [(.t 60), (.c (.int .i64 3))] false)]))))),
  []⟩

/-- (*wainscot/fast.step).take -/
def i50 : IFun := ⟨9,
  (.region [
    y 2 (.mv (.t 0)),
    y 3 (.mv (.t 0)),
    y 4 (.nilCheck (.t 3)),
    y 5 (.addOff 7 (.t 4)),
    y 6 (.addOff 12 (.t 5)),
    y 7 (.load false 1 (.t 6)),
    y 8 (.call (.c (.func (.func 68) #[] #[])) [(.t 2), (.t 7), (.c (.int .i64 0))] false)]),
  []⟩

/-- (*wainscot/fast.step).mine -/
def i51 : IFun := ⟨25,
  (.seq
   (.region [
     y 5 (.mv (.t 0)),
     y 6 (.call (.c (.func (.func 66) #[] #[])) [(.t 5)] false),
     y 4 (.mv (.t 6)),
     y 7 (.extract (.t 4) 0),
     y 8 (.extract (.t 4) 1),
     y 2 (.mv (.t 7)),
     y 3 (.mv (.t 8))])
  (.seq
   (.seq
    (.region [
      y 9 (.mv (.t 2)),
      y 10 (.mv (.t 0)),
      y 11 (.nilCheck (.t 10)),
      y 12 (.addOff 7 (.t 11)),
      y 13 (.addOff 5 (.t 12)),
      y 14 (.load false 1 (.t 13)),
      y 15 (.bin .neq .int (.t 9) (.t 14))])
   (.cond (.t 15)
    (.seq
     (.region [
       y 16 (.mv (.t 0)),
       y 17 (.call (.c (.func (.func 65) #[] #[])) [(.t 16), (.c (.int .i64 50))] false)])
    .ret)
    .skip))
  (.seq
   (.region [
     y 18 (.mv (.t 0)),
     y 19 (.mv (.t 3)),
     y 20 (.nilCheck (.t 18)),
     y 21 (.addOff 7 (.t 20)),
     y 22 (.addOff 12 (.t 21)),
     x (.store 1 (.t 22) (.t 19))])
  (.region [
    y 23 (.mv (.t 0)),
    y 24 (.call (.c (.func (.func 65) #[] #[])) [(.t 23), (.c (.int .i64 12))] false)])))),
  []⟩

/-- (*wainscot/fast.step).tie -/
def i52 : IFun := ⟨57,
  (.seq
   (.region [
     y 5 (.mv (.t 0)),
     y 6 (.nilCheck (.t 5)),
     y 7 (.addOff 7 (.t 6)),
     y 8 (.addOff 12 (.t 7)),
     y 9 (.load false 1 (.t 8)),
     y 10 (.mv (.t 0)),
     y 11 (.nilCheck (.t 10)),
     y 12 (.addOff 1 (.t 11)),
     y 13 (.load true 6 (.t 12)),
     y 14 (.mv (.t 0)),
     y 15 (.nilCheck (.t 14)),
     y 16 (.addOff 7 (.t 15)),
     y 17 (.addOff 5 (.t 16)),
     y 18 (.load false 1 (.t 17)),
     y 19 (.call (.c (.func (.func 17) #[] #[])) [(.t 13), (.t 18)] true),
     y 20 (.mv (.t 0)),
     y 21 (.nilCheck (.t 20)),
     y 22 (.addOff 7 (.t 21)),
     y 23 (.addOff 6 (.t 22)),
     y 24 (.load false 1 (.t 23)),
     y 25 (.call (.c (.func (.func 69) #[] #[])) [(.t 9), (.t 19), (.t 24)] true),
     y 4 (.mv (.t 25)),
     y 26 (.extract (.t 4) 0),
     y 27 (.extract (.t 4) 1),
     y 2 (.mv (.t 26)),
     y 3 (.mv (.t 27))])
  (.seq
   (.region [
     y 28 (.mv (.t 0)),
     y 29 (.mv (.t 3)),
     y 30 (.bin .eql .int (.t 29) (.c (.int .i64 0))),
     y 31 (.call (.c (.func (.func 70) #[] #[])) [(.t 28), (.t 30)] false)])
  (.seq
   (.seq
    (.region [
      y 32 (.mv (.t 0)),
      y 33 (.nilCheck (.t 32)),
      y 34 (.addOff 24 (.t 33)),
      y 35 (.load false 1 (.t 34)),
      y 36 (.un .not (.t 35))])
   (.cond (.t 36)
    (.region [
      y 37 (.mv (.t 0)),
      y 38 (.mv (.t 0)),
      y 39 (.nilCheck (.t 38)),
      y 40 (.addOff 1 (.t 39)),
      y 41 (.load true 6 (.t 40)),
      y 42 (.mv (.t 0)),
      y 43 (.nilCheck (.t 42)),
      y 44 (.addOff 7 (.t 43)),
      y 45 (.addOff 5 (.t 44)),
      y 46 (.load false 1 (.t 45)),
      y 47 (.mv (.t 0)),
      y 48 (.nilCheck (.t 47)),
      y 49 (.addOff 7 (.t 48)),
      y 50 (.addOff 6 (.t 49)),
      y 51 (.load false 1 (.t 50)),
      y 52 (.call (.c (.func (.func 18) #[] #[])) [(.t 41), (.t 46), (.t 51)] true),
      y 53 (.mv (.t 2)),
      y 54 (.call (.c (.func (.func 71) #[] #[])) [(.t 37), (.t 52), (.t 53)] false)])
    .skip))
  (.region [
    y 55 (.mv (.t 0)),
    y 56 (.call (.c (.func (.func 65) #[] #[])) [(.t 55), (.c (.int .i64 13))] false)])))),
  []⟩

/-- (*wainscot/fast.step).give -/
def i53 : IFun := ⟨9,
  (.region [
    y 2 (.mv (.t 0)),
    y 3 (.mv (.t 0)),
    y 4 (.nilCheck (.t 3)),
    y 5 (.addOff 7 (.t 4)),
    y 6 (.addOff 6 (.t 5)),
    y 7 (.load false 1 (.t 6)),
    y 8 (.call (.c (.func (.func 68) #[] #[])) [(.t 2), (.t 7), (.c (.int .i64 10))] false)]),
  []⟩

/-- math/bits.RotateLeft64 -/
def i54 : IFun := ⟨17,
  (.seq
   (.region [
     y 4 (.mv (.c (.int .u64 0)))])
  (.seq
   (.region [
     y 6 (.mv (.t 1)),
     y 7 (.conv .u64 (.t 6)),
     y 8 (.bin .and .int (.t 7) (.c (.int .u64 63))),
     y 5 (.mv (.t 8))])
  (.seq
   (.region [
     y 9 (.mv (.t 0)),
     y 10 (.mv (.t 5)),
     y 11 (.bin .shl .int (.t 9) (.t 10)),
     y 12 (.mv (.t 0)),
     y 13 (.mv (.t 5)),
     y 14 (.bin .sub .int (.c (.int .u64 64)) (.t 13)),
     y 15 (.bin .shr .int (.t 12) (.t 14)),
     y 16 (.bin .or .int (.t 11) (.t 15)),
     y 4 (.mv (.t 16))])
  .ret))),
  [.tmp 4]⟩

/-- wainscot/chart.base -/
def i55 : IFun := ⟨6,
  (.seq
   (.region [
     y 1 (.box 26 6 (.t 0)),
     y 2 (.mv (.c (.int .i64 0)))])
  (.seq
   (.region [
     y 3 (.addOff 0 (.t 1)),
     y 4 (.load false 1 (.t 3)),
     y 5 (.bin .mul .int (.c (.int .i64 4)) (.t 4)),
     y 2 (.mv (.t 5))])
  .ret)),
  [.tmp 2]⟩

/-- wainscot/chart.Lock$1 -/
def i56 : IFun := ⟨4,
  (.seq
   (.region [
     y 1 (.mv (.c (.int .i64 0)))])
  (.seq
   (.region [
     y 2 (.load true 6 (.t 0)),
     y 3 (.call (.c (.func (.func 55) #[] #[])) [(.t 2)] true),
     y 1 (.mv (.t 3))])
  .ret)),
  [.tmp 1]⟩

/-- wainscot/count.HeadOf -/
def i57 : IFun := ⟨15,
  (.seq
   (.region [
     y 2 (.mv (.c (.int .i64 0))),
     y 3 (.mv (.c (.int .i64 0))),
     y 4 (.mv (.c (.bool false)))])
  (.seq
   (.region [
     y 6 (.mv (.t 0)),
     y 7 (.call (.c (.func (.func 72) #[] #[])) [(.t 6), (.c (.int .i64 1)), (.c (.int .i64 1)), (.c (.func (.func 73) #[] #[]))] true),
     y 5 (.mv (.t 7)),
     y 8 (.extract (.t 5) 0),
     y 9 (.extract (.t 5) 1),
     y 10 (.extract (.t 5) 2),
     y 2 (.mv (.t 8)),
     y 3 (.mv (.t 9)),
     y 4 (.mv (.t 10))])
  (.seq
   (.seq
    (.region [
      y 11 (.mv (.t 4)),
      y 12 (.un .not (.t 11))])
   (.cond (.t 12)
    (.seq
     (.region [
       y 2 (.mv (.c (.int .i64 (-1)))),
       y 3 (.mv (.c (.int .i64 (-1)))),
       y 4 (.mv (.c (.bool false)))])
    .ret)
    .skip))
  (.seq
   (.region [
     y 13 (.mv (.t 2)),
     y 14 (.mv (.t 3)),
     y 2 (.mv (.t 13)),
     y 3 (.mv (.t 14)),
     y 4 (.mv (.c (.bool true)))])
  .ret)))),
  [.tmp 2, .tmp 3, .tmp 4]⟩

/-- (wainscot/chart.reader).list -/
def i58 : IFun := ⟨41,
  (.seq
   (.region [
     y 3 (.box 91 7 (.t 0)),
     y 6 (.mv (.c (.slice none 0 0))),
     y 7 (.mv (.c (.bool false)))])
  (.seq
   (.seq
    (.region [
      y 11 (.mv (.t 2)),
      y 12 (.addOff 1 (.t 3)),
      y 13 (.addOff 2 (.t 12)),
      y 14 (.load false 1 (.t 13)),
      y 15 (.bin .geq .int (.t 11) (.t 14))])
   (.cond (.t 15)
    (.seq
     (.region [
       y 6 (.mv (.c (.slice none 0 0))),
       y 7 (.mv (.c (.bool false)))])
    .ret)
    .skip))
  (.seq
   (.region [
     y 16 (.addOff 1 (.t 3)),
     y 17 (.load true 6 (.t 16)),
     y 18 (.mv (.t 1)),
     y 19 (.call (.c (.func (.func 18) #[] #[])) [(.t 17), (.t 18), (.c (.int .i64 0))] true),
     y 8 (.mv (.t 19))])
  (.seq
   (.region [
     y 21 (.addOff 0 (.t 3)),
     y 22 (.load false 1 (.t 21)),
     y 23 (.mv (.t 8)),
     y 24 (.mv (.t 8)),
     y 25 (.addOff 1 (.t 3)),
     y 26 (.addOff 2 (.t 25)),
     y 27 (.load false 1 (.t 26)),
     y 28 (.bin .add .int (.t 24) (.t 27)),
     y 29 (.slice 22 (.t 22) (some (.t 23)) (some (.t 28)) none),
     y 30 (.addOff 1 (.t 3)),
     y 31 (.load true 6 (.t 30)),
     y 32 (.mv (.t 1)),
     y 33 (.call (.c (.func (.func 17) #[] #[])) [(.t 31), (.t 32)] true),
     y 34 (.mv (.t 2)),
     y 35 (.call (.c (.func (.func 74) #[] #[])) [(.t 29), (.t 33), (.t 34)] true),
     y 20 (.mv (.t 35)),
     y 36 (.extract (.t 20) 0),
     y 37 (.extract (.t 20) 1),
     y 9 (.mv (.t 36)),
     y 10 (.mv (.t 37))])
  (.seq
   (.region [
     y 38 (.mv (.t 9)),
     y 39 (.mv (.t 10)),
     y 40 (.bin .eql .int (.t 39) (.c (.int .i64 0))),
     y 6 (.mv (.t 38)),
     y 7 (.mv (.t 40))])
  .ret))))),
  [.tmp 6, .tmp 7]⟩

/-- wainscot/chart.partOf -/
def i59 : IFun := ⟨15,
  (.seq
   (.region [
     y 2 (.mv (.c (.int .i64 0))),
     y 3 (.mv (.c (.bool false)))])
  (.seq
   (.region [
     y 8 (.mv (.t 0)),
     y 9 (.call (.c (.func (.func 75) #[] #[])) [(.t 8)] true),
     y 7 (.mv (.t 9)),
     y 10 (.extract (.t 7) 0),
     y 11 (.extract (.t 7) 1),
     y 12 (.extract (.t 7) 2),
     y 4 (.mv (.t 10)),
     y 5 (.mv (.t 11)),
     y 6 (.mv (.t 12))])
  (.seq
   (.region [
     y 13 (.mv (.t 4)),
     y 14 (.mv (.t 6)),
     y 2 (.mv (.t 13)),
     y 3 (.mv (.t 14))])
  .ret))),
  [.tmp 2, .tmp 3]⟩

/-- wainscot/chart.Next -/
def i60 : IFun := ⟨11,
  (.seq
   (.region [
     y 2 (.box 26 6 (.t 0)),
     y 3 (.box 3 1 (.t 1)),
     y 4 (.mv (.c (.int .i64 0)))])
  (.seq
   (.region [
     y 5 (.load true 6 (.t 2)),
     y 6 (.load false 1 (.t 3)),
     y 7 (.addOff 1 (.t 2)),
     y 8 (.load false 1 (.t 7)),
     y 9 (.mkFunc 76 [] [(.t 2), (.t 3)]),
     y 10 (.call (.c (.func (.func 30) #[] #[])) [(.t 5), (.t 6), (.t 8), (.t 9)] true),
     y 4 (.mv (.t 10))])
  .ret)),
  [.tmp 4]⟩

/-- wainscot/chart.Shelf$1 -/
def i61 : IFun := ⟨5,
  (.seq
   (.region [
     y 1 (.mv (.c (.int .i64 0)))])
  (.seq
   (.region [
     y 2 (.load true 6 (.t 0)),
     y 3 (.call (.c (.func (.func 55) #[] #[])) [(.t 2)] true),
     y 4 (.bin .add .int (.t 3) (.c (.int .i64 1))),
     y 1 (.mv (.t 4))])
  .ret)),
  [.tmp 1]⟩

/-- wainscot/count.Counts -/
def i62 : IFun := ⟨28,
  (.seq
   (.region [
     y 2 (.new 62 [(.int .i64 0), (.int .i64 0), (.bool false), (.bool false)]),
     y 3 (.mv (.c (.bool false)))])
  (.seq
   (.region [
     y 5 (.mv (.t 0)),
     y 6 (.bin .and .int (.t 5) (.c (.int .u64 255))),
     y 7 (.conv .i64 (.t 6)),
     y 8 (.mv (.t 0)),
     y 9 (.bin .shr .int (.t 8) (.c (.int .u64 8))),
     y 10 (.bin .and .int (.t 9) (.c (.int .u64 255))),
     y 11 (.conv .i64 (.t 10)),
     y 12 (.mv (.t 0)),
     y 13 (.bin .and .int (.t 12) (.c (.int .u64 65536))),
     y 14 (.bin .neq .int (.t 13) (.c (.int .u64 0))),
     y 15 (.mv (.t 0)),
     y 16 (.bin .and .int (.t 15) (.c (.int .u64 131072))),
     y 17 (.bin .neq .int (.t 16) (.c (.int .u64 0))),
     y 18 (.build [(.int .i64 0), (.int .i64 0), (.bool false), (.bool false)] [(0, 1, (.t 7)), (1, 1, (.t 11)), (2, 1, (.t 14)), (3, 1, (.t 17))]),
     y 4 (.new 62 [(.int .i64 0), (.int .i64 0), (.bool false), (.bool false)]),
     x (.store 4 (.t 4) (.t 18))])
  (.seq
   (.seq
    (.region [
      y 19 (.mv (.t 0)),
      y 20 (.bin .geq .int (.t 19) (.c (.int .u64 262144))),
      y 21 (.mv (.t 20)),
      ⟨(some 22), .load true 4 (.t 4), (some (21, false)), [], [], false⟩,
      ⟨(some 23), .call (.c (.func (.func 36) #[] #[])) [(.t 22)] true, (some (21, false)), [], [], false⟩,
      ⟨(some 24), .un .not (.t 23), (some (21, false)), [], [], false⟩,
      y 25 (.pick (.t 21) (.c (.bool true)) (.t 24))])
   (.cond (.t 25)
    (.seq
     (.region [
       y 26 (.build [(.int .i64 0), (.int .i64 0), (.bool false), (.bool false)] []),
       x (.store 4 (.t 2) (.t 26)),
       y 3 (.mv (.c (.bool false)))])
    .ret)
    .skip))
  (.seq
   (.region [
     y 27 (.load true 4 (.t 4)),
     x (.store 4 (.t 2) (.t 27)),
     y 3 (.mv (.c (.bool true)))])
  .ret)))),
  [.cell 2 true 4, .tmp 3]⟩

/-- (*wainscot/fast.step).load -/
def i63 : IFun := ⟨21,
  (.seq
   (.region [
     y 4 (.mv (.c (.int .u64 0)))])
  (.seq
   (.region [
     y 8 (.mv (.t 0)),
     y 9 (.nilCheck (.t 8)),
     y 10 (.addOff 0 (.t 9)),
     y 11 (.load false 1 (.t 10)),
     y 12 (.mv (.t 1)),
     y 13 (.call (.c (.func (.func 77) #[] #[])) [(.t 11), (.t 12)] false),
     y 7 (.mv (.t 13)),
     y 14 (.extract (.t 7) 0),
     y 15 (.extract (.t 7) 1),
     y 5 (.mv (.t 14)),
     y 6 (.mv (.t 15))])
  (.seq
   (.region [
     y 16 (.mv (.t 0)),
     y 17 (.mv (.t 6)),
     y 18 (.bin .eql .int (.t 17) (.c (.int .i64 0))),
     y 19 (.call (.c (.func (.func 70) #[] #[])) [(.t 16), (.t 18)] false)])
  (.seq
   (.region [
     y 20 (.mv (.t 5)),
     y 4 (.mv (.t 20))])
  .ret)))),
  [.tmp 4]⟩

/-- wainscot/fast.behind -/
def i64 : IFun := ⟨8,
  (.seq
   (.region [
     y 2 (.mv (.c (.int .i64 0)))])
  (.seq
   (.seq
    (.region [
      y 3 (.mv (.t 0)),
      y 4 (.bin .lss .int (.t 3) (.c (.int .i64 0)))])
   (.cond (.t 4)
    (.seq
     (.region [
       y 5 (.mv (.t 0)),
       y 2 (.mv (.t 5))])
    .ret)
    .skip))
  (.seq
   (.region [
     y 6 (.mv (.t 0)),
     y 7 (.bin .add .int (.t 6) (.c (.int .i64 1))),
     y 2 (.mv (.t 7))])
  .ret))),
  [.tmp 2]⟩

/-- (*wainscot/fast.step).to -/
def i65 : IFun := ⟨9,
  (.region [
    y 4 (.mv (.t 0)),
    y 5 (.mv (.t 1)),
    y 6 (.nilCheck (.t 4)),
    y 7 (.addOff 7 (.t 6)),
    y 8 (.addOff 2 (.t 7)),
    x (.store 1 (.t 8) (.t 5))]),
  []⟩

/-- (*wainscot/fast.step).head -/
def i66 : IFun := ⟨54,
  (.seq
   (.region [
     y 2 (.mv (.c (.int .i64 0))),
     y 3 (.mv (.c (.int .i64 0)))])
  (.seq
   (.region [
     y 5 (.mv (.t 0)),
     y 6 (.mv (.t 0)),
     y 7 (.mv (.t 0)),
     y 8 (.nilCheck (.t 7)),
     y 9 (.addOff 1 (.t 8)),
     y 10 (.load true 6 (.t 9)),
     y 11 (.mv (.t 0)),
     y 12 (.nilCheck (.t 11)),
     y 13 (.addOff 7 (.t 12)),
     y 14 (.addOff 1 (.t 13)),
     y 15 (.load false 1 (.t 14)),
     y 16 (.call (.c (.func (.func 13) #[] #[])) [(.t 10), (.t 15)] true),
     y 17 (.call (.c (.func (.func 63) #[] #[])) [(.t 6), (.t 16)] false),
     y 18 (.nilCheck (.t 5)),
     y 19 (.addOff 7 (.t 18)),
     y 20 (.addOff 7 (.t 19)),
     x (.store 1 (.t 20) (.t 17))])
  (.seq
   (.region [
     y 22 (.mv (.t 0)),
     y 23 (.nilCheck (.t 22)),
     y 24 (.addOff 7 (.t 23)),
     y 25 (.addOff 7 (.t 24)),
     y 26 (.load false 1 (.t 25)),
     y 27 (.call (.c (.func (.func 57) #[] #[])) [(.t 26)] true),
     y 21 (.mv (.t 27)),
     y 28 (.extract (.t 21) 0),
     y 29 (.extract (.t 21) 1),
     y 30 (.extract (.t 21) 2),
     y 2 (.mv (.t 28)),
     y 3 (.mv (.t 29)),
     y 4 (.mv (.t 30))])
  (.seq
   (.region [
     y 31 (.mv (.t 0)),
     y 32 (.mv (.t 4)),
     y 33 (.mv (.t 32)),
     ⟨(some 34), .mv (.t 2), (some (33, true)), [], [], false⟩,
     ⟨(some 35), .mv (.t 0), (some (33, true)), [], [], false⟩,
     ⟨(some 36), .nilCheck (.t 35), (some (33, true)), [], [], false⟩,
     ⟨(some 37), .addOff 1 (.t 36), (some (33, true)), [], [], false⟩,
     ⟨(some 38), .addOff 1 (.t 37), (some (33, true)), [], [], false⟩,
     ⟨(some 39), .load false 1 (.t 38), (some (33, true)), [], [], false⟩,
     ⟨(some 40), .bin .lss .int (.t 34) (.t 39), (some (33, true)), [], [], false⟩,
     y 41 (.pick (.t 33) (.t 40) (.c (.bool false))),
     y 42 (.mv (.t 41)),
     ⟨(some 43), .mv (.t 3), (some (42, true)), [], [], false⟩,
     ⟨(some 44), .mv (.t 0), (some (42, true)), [], [], false⟩,
     ⟨(some 45), .nilCheck (.t 44), (some (42, true)), [], [], false⟩,
     ⟨(some 46), .addOff 1 (.t 45), (some (42, true)), [], [], false⟩,
     ⟨(some 47), .addOff 2 (.t 46), (some (42, true)), [], [], false⟩,
     ⟨(some 48), .load false 1 (.t 47), (some (42, true)), [], [], false⟩,
     ⟨(some 49), .bin .lss .int (.t 43) (.t 48), (some (42, true)), [], [], false⟩,
     y 50 (.pick (.t 42) (.t 49) (.c (.bool false))),
     y 51 (.call (.c (.func (.func 70) #[] #[])) [(.t 31), (.t 50)] false)])
  (.seq
   (.region [
     y 52 (.mv (.t 2)),
     y 53 (.mv (.t 3)),
     y 2 (.mv (.t 52)),
     y 3 (.mv (.t 53))])
  .ret))))),
  [.tmp 2, .tmp 3]⟩

/-- wainscot/link.Show -/
def i67 : IFun := ⟨21,
  (.seq
   (.region [
     y 6 (.mv (.c (.int .i64 0))),
     y 7 (.mv (.c (.bool false)))])
  (.seq
   (.seq
    (.region [
      y 8 (.mv (.t 2)),
      y 9 (.call (.c (.func (.func 78) #[] #[])) [(.t 8)] true),
      y 10 (.un .not (.t 9))])
   (.cond (.t 10)
    (.seq
     (.region [
       y 6 (.mv (.c (.int .i64 0))),
       y 7 (.mv (.c (.bool false)))])
    .ret)
    .skip))
  (.seq
   (.seq
    (.region [
      y 11 (.mv (.t 0)),
      y 12 (.mv (.t 1)),
      y 13 (.mv (.t 2)),
      y 14 (.call (.c (.func (.func 33) #[] #[])) [(.t 12), (.t 13)] true),
      y 15 (.bin .xor .int (.t 11) (.t 14)),
      y 0 (.mv (.t 15))])
   (.seq
    (.region [
      y 16 (.mv (.t 0)),
      y 17 (.bin .gtr .int (.t 16) (.c (.int .u64 16)))])
   (.cond (.t 17)
    (.seq
     (.region [
       y 6 (.mv (.c (.int .i64 0))),
       y 7 (.mv (.c (.bool false)))])
    .ret)
    .skip)))
  (.seq
   (.region [
     y 18 (.mv (.t 0)),
     y 19 (.conv .i64 (.t 18)),
     y 20 (.bin .sub .int (.t 19) (.c (.int .i64 1))),
     y 6 (.mv (.t 20)),
     y 7 (.mv (.c (.bool true)))])
  .ret)))),
  [.tmp 6, .tmp 7]⟩

/-- (*wainscot/fast.step).swap -/
def i68 : IFun := ⟨62,
  (.seq
   (.region [
     y 9 (.mv (.t 0)),
     y 10 (.nilCheck (.t 9)),
     y 11 (.addOff 7 (.t 10)),
     y 12 (.addOff 5 (.t 11)),
     y 13 (.load false 1 (.t 12)),
     y 14 (.mv (.t 1)),
     y 15 (.call (.c (.func (.func 19) #[] #[])) [(.t 13), (.t 14)] true),
     y 8 (.mv (.t 15)),
     y 16 (.extract (.t 8) 0),
     y 17 (.extract (.t 8) 1),
     y 6 (.mv (.t 16)),
     y 7 (.mv (.t 17))])
  (.seq
   (.region [
     y 18 (.mv (.t 0)),
     y 19 (.mv (.t 7)),
     y 20 (.bin .eql .int (.t 19) (.c (.int .i64 0))),
     y 21 (.call (.c (.func (.func 70) #[] #[])) [(.t 18), (.t 20)] false)])
  (.seq
   (.seq
    (.region [
      y 22 (.mv (.t 0)),
      y 23 (.nilCheck (.t 22)),
      y 24 (.addOff 24 (.t 23)),
      y 25 (.load false 1 (.t 24))])
   (.cond (.t 25)
    .ret
    .skip))
  (.seq
   (.seq
    (.region [
      y 26 (.mv (.t 0)),
      y 27 (.mv (.t 0)),
      y 28 (.nilCheck (.t 27)),
      y 29 (.addOff 1 (.t 28)),
      y 30 (.load true 6 (.t 29)),
      y 31 (.mv (.t 0)),
      y 32 (.nilCheck (.t 31)),
      y 33 (.addOff 7 (.t 32)),
      y 34 (.addOff 1 (.t 33)),
      y 35 (.load false 1 (.t 34)),
      y 36 (.call (.c (.func (.func 13) #[] #[])) [(.t 30), (.t 35)] true),
      y 37 (.mv (.t 0)),
      y 38 (.nilCheck (.t 37)),
      y 39 (.addOff 7 (.t 38)),
      y 40 (.addOff 7 (.t 39)),
      y 41 (.load false 1 (.t 40)),
      y 42 (.mv (.t 0)),
      y 43 (.nilCheck (.t 42)),
      y 44 (.addOff 7 (.t 43)),
      y 45 (.addOff 8 (.t 44)),
      y 46 (.load false 1 (.t 45)),
      y 47 (.mv (.t 6)),
      y 48 (.mv (.t 0)),
      y 49 (.nilCheck (.t 48)),
      y 50 (.addOff 7 (.t 49)),
      y 51 (.addOff 8 (.t 50)),
      y 52 (.load false 1 (.t 51)),
      y 53 (.bin .add .int (.t 52) (.c (.int .u64 1))),
      y 54 (.call (.c (.func (.func 79) #[] #[])) [(.t 26), (.t 36), (.t 41), (.t 46), (.t 47), (.t 53)] false)])
   (.cond (.t 54)
    (.seq
     (.region [
       y 55 (.mv (.t 0)),
       y 56 (.nilCheck (.t 55)),
       y 57 (.addOff 7 (.t 56)),
       y 58 (.addOff 3 (.t 57)),
       x (.store 1 (.t 58) (.c (.int .i64 1)))])
    .ret)
    .skip))
  (.region [
    y 59 (.mv (.t 0)),
    y 60 (.mv (.t 2)),
    y 61 (.call (.c (.func (.func 65) #[] #[])) [(.t 59), (.t 60)] false)]))))),
  []⟩

/-- wainscot/link.Hide -/
def i69 : IFun := ⟨27,
  (.seq
   (.region [
     y 6 (.mv (.c (.int .u64 0))),
     y 7 (.mv (.c (.int .i64 0)))])
  (.seq
   (.seq
    (.region [
      y 8 (.mv (.t 0)),
      y 9 (.bin .neq .int (.t 8) (.c (.int .i64 (-1)))),
      y 10 (.mv (.t 9)),
      ⟨(some 11), .mv (.t 0), (some (10, true)), [], [], false⟩,
      ⟨(some 12), .call (.c (.func (.func 78) #[] #[])) [(.t 11)] true, (some (10, true)), [], [], false⟩,
      ⟨(some 13), .un .not (.t 12), (some (10, true)), [], [], false⟩,
      y 14 (.pick (.t 10) (.t 13) (.c (.bool false))),
      y 15 (.mv (.t 14)),
      ⟨(some 16), .mv (.t 2), (some (15, false)), [], [], false⟩,
      ⟨(some 17), .call (.c (.func (.func 78) #[] #[])) [(.t 16)] true, (some (15, false)), [], [], false⟩,
      ⟨(some 18), .un .not (.t 17), (some (15, false)), [], [], false⟩,
      y 19 (.pick (.t 15) (.c (.bool true)) (.t 18))])
   (.cond (.t 19)
    (.seq
     (.region [
       y 6 (.mv (.c (.int .u64 0))),
       y 7 (.mv (.c (.int .i64 2)))])
    .ret)
    .skip))
  (.seq
   (.region [
     y 20 (.mv (.t 0)),
     y 21 (.bin .add .int (.t 20) (.c (.int .i64 1))),
     y 22 (.conv .u64 (.t 21)),
     y 23 (.mv (.t 1)),
     y 24 (.mv (.t 2)),
     y 25 (.call (.c (.func (.func 33) #[] #[])) [(.t 23), (.t 24)] true),
     y 26 (.bin .xor .int (.t 22) (.t 25)),
     y 6 (.mv (.t 26)),
     y 7 (.mv (.c (.int .i64 0)))])
  .ret))),
  [.tmp 6, .tmp 7]⟩

/-- (*wainscot/fast.step).must -/
def i70 : IFun := ⟨15,
  (.region [
    y 4 (.mv (.t 0)),
    y 5 (.mv (.t 0)),
    y 6 (.nilCheck (.t 5)),
    y 7 (.addOff 24 (.t 6)),
    y 8 (.load false 1 (.t 7)),
    y 9 (.mv (.t 8)),
    ⟨(some 10), .mv (.t 1), (some (9, false)), [], [], false⟩,
    ⟨(some 11), .un .not (.t 10), (some (9, false)), [], [], false⟩,
    y 12 (.pick (.t 9) (.c (.bool true)) (.t 11)),
    y 13 (.nilCheck (.t 4)),
    y 14 (.addOff 24 (.t 13)),
    x (.store 1 (.t 14) (.t 12))]),
  []⟩

/-- (*wainscot/fast.step).store -/
def i71 : IFun := ⟨16,
  (.region [
    y 6 (.mv (.t 0)),
    y 7 (.mv (.t 0)),
    y 8 (.nilCheck (.t 7)),
    y 9 (.addOff 0 (.t 8)),
    y 10 (.load false 1 (.t 9)),
    y 11 (.mv (.t 1)),
    y 12 (.mv (.t 2)),
    y 13 (.call (.c (.func (.func 12) #[] #[])) [(.t 10), (.t 11), (.t 12)] false),
    y 14 (.bin .eql .int (.t 13) (.c (.int .i64 0))),
    y 15 (.call (.c (.func (.func 70) #[] #[])) [(.t 6), (.t 14)] false)]),
  []⟩

/-- wainscot/count.told[int] -/
def i72 : IFun := ⟨34,
  (.seq
   (.region [
     y 8 (.mv (.c (.int .i64 0))),
     y 9 (.mv (.c (.int .i64 0))),
     y 10 (.mv (.c (.bool false)))])
  (.seq
   (.region [
     y 13 (.mv (.t 0)),
     y 14 (.bin .shr .int (.t 13) (.c (.int .u64 6))),
     y 15 (.conv .i64 (.t 14)),
     y 16 (.mv (.t 1)),
     y 17 (.bin .sub .int (.t 15) (.t 16)),
     y 18 (.mv (.t 0)),
     y 19 (.bin .and .int (.t 18) (.c (.int .u64 63))),
     y 20 (.conv .i64 (.t 19)),
     y 21 (.mv (.t 2)),
     y 22 (.bin .sub .int (.t 20) (.t 21)),
     y 11 (.mv (.t 17)),
     y 12 (.mv (.t 22))])
  (.seq
   (.seq
    (.region [
      y 23 (.mv (.t 0)),
      y 24 (.bin .gtr .int (.t 23) (.c (.int .u64 4095))),
      y 25 (.mv (.t 24)),
      ⟨(some 26), .mv (.t 3), (some (25, false)), [], [], false⟩,
      ⟨(some 27), .mv (.t 11), (some (25, false)), [], [], false⟩,
      ⟨(some 28), .mv (.t 12), (some (25, false)), [], [], false⟩,
      ⟨(some 29), .call (.t 26) [(.t 27), (.t 28)] false, (some (25, false)), [], [], false⟩,
      ⟨(some 30), .un .not (.t 29), (some (25, false)), [], [], false⟩,
      y 31 (.pick (.t 25) (.c (.bool true)) (.t 30))])
   (.cond (.t 31)
    (.seq
     (.region [
       y 8 (.mv (.c (.int .i64 0))),
       y 9 (.mv (.c (.int .i64 0))),
       y 10 (.mv (.c (.bool false)))])
    .ret)
    .skip))
  (.seq
   (.region [
     y 32 (.mv (.t 11)),
     y 33 (.mv (.t 12)),
     y 8 (.mv (.t 32)),
     y 9 (.mv (.t 33)),
     y 10 (.mv (.c (.bool true)))])
  .ret)))),
  [.tmp 8, .tmp 9, .tmp 10]⟩

/-- wainscot/count.HeadOf$1 -/
def i73 : IFun := ⟨15,
  (.seq
   (.region [
     y 4 (.mv (.c (.bool false)))])
  (.seq
   (.region [
     y 8 (.mv (.t 0)),
     y 9 (.mv (.t 1)),
     y 10 (.call (.c (.func (.func 19) #[] #[])) [(.t 8), (.t 9)] true),
     y 7 (.mv (.t 10)),
     y 11 (.extract (.t 7) 0),
     y 12 (.extract (.t 7) 1),
     y 5 (.mv (.t 11)),
     y 6 (.mv (.t 12))])
  (.seq
   (.region [
     y 13 (.mv (.t 6)),
     y 14 (.bin .eql .int (.t 13) (.c (.int .i64 0))),
     y 4 (.mv (.t 14))])
  .ret))),
  [.tmp 4]⟩

/-- wainscot/link.List -/
def i74 : IFun := ⟨58,
  (.seq
   (.region [
     y 6 (.mv (.c (.slice none 0 0))),
     y 7 (.mv (.c (.int .i64 0)))])
  (.seq
   (.seq
    (.region [
      y 12 (.mv (.t 0)),
      y 13 (.lenS (.t 12)),
      y 14 (.bin .gtr .int (.t 13) (.c (.int .i64 16))),
      y 15 (.mv (.t 14)),
      ⟨(some 16), .mv (.t 2), (some (15, false)), [], [], false⟩,
      ⟨(some 17), .bin .lss .int (.t 16) (.c (.int .i64 (-1))), (some (15, false)), [], [], false⟩,
      y 18 (.pick (.t 15) (.c (.bool true)) (.t 17)),
      y 19 (.mv (.t 18)),
      ⟨(some 20), .mv (.t 2), (some (19, false)), [], [], false⟩,
      ⟨(some 21), .mv (.t 0), (some (19, false)), [], [], false⟩,
      ⟨(some 22), .lenS (.t 21), (some (19, false)), [], [], false⟩,
      ⟨(some 23), .bin .geq .int (.t 20) (.t 22), (some (19, false)), [], [], false⟩,
      y 24 (.pick (.t 19) (.c (.bool true)) (.t 23))])
   (.cond (.t 24)
    (.seq
     (.region [
       y 6 (.mv (.c (.slice none 0 0))),
       y 7 (.mv (.c (.int .i64 2)))])
    .ret)
    .skip))
  (.seq
   (.region [
     y 8 (.new 125 [(.bool false), (.bool false), (.bool false), (.bool false), (.bool false), (.bool false), (.bool false), (.bool false), (.bool false), (.bool false), (.bool false), (.bool false), (.bool false), (.bool false), (.bool false), (.bool false)])])
  (.seq
   (.region [
     y 9 (.mv (.c (.slice none 0 0)))])
  (.seq
   .skip
  (.seq
   (.block 0
    (.loop
     (.block 1
      (.seq
       (.block 2
        (.seq
         (.region [
           y 26 (.mv (.t 2)),
           y 27 (.bin .eql .int (.t 26) (.c (.int .i64 (-1)))),
           y 25 (.mv (.t 27))])
        (.cond (.t 25)
         (.exit 0)
         (.seq
          (.region [
            y 29 (.mv (.t 2)),
            y 30 (.idxA 16 1 (.t 8) (.t 29)),
            y 31 (.load false 1 (.t 30)),
            y 28 (.mv (.t 31))])
         (.cond (.t 28)
          (.seq
           (.region [
             y 6 (.mv (.c (.slice none 0 0))),
             y 7 (.mv (.c (.int .i64 150)))])
          .ret)
          .skip)))))
      (.seq
       (.region [
         y 32 (.mv (.t 2)),
         y 33 (.idxA 16 1 (.t 8) (.t 32)),
         x (.store 1 (.t 33) (.c (.bool true)))])
      (.seq
       (.region [
         y 34 (.mv (.t 9)),
         y 35 (.mv (.t 2)),
         y 36 (.buildSlice 3 [(.int .i64 0)] 1 [(0, 1, (.t 35))]),
         y 37 (.append 3 1 8 (.t 34) (.t 36)),
         y 9 (.mv (.t 37))])
      (.seq
       (.region [
         y 39 (.mv (.t 0)),
         y 40 (.mv (.t 2)),
         y 41 (.idxS 1 (.t 39) (.t 40)),
         y 42 (.load false 1 (.t 41)),
         y 43 (.mv (.t 1)),
         y 44 (.mv (.t 2)),
         y 45 (.call (.c (.func (.func 67) #[] #[])) [(.t 42), (.t 43), (.t 44)] true),
         y 38 (.mv (.t 45)),
         y 46 (.extract (.t 38) 0),
         y 47 (.extract (.t 38) 1),
         y 10 (.mv (.t 46)),
         y 11 (.mv (.t 47))])
      (.seq
       (.seq
        (.region [
          y 48 (.mv (.t 11)),
          y 49 (.un .not (.t 48)),
          y 50 (.mv (.t 49)),
          ⟨(some 51), .mv (.t 10), (some (50, false)), [], [], false⟩,
          ⟨(some 52), .mv (.t 0), (some (50, false)), [], [], false⟩,
          ⟨(some 53), .lenS (.t 52), (some (50, false)), [], [], false⟩,
          ⟨(some 54), .bin .geq .int (.t 51) (.t 53), (some (50, false)), [], [], false⟩,
          y 55 (.pick (.t 50) (.c (.bool true)) (.t 54))])
       (.cond (.t 55)
        (.seq
         (.region [
           y 6 (.mv (.c (.slice none 0 0))),
           y 7 (.mv (.c (.int .i64 150)))])
        .ret)
        .skip))
      (.region [
        y 56 (.mv (.t 10)),
        y 2 (.mv (.t 56))])))))))))
  (.seq
   (.region [
     y 57 (.mv (.t 9)),
     y 6 (.mv (.t 57)),
     y 7 (.mv (.c (.int .i64 0)))])
  .ret))))))),
  [.tmp 6, .tmp 7]⟩

/-- wainscot/count.PartOf -/
def i75 : IFun := ⟨15,
  (.seq
   (.region [
     y 2 (.mv (.c (.int .i64 0))),
     y 3 (.mv (.c (.int .i64 0))),
     y 4 (.mv (.c (.bool false)))])
  (.seq
   (.region [
     y 6 (.mv (.t 0)),
     y 7 (.call (.c (.func (.func 72) #[] #[])) [(.t 6), (.c (.int .i64 0)), (.c (.int .i64 1)), (.c (.func (.func 80) #[] #[]))] true),
     y 5 (.mv (.t 7)),
     y 8 (.extract (.t 5) 0),
     y 9 (.extract (.t 5) 1),
     y 10 (.extract (.t 5) 2),
     y 3 (.mv (.t 8)),
     y 2 (.mv (.t 9)),
     y 4 (.mv (.t 10))])
  (.seq
   (.seq
    (.region [
      y 11 (.mv (.t 4)),
      y 12 (.un .not (.t 11))])
   (.cond (.t 12)
    (.seq
     (.region [
       y 2 (.mv (.c (.int .i64 (-1)))),
       y 3 (.mv (.c (.int .i64 0))),
       y 4 (.mv (.c (.bool false)))])
    .ret)
    .skip))
  (.seq
   (.region [
     y 13 (.mv (.t 2)),
     y 14 (.mv (.t 3)),
     y 2 (.mv (.t 13)),
     y 3 (.mv (.t 14)),
     y 4 (.mv (.c (.bool true)))])
  .ret)))),
  [.tmp 2, .tmp 3, .tmp 4]⟩

/-- wainscot/chart.Next$1 -/
def i76 : IFun := ⟨9,
  (.seq
   (.region [
     y 2 (.mv (.c (.int .i64 0)))])
  (.seq
   (.region [
     y 3 (.load true 6 (.t 0)),
     y 4 (.call (.c (.func (.func 39) #[] #[])) [(.t 3)] true),
     y 5 (.load false 1 (.t 1)),
     y 6 (.bin .mul .int (.c (.int .i64 4)) (.t 5)),
     y 7 (.bin .add .int (.t 4) (.t 6)),
     y 8 (.bin .add .int (.t 7) (.c (.int .i64 2))),
     y 2 (.mv (.t 8))])
  .ret)),
  [.tmp 2]⟩

/-- (*wainscot/mem.Mem).Load -/
def i77 : IFun := ⟨12,
  (.seq
   (.region [
     y 4 (.new 22 [(.int .u64 0)]),
     y 5 (.mv (.c (.int .i64 0)))])
  (.seq
   (.region [
     y 6 (.mv (.t 0)),
     y 7 (.mv (.t 1)),
     y 8 (.mkFunc 82 [] [(.t 4)]),
     y 9 (.call (.c (.func (.func 28) #[] #[])) [(.t 6), (.t 7), (.c (.int .i64 1)), (.t 8)] false),
     y 5 (.mv (.t 9))])
  (.seq
   (.region [
     y 10 (.load false 1 (.t 4)),
     y 11 (.mv (.t 5)),
     x (.store 1 (.t 4) (.t 10)),
     y 5 (.mv (.t 11))])
  .ret))),
  [.cell 4 false 1, .tmp 5]⟩

/-- wainscot/link.object -/
def i78 : IFun := ⟨9,
  (.seq
   (.region [
     y 2 (.mv (.c (.bool false)))])
  (.seq
   (.region [
     y 3 (.mv (.t 0)),
     y 4 (.bin .leq .int (.c (.int .i64 0)) (.t 3)),
     y 5 (.mv (.t 4)),
     ⟨(some 6), .mv (.t 0), (some (5, true)), [], [], false⟩,
     ⟨(some 7), .bin .lss .int (.t 6) (.c (.int .i64 16)), (some (5, true)), [], [], false⟩,
     y 8 (.pick (.t 5) (.t 7) (.c (.bool false))),
     y 2 (.mv (.t 8))])
  .ret)),
  [.tmp 2]⟩

/-- (*wainscot/fast.step).cas2 -/
def i79 : IFun := ⟨33,
  (.seq
   (.region [
     y 12 (.mv (.c (.bool false)))])
  (.seq
   (.region [
     y 16 (.mv (.t 0)),
     y 17 (.nilCheck (.t 16)),
     y 18 (.addOff 0 (.t 17)),
     y 19 (.load false 1 (.t 18)),
     y 20 (.mv (.t 1)),
     y 21 (.mv (.t 2)),
     y 22 (.mv (.t 3)),
     y 23 (.mv (.t 4)),
     y 24 (.mv (.t 5)),
     y 25 (.call (.c (.func (.func 83) #[] #[])) [(.t 19), (.t 20), (.t 21), (.t 22), (.t 23), (.t 24)] false),
     y 15 (.mv (.t 25)),
     y 26 (.extract (.t 15) 0),
     y 27 (.extract (.t 15) 1),
     y 13 (.mv (.t 26)),
     y 14 (.mv (.t 27))])
  (.seq
   (.region [
     y 28 (.mv (.t 0)),
     y 29 (.mv (.t 14)),
     y 30 (.bin .eql .int (.t 29) (.c (.int .i64 0))),
     y 31 (.call (.c (.func (.func 70) #[] #[])) [(.t 28), (.t 30)] false)])
  (.seq
   (.region [
     y 32 (.mv (.t 13)),
     y 12 (.mv (.t 32))])
  .ret)))),
  [.tmp 12]⟩

/-- wainscot/count.PartOf$1 -/
def i80 : IFun := ⟨15,
  (.seq
   (.region [
     y 4 (.mv (.c (.bool false)))])
  (.seq
   (.region [
     y 8 (.mv (.t 1)),
     y 9 (.mv (.t 0)),
     y 10 (.call (.c (.func (.func 81) #[] #[])) [(.t 8), (.t 9)] true),
     y 7 (.mv (.t 10)),
     y 11 (.extract (.t 7) 0),
     y 12 (.extract (.t 7) 1),
     y 5 (.mv (.t 11)),
     y 6 (.mv (.t 12))])
  (.seq
   (.region [
     y 13 (.mv (.t 6)),
     y 14 (.bin .eql .int (.t 13) (.c (.int .i64 0))),
     y 4 (.mv (.t 14))])
  .ret))),
  [.tmp 4]⟩

/-- wainscot/count.Part -/
def i81 : IFun := ⟨32,
  (.seq
   (.region [
     y 4 (.mv (.c (.int .u64 0))),
     y 5 (.mv (.c (.int .i64 0)))])
  (.seq
   (.block 0
    (.seq
     (.region [
       y 7 (.mv (.t 0)),
       y 8 (.bin .eql .int (.t 7) (.c (.int .i64 (-1)))),
       y 9 (.mv (.t 8)),
       ⟨(some 10), .mv (.t 1), (some (9, true)), [], [], false⟩,
       ⟨(some 11), .bin .eql .int (.t 10) (.c (.int .i64 0)), (some (9, true)), [], [], false⟩,
       y 12 (.pick (.t 9) (.t 11) (.c (.bool false))),
       y 6 (.mv (.t 12))])
    (.cond (.t 6)
     (.seq
      (.region [
        y 4 (.mv (.c (.int .u64 0))),
        y 5 (.mv (.c (.int .i64 0)))])
     .ret)
     (.seq
      (.region [
        y 14 (.mv (.t 0)),
        y 15 (.call (.c (.func (.func 35) #[] #[])) [(.t 14)] true),
        y 16 (.un .not (.t 15)),
        y 17 (.mv (.t 16)),
        ⟨(some 18), .mv (.t 1), (some (17, false)), [], [], false⟩,
        ⟨(some 19), .bin .lss .int (.t 18) (.c (.int .i64 1)), (some (17, false)), [], [], false⟩,
        y 20 (.pick (.t 17) (.c (.bool true)) (.t 19)),
        y 21 (.mv (.t 20)),
        ⟨(some 22), .mv (.t 1), (some (21, false)), [], [], false⟩,
        ⟨(some 23), .bin .gtr .int (.t 22) (.c (.int .i64 63)), (some (21, false)), [], [], false⟩,
        y 24 (.pick (.t 21) (.c (.bool true)) (.t 23)),
        y 13 (.mv (.t 24))])
     (.cond (.t 13)
      (.seq
       (.region [
         y 4 (.mv (.c (.int .u64 0))),
         y 5 (.mv (.c (.int .i64 2)))])
      .ret)
      .skip)))))
  (.seq
   (.region [
     y 25 (.mv (.t 1)),
     y 26 (.conv .u64 (.t 25)),
     y 27 (.bin .shl .int (.t 26) (.c (.int .u64 6))),
     y 28 (.mv (.t 0)),
     y 29 (.bin .add .int (.t 28) (.c (.int .i64 1))),
     y 30 (.conv .u64 (.t 29)),
     y 31 (.bin .or .int (.t 27) (.t 30)),
     y 4 (.mv (.t 31)),
     y 5 (.mv (.c (.int .i64 0)))])
  .ret))),
  [.tmp 4, .tmp 5]⟩

/-- (*wainscot/mem.Mem).Load$1 -/
def i82 : IFun := ⟨6,
  (.region [
    y 3 (.mv (.t 0)),
    y 4 (.idxS 1 (.t 3) (.c (.int .i64 0))),
    y 5 (.load false 1 (.t 4)),
    x (.store 1 (.t 1) (.t 5))]),
  []⟩

/-- (*wainscot/mem.Mem).Cas2 -/
def i83 : IFun := ⟨20,
  (.seq
   (.region [
     y 8 (.box 22 1 (.t 2)),
     y 9 (.box 22 1 (.t 3)),
     y 10 (.box 22 1 (.t 4)),
     y 11 (.box 22 1 (.t 5)),
     y 12 (.new 4 [(.bool false)]),
     y 13 (.mv (.c (.int .i64 0)))])
  (.seq
   (.region [
     y 14 (.mv (.t 0)),
     y 15 (.mv (.t 1)),
     y 16 (.mkFunc 84 [] [(.t 8), (.t 9), (.t 12), (.t 10), (.t 11)]),
     y 17 (.call (.c (.func (.func 28) #[] #[])) [(.t 14), (.t 15), (.c (.int .i64 2)), (.t 16)] false),
     y 13 (.mv (.t 17))])
  (.seq
   (.region [
     y 18 (.load false 1 (.t 12)),
     y 19 (.mv (.t 13)),
     x (.store 1 (.t 12) (.t 18)),
     y 13 (.mv (.t 19))])
  .ret))),
  [.cell 12 false 1, .tmp 13]⟩

/-- (*wainscot/mem.Mem).Cas2$1 -/
def i84 : IFun := ⟨25,
  (.seq
   (.region [
     y 7 (.mv (.t 0)),
     y 8 (.idxS 1 (.t 7) (.c (.int .i64 0))),
     y 9 (.load false 1 (.t 8)),
     y 10 (.mv (.t 0)),
     y 11 (.idxS 1 (.t 10) (.c (.int .i64 1))),
     y 12 (.load false 1 (.t 11)),
     y 13 (.build [(.int .u64 0), (.int .u64 0)] [(0, 1, (.t 9)), (1, 1, (.t 12))]),
     y 14 (.load false 1 (.t 1)),
     y 15 (.load false 1 (.t 2)),
     y 16 (.build [(.int .u64 0), (.int .u64 0)] [(0, 1, (.t 14)), (1, 1, (.t 15))]),
     y 17 (.bin .eql (.plain [(some .u64), (some .u64)]) (.t 13) (.t 16)),
     x (.store 1 (.t 3) (.t 17))])
  (.seq
   (.region [
     y 18 (.load false 1 (.t 3))])
  (.cond (.t 18)
   (.region [
     y 19 (.mv (.t 0)),
     y 20 (.mv (.t 0)),
     y 21 (.load false 1 (.t 4)),
     y 22 (.load false 1 (.t 5)),
     y 23 (.idxS 1 (.t 19) (.c (.int .i64 0))),
     ⟨none, .store 1 (.t 23) (.t 21), none, [], [3], false⟩,
     y 24 (.idxS 1 (.t 20) (.c (.int .i64 1))),
     x (.store 1 (.t 24) (.t 22))])
   .skip))),
  []⟩

theorem c3 : cFun Try.prog 0 quiet Try.f3 = some i3 := by kernel_rfl
theorem g3 : Try.prog.funcs[3]? = some Try.f3 := by kernel_rfl
theorem c4 : cFun Try.prog 0 quiet Try.f4 = some i4 := by kernel_rfl
theorem g4 : Try.prog.funcs[4]? = some Try.f4 := by kernel_rfl
theorem c6 : cFun Try.prog 0 quiet Try.f6 = some i6 := by kernel_rfl
theorem g6 : Try.prog.funcs[6]? = some Try.f6 := by kernel_rfl
theorem c7 : cFun Try.prog 0 quiet Try.f7 = some i7 := by kernel_rfl
theorem g7 : Try.prog.funcs[7]? = some Try.f7 := by kernel_rfl
theorem c8 : cFun Try.prog 0 quiet Try.f8 = some i8 := by kernel_rfl
theorem g8 : Try.prog.funcs[8]? = some Try.f8 := by kernel_rfl
theorem c9 : cFun Try.prog 0 quiet Try.f9 = some i9 := by kernel_rfl
theorem g9 : Try.prog.funcs[9]? = some Try.f9 := by kernel_rfl
theorem c10 : cFun Try.prog 0 quiet Try.f10 = some i10 := by kernel_rfl
theorem g10 : Try.prog.funcs[10]? = some Try.f10 := by kernel_rfl
theorem c11 : cFun Try.prog 0 quiet Try.f11 = some i11 := by kernel_rfl
theorem g11 : Try.prog.funcs[11]? = some Try.f11 := by kernel_rfl
theorem c12 : cFun Try.prog 0 quiet Try.f12 = some i12 := by kernel_rfl
theorem g12 : Try.prog.funcs[12]? = some Try.f12 := by kernel_rfl
theorem c13 : cFun Try.prog 0 quiet Try.f13 = some i13 := by kernel_rfl
theorem g13 : Try.prog.funcs[13]? = some Try.f13 := by kernel_rfl
theorem c14 : cFun Try.prog 0 quiet Try.f14 = some i14 := by kernel_rfl
theorem g14 : Try.prog.funcs[14]? = some Try.f14 := by kernel_rfl
theorem c15 : cFun Try.prog 0 quiet Try.f15 = some i15 := by kernel_rfl
theorem g15 : Try.prog.funcs[15]? = some Try.f15 := by kernel_rfl
theorem c16 : cFun Try.prog 0 quiet Try.f16 = some i16 := by kernel_rfl
theorem g16 : Try.prog.funcs[16]? = some Try.f16 := by kernel_rfl
theorem c17 : cFun Try.prog 0 quiet Try.f17 = some i17 := by kernel_rfl
theorem g17 : Try.prog.funcs[17]? = some Try.f17 := by kernel_rfl
theorem c18 : cFun Try.prog 0 quiet Try.f18 = some i18 := by kernel_rfl
theorem g18 : Try.prog.funcs[18]? = some Try.f18 := by kernel_rfl
theorem c19 : cFun Try.prog 0 quiet Try.f19 = some i19 := by kernel_rfl
theorem g19 : Try.prog.funcs[19]? = some Try.f19 := by kernel_rfl
theorem c20 : cFun Try.prog 0 quiet Try.f20 = some i20 := by kernel_rfl
theorem g20 : Try.prog.funcs[20]? = some Try.f20 := by kernel_rfl
theorem c21 : cFun Try.prog 0 quiet Try.f21 = some i21 := by kernel_rfl
theorem g21 : Try.prog.funcs[21]? = some Try.f21 := by kernel_rfl
theorem c22 : cFun Try.prog 0 quiet Try.f22 = some i22 := by kernel_rfl
theorem g22 : Try.prog.funcs[22]? = some Try.f22 := by kernel_rfl
theorem c23 : cFun Try.prog 0 quiet Try.f23 = some i23 := by kernel_rfl
theorem g23 : Try.prog.funcs[23]? = some Try.f23 := by kernel_rfl
theorem c24 : cFun Try.prog 0 quiet Try.f24 = some i24 := by kernel_rfl
theorem g24 : Try.prog.funcs[24]? = some Try.f24 := by kernel_rfl
theorem c25 : cFun Try.prog 0 quiet Try.f25 = some i25 := by kernel_rfl
theorem g25 : Try.prog.funcs[25]? = some Try.f25 := by kernel_rfl
theorem c26 : cFun Try.prog 0 quiet Try.f26 = some i26 := by kernel_rfl
theorem g26 : Try.prog.funcs[26]? = some Try.f26 := by kernel_rfl
theorem c27 : cFun Try.prog 0 quiet Try.f27 = some i27 := by kernel_rfl
theorem g27 : Try.prog.funcs[27]? = some Try.f27 := by kernel_rfl
theorem c28 : cFun Try.prog 0 quiet Try.f28 = some i28 := by kernel_rfl
theorem g28 : Try.prog.funcs[28]? = some Try.f28 := by kernel_rfl
theorem c29 : cFun Try.prog 0 quiet Try.f29 = some i29 := by kernel_rfl
theorem g29 : Try.prog.funcs[29]? = some Try.f29 := by kernel_rfl
theorem c30 : cFun Try.prog 0 quiet Try.f30 = some i30 := by kernel_rfl
theorem g30 : Try.prog.funcs[30]? = some Try.f30 := by kernel_rfl
theorem c31 : cFun Try.prog 0 quiet Try.f31 = some i31 := by kernel_rfl
theorem g31 : Try.prog.funcs[31]? = some Try.f31 := by kernel_rfl
theorem c32 : cFun Try.prog 0 quiet Try.f32 = some i32 := by kernel_rfl
theorem g32 : Try.prog.funcs[32]? = some Try.f32 := by kernel_rfl
theorem c33 : cFun Try.prog 0 quiet Try.f33 = some i33 := by kernel_rfl
theorem g33 : Try.prog.funcs[33]? = some Try.f33 := by kernel_rfl
theorem c34 : cFun Try.prog 0 quiet Try.f34 = some i34 := by kernel_rfl
theorem g34 : Try.prog.funcs[34]? = some Try.f34 := by kernel_rfl
theorem c35 : cFun Try.prog 0 quiet Try.f35 = some i35 := by kernel_rfl
theorem g35 : Try.prog.funcs[35]? = some Try.f35 := by kernel_rfl
theorem c36 : cFun Try.prog 0 quiet Try.f36 = some i36 := by kernel_rfl
theorem g36 : Try.prog.funcs[36]? = some Try.f36 := by kernel_rfl
theorem c37 : cFun Try.prog 0 quiet Try.f37 = some i37 := by kernel_rfl
theorem g37 : Try.prog.funcs[37]? = some Try.f37 := by kernel_rfl
theorem c38 : cFun Try.prog 0 quiet Try.f38 = some i38 := by kernel_rfl
theorem g38 : Try.prog.funcs[38]? = some Try.f38 := by kernel_rfl
theorem c39 : cFun Try.prog 0 quiet Try.f39 = some i39 := by kernel_rfl
theorem g39 : Try.prog.funcs[39]? = some Try.f39 := by kernel_rfl
theorem c40 : cFun Try.prog 0 quiet Try.f40 = some i40 := by kernel_rfl
theorem g40 : Try.prog.funcs[40]? = some Try.f40 := by kernel_rfl
theorem c41 : cFun Try.prog 0 quiet Try.f41 = some i41 := by kernel_rfl
theorem g41 : Try.prog.funcs[41]? = some Try.f41 := by kernel_rfl
theorem c42 : cFun Try.prog 0 quiet Try.f42 = some i42 := by kernel_rfl
theorem g42 : Try.prog.funcs[42]? = some Try.f42 := by kernel_rfl
theorem c43 : cFun Try.prog 0 quiet Try.f43 = some i43 := by kernel_rfl
theorem g43 : Try.prog.funcs[43]? = some Try.f43 := by kernel_rfl
theorem c44 : cFun Try.prog 0 quiet Try.f44 = some i44 := by kernel_rfl
theorem g44 : Try.prog.funcs[44]? = some Try.f44 := by kernel_rfl
theorem c45 : cFun Try.prog 0 quiet Try.f45 = some i45 := by kernel_rfl
theorem g45 : Try.prog.funcs[45]? = some Try.f45 := by kernel_rfl
theorem c46 : cFun Try.prog 0 quiet Try.f46 = some i46 := by kernel_rfl
theorem g46 : Try.prog.funcs[46]? = some Try.f46 := by kernel_rfl
theorem c47 : cFun Try.prog 0 quiet Try.f47 = some i47 := by kernel_rfl
theorem g47 : Try.prog.funcs[47]? = some Try.f47 := by kernel_rfl
theorem c48 : cFun Try.prog 0 quiet Try.f48 = some i48 := by kernel_rfl
theorem g48 : Try.prog.funcs[48]? = some Try.f48 := by kernel_rfl
theorem c49 : cFun Try.prog 0 quiet Try.f49 = some i49 := by kernel_rfl
theorem g49 : Try.prog.funcs[49]? = some Try.f49 := by kernel_rfl
theorem c50 : cFun Try.prog 0 quiet Try.f50 = some i50 := by kernel_rfl
theorem g50 : Try.prog.funcs[50]? = some Try.f50 := by kernel_rfl
theorem c51 : cFun Try.prog 0 quiet Try.f51 = some i51 := by kernel_rfl
theorem g51 : Try.prog.funcs[51]? = some Try.f51 := by kernel_rfl
theorem c52 : cFun Try.prog 0 quiet Try.f52 = some i52 := by kernel_rfl
theorem g52 : Try.prog.funcs[52]? = some Try.f52 := by kernel_rfl
theorem c53 : cFun Try.prog 0 quiet Try.f53 = some i53 := by kernel_rfl
theorem g53 : Try.prog.funcs[53]? = some Try.f53 := by kernel_rfl
theorem c54 : cFun Try.prog 0 quiet Try.f54 = some i54 := by kernel_rfl
theorem g54 : Try.prog.funcs[54]? = some Try.f54 := by kernel_rfl
theorem c55 : cFun Try.prog 0 quiet Try.f55 = some i55 := by kernel_rfl
theorem g55 : Try.prog.funcs[55]? = some Try.f55 := by kernel_rfl
theorem c56 : cFun Try.prog 0 quiet Try.f56 = some i56 := by kernel_rfl
theorem g56 : Try.prog.funcs[56]? = some Try.f56 := by kernel_rfl
theorem c57 : cFun Try.prog 0 quiet Try.f57 = some i57 := by kernel_rfl
theorem g57 : Try.prog.funcs[57]? = some Try.f57 := by kernel_rfl
theorem c58 : cFun Try.prog 0 quiet Try.f58 = some i58 := by kernel_rfl
theorem g58 : Try.prog.funcs[58]? = some Try.f58 := by kernel_rfl
theorem c59 : cFun Try.prog 0 quiet Try.f59 = some i59 := by kernel_rfl
theorem g59 : Try.prog.funcs[59]? = some Try.f59 := by kernel_rfl
theorem c60 : cFun Try.prog 0 quiet Try.f60 = some i60 := by kernel_rfl
theorem g60 : Try.prog.funcs[60]? = some Try.f60 := by kernel_rfl
theorem c61 : cFun Try.prog 0 quiet Try.f61 = some i61 := by kernel_rfl
theorem g61 : Try.prog.funcs[61]? = some Try.f61 := by kernel_rfl
theorem c62 : cFun Try.prog 0 quiet Try.f62 = some i62 := by kernel_rfl
theorem g62 : Try.prog.funcs[62]? = some Try.f62 := by kernel_rfl
theorem c63 : cFun Try.prog 0 quiet Try.f63 = some i63 := by kernel_rfl
theorem g63 : Try.prog.funcs[63]? = some Try.f63 := by kernel_rfl
theorem c64 : cFun Try.prog 0 quiet Try.f64 = some i64 := by kernel_rfl
theorem g64 : Try.prog.funcs[64]? = some Try.f64 := by kernel_rfl
theorem c65 : cFun Try.prog 0 quiet Try.f65 = some i65 := by kernel_rfl
theorem g65 : Try.prog.funcs[65]? = some Try.f65 := by kernel_rfl
theorem c66 : cFun Try.prog 0 quiet Try.f66 = some i66 := by kernel_rfl
theorem g66 : Try.prog.funcs[66]? = some Try.f66 := by kernel_rfl
theorem c67 : cFun Try.prog 0 quiet Try.f67 = some i67 := by kernel_rfl
theorem g67 : Try.prog.funcs[67]? = some Try.f67 := by kernel_rfl
theorem c68 : cFun Try.prog 0 quiet Try.f68 = some i68 := by kernel_rfl
theorem g68 : Try.prog.funcs[68]? = some Try.f68 := by kernel_rfl
theorem c69 : cFun Try.prog 0 quiet Try.f69 = some i69 := by kernel_rfl
theorem g69 : Try.prog.funcs[69]? = some Try.f69 := by kernel_rfl
theorem c70 : cFun Try.prog 0 quiet Try.f70 = some i70 := by kernel_rfl
theorem g70 : Try.prog.funcs[70]? = some Try.f70 := by kernel_rfl
theorem c71 : cFun Try.prog 0 quiet Try.f71 = some i71 := by kernel_rfl
theorem g71 : Try.prog.funcs[71]? = some Try.f71 := by kernel_rfl
theorem c72 : cFun Try.prog 0 quiet Try.f72 = some i72 := by kernel_rfl
theorem g72 : Try.prog.funcs[72]? = some Try.f72 := by kernel_rfl
theorem c73 : cFun Try.prog 0 quiet Try.f73 = some i73 := by kernel_rfl
theorem g73 : Try.prog.funcs[73]? = some Try.f73 := by kernel_rfl
theorem c74 : cFun Try.prog 0 quiet Try.f74 = some i74 := by kernel_rfl
theorem g74 : Try.prog.funcs[74]? = some Try.f74 := by kernel_rfl
theorem c75 : cFun Try.prog 0 quiet Try.f75 = some i75 := by kernel_rfl
theorem g75 : Try.prog.funcs[75]? = some Try.f75 := by kernel_rfl
theorem c76 : cFun Try.prog 0 quiet Try.f76 = some i76 := by kernel_rfl
theorem g76 : Try.prog.funcs[76]? = some Try.f76 := by kernel_rfl
theorem c77 : cFun Try.prog 0 quiet Try.f77 = some i77 := by kernel_rfl
theorem g77 : Try.prog.funcs[77]? = some Try.f77 := by kernel_rfl
theorem c78 : cFun Try.prog 0 quiet Try.f78 = some i78 := by kernel_rfl
theorem g78 : Try.prog.funcs[78]? = some Try.f78 := by kernel_rfl
theorem c79 : cFun Try.prog 0 quiet Try.f79 = some i79 := by kernel_rfl
theorem g79 : Try.prog.funcs[79]? = some Try.f79 := by kernel_rfl
theorem c80 : cFun Try.prog 0 quiet Try.f80 = some i80 := by kernel_rfl
theorem g80 : Try.prog.funcs[80]? = some Try.f80 := by kernel_rfl
theorem c81 : cFun Try.prog 0 quiet Try.f81 = some i81 := by kernel_rfl
theorem g81 : Try.prog.funcs[81]? = some Try.f81 := by kernel_rfl
theorem c82 : cFun Try.prog 0 quiet Try.f82 = some i82 := by kernel_rfl
theorem g82 : Try.prog.funcs[82]? = some Try.f82 := by kernel_rfl
theorem c83 : cFun Try.prog 0 quiet Try.f83 = some i83 := by kernel_rfl
theorem g83 : Try.prog.funcs[83]? = some Try.f83 := by kernel_rfl
theorem c84 : cFun Try.prog 0 quiet Try.f84 = some i84 := by kernel_rfl
theorem g84 : Try.prog.funcs[84]? = some Try.f84 := by kernel_rfl

def table : Tree := (.node 44 i44 (.node 24 i24 (.node 14 i14 (.node 9 i9 (.node 6 i6 (.node 4 i4 (.node 3 i3 .leaf .leaf) .leaf) (.node 8 i8 (.node 7 i7 .leaf .leaf) .leaf)) (.node 12 i12 (.node 11 i11 (.node 10 i10 .leaf .leaf) .leaf) (.node 13 i13 .leaf .leaf))) (.node 19 i19 (.node 17 i17 (.node 16 i16 (.node 15 i15 .leaf .leaf) .leaf) (.node 18 i18 .leaf .leaf)) (.node 22 i22 (.node 21 i21 (.node 20 i20 .leaf .leaf) .leaf) (.node 23 i23 .leaf .leaf)))) (.node 34 i34 (.node 29 i29 (.node 27 i27 (.node 26 i26 (.node 25 i25 .leaf .leaf) .leaf) (.node 28 i28 .leaf .leaf)) (.node 32 i32 (.node 31 i31 (.node 30 i30 .leaf .leaf) .leaf) (.node 33 i33 .leaf .leaf))) (.node 39 i39 (.node 37 i37 (.node 36 i36 (.node 35 i35 .leaf .leaf) .leaf) (.node 38 i38 .leaf .leaf)) (.node 42 i42 (.node 41 i41 (.node 40 i40 .leaf .leaf) .leaf) (.node 43 i43 .leaf .leaf))))) (.node 65 i65 (.node 55 i55 (.node 50 i50 (.node 47 i47 (.node 46 i46 (.node 45 i45 .leaf .leaf) .leaf) (.node 49 i49 (.node 48 i48 .leaf .leaf) .leaf)) (.node 53 i53 (.node 52 i52 (.node 51 i51 .leaf .leaf) .leaf) (.node 54 i54 .leaf .leaf))) (.node 60 i60 (.node 58 i58 (.node 57 i57 (.node 56 i56 .leaf .leaf) .leaf) (.node 59 i59 .leaf .leaf)) (.node 63 i63 (.node 62 i62 (.node 61 i61 .leaf .leaf) .leaf) (.node 64 i64 .leaf .leaf)))) (.node 75 i75 (.node 70 i70 (.node 68 i68 (.node 67 i67 (.node 66 i66 .leaf .leaf) .leaf) (.node 69 i69 .leaf .leaf)) (.node 73 i73 (.node 72 i72 (.node 71 i71 .leaf .leaf) .leaf) (.node 74 i74 .leaf .leaf))) (.node 80 i80 (.node 78 i78 (.node 77 i77 (.node 76 i76 .leaf .leaf) .leaf) (.node 79 i79 .leaf .leaf)) (.node 83 i83 (.node 82 i82 (.node 81 i81 .leaf .leaf) .leaf) (.node 84 i84 .leaf .leaf))))))

theorem fits : table.All (Fits Try.prog 0 quiet) := ⟨⟨_, g44, c44⟩, ⟨⟨_, g24, c24⟩, ⟨⟨_, g14, c14⟩, ⟨⟨_, g9, c9⟩, ⟨⟨_, g6, c6⟩, ⟨⟨_, g4, c4⟩, ⟨⟨_, g3, c3⟩, trivial, trivial⟩, trivial⟩, ⟨⟨_, g8, c8⟩, ⟨⟨_, g7, c7⟩, trivial, trivial⟩, trivial⟩⟩, ⟨⟨_, g12, c12⟩, ⟨⟨_, g11, c11⟩, ⟨⟨_, g10, c10⟩, trivial, trivial⟩, trivial⟩, ⟨⟨_, g13, c13⟩, trivial, trivial⟩⟩⟩, ⟨⟨_, g19, c19⟩, ⟨⟨_, g17, c17⟩, ⟨⟨_, g16, c16⟩, ⟨⟨_, g15, c15⟩, trivial, trivial⟩, trivial⟩, ⟨⟨_, g18, c18⟩, trivial, trivial⟩⟩, ⟨⟨_, g22, c22⟩, ⟨⟨_, g21, c21⟩, ⟨⟨_, g20, c20⟩, trivial, trivial⟩, trivial⟩, ⟨⟨_, g23, c23⟩, trivial, trivial⟩⟩⟩⟩, ⟨⟨_, g34, c34⟩, ⟨⟨_, g29, c29⟩, ⟨⟨_, g27, c27⟩, ⟨⟨_, g26, c26⟩, ⟨⟨_, g25, c25⟩, trivial, trivial⟩, trivial⟩, ⟨⟨_, g28, c28⟩, trivial, trivial⟩⟩, ⟨⟨_, g32, c32⟩, ⟨⟨_, g31, c31⟩, ⟨⟨_, g30, c30⟩, trivial, trivial⟩, trivial⟩, ⟨⟨_, g33, c33⟩, trivial, trivial⟩⟩⟩, ⟨⟨_, g39, c39⟩, ⟨⟨_, g37, c37⟩, ⟨⟨_, g36, c36⟩, ⟨⟨_, g35, c35⟩, trivial, trivial⟩, trivial⟩, ⟨⟨_, g38, c38⟩, trivial, trivial⟩⟩, ⟨⟨_, g42, c42⟩, ⟨⟨_, g41, c41⟩, ⟨⟨_, g40, c40⟩, trivial, trivial⟩, trivial⟩, ⟨⟨_, g43, c43⟩, trivial, trivial⟩⟩⟩⟩⟩, ⟨⟨_, g65, c65⟩, ⟨⟨_, g55, c55⟩, ⟨⟨_, g50, c50⟩, ⟨⟨_, g47, c47⟩, ⟨⟨_, g46, c46⟩, ⟨⟨_, g45, c45⟩, trivial, trivial⟩, trivial⟩, ⟨⟨_, g49, c49⟩, ⟨⟨_, g48, c48⟩, trivial, trivial⟩, trivial⟩⟩, ⟨⟨_, g53, c53⟩, ⟨⟨_, g52, c52⟩, ⟨⟨_, g51, c51⟩, trivial, trivial⟩, trivial⟩, ⟨⟨_, g54, c54⟩, trivial, trivial⟩⟩⟩, ⟨⟨_, g60, c60⟩, ⟨⟨_, g58, c58⟩, ⟨⟨_, g57, c57⟩, ⟨⟨_, g56, c56⟩, trivial, trivial⟩, trivial⟩, ⟨⟨_, g59, c59⟩, trivial, trivial⟩⟩, ⟨⟨_, g63, c63⟩, ⟨⟨_, g62, c62⟩, ⟨⟨_, g61, c61⟩, trivial, trivial⟩, trivial⟩, ⟨⟨_, g64, c64⟩, trivial, trivial⟩⟩⟩⟩, ⟨⟨_, g75, c75⟩, ⟨⟨_, g70, c70⟩, ⟨⟨_, g68, c68⟩, ⟨⟨_, g67, c67⟩, ⟨⟨_, g66, c66⟩, trivial, trivial⟩, trivial⟩, ⟨⟨_, g69, c69⟩, trivial, trivial⟩⟩, ⟨⟨_, g73, c73⟩, ⟨⟨_, g72, c72⟩, ⟨⟨_, g71, c71⟩, trivial, trivial⟩, trivial⟩, ⟨⟨_, g74, c74⟩, trivial, trivial⟩⟩⟩, ⟨⟨_, g80, c80⟩, ⟨⟨_, g78, c78⟩, ⟨⟨_, g77, c77⟩, ⟨⟨_, g76, c76⟩, trivial, trivial⟩, trivial⟩, ⟨⟨_, g79, c79⟩, trivial, trivial⟩⟩, ⟨⟨_, g83, c83⟩, ⟨⟨_, g82, c82⟩, ⟨⟨_, g81, c81⟩, trivial, trivial⟩, trivial⟩, ⟨⟨_, g84, c84⟩, trivial, trivial⟩⟩⟩⟩⟩⟩

theorem mixed : Try.prog.follows .mixedOrders = true := by kernel_rfl

theorem allOk (n : Nat) : CallOK Try.prog 0 (fCalls table.look n) := fCalls_ok (stands_look fits) mixed n

theorem allOk' (n : Nat) : CallOK Try.prog 0 (calls table.find n) := calls_ok (stands_of fits) mixed n

end Go.Proofs.Ytepddcemoofmlaa.Fast
